/-
  The reference's search: keep, begin again, go right, Tell, Dead, Next, New.
-/
import Derived.Test.YteafgjpbfhjbjaaGreatSekD
set_option linter.unusedSimpArgs false
set_option linter.unusedVariables false
set_option maxRecDepth 100000
set_option maxHeartbeats 2000000
namespace Go.Proofs.YteafgjpbfhjbjaaGreat
open Go.Sim Go.Sim.Bt
attribute [local congr] bdc cndc itec gdc gdSc gdUc
theorem rhead_r (h : Int) (s : St) : r12Head.r (.int .i64 h) s = some (.agg ⟨(headR h).cs⟩) := by
  simp only [r12Head.r, r12Head.t, sy, reduceIte, Nat.reduceAdd, Nat.reduceLeDiff, Nat.reduceLT, Nat.reduceEqDiff, Int.reduceEq, Int.reduceLT, Int.reduceLE, Int.reduceNe, ly, headR]
theorem same5 (r : Rf) : sameV (.agg ⟨[.int .i64 r.id, .int .i64 r.rk, .int .u64 r.n, .int .i64 r.ln, .int .u64 r.bt]⟩) (.agg ⟨[.int .i64 r.id, .int .i64 r.rk, .int .u64 r.n, .int .i64 r.ln, .int .u64 r.bt]⟩) = true := by simp [sameV, sameVs]
end Go.Proofs.YteafgjpbfhjbjaaGreat
