/-
  Bit, Prefix, Rest, Flip: the program's and the reference's.
-/
import Derived.Test.YteafgjpbfhjbjaaGreatVecC
set_option linter.unusedSimpArgs false
set_option linter.unusedVariables false
set_option maxRecDepth 100000
namespace Go.Proofs.YteafgjpbfhjbjaaGreat
open Go.Sim Go.Sim.Bt
attribute [local congr] bdc cndc itec gdc gdSc gdUc
theorem i5 : ¬ ((5 : Int) = 0) := by omega
theorem upTo_ok {n b i : Nat} (s : St) (h1 : n ≤ 32) (h2 : b < 2 ^ n) (hi : i ≤ n) : vec_upTo.r (VV n b) (.int .i64 i) s = some (.int .i64 0) := by
  have h : ¬ ((i : Int) < 0) := by omega
  have h3 : ¬ ((n : Int) < i) := by omega
  simp only [vec_upTo.r, vec_upTo.t, sy, reduceIte, Nat.reduceAdd, Nat.reduceLeDiff, Nat.reduceLT, Nat.reduceEqDiff, Int.reduceEq, Int.reduceLT, Int.reduceLE, Int.reduceNe, ly, right_ok s h1 h2, h, h3]
abbrev T2 (v : Value) (e : Int) : Value := .tuple ⟨[v, .int .i64 e]⟩
theorem Prefix_ok {n b i : Nat} (s : St) (h1 : n ≤ 32) (h2 : b < 2 ^ n) (hi : i ≤ n) : vec_Prefix.r (VV n b) (.int .i64 i) s = some (T2 (VV i (b / 2 ^ (n - i))) 0) := by
  simp only [vec_Prefix.r, vec_Prefix.t, sy, reduceIte, Nat.reduceAdd, Nat.reduceLeDiff, Nat.reduceLT, Nat.reduceEqDiff, Int.reduceEq, Int.reduceLT, Int.reduceLE, Int.reduceNe, ly, upTo_ok s h1 h2 hi, prefix_r s h1 hi]
end Go.Proofs.YteafgjpbfhjbjaaGreat
