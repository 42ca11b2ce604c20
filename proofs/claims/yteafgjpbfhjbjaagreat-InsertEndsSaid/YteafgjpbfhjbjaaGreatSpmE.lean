/-
  The reference's splice: what each step makes of it; and that the two go side by side.
-/
import Derived.Test.YteafgjpbfhjbjaaGreatSpmD
set_option linter.unusedSimpArgs false
set_option linter.unusedVariables false
set_option maxRecDepth 100000
set_option maxHeartbeats 2000000
namespace Go.Proofs.YteafgjpbfhjbjaaGreat.Sp
open Go.Sim Go.Sim.Bt
attribute [local congr] bdc cndc itec gdc gdSc gdUc
structure Rm where
  at' : Int
  th : Int
  p : Rf
  last : Rf
  has : Bool
  r : Rf
  pd : Bool
  res : Res
abbrev rrow (c : Cf) (m : Rm) : List Value :=
  [.int .i64 c.wl, .int .u64 c.wb, .int .i64 c.me.id, .int .i64 c.me.rk, .int .u64 c.me.n, .int .i64 c.me.ln, .int .u64 c.me.bt, .int .i64 c.fr.id, .int .i64 c.fr.rk, .int .u64 c.fr.n, .int .i64 c.fr.ln, .int .u64 c.fr.bt, .int .i64 c.oa, .int .i64 c.oo, .int .i64 m.at', .int .i64 m.th, .int .i64 m.p.id, .int .i64 m.p.rk, .int .u64 m.p.n, .int .i64 m.p.ln, .int .u64 m.p.bt, .int .i64 m.last.id, .int .i64 m.last.rk, .int .u64 m.last.n, .int .i64 m.last.ln, .int .u64 m.last.bt, .bool m.has, .int .i64 m.r.id, .int .i64 m.r.rk, .int .u64 m.r.n, .int .i64 m.r.ln, .int .u64 m.r.bt, .bool m.pd,
   .int .i64 m.res.e, .int .u64 m.res.key, .slice none 0 0, .slice none 0 0, .int .i64 m.res.l.id, .int .i64 m.res.l.rk, .int .u64 m.res.l.n, .int .i64 m.res.l.ln, .int .u64 m.res.l.bt, .int .i64 m.res.r.id, .int .i64 m.res.r.rk, .int .u64 m.res.r.n, .int .i64 m.res.r.ln, .int .u64 m.res.r.bt, .bool m.res.found]
abbrev RRow (s : St) (b : Nat) (cs : List Value) : Prop := s.get b = some (.row 48 [cs] false)
open Classical in
theorem rnew_yes {s : St} {c : Cf} (hf : Fresh s) (hm : 0 ≤ c.me.bt) (hw : 0 ≤ c.wb) (h : okC c) : r13New.v (.agg ⟨c.cs⟩) s = some (T2 (P s.n) 0, s.new (.row 48 [rrow c ⟨1, 0, c.fr, zR, false, zR, false, zRes⟩] false)) := by
  obtain ⟨k1, k2, k3, k4, k5⟩ := h
  have rr1 := rright_i c.wl c.wb hw s
  have rb1 := rbegins_i c.me.ln c.me.bt c.wl c.wb hm hw s hf
  have rkc := isKey_r c.fr.rk c.fr.n s
  have rl1 := r9less_r c.fr.rk c.fr.n c.me.rk c.me.n s
  have row := isOwner_r c.oa c.oo s
  have k6 : okV c.wl c.wb := k2.2.1
  have k1' : (c.me.rk = 2) = True := eq_true k1
  rw [decide_eq_true k6] at rr1
  rw [decide_eq_true k2] at rb1
  rw [decide_eq_true k3] at rkc
  rw [decide_eq_true k4] at rl1
  rw [decide_eq_true k5] at row
  simp only [r13New.v, r13New.t, r13New.t.p1, sy, reduceIte, Nat.reduceAdd, Nat.reduceLeDiff, Nat.reduceLT, Nat.reduceEqDiff, Int.reduceEq, Int.reduceLT, Int.reduceLE, Int.reduceNe, ly, rr1, rb1, rkc, rl1, row, k1', alv_eq]
end Go.Proofs.YteafgjpbfhjbjaaGreat.Sp
