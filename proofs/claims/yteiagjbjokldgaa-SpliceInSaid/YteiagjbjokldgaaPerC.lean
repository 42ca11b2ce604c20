/-
  The document's peer in memory: what may be asked; locks.
-/
import Derived.Test.YteiagjbjokldgaaPerB
set_option linter.unusedSimpArgs false
set_option linter.unusedVariables false
set_option maxRecDepth 100000
set_option maxHeartbeats 2000000
namespace Go.Proofs.Yteiagjbjokldgaa
open Go.Sim Go.Sim.Bt
attribute [local congr] bdc cndc itec gdc gdSc gdUc

/-- An ask's cells. -/
abbrev AskP.cs (a : AskP) : List Value :=
  [.int .i64 a.k, .int .i64 a.wl, .int .u64 a.wb, .int .i64 a.r.id, .int .i64 a.r.rk, .int .u64 a.r.n, .int .i64 a.r.ln, .int .u64 a.r.bt, .int .i64 a.r2.id, .int .i64 a.r2.rk, .int .u64 a.r2.n, .int .i64 a.r2.ln, .int .u64 a.r2.bt, .int .i64 a.oa, .int .i64 a.oo]
def okRef (r : Rf) : Prop := okK r.rk r.n ∧ okV r.ln r.bt
open Classical in
theorem isRef_r {r : Rf} (h : okRef r) (s : St) : leapfrogref04x_isRef.r (.agg ⟨r.cs⟩) s = some (.bool true) := by
  have k1 := isKey_r r.rk r.n s
  have k2 := rright_i r.ln r.bt (okV_in h.2).2.2 s
  rw [decide_eq_true h.1] at k1
  rw [decide_eq_true h.2] at k2
  simp only [leapfrogref04x_isRef.r, leapfrogref04x_isRef.t, sy, reduceIte, Nat.reduceAdd, Nat.reduceLeDiff, Nat.reduceLT, Nat.reduceEqDiff, Int.reduceEq, Int.reduceLT, Int.reduceLE, Int.reduceNe, ly, k1, k2]
open Classical in
theorem vright_r {wl wb : Int} (h : okV wl wb) (s : St) : leapfrogref01x_Right.r (VI wl wb) s = some (.bool true) := by
  rw [rright_i wl wb (okV_in h).2.2 s, decide_eq_true h]
theorem ask1_r {wl wb : Int} (h : okV wl wb) (s : St) : leapfrogref04x_CheckAsk.r (.agg ⟨(⟨1, wl, wb, zR, zR, 0, 0⟩ : AskP).cs⟩) s = some (.int .i64 0) := by
  have r1 := vright_r h s
  simp only [leapfrogref04x_CheckAsk.r, leapfrogref04x_CheckAsk.t, leapfrogref04x_has.r, leapfrogref04x_has.t, leapfrogref04x_only.r, leapfrogref04x_only.t, leapfrogref04x_only.t.p1, sy, reduceIte, Nat.reduceAdd, Nat.reduceLeDiff, Nat.reduceLT, Nat.reduceEqDiff, Int.reduceEq, Int.reduceLT, Int.reduceLE, Int.reduceNe, ly, r1]
theorem ask3_r {k wl wb oa oo : Int} (hk : k = 3 ∨ k = 4 ∨ k = 8) (h : okV wl wb) (s : St) : leapfrogref04x_CheckAsk.r (.agg ⟨(⟨k, wl, wb, zR, zR, oa, oo⟩ : AskP).cs⟩) s = some (.int .i64 0) := by
  have r1 := vright_r h s
  rcases hk with rfl | rfl | rfl <;>
    simp only [leapfrogref04x_CheckAsk.r, leapfrogref04x_CheckAsk.t, leapfrogref04x_has.r, leapfrogref04x_has.t, leapfrogref04x_only.r, leapfrogref04x_only.t, leapfrogref04x_only.t.p1, sy, reduceIte, Nat.reduceAdd, Nat.reduceLeDiff, Nat.reduceLT, Nat.reduceEqDiff, Int.reduceEq, Int.reduceLT, Int.reduceLE, Int.reduceNe, ly, r1]
theorem ask5_r {wl wb oa oo : Int} {r : Rf} (h : okV wl wb) (hr : okRef r) (s : St) : leapfrogref04x_CheckAsk.r (.agg ⟨(⟨5, wl, wb, r, zR, oa, oo⟩ : AskP).cs⟩) s = some (.int .i64 0) := by
  have r1 := vright_r h s
  have r2 := isRef_r hr s
  simp only [leapfrogref04x_CheckAsk.r, leapfrogref04x_CheckAsk.t, leapfrogref04x_has.r, leapfrogref04x_has.t, leapfrogref04x_only.r, leapfrogref04x_only.t, leapfrogref04x_only.t.p1, sy, reduceIte, Nat.reduceAdd, Nat.reduceLeDiff, Nat.reduceLT, Nat.reduceEqDiff, Int.reduceEq, Int.reduceLT, Int.reduceLE, Int.reduceNe, ly, r1, r2]
theorem ask6_r {wl wb : Int} {r : Rf} (h : okV wl wb) (hr : okRef r) (s : St) : leapfrogref04x_CheckAsk.r (.agg ⟨(⟨6, wl, wb, r, zR, 0, 0⟩ : AskP).cs⟩) s = some (.int .i64 0) := by
  have r1 := vright_r h s
  have r2 := isRef_r hr s
  simp only [leapfrogref04x_CheckAsk.r, leapfrogref04x_CheckAsk.t, leapfrogref04x_has.r, leapfrogref04x_has.t, leapfrogref04x_only.r, leapfrogref04x_only.t, leapfrogref04x_only.t.p1, sy, reduceIte, Nat.reduceAdd, Nat.reduceLeDiff, Nat.reduceLT, Nat.reduceEqDiff, Int.reduceEq, Int.reduceLT, Int.reduceLE, Int.reduceNe, ly, r1, r2]
theorem ask7_r {wl wb oa oo : Int} {r q : Rf} (h : okV wl wb) (hr : okRef r) (hq : okRef q) (s : St) : leapfrogref04x_CheckAsk.r (.agg ⟨(⟨7, wl, wb, r, q, oa, oo⟩ : AskP).cs⟩) s = some (.int .i64 0) := by
  have r1 := vright_r h s
  have r2 := isRef_r hr s
  have r3 := isRef_r hq s
  simp only [leapfrogref04x_CheckAsk.r, leapfrogref04x_CheckAsk.t, leapfrogref04x_has.r, leapfrogref04x_has.t, leapfrogref04x_only.r, leapfrogref04x_only.t, leapfrogref04x_only.t.p1, sy, reduceIte, Nat.reduceAdd, Nat.reduceLeDiff, Nat.reduceLT, Nat.reduceEqDiff, Int.reduceEq, Int.reduceLT, Int.reduceLE, Int.reduceNe, ly, r1, r2, r3]
theorem ask9_r {k : Int} (hk : k = 9 ∨ k = 10) (s : St) : leapfrogref04x_CheckAsk.r (.agg ⟨(⟨k, 0, 0, zR, zR, 0, 0⟩ : AskP).cs⟩) s = some (.int .i64 0) := by
  rcases hk with rfl | rfl <;>
    simp only [leapfrogref04x_CheckAsk.r, leapfrogref04x_CheckAsk.t, leapfrogref04x_has.r, leapfrogref04x_has.t, leapfrogref04x_only.r, leapfrogref04x_only.t, leapfrogref04x_only.t.p1, sy, reduceIte, Nat.reduceAdd, Nat.reduceLeDiff, Nat.reduceLT, Nat.reduceEqDiff, Int.reduceEq, Int.reduceLT, Int.reduceLE, Int.reduceNe, ly]
/-- A boxed record. -/
abbrev BRow (s : St) (c : Nat) (r : Rc) : Prop := s.get c = some (.row 16 [r.cs] false)
def lockd (r : Rc) (oa oo : Int) : Rc := { r with held := true, ha := oa, ho := oo }
def freed (r : Rc) : Rc := { r with held := false, ha := 0, ho := 0 }
theorem lockask_r {s : St} {c : Nat} {r : Rc} (h : BRow s c r) {oa oo : Int} (ho : okO oa oo) (hr : r.held = false ∨ (r.ha = oa ∧ r.ho = oo)) :
    ∃ s', leapfrogref07x_Lock_Ask.v (.pointer (some ⟨c, 0, some 12⟩)) (.agg ⟨[.int .i64 oa, .int .i64 oo]⟩) s = some (.tuple ⟨[.bool true, .int .i64 0]⟩, s') ∧ BRow s' c (lockd r oa oo) ∧ But c s s' := by
  have o1 := isOwner_r oa oo s
  rw [decide_eq_true ho] at o1
  have lp : leapfrogref07x_Lock_place.r (.pointer (some ⟨c, 0, some 12⟩)) (.agg ⟨[.int .i64 oa, .int .i64 oo]⟩) s = some (.int .i64 (-1)) := by
    have : iter (leapfrogref07x_Lock_place.l2 std) BIG [.pointer (some ⟨c, 0, some 12⟩), .int .i64 0, .agg ⟨[.int .i64 oa, .int .i64 oo]⟩] s = some ((0, [], s) : Cut) := by
      rw [show BIG = 4611686018427387903 + 1 from rfl, iter_succ]
      have e : ¬ ((0 : Int) < ((0 : Nat) : Int)) := by omega
      simp only [leapfrogref07x_Lock_place.l2, sy, reduceIte, Nat.reduceAdd, Nat.reduceLeDiff, Nat.reduceLT, Nat.reduceEqDiff, Int.reduceEq, Int.reduceLT, Int.reduceLE, Int.reduceNe, ly, ldc_row h, e]
    simp only [leapfrogref07x_Lock_place.r, leapfrogref07x_Lock_place.t, sy, reduceIte, Nat.reduceAdd, Nat.reduceLeDiff, Nat.reduceLT, Nat.reduceEqDiff, Int.reduceEq, Int.reduceLT, Int.reduceLE, Int.reduceNe, ly, this]
  have m1 : ¬ ((0 : Int) ≤ -1) := by omega
  cases hh : r.held with
  | false =>
    have q : BRow (s.put c (.row 16 [(lockd r oa oo).cs] false)) c (lockd r oa oo) := get_put_same h
    refine ⟨_, ?_, q, .put⟩
    simp only [leapfrogref07x_Lock_Ask.v, leapfrogref07x_Lock_Ask.t, leapfrogref07x_Lock_Ask.t.p1, sy, reduceIte, Nat.reduceAdd, Nat.reduceLeDiff, Nat.reduceLT, Nat.reduceEqDiff, Int.reduceEq, Int.reduceLT, Int.reduceLE, Int.reduceNe, ly, o1, ldc_row h, hh, lp, m1, stv_row h, stv_put h, lockd]
  | true =>
    rcases hr with hr | ⟨e1, e2⟩
    · rw [hh] at hr; cases hr
    · have e : lockd r oa oo = r := by cases r; simp only at hh e1 e2; subst hh e1 e2; rfl
      rw [e]
      refine ⟨s, ?_, h, .refl _ _⟩
      simp only [leapfrogref07x_Lock_Ask.v, leapfrogref07x_Lock_Ask.t, sy, reduceIte, Nat.reduceAdd, Nat.reduceLeDiff, Nat.reduceLT, Nat.reduceEqDiff, Int.reduceEq, Int.reduceLT, Int.reduceLE, Int.reduceNe, ly, o1, ldc_row h, lda_row h, hh, e1, e2]
theorem lockfree_r {s : St} {c : Nat} {r : Rc} (h : BRow s c r) (ho : okO r.ha r.ho) (hr : r.held = true) :
    ∃ s', leapfrogref07x_Lock_Free.v (.pointer (some ⟨c, 0, some 12⟩)) (.agg ⟨[.int .i64 r.ha, .int .i64 r.ho]⟩) s = some (.tuple ⟨[.agg ⟨[.int .i64 0, .int .i64 0]⟩, .bool false, .int .i64 0]⟩, s') ∧ BRow s' c (freed r) ∧ But c s s' := by
  have o1 := isOwner_r r.ha r.ho s
  rw [decide_eq_true ho] at o1
  have z : ((0 : Nat) : Int) = 0 := rfl
  refine ⟨s.put c (.row 16 [(freed r).cs] false), ?_, get_put_same h, .put⟩
  simp only [leapfrogref07x_Lock_Free.v, leapfrogref07x_Lock_Free.t, leapfrogref07x_Lock_Free.t.p1, sy, reduceIte, Nat.reduceAdd, Nat.reduceLeDiff, Nat.reduceLT, Nat.reduceEqDiff, Int.reduceEq, Int.reduceLT, Int.reduceLE, Int.reduceNe, ly, o1, ldc_row h, lda_row h, hr, z, stv_row h, stv_put h, freed]
end Go.Proofs.Yteiagjbjokldgaa
