/-
  The reference's search: Dead, Next, New; what holds of a search at any time.
-/
import Derived.Test.YteafgjpbfhjbjaaGreatSekE
set_option linter.unusedSimpArgs false
set_option linter.unusedVariables false
set_option maxRecDepth 100000
set_option maxHeartbeats 2000000
namespace Go.Proofs.YteafgjpbfhjbjaaGreat
open Go.Sim Go.Sim.Bt
attribute [local congr] bdc cndc itec gdc gdSc gdUc
open Classical in
theorem rsright_r (st : Rf) (h : Int) (s : St) (hb : 0 ≤ st.bt) : r12Right.r (.agg ⟨st.cs⟩) (.int .i64 h) s = some (.bool (decide (okK st.rk st.n ∧ okV st.ln st.bt ∧ st.ln = h))) := by
  have kc := rcheck_r st.rk st.n s
  have r1 := rright_i st.ln st.bt hb s
  rcases Classical.propComplete (okK st.rk st.n) with k1 | k1
  · rcases Classical.propComplete (okV st.ln st.bt) with k2 | k2
    · rcases Classical.propComplete (st.ln = h) with k3 | k3
      · simp only [k1, k2, reduceIte] at kc r1
        simp only [r12Right.r, r12Right.t, sy, reduceIte, Nat.reduceAdd, Nat.reduceLeDiff, Nat.reduceLT, Nat.reduceEqDiff, Int.reduceEq, Int.reduceLT, Int.reduceLE, Int.reduceNe, ly, kc, r1, k1, k2, k3]
      · simp only [k1, k2, reduceIte] at kc r1
        simp only [r12Right.r, r12Right.t, sy, reduceIte, Nat.reduceAdd, Nat.reduceLeDiff, Nat.reduceLT, Nat.reduceEqDiff, Int.reduceEq, Int.reduceLT, Int.reduceLE, Int.reduceNe, ly, kc, r1, k1, k2, k3]
    · simp only [k1, k2, reduceIte] at kc r1
      simp only [r12Right.r, r12Right.t, sy, reduceIte, Nat.reduceAdd, Nat.reduceLeDiff, Nat.reduceLT, Nat.reduceEqDiff, Int.reduceEq, Int.reduceLT, Int.reduceLE, Int.reduceNe, ly, kc, r1, k1, k2]
  · simp only [k1, reduceIte] at kc
    simp only [r12Right.r, r12Right.t, sy, reduceIte, Nat.reduceAdd, Nat.reduceLeDiff, Nat.reduceLT, Nat.reduceEqDiff, Int.reduceEq, Int.reduceLT, Int.reduceLE, Int.reduceNe, ly, kc, k1]
open Classical in
theorem rnew_r (s : St) (c : Cf) (hb : 0 ≤ c.st.bt) :
    (¬ okC c ∧ r12New.v (.agg ⟨c.cs⟩) s = some (Bad, s)) ∨ (okC c ∧ r12New.v (.agg ⟨c.cs⟩) s = some (T2 (P s.n) 0, s.new (.row 39 [rrow c (m0 c) (.slice none 0 0)] false))) := by
  have sr := rsright_r c.st c.h s hb
  have kc := rcheck_r c.tr c.tn s
  by_cases k1 : c.h < 0
  · left
    refine ⟨fun g => by have := g.1; omega, ?_⟩
    simp only [r12New.v, r12New.t, r12New.t.p1, sy, reduceIte, Nat.reduceAdd, Nat.reduceLeDiff, Nat.reduceLT, Nat.reduceEqDiff, Int.reduceEq, Int.reduceLT, Int.reduceLE, Int.reduceNe, ly, k1]
  · by_cases k2 : 32 < c.h
    · left
      refine ⟨fun g => by have := g.2.1; omega, ?_⟩
      simp only [r12New.v, r12New.t, r12New.t.p1, sy, reduceIte, Nat.reduceAdd, Nat.reduceLeDiff, Nat.reduceLT, Nat.reduceEqDiff, Int.reduceEq, Int.reduceLT, Int.reduceLE, Int.reduceNe, ly, k1, k2]
    · rcases Classical.propComplete (okK c.st.rk c.st.n ∧ okV c.st.ln c.st.bt ∧ c.st.ln = c.h) with k3 | k3
      · simp only [k3, decide_true] at sr
        rcases Classical.propComplete (okK c.tr c.tn) with k4 | k4
        · simp only [k4, reduceIte] at kc
          rcases Classical.propComplete (c.tr = 1) with k5 | k5
          · left
            refine ⟨fun g => g.2.2.2.2.2.2 (of_eq_true k5), ?_⟩
            simp only [r12New.v, r12New.t, r12New.t.p1, sy, reduceIte, Nat.reduceAdd, Nat.reduceLeDiff, Nat.reduceLT, Nat.reduceEqDiff, Int.reduceEq, Int.reduceLT, Int.reduceLE, Int.reduceNe, ly, k1, k2, sr, kc, k5]
          · right
            have k3' := of_eq_true k3
            refine ⟨⟨by omega, by omega, k3'.1, k3'.2.1, k3'.2.2, of_eq_true k4, of_eq_false k5⟩, ?_⟩
            simp only [r12New.v, r12New.t, r12New.t.p1, sy, reduceIte, Nat.reduceAdd, Nat.reduceLeDiff, Nat.reduceLT, Nat.reduceEqDiff, Int.reduceEq, Int.reduceLT, Int.reduceLE, Int.reduceNe, ly, k1, k2, sr, kc, k5, alv_eq, m0]
        · left
          refine ⟨fun g => of_eq_false k4 g.2.2.2.2.2.1, ?_⟩
          simp only [k4, reduceIte] at kc
          simp only [r12New.v, r12New.t, r12New.t.p1, sy, reduceIte, Nat.reduceAdd, Nat.reduceLeDiff, Nat.reduceLT, Nat.reduceEqDiff, Int.reduceEq, Int.reduceLT, Int.reduceLE, Int.reduceNe, ly, k1, k2, sr, kc]
      · left
        refine ⟨fun g => of_eq_false k3 ⟨g.2.2.1, g.2.2.2.1, g.2.2.2.2.1⟩, ?_⟩
        simp only [k3, decide_false] at sr
        simp only [r12New.v, r12New.t, r12New.t.p1, sy, reduceIte, Nat.reduceAdd, Nat.reduceLeDiff, Nat.reduceLT, Nat.reduceEqDiff, Int.reduceEq, Int.reduceLT, Int.reduceLE, Int.reduceNe, ly, k1, k2, sr]
structure InvS (m : Mm) : Prop where
  n0 : 0 ≤ m.n
  okw : okV m.wl m.wb
  lki : m.ov = true → m.res.e = 0 → m.lk = false
theorem inv_busy {m : Mm} (h : InvS m) : InvS (busy m) := ⟨h.n0, h.okw, fun _ e => by simp [busy] at e⟩
theorem inv_again {c : Cf} {m : Mm} (hc : okC c) (h : InvS m) : InvS (againC c m) := by
  unfold againC
  split
  · exact inv_busy h
  · exact ⟨by show 0 ≤ m.n + 1; have := h.n0; omega, by show okV c.h 0; exact ⟨c.h.toNat, 0, by have := hc.1; omega, rfl, by have := hc.2.1; omega, Nat.two_pow_pos _⟩, fun _ _ => rfl⟩
theorem inv_goes {c : Cf} {m : Mm} (hc : okC c) (h : InvS m) (hk : m.lk = false) (ho : m.ov = false) (x : Option Rf) : InvS (goesF c m x) := by
  cases x with
  | none => exact inv_again hc h
  | some r =>
    simp only [goesF]
    split
    · exact ⟨h.n0, h.okw, fun e => by rw [show ({ m with lk := true, to := r } : Mm).ov = m.ov from rfl, ho] at e; cases e⟩
    · split
      · rename_i k2
        refine ⟨h.n0, ?_, fun _ _ => rfl⟩
        obtain ⟨n, d, e1, e2, g1, g2⟩ := h.okw
        refine ⟨n - 1, d / 2, by show m.wl - 1 = _; omega, by show ((m.wb.toNat / 2 : Nat) : Int) = _; rw [e2]; rfl, by omega, ?_⟩
        have : 2 ^ n = 2 ^ (n - 1) * 2 := by rw [← Nat.pow_succ]; congr 1; omega
        omega
      · exact ⟨h.n0, h.okw, fun _ _ => hk⟩
theorem inv_keep {m : Mm} (h : InvS m) (r x : Rf) : InvS (keepC m r x) := ⟨h.n0, h.okw, h.lki⟩
theorem inv_tellF {c : Cf} {m : Mm} (hc : okC c) (h : InvS m) (a : Ans) (x : Option Rf) : InvS (tellF c m a x) := by
  unfold tellF
  split
  · exact h
  · rename_i ho
    have ho : m.ov = false := by cases hb : m.ov; rfl; exact absurd hb ho
    split
    · rename_i hk
      split
      · split
        · exact inv_goes hc h hk ho x
        · split
          · exact ⟨h.n0, h.okw, h.lki⟩
          · exact inv_again hc h
      · split
        · exact inv_again hc (inv_keep h _ _)
        · exact inv_again hc h
    · split
      · exact inv_goes (m := { m with ap := m.to, lk := false }) hc ⟨h.n0, h.okw, fun _ _ => rfl⟩ rfl ho x
      · split
        · split
          · exact inv_busy (inv_keep h _ _)
          · exact ⟨by show 0 ≤ m.n + 1; have := h.n0; omega, h.okw, fun _ _ => rfl⟩
        · exact inv_again hc h
end Go.Proofs.YteafgjpbfhjbjaaGreat
