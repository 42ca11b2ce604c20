/-
  A splice and the reference's, side by side: in plain Lean.
-/
import Derived.Test.YteafgjpbfhjbjaaGreatSpmE
set_option linter.unusedSimpArgs false
set_option linter.unusedVariables false
set_option maxRecDepth 100000
set_option maxHeartbeats 2000000
namespace Go.Proofs.YteafgjpbfhjbjaaGreat.Sp
open Go.Sim Go.Sim.Bt
def Pq (m : Mm) (r : Rm) : Prop := r.p = m.p ∧ (∀ q, m.last = some q → r.has = true ∧ r.last = q) ∧ (m.last = none → r.has = false)
def Code : Th → Int → Mm → Res → Prop
  | .no, _, _, _ => False
  | .fin R, k, _, res => k = 3 ∧ res = R
  | .wait, k, _, _ => k = 2
  | .next, k, _, _ => k = 4
  | .ex, k, m, res => k = 3 ∧ res = ⟨100, 0, m.p, m.r, false⟩
structure RelM (m : Mm) (r : Rm) : Prop where
  rr : r.r = m.r
  pd : r.pd = m.pd
  nr : r.at' = if m.at' = 1 then 1 else m.at' + 1
  pq : m.at' ≠ 9 → Pq m r
  w9 : m.at' = 9 → (r.th = 1 ∧ Pq m r) ∨ (r.th = 5 ∧ r.has = true ∧ r.last = m.p ∧ m.last = none)
  th : m.at' = 8 → Code m.th r.th m r.res
  res : m.at' = 10 → r.res = m.res
theorem inv_r {m : Mm} {r : Rm} (h : RelM m r) (hi : InvM m) : InvR r := by
  have h1 := h.nr
  have := hi.1
  have := hi.2.1
  unfold InvR
  split at h1 <;> omega
theorem rel_run {m : Mm} {r : Rm} {t : Th} (hr : r.r = m.r) (hpd : r.pd = m.pd) (hq : Pq m r) (hk : Code t r.th m r.res) : RelM (runC m t) (thenR r) := by
  cases t with
  | no => exact hk.elim
  | fin R =>
    obtain ⟨h1, h2⟩ := hk
    rw [show thenR r = { r with at' := 11 } by simp [thenR, h1]]
    exact ⟨hr, hpd, by simp [runC], fun _ => hq, by simp [runC], by simp [runC], fun _ => h2⟩
  | wait =>
    have h1 : r.th = 2 := hk
    rw [show thenR r = { r with at' := 10, th := 1 } by simp [thenR, h1]]
    exact ⟨hr, hpd, by simp [runC], by simp [runC], fun _ => .inl ⟨rfl, hq⟩, by simp [runC], by simp [runC]⟩
  | next =>
    have h1 : r.th = 4 := hk
    rw [show thenR r = { r with last := r.p, has := true, p := r.r, at' := 1 } by simp [thenR, h1]]
    refine ⟨hr, hpd, by simp [runC], fun _ => ⟨hr, fun q hq' => ⟨rfl, ?_⟩, fun e => by simp [runC] at e⟩, by simp [runC], by simp [runC], by simp [runC]⟩
    have : m.p = q := by simpa [runC] using hq'
    rw [← this]; exact hq.1
  | ex =>
    obtain ⟨h1, h2⟩ := hk
    rw [show thenR r = { r with at' := 11 } by simp [thenR, h1]]
    exact ⟨hr, hpd, by simp [runC], fun _ => hq, by simp [runC], by simp [runC], fun _ => h2⟩
theorem rel_free {m : Mm} {r : Rm} {t : Th} {k : Int} (hr : r.r = m.r) (hpd : r.pd = m.pd) (hq : Pq m r) (hk : Code t k m r.res) : RelM (freeC m t) (freeR r k) := by
  unfold freeC freeR
  by_cases hb : m.pd = true
  · rw [if_pos hb, if_pos (hpd.trans hb)]
    exact rel_run (r := { r with th := k }) hr hpd hq hk
  · rw [if_neg hb, if_neg (fun g => hb (hpd ▸ g))]
    exact ⟨hr, hpd, by simp, fun _ => hq, by simp, fun _ => by cases t <;> exact hk, by simp⟩
theorem rel_end {m : Mm} {r : Rm} {e : Int} (hr : r.r = m.r) (hpd : r.pd = m.pd) (hq : Pq m r) (h0 : e ≠ 0) (h1 : e ≠ 100) : RelM (freeC m (.fin (finR e))) (endR r e) :=
  rel_free (r := { r with res := resR r e }) hr hpd hq ⟨rfl, by simp [resR, h0, h1, finR]⟩
theorem rel_end0 {m : Mm} {r : Rm} (hr : r.r = m.r) (hpd : r.pd = m.pd) (hq : Pq m r) : RelM (freeC m (.fin ⟨0, 0, m.p, m.r, false⟩)) (endR r 0) :=
  rel_free (r := { r with res := resR r 0 }) hr hpd hq ⟨rfl, by simp [resR, hr, hq.1]⟩
theorem rel_ex {m : Mm} {r : Rm} (hr : r.r = m.r) (hpd : r.pd = m.pd) (hq : Pq m r) : RelM (freeC m .ex) (endR r 100) :=
  rel_free (r := { r with res := resR r 100 }) hr hpd hq ⟨rfl, by simp [resR, hr, hq.1]⟩
theorem rel_look {c : Cf} {m : Mm} {r : Rm} (hr : r.r = m.r) (hpd : r.pd = m.pd) (hq : Pq m r) : RelM (lookC c m) (lookR c r) := by
  unfold lookC lookR
  have c1 : lessR r.p r.r = lessR m.p m.r := by rw [hr, hq.1]
  have c2 : lessR r.r c.me = lessR m.r c.me := by rw [hr]
  have c3 : sameK r.r c.me = sameK m.r c.me := by rw [hr]
  by_cases k1 : lessR m.p m.r
  · have k1' : lessR r.p r.r := by rw [c1]; exact k1
    rw [if_neg (not_not_intro k1), if_neg (not_not_intro k1')]
    by_cases k2 : lessR m.r c.me
    · have k2' : lessR r.r c.me := by rw [c2]; exact k2
      rw [if_pos k2, if_pos k2']
      exact rel_free hr hpd hq rfl
    · have k2' : ¬ lessR r.r c.me := by rw [c2]; exact k2
      rw [if_neg k2, if_neg k2']
      by_cases k3 : sameK m.r c.me
      · have k3' : sameK r.r c.me := by rw [c3]; exact k3
        rw [if_neg (not_not_intro k3)]
        by_cases k4 : 0 < c.wl
        · rw [if_pos k4, if_pos ⟨k3', k4⟩]
          exact rel_free hr hpd hq rfl
        · rw [if_neg k4, if_neg (fun g => k4 g.2), if_pos k3']
          exact ⟨hr, hpd, by simp, fun _ => hq, by simp, by simp, by simp⟩
      · have k3' : ¬ sameK r.r c.me := by rw [c3]; exact k3
        rw [if_pos k3, if_neg (fun g => k3' g.1), if_neg k3']
        exact ⟨hr, hpd, by simp, fun _ => hq, by simp, by simp, by simp⟩
  · have k1' : ¬ lessR r.p r.r := by rw [c1]; exact k1
    rw [if_pos k1, if_pos k1']
    exact rel_end hr hpd hq (by omega) (by omega)
theorem rel_wake {m : Mm} {r : Rm} (hi : InvM m) (h : RelM m r) : RelM (wakeC m) (rwakeC r) := by
  by_cases h9 : m.at' = 9
  · have ha : r.at' = 10 := by have := h.nr; rw [if_neg (by omega)] at this; omega
    rw [show wakeC m = { m with at' := 1 } by simp [wakeC, h9], show rwakeC r = thenR r by simp [rwakeC, ha]]
    rcases h.w9 h9 with ⟨h1, h2⟩ | ⟨h1, h2, h3, h4⟩
    · rw [show thenR r = { r with at' := 1 } by simp [thenR, h1]]
      exact ⟨h.rr, h.pd, by simp, fun _ => h2, by simp, by simp, by simp⟩
    · rw [show thenR r = { r with p := r.last, has := false, at' := 1 } by simp [thenR, h1]]
      exact ⟨h.rr, h.pd, by simp, fun _ => ⟨h3, (fun q hq => by rw [show ({ m with at' := 1 } : Mm).last = m.last from rfl, h4] at hq; cases hq), fun _ => rfl⟩, by simp, by simp, by simp⟩
  · have ha : r.at' ≠ 10 := by have := h.nr; split at this <;> omega
    rw [show wakeC m = m by simp [wakeC, h9], show rwakeC r = r by simp [rwakeC, ha]]
    exact h
theorem rel_tell {c : Cf} {m : Mm} {r : Rm} (hi : InvM m) (h : RelM m r) (a : Ans) : RelM (tellC c m a) (tellR c r a) := by
  obtain ⟨i1, i2, i3, i4⟩ := hi
  have hp : m.at' = 1 ∨ m.at' = 2 ∨ m.at' = 3 ∨ m.at' = 4 ∨ m.at' = 5 ∨ m.at' = 6 ∨ m.at' = 7 ∨ m.at' = 8 ∨ m.at' = 9 ∨ m.at' = 10 := by omega
  have hnr := h.nr
  rcases hp with hp | hp | hp | hp | hp | hp | hp | hp | hp | hp
  · rw [hp] at hnr
    have hq := h.pq (by omega)
    have hra : r.at' = 1 := by simpa using hnr
    by_cases k1 : a.k = 1
    · rw [show tellC c m a = lookC c { m with r := a.r } by simp [tellC, hp, k1], show tellR c r a = lookR c { r with r := a.r } by simp [tellR, hra, k1]]
      exact rel_look rfl h.pd hq
    · by_cases k2 : a.k = 2 ∨ a.k = 3
      · have k2' : ¬ (a.k ≠ 2 ∧ a.k ≠ 3) := by omega
        cases hl : m.last with
        | none =>
          have hh := hq.2.2 hl
          rw [show tellC c m a = { m with at' := 10, res := finR 131 } by simp only [tellC, hp, if_true, k1, if_false, k2, hl], show tellR c r a = { r with res := finR 131, at' := 11 } by simp only [tellR, hra, if_true, k1, if_false, k2', hh, Bool.false_eq_true]]
          exact ⟨h.rr, h.pd, by simp, fun _ => hq, by simp, by simp, fun _ => rfl⟩
        | some q =>
          have hh := hq.2.1 q hl
          rw [show tellC c m a = { m with p := q, last := none, at' := 9 } by simp only [tellC, hp, if_true, k1, if_false, k2, hl], show tellR c r a = { r with at' := 10, th := 5 } by simp only [tellR, hra, if_true, k1, if_false, k2', hh.1]]
          exact ⟨h.rr, h.pd, by simp, by simp, fun _ => .inr ⟨rfl, hh.1, hh.2, rfl⟩, by simp, by simp⟩
      · have k2' : a.k ≠ 2 ∧ a.k ≠ 3 := by omega
        rw [show tellC c m a = { m with at' := 9 } by simp only [tellC, hp, if_true, k1, if_false, k2], show tellR c r a = { r with at' := 10, th := 1 } by simp only [tellR, hra, if_true, k1, if_false, if_pos k2']]
        exact ⟨h.rr, h.pd, by simp, by simp, fun _ => .inl ⟨rfl, hq⟩, by simp, by simp⟩
  · rw [hp] at hnr
    have hq := h.pq (by omega)
    have hra : r.at' = 3 := by simpa using hnr
    by_cases k1 : a.k = 1 ∧ a.f = false
    · rw [show tellC c m a = freeC m .ex by simp [tellC, hp, k1], show tellR c r a = endR r 100 by simp [tellR, hra, k1]]
      exact rel_ex h.rr h.pd hq
    · rw [show tellC c m a = freeC m .wait by simp only [tellC, hp, sy, reduceIte, Nat.reduceAdd, Nat.reduceLeDiff, Nat.reduceLT, Nat.reduceEqDiff, Int.reduceEq, Int.reduceLT, Int.reduceLE, Int.reduceNe, if_neg k1], show tellR c r a = freeR r 2 by simp only [tellR, hra, sy, reduceIte, Nat.reduceAdd, Nat.reduceLeDiff, Nat.reduceLT, Nat.reduceEqDiff, Int.reduceEq, Int.reduceLT, Int.reduceLE, Int.reduceNe, if_neg k1]]
      exact rel_free h.rr h.pd hq rfl
  · rw [hp] at hnr
    have hq := h.pq (by omega)
    have hra : r.at' = 4 := by simpa using hnr
    by_cases k1 : a.k = 1
    · rw [show tellC c m a = { m with at' := 4 } by simp [tellC, hp, k1], show tellR c r a = { r with at' := 5 } by simp [tellR, hra, k1]]
      exact ⟨h.rr, h.pd, by simp, fun _ => hq, by simp, by simp, by simp⟩
    · by_cases k3 : a.k = 3
      · rw [show tellC c m a = freeC m (.fin (finR 132)) by simp [tellC, hp, k3], show tellR c r a = endR r 132 by simp [tellR, hra, k3]]
        exact rel_end h.rr h.pd hq (by omega) (by omega)
      · rw [show tellC c m a = freeC m (.fin (finR 133)) by simp [tellC, hp, k1, k3], show tellR c r a = endR r 133 by simp [tellR, hra, k1, k3]]
        exact rel_end h.rr h.pd hq (by omega) (by omega)
  · rw [hp] at hnr
    have hq := h.pq (by omega)
    have hra : r.at' = 5 := by simpa using hnr
    by_cases k1 : a.k = 1 ∨ (a.k = 3 ∧ a.r.id = c.me.id)
    · rw [show tellC c m a = { m with at' := 5, pd := decide (a.k = 3) } by simp only [tellC, hp, sy, reduceIte, Nat.reduceAdd, Nat.reduceLeDiff, Nat.reduceLT, Nat.reduceEqDiff, Int.reduceEq, Int.reduceLT, Int.reduceLE, Int.reduceNe, if_pos k1], show tellR c r a = { r with pd := decide (a.k = 3), at' := 6 } by simp only [tellR, hra, sy, reduceIte, Nat.reduceAdd, Nat.reduceLeDiff, Nat.reduceLT, Nat.reduceEqDiff, Int.reduceEq, Int.reduceLT, Int.reduceLE, Int.reduceNe, if_pos k1]]
      exact ⟨h.rr, rfl, by simp, fun _ => hq, by simp, by simp, by simp⟩
    · rw [show tellC c m a = { m with at' := 7, pd := decide (a.k = 3) } by simp only [tellC, hp, sy, reduceIte, Nat.reduceAdd, Nat.reduceLeDiff, Nat.reduceLT, Nat.reduceEqDiff, Int.reduceEq, Int.reduceLT, Int.reduceLE, Int.reduceNe, if_neg k1], show tellR c r a = { r with pd := decide (a.k = 3), at' := 8 } by simp only [tellR, hra, sy, reduceIte, Nat.reduceAdd, Nat.reduceLeDiff, Nat.reduceLT, Nat.reduceEqDiff, Int.reduceEq, Int.reduceLT, Int.reduceLE, Int.reduceNe, if_neg k1]]
      exact ⟨h.rr, rfl, by simp, fun _ => hq, by simp, by simp, by simp⟩
  · rw [hp] at hnr
    have hq := h.pq (by omega)
    have hra : r.at' = 6 := by simpa using hnr
    rw [show tellC c m a = { m with at' := 6 } by simp [tellC, hp], show tellR c r a = { r with at' := 7 } by simp [tellR, hra]]
    exact ⟨h.rr, h.pd, by simp, fun _ => hq, by simp, by simp, by simp⟩
  · rw [hp] at hnr
    have hq := h.pq (by omega)
    have hra : r.at' = 7 := by simpa using hnr
    by_cases k3 : a.k = 3
    · rw [show tellC c m a = freeC { m with dd := true } (.fin (finR 132)) by simp [tellC, hp, k3], show tellR c r a = endR r 132 by simp [tellR, hra, k3]]
      exact rel_end (m := { m with dd := true }) h.rr h.pd hq (by omega) (by omega)
    · rw [show tellC c m a = freeC { m with dd := false } (.fin ⟨0, 0, m.p, m.r, false⟩) by simp [tellC, hp, k3], show tellR c r a = endR r 0 by simp [tellR, hra, k3]]
      exact rel_end0 (m := { m with dd := false }) h.rr h.pd hq
  · rw [hp] at hnr
    have hq := h.pq (by omega)
    have hra : r.at' = 8 := by simpa using hnr
    by_cases k3 : a.k = 3
    · rw [show tellC c m a = freeC m (.fin (finR 132)) by simp [tellC, hp, k3], show tellR c r a = endR r 132 by simp [tellR, hra, k3]]
      exact rel_end h.rr h.pd hq (by omega) (by omega)
    · rw [show tellC c m a = freeC m (.fin (finR 131)) by simp [tellC, hp, k3], show tellR c r a = endR r 131 by simp [tellR, hra, k3]]
      exact rel_end h.rr h.pd hq (by omega) (by omega)
  · rw [hp] at hnr
    have hq := h.pq (by omega)
    have hra : r.at' = 9 := by simpa using hnr
    rw [show tellC c m a = runC m m.th by simp [tellC, hp], show tellR c r a = thenR r by simp [tellR, hra]]
    exact rel_run h.rr h.pd hq (h.th hp)
  · rw [hp] at hnr
    have hra : r.at' = 10 := by simpa using hnr
    rw [show tellC c m a = m by simp [tellC, hp], show tellR c r a = r by simp [tellR, hra]]
    exact h
  · rw [hp] at hnr
    have hra : r.at' = 11 := by simpa using hnr
    rw [show tellC c m a = m by simp [tellC, hp], show tellR c r a = r by simp [tellR, hra]]
    exact h
theorem rel_next {c : Cf} {m : Mm} {r : Rm} (hi : InvM m) (h : RelM m r) : rnextC c r = nextC c m := by
  obtain ⟨i1, i2, i3, i4⟩ := hi
  have hp : m.at' = 1 ∨ m.at' = 2 ∨ m.at' = 3 ∨ m.at' = 4 ∨ m.at' = 5 ∨ m.at' = 6 ∨ m.at' = 7 ∨ m.at' = 8 ∨ m.at' = 9 ∨ m.at' = 10 := by omega
  have hnr := h.nr
  rcases hp with hp | hp | hp | hp | hp | hp | hp | hp | hp | hp <;> rw [hp] at hnr <;> simp at hnr
  all_goals first | (have hq := (h.pq (by omega)).1; have hr := h.rr; simp [rnextC, nextC, hp, hnr, hq, hr]; done) | (have he := h.res hp; simp [rnextC, nextC, hp, hnr, he]; done) | (simp [rnextC, nextC, hp, hnr]; done)
end Go.Proofs.YteafgjpbfhjbjaaGreat.Sp
