/-
  The machines of chapter 14: any phase, Wake, New; and that the two go side by side.
-/
import Derived.Test.YtdppefkjoeefnaaUnmD
set_option linter.unusedSimpArgs false
set_option linter.unusedVariables false
set_option maxRecDepth 100000
namespace Go.Proofs.Ytdppefkjoeefnaa.Un
open Go.Sim Go.Sim.Bt
attribute [local congr] bdc cndc itec gdc gdSc gdUc

/-- What holds of a machine at any time. -/
def InvM (m : Mm) : Prop := 1 ≤ m.at' ∧ m.at' ≤ 10 ∧ (m.at' ≠ 8 → m.at' ≠ 10 → m.e = 0) ∧ (m.at' = 8 → m.th = 9 ∨ m.th = 10) ∧ (m.at' = 8 → m.th = 9 → m.e = 0)
/-- The reference's beside the program's. -/
def RelM (m r : Mm) : Prop := r.at' = m.at' ∧ r.p = m.p ∧ r.e = m.e ∧ (m.at' = 8 → r.th = m.th) ∧ ((m.at' = 4 ∨ m.at' = 5) → r.q = m.q)

theorem tell_r {s : St} {b : Nat} {c : Cf} {m : Mm} (h : Row s b (urow c m)) (hi : InvM m) (a : Ans) : ∃ s', unsplice_Unsplice_Tell.v (P b) (.agg ⟨a.cs⟩) s = some (unit', s') ∧ Row s' b (urow c (tellC c m a)) ∧ But b s s' := by
  have hp : m.at' = 1 ∨ m.at' = 2 ∨ m.at' = 3 ∨ m.at' = 4 ∨ m.at' = 5 ∨ m.at' = 6 ∨ m.at' = 7 ∨ m.at' = 8 ∨ m.at' = 9 ∨ m.at' = 10 := by unfold InvM at hi; omega
  rcases hp with hp | hp | hp | hp | hp | hp | hp | hp | hp | hp
  · exact ⟨_, tell_1 h hp a, get_put_same h, .put⟩
  · exact ⟨_, tell_2 h hp a, get_put_same h, .put⟩
  · exact ⟨_, tell_3 h hp a, get_put_same h, .put⟩
  · exact ⟨_, tell_4 h hp a, get_put_same h, .put⟩
  · exact ⟨_, tell_5 h hp a, get_put_same h, .put⟩
  · exact ⟨_, tell_6 h hp a, get_put_same h, .put⟩
  · exact ⟨_, tell_7 h hp a, get_put_same h, .put⟩
  · exact ⟨_, tell_8 h hp a, get_put_same h, .put⟩
  · have e := is_r h (by omega)
    refine ⟨s, ?_, ?_, .refl b s⟩
    · simp only [unsplice_Unsplice_Tell.v, unsplice_Unsplice_Tell.t, unsplice_Unsplice_Tell.t.p1, unsplice_Unsplice_read.v, unsplice_Unsplice_read.t, unsplice_Unsplice_own.v, unsplice_Unsplice_own.t, unsplice_Unsplice_free.v, unsplice_Unsplice_free.t, unsplice_Unsplice_ends.v, unsplice_Unsplice_ends.t, e, sy, reduceIte, Nat.reduceAdd, Nat.reduceLeDiff, Nat.reduceLT, Nat.reduceEqDiff, Int.reduceEq, Int.reduceLT, Int.reduceLE, Int.reduceNe, ly, ldc_row h, hp]
    · rw [show tellC c m a = m by simp only [tellC, hp, sy, reduceIte, Nat.reduceAdd, Nat.reduceLeDiff, Nat.reduceLT, Nat.reduceEqDiff, Int.reduceEq, Int.reduceLT, Int.reduceLE, Int.reduceNe]]; exact h
  · have e := is_r h (by omega)
    refine ⟨s, ?_, ?_, .refl b s⟩
    · simp only [unsplice_Unsplice_Tell.v, unsplice_Unsplice_Tell.t, unsplice_Unsplice_Tell.t.p1, unsplice_Unsplice_read.v, unsplice_Unsplice_read.t, unsplice_Unsplice_own.v, unsplice_Unsplice_own.t, unsplice_Unsplice_free.v, unsplice_Unsplice_free.t, unsplice_Unsplice_ends.v, unsplice_Unsplice_ends.t, e, sy, reduceIte, Nat.reduceAdd, Nat.reduceLeDiff, Nat.reduceLT, Nat.reduceEqDiff, Int.reduceEq, Int.reduceLT, Int.reduceLE, Int.reduceNe, ly, ldc_row h, hp]
    · rw [show tellC c m a = m by simp only [tellC, hp, sy, reduceIte, Nat.reduceAdd, Nat.reduceLeDiff, Nat.reduceLT, Nat.reduceEqDiff, Int.reduceEq, Int.reduceLT, Int.reduceLE, Int.reduceNe]]; exact h
theorem rtell_r {s : St} {b : Nat} {c : Cf} {m : Mm} (h : Row s b (rrow c m)) (h1 : 1 ≤ m.at') (h2 : m.at' ≤ 10) (a : Ans) : ∃ s', leapfrogref14x_Unsplice_Tell.v (P b) (.agg ⟨a.cs⟩) s = some (unit', s') ∧ Row s' b (rrow c (tellR c m a)) ∧ But b s s' := by
  have hp : m.at' = 1 ∨ m.at' = 2 ∨ m.at' = 3 ∨ m.at' = 4 ∨ m.at' = 5 ∨ m.at' = 6 ∨ m.at' = 7 ∨ m.at' = 8 ∨ m.at' = 9 ∨ m.at' = 10 := by omega
  rcases hp with hp | hp | hp | hp | hp | hp | hp | hp | hp | hp
  · exact ⟨_, rtell_1 h hp a, get_put_same h, .put⟩
  · exact ⟨_, rtell_2 h hp a, get_put_same h, .put⟩
  · exact ⟨_, rtell_3 h hp a, get_put_same h, .put⟩
  · exact ⟨_, rtell_4 h hp a, get_put_same h, .put⟩
  · exact ⟨_, rtell_5 h hp a, get_put_same h, .put⟩
  · exact ⟨_, rtell_6 h hp a, get_put_same h, .put⟩
  · exact ⟨_, rtell_7 h hp a, get_put_same h, .put⟩
  · exact ⟨_, rtell_8 h hp a, get_put_same h, .put⟩
  · refine ⟨s, ?_, ?_, .refl b s⟩
    · simp only [leapfrogref14x_Unsplice_Tell.v, leapfrogref14x_Unsplice_Tell.t, leapfrogref14x_Unsplice_Tell.t.p1, leapfrogref14x_Unsplice_read.v, leapfrogref14x_Unsplice_read.t, leapfrogref14x_Unsplice_locked.v, leapfrogref14x_Unsplice_locked.t, leapfrogref14x_Unsplice_back.v, leapfrogref14x_Unsplice_back.t, sy, reduceIte, Nat.reduceAdd, Nat.reduceLeDiff, Nat.reduceLT, Nat.reduceEqDiff, Int.reduceEq, Int.reduceLT, Int.reduceLE, Int.reduceNe, ly, ldc_row h, hp]
    · rw [show tellR c m a = m by simp only [tellR, tellC, hp, sy, reduceIte, Nat.reduceAdd, Nat.reduceLeDiff, Nat.reduceLT, Nat.reduceEqDiff, Int.reduceEq, Int.reduceLT, Int.reduceLE, Int.reduceNe]]; exact h
  · refine ⟨s, ?_, ?_, .refl b s⟩
    · simp only [leapfrogref14x_Unsplice_Tell.v, leapfrogref14x_Unsplice_Tell.t, leapfrogref14x_Unsplice_Tell.t.p1, leapfrogref14x_Unsplice_read.v, leapfrogref14x_Unsplice_read.t, leapfrogref14x_Unsplice_locked.v, leapfrogref14x_Unsplice_locked.t, leapfrogref14x_Unsplice_back.v, leapfrogref14x_Unsplice_back.t, sy, reduceIte, Nat.reduceAdd, Nat.reduceLeDiff, Nat.reduceLT, Nat.reduceEqDiff, Int.reduceEq, Int.reduceLT, Int.reduceLE, Int.reduceNe, ly, ldc_row h, hp]
    · rw [show tellR c m a = m by simp only [tellR, tellC, hp, sy, reduceIte, Nat.reduceAdd, Nat.reduceLeDiff, Nat.reduceLT, Nat.reduceEqDiff, Int.reduceEq, Int.reduceLT, Int.reduceLE, Int.reduceNe]]; exact h
theorem wake_r {s : St} {b : Nat} {c : Cf} {m : Mm} (h : Row s b (urow c m)) (hi : InvM m) : ∃ s', unsplice_Unsplice_Wake.v (P b) s = some (unit', s') ∧ Row s' b (urow c (wakeC m)) ∧ But b s s' := by
  have e := is_r h (by unfold InvM at hi; omega)
  by_cases hp : m.at' = 9
  · exact ⟨Put s b (urow c (wakeC m)), by simp only [unsplice_Unsplice_Wake.v, unsplice_Unsplice_Wake.t, e, sy, reduceIte, Nat.reduceAdd, Nat.reduceLeDiff, Nat.reduceLT, Nat.reduceEqDiff, Int.reduceEq, Int.reduceLT, Int.reduceLE, Int.reduceNe, ly, ldc_row h, stv_row h, wakeC, hp], get_put_same h, .put⟩
  · refine ⟨s, by simp only [unsplice_Unsplice_Wake.v, unsplice_Unsplice_Wake.t, e, sy, reduceIte, Nat.reduceAdd, Nat.reduceLeDiff, Nat.reduceLT, Nat.reduceEqDiff, Int.reduceEq, Int.reduceLT, Int.reduceLE, Int.reduceNe, ly, ldc_row h, wakeC, hp], ?_, .refl b s⟩
    rw [show wakeC m = m by simp only [wakeC, if_neg hp]]; exact h
theorem rwake_r {s : St} {b : Nat} {c : Cf} {m : Mm} (h : Row s b (rrow c m)) : ∃ s', leapfrogref14x_Unsplice_Wake.v (P b) s = some (unit', s') ∧ Row s' b (rrow c (wakeC m)) ∧ But b s s' := by
  by_cases hp : m.at' = 9
  · exact ⟨Put s b (rrow c (wakeC m)), by simp only [leapfrogref14x_Unsplice_Wake.v, leapfrogref14x_Unsplice_Wake.t, sy, reduceIte, Nat.reduceAdd, Nat.reduceLeDiff, Nat.reduceLT, Nat.reduceEqDiff, Int.reduceEq, Int.reduceLT, Int.reduceLE, Int.reduceNe, ly, ldc_row h, stv_row h, wakeC, hp], get_put_same h, .put⟩
  · refine ⟨s, by simp only [leapfrogref14x_Unsplice_Wake.v, leapfrogref14x_Unsplice_Wake.t, sy, reduceIte, Nat.reduceAdd, Nat.reduceLeDiff, Nat.reduceLT, Nat.reduceEqDiff, Int.reduceEq, Int.reduceLT, Int.reduceLE, Int.reduceNe, ly, ldc_row h, wakeC, hp], ?_, .refl b s⟩
    rw [show wakeC m = m by simp only [wakeC, if_neg hp]]; exact h

/-! ### Plain law -/

theorem inv_tell {c : Cf} {m : Mm} (h : InvM m) (a : Ans) : InvM (tellC c m a) := by
  obtain ⟨h1, h2, h3, h4, h5⟩ := h
  unfold tellC frees InvM
  repeat' split
  all_goals (refine ⟨?_, ?_, ?_, ?_, ?_⟩ <;> simp_all <;> omega)
theorem inv_wake {m : Mm} (h : InvM m) : InvM (wakeC m) := by
  obtain ⟨h1, h2, h3, h4, h5⟩ := h
  unfold wakeC InvM
  split
  all_goals (refine ⟨?_, ?_, ?_, ?_, ?_⟩ <;> simp_all <;> omega)
theorem rel_wake {m r : Mm} (h : RelM m r) : RelM (wakeC m) (wakeC r) := by
  obtain ⟨h1, h2, h3, h4, h5⟩ := h
  unfold wakeC RelM
  rw [h1]
  split
  all_goals (refine ⟨?_, ?_, ?_, ?_, ?_⟩ <;> simp_all)
theorem rel_tell {c : Cf} {m r : Mm} (hi : InvM m) (h : RelM m r) (a : Ans) : RelM (tellC c m a) (tellR c r a) := by
  obtain ⟨i1, i2, i3, i4, i5⟩ := hi
  obtain ⟨h1, h2, h3, h4, h5⟩ := h
  have hp : m.at' = 1 ∨ m.at' = 2 ∨ m.at' = 3 ∨ m.at' = 4 ∨ m.at' = 5 ∨ m.at' = 6 ∨ m.at' = 7 ∨ m.at' = 8 ∨ m.at' = 9 ∨ m.at' = 10 := by omega
  rcases hp with hp | hp | hp | hp | hp | hp | hp | hp | hp | hp
  · simp only [tellC, tellR, h1, hp, sy, reduceIte, Nat.reduceAdd, Nat.reduceLeDiff, Nat.reduceLT, Nat.reduceEqDiff, Int.reduceEq, Int.reduceLT, Int.reduceLE, Int.reduceNe]
    by_cases k1 : a.k = 1
    · by_cases k2 : lessR a.l c.me
      · simp only [k1, k2, sy, reduceIte, Nat.reduceAdd, Nat.reduceLeDiff, Nat.reduceLT, Nat.reduceEqDiff, Int.reduceEq, Int.reduceLT, Int.reduceLE, Int.reduceNe, RelM]; simp_all
      · simp only [k1, k2, sy, reduceIte, Nat.reduceAdd, Nat.reduceLeDiff, Nat.reduceLT, Nat.reduceEqDiff, Int.reduceEq, Int.reduceLT, Int.reduceLE, Int.reduceNe, RelM]; simp_all
    · by_cases k2 : a.k = 2
      · simp only [k1, k2, sy, reduceIte, Nat.reduceAdd, Nat.reduceLeDiff, Nat.reduceLT, Nat.reduceEqDiff, Int.reduceEq, Int.reduceLT, Int.reduceLE, Int.reduceNe, RelM]; simp_all
      · by_cases k3 : a.k = 3
        · simp only [k1, k2, k3, sy, reduceIte, Nat.reduceAdd, Nat.reduceLeDiff, Nat.reduceLT, Nat.reduceEqDiff, Int.reduceEq, Int.reduceLT, Int.reduceLE, Int.reduceNe, RelM]; simp_all
        · simp only [k1, k2, k3, sy, reduceIte, Nat.reduceAdd, Nat.reduceLeDiff, Nat.reduceLT, Nat.reduceEqDiff, Int.reduceEq, Int.reduceLT, Int.reduceLE, Int.reduceNe, RelM]; simp_all
  · simp only [tellC, tellR, h1, hp, sy, reduceIte, Nat.reduceAdd, Nat.reduceLeDiff, Nat.reduceLT, Nat.reduceEqDiff, Int.reduceEq, Int.reduceLT, Int.reduceLE, Int.reduceNe, frees, RelM]
    repeat' split
    all_goals simp_all
  · simp only [tellC, tellR, h1, hp, sy, reduceIte, Nat.reduceAdd, Nat.reduceLeDiff, Nat.reduceLT, Nat.reduceEqDiff, Int.reduceEq, Int.reduceLT, Int.reduceLE, Int.reduceNe, frees, RelM]
    repeat' split
    all_goals simp_all
  · have hq := h5 (.inl hp)
    simp only [tellC, tellR, h1, hp, hq, sy, reduceIte, Nat.reduceAdd, Nat.reduceLeDiff, Nat.reduceLT, Nat.reduceEqDiff, Int.reduceEq, Int.reduceLT, Int.reduceLE, Int.reduceNe, frees, RelM]
    repeat' split
    all_goals simp_all
  · have hq := h5 (.inr hp)
    simp only [tellC, tellR, h1, hp, sy, reduceIte, Nat.reduceAdd, Nat.reduceLeDiff, Nat.reduceLT, Nat.reduceEqDiff, Int.reduceEq, Int.reduceLT, Int.reduceLE, Int.reduceNe, frees, RelM]
    simp_all
  · simp only [tellC, tellR, h1, hp, sy, reduceIte, Nat.reduceAdd, Nat.reduceLeDiff, Nat.reduceLT, Nat.reduceEqDiff, Int.reduceEq, Int.reduceLT, Int.reduceLE, Int.reduceNe, frees, RelM]
    repeat' split
    all_goals simp_all
  · simp only [tellC, tellR, h1, hp, sy, reduceIte, Nat.reduceAdd, Nat.reduceLeDiff, Nat.reduceLT, Nat.reduceEqDiff, Int.reduceEq, Int.reduceLT, Int.reduceLE, Int.reduceNe, frees, RelM]
    simp_all
  · have ht := h4 hp
    have := i4 hp
    simp only [tellC, tellR, h1, hp, ht, sy, reduceIte, Nat.reduceAdd, Nat.reduceLeDiff, Nat.reduceLT, Nat.reduceEqDiff, Int.reduceEq, Int.reduceLT, Int.reduceLE, Int.reduceNe, frees, RelM]
    simp_all
    omega
  · simp only [tellC, tellR, h1, hp, sy, reduceIte, Nat.reduceAdd, Nat.reduceLeDiff, Nat.reduceLT, Nat.reduceEqDiff, Int.reduceEq, Int.reduceLT, Int.reduceLE, Int.reduceNe, frees, RelM]
    simp_all
  · simp only [tellC, tellR, h1, hp, sy, reduceIte, Nat.reduceAdd, Nat.reduceLeDiff, Nat.reduceLT, Nat.reduceEqDiff, Int.reduceEq, Int.reduceLT, Int.reduceLE, Int.reduceNe, frees, RelM]
    simp_all
theorem rel_next {c : Cf} {m r : Mm} (hi : InvM m) (h : RelM m r) : nextC c r = nextC c m := by
  obtain ⟨i1, i2, i3, i4, i5⟩ := hi
  obtain ⟨h1, h2, h3, h4, h5⟩ := h
  have hp : m.at' = 1 ∨ m.at' = 2 ∨ m.at' = 3 ∨ m.at' = 4 ∨ m.at' = 5 ∨ m.at' = 6 ∨ m.at' = 7 ∨ m.at' = 8 ∨ m.at' = 9 ∨ m.at' = 10 := by omega
  rcases hp with hp | hp | hp | hp | hp | hp | hp | hp | hp | hp <;> simp only [nextC, h1, h2, h3, hp, sy, reduceIte, Nat.reduceAdd, Nat.reduceLeDiff, Nat.reduceLT, Nat.reduceEqDiff, Int.reduceEq, Int.reduceLT, Int.reduceLE, Int.reduceNe]
  · rw [h5 (.inl hp)]
  · rw [h5 (.inr hp)]

/-! ### New -/

def okC (c : Cf) : Prop := c.me.rk = 2 ∧ okV c.me.ln c.me.bt ∧ okV c.wl c.wb ∧ (c.wl ≤ c.me.ln ∧ (c.me.bt.toNat / 2 ^ (c.me.ln.toNat - c.wl.toNat) = c.wb.toNat)) ∧ okO c.oa c.oo
def m0 : Mm := ⟨1, 0, zR, zR, 0⟩
/-- What 'New' tells: both tell it alike. -/
theorem new_r {s : St} (hf : Fresh s) (c : Cf) (hm : 0 ≤ c.me.bt) (hw : 0 ≤ c.wb) :
    (unsplice_New.v (.agg ⟨c.cs⟩) s = some (T2 (.pointer none) 140, s) ∧ leapfrogref14x_New.v (.agg ⟨c.cs⟩) s = some (T2 (.pointer none) 140, s) ∧ ¬ okC c) ∨
    (unsplice_New.v (.agg ⟨c.cs⟩) s = some (T2 (P s.n) 0, s.new (.row 22 [urow c m0] false)) ∧ (∀ s2, Fresh s2 → leapfrogref14x_New.v (.agg ⟨c.cs⟩) s2 = some (T2 (P s2.n) 0, s2.new (.row 22 [rrow c m0] false))) ∧ okC c) := by
  by_cases k1 : c.me.rk = 2
  · by_cases k2 : okV c.me.ln c.me.bt
    · by_cases k3 : okV c.wl c.wb
      · obtain ⟨n, b, e1, e2, h1, h2⟩ := k2
        obtain ⟨m, d, e3, e4, h3, h4⟩ := k3
        have b1 := fun s => begins_r s h1 h2 h3 h4
        have b2 := fun s hs => rBegins_ok s hs h1 h2 h3 h4
        have r1 := fun s => right_ok s h1 h2
        have r2 := fun s => rright_ok s h1 h2
        by_cases k4 : m ≤ n ∧ b / 2 ^ (n - m) = d
        · by_cases k5 : okO c.oa c.oo
          · right
            refine ⟨?_, fun s2 hs => ?_, k1, ⟨n, b, e1, e2, h1, h2⟩, ⟨m, d, e3, e4, h3, h4⟩, ⟨by omega, by rw [e1, e2, e3, e4]; exact k4.2⟩, k5⟩
            · simp only [unsplice_New.v, unsplice_New.t, sy, reduceIte, Nat.reduceAdd, Nat.reduceLeDiff, Nat.reduceLT, Nat.reduceEqDiff, Int.reduceEq, Int.reduceLT, Int.reduceLE, Int.reduceNe, ly, k1, e1, e2, e3, e4, r1, b1, k4, check_r, k5, alv_eq, m0, urow]
            · have b2 := b2 s2 hs
              simp only [leapfrogref14x_New.v, leapfrogref14x_New.t, sy, reduceIte, Nat.reduceAdd, Nat.reduceLeDiff, Nat.reduceLT, Nat.reduceEqDiff, Int.reduceEq, Int.reduceLT, Int.reduceLE, Int.reduceNe, ly, k1, e1, e2, e3, e4, r2, b2, k4, isOwner_r, k5, alv_eq, m0, rrow]
          · left
            have b2 := b2 s hf
            refine ⟨?_, ?_, fun h => k5 h.2.2.2.2⟩
            · simp only [unsplice_New.v, unsplice_New.t, sy, reduceIte, Nat.reduceAdd, Nat.reduceLeDiff, Nat.reduceLT, Nat.reduceEqDiff, Int.reduceEq, Int.reduceLT, Int.reduceLE, Int.reduceNe, ly, k1, e1, e2, e3, e4, r1, b1, k4, check_r, k5]
            · simp only [leapfrogref14x_New.v, leapfrogref14x_New.t, sy, reduceIte, Nat.reduceAdd, Nat.reduceLeDiff, Nat.reduceLT, Nat.reduceEqDiff, Int.reduceEq, Int.reduceLT, Int.reduceLE, Int.reduceNe, ly, k1, e1, e2, e3, e4, r2, b2, k4, isOwner_r, k5]
        · left
          have b2 := b2 s hf
          refine ⟨?_, ?_, fun h => k4 ?_⟩
          · simp only [unsplice_New.v, unsplice_New.t, sy, reduceIte, Nat.reduceAdd, Nat.reduceLeDiff, Nat.reduceLT, Nat.reduceEqDiff, Int.reduceEq, Int.reduceLT, Int.reduceLE, Int.reduceNe, ly, k1, e1, e2, e3, e4, r1, b1, k4]
          · simp only [leapfrogref14x_New.v, leapfrogref14x_New.t, sy, reduceIte, Nat.reduceAdd, Nat.reduceLeDiff, Nat.reduceLT, Nat.reduceEqDiff, Int.reduceEq, Int.reduceLT, Int.reduceLE, Int.reduceNe, ly, k1, e1, e2, e3, e4, r2, b2, k4]
          · have := h.2.2.2.1
            rw [e1, e2, e3, e4] at this
            exact ⟨by omega, this.2⟩
      · left
        have b1 := begins_no (L := c.me.ln) s (fun h => k3 h.2) hm hw
        have b2 := rBegins_no (L := c.me.ln) s (fun h => k3 h.2) hm hw
        obtain ⟨n, b, e1, e2, h1, h2⟩ := k2
        have r1 := right_ok s h1 h2
        have r2 := rright_ok s h1 h2
        rw [e1, e2] at b1 b2
        refine ⟨?_, ?_, fun h => k3 h.2.2.1⟩
        · simp only [unsplice_New.v, unsplice_New.t, sy, reduceIte, Nat.reduceAdd, Nat.reduceLeDiff, Nat.reduceLT, Nat.reduceEqDiff, Int.reduceEq, Int.reduceLT, Int.reduceLE, Int.reduceNe, ly, k1, e1, e2, r1, b1]
        · simp only [leapfrogref14x_New.v, leapfrogref14x_New.t, sy, reduceIte, Nat.reduceAdd, Nat.reduceLeDiff, Nat.reduceLT, Nat.reduceEqDiff, Int.reduceEq, Int.reduceLT, Int.reduceLE, Int.reduceNe, ly, k1, e1, e2, r2, b2]
    · left
      have r1 := right_no s k2 hm
      have r2 := rright_no s k2 hm
      refine ⟨?_, ?_, fun h => k2 h.2.1⟩
      · simp only [unsplice_New.v, unsplice_New.t, sy, reduceIte, Nat.reduceAdd, Nat.reduceLeDiff, Nat.reduceLT, Nat.reduceEqDiff, Int.reduceEq, Int.reduceLT, Int.reduceLE, Int.reduceNe, ly, k1, r1]
      · simp only [leapfrogref14x_New.v, leapfrogref14x_New.t, sy, reduceIte, Nat.reduceAdd, Nat.reduceLeDiff, Nat.reduceLT, Nat.reduceEqDiff, Int.reduceEq, Int.reduceLT, Int.reduceLE, Int.reduceNe, ly, k1, r2]
  · left
    refine ⟨?_, ?_, fun h => k1 h.1⟩
    · simp only [unsplice_New.v, unsplice_New.t, sy, reduceIte, Nat.reduceAdd, Nat.reduceLeDiff, Nat.reduceLT, Nat.reduceEqDiff, Int.reduceEq, Int.reduceLT, Int.reduceLE, Int.reduceNe, ly, k1]
    · simp only [leapfrogref14x_New.v, leapfrogref14x_New.t, sy, reduceIte, Nat.reduceAdd, Nat.reduceLeDiff, Nat.reduceLT, Nat.reduceEqDiff, Int.reduceEq, Int.reduceLT, Int.reduceLE, Int.reduceNe, ly, k1]
end Go.Proofs.Ytdppefkjoeefnaa.Un
