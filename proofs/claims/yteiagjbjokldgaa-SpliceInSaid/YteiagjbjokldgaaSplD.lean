/-
  The machine of package splice: Tell, Next, Wake, New.
-/
import Derived.Test.YteiagjbjokldgaaSplC
import Derived.Test.YteiagjbjokldgaaMachC
set_option linter.unusedSimpArgs false
set_option linter.unusedVariables false
set_option maxRecDepth 100000
set_option maxHeartbeats 2000000
namespace Go.Proofs.Yteiagjbjokldgaa
open Go.Sim Go.Sim.Bt
attribute [local congr] bdc cndc itec gdc gdSc gdUc

theorem more_box {s : St} {b : Nat} : More s (s.new (.row 1 [[P b]] false)) := .new
theorem locked_r {s : St} {b : Nat} {c : Cf} {m : Mm} {lp fv : Value} (hf : Fresh s) (h : Row s b (urow c m lp fv)) (hl : LastOk s lp m.last) (hp : m.at' = 1) (a : Ans) :
    ∃ s', splice_Splice_locked.v (P b) (.agg ⟨a.cs⟩) s = some (unit', s') ∧ At c (tellC c m a) s' b ∧ Stp b s s' := by
  by_cases k1 : a.k = 1
  · have k1' : (a.k = 1) = True := eq_true k1
    obtain ⟨s1, hs1⟩ : ∃ s1, s1 = Put s b (urow c { m with r := a.r } lp fv) := ⟨_, rfl⟩
    have e3 : stv s 5 (.pointer (some ⟨b, 0, some 21⟩)) (.agg ⟨a.r.cs⟩) = some s1 := by
      rw [hs1]; simp only [stv_row h, sy, reduceIte, Nat.reduceAdd, Nat.reduceLeDiff, Nat.reduceLT, Nat.reduceEqDiff, Int.reduceEq, Int.reduceLT, Int.reduceLE, Int.reduceNe, ly]
    have h1 : Row s1 b (urow c { m with r := a.r } lp fv) := by rw [hs1]; exact get_put_same h
    have st1 : Stp b s s1 := by rw [hs1]; exact .put
    obtain ⟨s', r1, r2, r3⟩ := look_r (m := { m with r := a.r }) (st1.2.2 hf) h1 (hl.stp h hf st1)
    refine ⟨s', ?_, by rw [show tellC c m a = lookC c { m with r := a.r } by simp only [tellC, hp, k1, if_true]]; exact r2, st1.trans r3⟩
    simp only [splice_Splice_locked.v, splice_Splice_locked.t, sy, reduceIte, Nat.reduceAdd, Nat.reduceLeDiff, Nat.reduceLT, Nat.reduceEqDiff, Int.reduceEq, Int.reduceLT, Int.reduceLE, Int.reduceNe, ly, k1', e3, r1, Nat.one_ne_zero]
  · by_cases k2 : a.k = 2 ∨ a.k = 3
    · cases hq : m.last with
      | none =>
        rw [hq] at hl
        have hl' : lp = .pointer none := hl
        subst hl'
        have e1 := end_r h (finR 131)
        have ht : tellC c m a = { m with at' := 10, res := finR 131 } := by simp only [tellC, hp, if_true, k1, if_false, k2, hq]
        refine ⟨Put s b (urow c { m with at' := 10, res := finR 131 } (.pointer none) fv), ?_, by rw [ht]; exact At.put (m := { m with at' := 10, res := finR 131 }) h hf (by show LastOk s _ m.last; rw [hq]; exact hl) (by simp), .put⟩
        simp only [finR] at e1
        rcases k2 with k2 | k2
        · simp only [splice_Splice_locked.v, splice_Splice_locked.t, sy, reduceIte, Nat.reduceAdd, Nat.reduceLeDiff, Nat.reduceLT, Nat.reduceEqDiff, Int.reduceEq, Int.reduceLT, Int.reduceLE, Int.reduceNe, ly, k2, ldc_row h, e1, Nat.one_ne_zero, Nat.reduceEqDiff, finR]
        · simp only [splice_Splice_locked.v, splice_Splice_locked.t, sy, reduceIte, Nat.reduceAdd, Nat.reduceLeDiff, Nat.reduceLT, Nat.reduceEqDiff, Int.reduceEq, Int.reduceLT, Int.reduceLE, Int.reduceNe, ly, k2, ldc_row h, e1, Nat.one_ne_zero, Nat.reduceEqDiff, finR]
      | some q =>
        rw [hq] at hl
        obtain ⟨d, ro, rfl, hd⟩ := hl
        have ht : tellC c m a = { m with p := q, last := none, at' := 9 } := by simp only [tellC, hp, if_true, k1, if_false, k2, hq]
        refine ⟨Put s b (urow c { m with p := q, last := none, at' := 9 } (.pointer none) fv), ?_, by rw [ht]; exact At.put (m := { m with p := q, last := none, at' := 9 }) h hf rfl (by simp), .put⟩
        rcases k2 with k2 | k2
        · simp only [splice_Splice_locked.v, splice_Splice_locked.t, sy, reduceIte, Nat.reduceAdd, Nat.reduceLeDiff, Nat.reduceLT, Nat.reduceEqDiff, Int.reduceEq, Int.reduceLT, Int.reduceLE, Int.reduceNe, ly, k2, ldc_row h, lda_row hd, stv_row h, stv_put h, Nat.one_ne_zero, Nat.reduceEqDiff]
        · simp only [splice_Splice_locked.v, splice_Splice_locked.t, sy, reduceIte, Nat.reduceAdd, Nat.reduceLeDiff, Nat.reduceLT, Nat.reduceEqDiff, Int.reduceEq, Int.reduceLT, Int.reduceLE, Int.reduceNe, ly, k2, ldc_row h, lda_row hd, stv_row h, stv_put h, Nat.one_ne_zero, Nat.reduceEqDiff]
    · have ht : tellC c m a = { m with at' := 9 } := by simp only [tellC, hp, if_true, k1, if_false, k2]
      refine ⟨Put s b (urow c { m with at' := 9 } lp fv), ?_, by rw [ht]; exact At.put (m := { m with at' := 9 }) h hf hl (by simp), .put⟩
      have k2a : ¬ a.k = 2 := fun e => k2 (.inl e)
      have k2b : ¬ a.k = 3 := fun e => k2 (.inr e)
      simp only [splice_Splice_locked.v, splice_Splice_locked.t, sy, reduceIte, Nat.reduceAdd, Nat.reduceLeDiff, Nat.reduceLT, Nat.reduceEqDiff, Int.reduceEq, Int.reduceLT, Int.reduceLE, Int.reduceNe, ly, k1, k2a, k2b, stv_row h, Nat.one_ne_zero]
theorem entered_r {s : St} {b : Nat} {c : Cf} {m : Mm} {lp fv : Value} (hf : Fresh s) (h : Row s b (urow c m lp fv)) (hl : LastOk s lp m.last) (hp : m.at' = 3) (a : Ans) :
    ∃ s', splice_Splice_entered.v (P b) (.agg ⟨a.cs⟩) s = some (unit', s') ∧ At c (tellC c m a) s' b ∧ Stp b s s' := by
  by_cases k1 : a.k = 1
  · have ht : tellC c m a = { m with at' := 4 } := by simp only [tellC, hp, k1, sy, reduceIte, Nat.reduceAdd, Nat.reduceLeDiff, Nat.reduceLT, Nat.reduceEqDiff, Int.reduceEq, Int.reduceLT, Int.reduceLE, Int.reduceNe]
    refine ⟨Put s b (urow c { m with at' := 4 } lp fv), ?_, by rw [ht]; exact At.put (m := { m with at' := 4 }) h hf hl (by simp), .put⟩
    simp only [splice_Splice_entered.v, splice_Splice_entered.t, sy, reduceIte, Nat.reduceAdd, Nat.reduceLeDiff, Nat.reduceLT, Nat.reduceEqDiff, Int.reduceEq, Int.reduceLT, Int.reduceLE, Int.reduceNe, ly, k1, stv_row h]
  · by_cases k3 : a.k = 3
    · obtain ⟨s', r1, r2, r3⟩ := fail_r hf h hl 132
      refine ⟨s', ?_, by rw [show tellC c m a = freeC m (.fin (finR 132)) by simp only [tellC, hp, k3, sy, reduceIte, Nat.reduceAdd, Nat.reduceLeDiff, Nat.reduceLT, Nat.reduceEqDiff, Int.reduceEq, Int.reduceLT, Int.reduceLE, Int.reduceNe]]; exact r2, r3⟩
      simp only [splice_Splice_entered.v, splice_Splice_entered.t, sy, reduceIte, Nat.reduceAdd, Nat.reduceLeDiff, Nat.reduceLT, Nat.reduceEqDiff, Int.reduceEq, Int.reduceLT, Int.reduceLE, Int.reduceNe, ly, k3, r1]
    · obtain ⟨s', r1, r2, r3⟩ := fail_r hf h hl 133
      refine ⟨s', ?_, by rw [show tellC c m a = freeC m (.fin (finR 133)) by simp only [tellC, hp, k1, k3, sy, reduceIte, Nat.reduceAdd, Nat.reduceLeDiff, Nat.reduceLT, Nat.reduceEqDiff, Int.reduceEq, Int.reduceLT, Int.reduceLE, Int.reduceNe]]; exact r2, r3⟩
      simp only [splice_Splice_entered.v, splice_Splice_entered.t, sy, reduceIte, Nat.reduceAdd, Nat.reduceLeDiff, Nat.reduceLT, Nat.reduceEqDiff, Int.reduceEq, Int.reduceLT, Int.reduceLE, Int.reduceNe, ly, k1, k3, r1]
theorem righted_r {s : St} {b : Nat} {c : Cf} {m : Mm} {lp fv : Value} (hf : Fresh s) (h : Row s b (urow c m lp fv)) (hl : LastOk s lp m.last) (hp : m.at' = 4) (a : Ans) :
    ∃ s', splice_Splice_righted.v (P b) (.agg ⟨a.cs⟩) s = some (unit', s') ∧ At c (tellC c m a) s' b ∧ Stp b s s' := by
  by_cases k1 : a.k = 1
  · have k1' : (a.k = 1) = True := eq_true k1
    have k3' : (a.k = 3) = False := eq_false (by omega)
    have ht : tellC c m a = { m with at' := 5, pd := false } := by simp only [tellC, hp, k1', k3', sy, reduceIte, Nat.reduceAdd, Nat.reduceLeDiff, Nat.reduceLT, Nat.reduceEqDiff, Int.reduceEq, Int.reduceLT, Int.reduceLE, Int.reduceNe]
    refine ⟨Put s b (urow c { m with at' := 5, pd := false } lp fv), ?_, by rw [ht]; exact At.put (m := { m with at' := 5, pd := false }) h hf hl (by simp), .put⟩
    simp only [splice_Splice_righted.v, splice_Splice_righted.t, sy, reduceIte, Nat.reduceAdd, Nat.reduceLeDiff, Nat.reduceLT, Nat.reduceEqDiff, Int.reduceEq, Int.reduceLT, Int.reduceLE, Int.reduceNe, ly, k1', k3', stv_row h, ldc_put h, stv_put h]
  · have k1' : (a.k = 1) = False := eq_false k1
    by_cases k3 : a.k = 3
    · have k3' : (a.k = 3) = True := eq_true k3
      by_cases k4 : a.r.id = c.me.id
      · have k4' : (a.r.id = c.me.id) = True := eq_true k4
        have ht : tellC c m a = { m with at' := 5, pd := true } := by simp only [tellC, hp, k1', k3', k4', sy, reduceIte, Nat.reduceAdd, Nat.reduceLeDiff, Nat.reduceLT, Nat.reduceEqDiff, Int.reduceEq, Int.reduceLT, Int.reduceLE, Int.reduceNe]
        refine ⟨Put s b (urow c { m with at' := 5, pd := true } lp fv), ?_, by rw [ht]; exact At.put (m := { m with at' := 5, pd := true }) h hf hl (by simp), .put⟩
        simp only [splice_Splice_righted.v, splice_Splice_righted.t, sy, reduceIte, Nat.reduceAdd, Nat.reduceLeDiff, Nat.reduceLT, Nat.reduceEqDiff, Int.reduceEq, Int.reduceLT, Int.reduceLE, Int.reduceNe, ly, k1', k3', k4', stv_row h, ldc_put h, stv_put h]
      · have ht : tellC c m a = { m with at' := 7, pd := true } := by simp only [tellC, hp, k1', k3', k4, sy, reduceIte, Nat.reduceAdd, Nat.reduceLeDiff, Nat.reduceLT, Nat.reduceEqDiff, Int.reduceEq, Int.reduceLT, Int.reduceLE, Int.reduceNe]
        refine ⟨Put s b (urow c { m with at' := 7, pd := true } lp fv), ?_, by rw [ht]; exact At.put (m := { m with at' := 7, pd := true }) h hf hl (by simp), .put⟩
        simp only [splice_Splice_righted.v, splice_Splice_righted.t, sy, reduceIte, Nat.reduceAdd, Nat.reduceLeDiff, Nat.reduceLT, Nat.reduceEqDiff, Int.reduceEq, Int.reduceLT, Int.reduceLE, Int.reduceNe, ly, k1', k3', k4, stv_row h, ldc_put h, stv_put h]
    · have k3' : (a.k = 3) = False := eq_false k3
      have ht : tellC c m a = { m with at' := 7, pd := false } := by simp only [tellC, hp, k1', k3', sy, reduceIte, Nat.reduceAdd, Nat.reduceLeDiff, Nat.reduceLT, Nat.reduceEqDiff, Int.reduceEq, Int.reduceLT, Int.reduceLE, Int.reduceNe]
      refine ⟨Put s b (urow c { m with at' := 7, pd := false } lp fv), ?_, by rw [ht]; exact At.put (m := { m with at' := 7, pd := false }) h hf hl (by simp), .put⟩
      simp only [splice_Splice_righted.v, splice_Splice_righted.t, sy, reduceIte, Nat.reduceAdd, Nat.reduceLeDiff, Nat.reduceLT, Nat.reduceEqDiff, Int.reduceEq, Int.reduceLT, Int.reduceLE, Int.reduceNe, ly, k1', k3', stv_row h, ldc_put h, stv_put h]

def D2 (s : St) (r : Res) : St := (s.new (.row 15 [zRes.cs] false)).put s.n (.row 15 [r.cs] false)
theorem D2_more (s : St) (r : Res) : More s (D2 s r) := More.new.put (Nat.le_refl _)
theorem D2_o (s : St) (r : Res) : (D2 s r).get s.n = some (.row 15 [r.cs] false) := get_put_same get_new_same
theorem D2_put (s : St) (r : Res) : stv (s.new (.row 15 [zRes.cs] false)) 15 (P s.n) (.agg ⟨r.cs⟩) = some (D2 s r) := by
  simp only [stv_row (get_new_same (s := s)), sy, reduceIte, Nat.reduceAdd, Nat.reduceLeDiff, Nat.reduceLT, Nat.reduceEqDiff, Int.reduceEq, Int.reduceLT, Int.reduceLE, Int.reduceNe, ly, D2]
theorem D2_put2 (s : St) (r q : Res) : stv (D2 s r) 15 (P s.n) (.agg ⟨q.cs⟩) = some (D2 s q) := by
  have e : ∀ x : Blk, (D2 s r).put s.n x = (s.new (.row 15 [zRes.cs] false)).put s.n x := fun x => by unfold D2; rw [put_put]
  simp only [stv_row (D2_o s r), sy, reduceIte, Nat.reduceAdd, Nat.reduceLeDiff, Nat.reduceLT, Nat.reduceEqDiff, Int.reduceEq, Int.reduceLT, Int.reduceLE, Int.reduceNe, ly, e]
  rfl
theorem done_r {s : St} {b : Nat} {c : Cf} {m : Mm} {lp fv : Value} (hf : Fresh s) (h : Row s b (urow c m lp fv)) (hl : LastOk s lp m.last) :
    ∃ s', splice_Splice_done.v (P b) s = some (unit', s') ∧ At c (freeC m (.fin (if m.dd = true then finR 132 else ⟨0, 0, m.p, m.r, false⟩))) s' b ∧ Stp b s s' := by
  have mm : More s (s.new (.row 1 [[P b]] false)) := .new
  have q1 : (s.new (.row 1 [[P b]] false)).get s.n = some (.row 1 [[P b]] false) := get_new_same
  have e1 : alv s (P b) = some (P s.n, s.new (.row 1 [[P b]] false)) := rfl
  have e1n : (s.new (.row 1 [[P b]] false)).n = s.n + 1 := rfl
  generalize s.new (.row 1 [[P b]] false) = s1 at *
  have h1 : Row s1 b (urow c m lp fv) := mm.get hf h
  have hf1 := mm.fresh hf
  have e2 : alv s1 (.agg ⟨zRes.cs⟩) = some (P s1.n, s1.new (.row 15 [zRes.cs] false)) := rfl
  have e3 := D2_put s1 ⟨0, 0, m.p, m.r, false⟩
  have e4 := D2_put2 s1 ⟨0, 0, m.p, m.r, false⟩ (finR 132)
  have fin : ∀ r, (D2 s1 r).get s.n = some (.row 1 [[P b]] false) ∧ Row (D2 s1 r) b (urow c m lp fv) ∧ ∃ s', splice_Splice_free.v (P b) (.func (.func 81) ⟨[]⟩ ⟨[P s.n, P s1.n]⟩) (D2 s1 r) = some (unit', s') ∧ At c (freeC m (.fin r)) s' b ∧ Stp b s s' := by
    intro r
    have m2 := D2_more s1 r
    have q2 : (D2 s1 r).get s.n = some (.row 1 [[P b]] false) := m2.get hf1 q1
    have h2 : Row (D2 s1 r) b (urow c m lp fv) := m2.get hf1 h1
    obtain ⟨s', r1, r2, r3⟩ := free_r (t := .fin r) (m2.fresh hf1) h2 (hl.stp h hf (.more (mm.trans m2))) (.inr ⟨s.n, s1.n, rfl, q2, D2_o s1 r⟩)
    exact ⟨q2, h2, s', r1, r2, (Stp.more (mm.trans m2)).trans r3⟩
  obtain ⟨g1, g1h, t1, u1, u2, u3⟩ := fin ⟨0, 0, m.p, m.r, false⟩
  obtain ⟨g2, g2h, t2, v1, v2, v3⟩ := fin (finR 132)
  generalize D2 s1 ⟨0, 0, m.p, m.r, false⟩ = sa at *
  generalize D2 s1 (finR 132) = sb at *
  have e2' : alv s1 (.agg ⟨[.int .i64 0, .int .u64 0, .slice none 0 0, .slice none 0 0, .int .i64 0, .int .i64 0, .int .u64 0, .int .i64 0, .int .u64 0, .int .i64 0, .int .i64 0, .int .u64 0, .int .i64 0, .int .u64 0, .bool false]⟩) = some (P s1.n, s1.new (.row 15 [zRes.cs] false)) := e2
  simp only [finR] at e4
  by_cases hd : m.dd = true
  · refine ⟨t2, ?_, by rw [if_pos hd]; exact v2, v3⟩
    simp only [splice_Splice_done.v, splice_Splice_done.t, splice_Splice_done.t.p1, sy, reduceIte, Nat.reduceAdd, Nat.reduceLeDiff, Nat.reduceLT, Nat.reduceEqDiff, Int.reduceEq, Int.reduceLT, Int.reduceLE, Int.reduceNe, ly, e1, ldc_row q1, lda_row h1, e2', e3, ldc_row g1, ldc_row g1h, hd, e4, ldc_row g2, v1]
  · refine ⟨t1, ?_, by rw [if_neg hd]; exact u2, u3⟩
    simp only [splice_Splice_done.v, splice_Splice_done.t, splice_Splice_done.t.p1, sy, reduceIte, Nat.reduceAdd, Nat.reduceLeDiff, Nat.reduceLT, Nat.reduceEqDiff, Int.reduceEq, Int.reduceLT, Int.reduceLE, Int.reduceNe, ly, e1, ldc_row q1, lda_row h1, e2', e3, ldc_row g1, ldc_row g1h, hd, u1]

theorem tell_r {s : St} {b : Nat} {c : Cf} {m : Mm} (hf : Fresh s) (hA : At c m s b) (hi : InvM m) (a : Ans) :
    ∃ s', splice_Splice_Tell.v (P b) (.agg ⟨a.cs⟩) s = some (unit', s') ∧ At c (tellC c m a) s' b ∧ Stp b s s' := by
  obtain ⟨lp, fv, h, hl, ht⟩ := hA
  obtain ⟨i1, i2, i3, i4⟩ := hi
  have mm : More s (s.new (.row 1 [[P b]] false)) := .new
  have q1 : (s.new (.row 1 [[P b]] false)).get s.n = some (.row 1 [[P b]] false) := get_new_same
  have e1 : alv s (P b) = some (P s.n, s.new (.row 1 [[P b]] false)) := rfl
  generalize s.new (.row 1 [[P b]] false) = s1 at *
  have h1 : Row s1 b (urow c m lp fv) := mm.get hf h
  have hl1 := hl.stp h hf (.more mm)
  have ht1 := fun e => (ht e).stp h hf (.more mm)
  have hf1 := mm.fresh hf
  have sm : Stp b s s1 := .more mm
  clear hl ht h
  have hp : m.at' = 1 ∨ m.at' = 2 ∨ m.at' = 3 ∨ m.at' = 4 ∨ m.at' = 5 ∨ m.at' = 6 ∨ m.at' = 7 ∨ m.at' = 8 ∨ m.at' = 9 ∨ m.at' = 10 := by omega
  rcases hp with hp | hp | hp | hp | hp | hp | hp | hp | hp | hp
  · obtain ⟨s', r1, r2, r3⟩ := locked_r hf1 h1 hl1 hp a
    exact ⟨s', by simp only [splice_Splice_Tell.v, splice_Splice_Tell.t, splice_Splice_Tell.t.p1, sy, reduceIte, Nat.reduceAdd, Nat.reduceLeDiff, Nat.reduceLT, Nat.reduceEqDiff, Int.reduceEq, Int.reduceLT, Int.reduceLE, Int.reduceNe, ly, e1, ldc_row q1, ldc_row h1, hp, r1], r2, sm.trans r3⟩
  · by_cases k1 : a.k = 1 ∧ a.f = false
    · obtain ⟨s', r1, r2, r3⟩ := free_r (t := .ex) hf1 h1 hl1 ⟨s.n, rfl, q1⟩
      have k1b := k1.2
      exact ⟨s', by simp only [splice_Splice_Tell.v, splice_Splice_Tell.t, splice_Splice_Tell.t.p1, sy, reduceIte, Nat.reduceAdd, Nat.reduceLeDiff, Nat.reduceLT, Nat.reduceEqDiff, Int.reduceEq, Int.reduceLT, Int.reduceLE, Int.reduceNe, ly, e1, ldc_row q1, ldc_row h1, hp, k1.1, k1b, r1], by rw [show tellC c m a = freeC m .ex by simp only [tellC, hp, k1.1, k1b, sy, reduceIte, Nat.reduceAdd, Nat.reduceLeDiff, Nat.reduceLT, Nat.reduceEqDiff, Int.reduceEq, Int.reduceLT, Int.reduceLE, Int.reduceNe]]; exact r2, sm.trans r3⟩
    · obtain ⟨s', r1, r2, r3⟩ := wait_r hf1 h1 hl1
      refine ⟨s', ?_, by rw [show tellC c m a = freeC m .wait by simp only [tellC, hp, if_neg k1, sy, reduceIte, Nat.reduceAdd, Nat.reduceLeDiff, Nat.reduceLT, Nat.reduceEqDiff, Int.reduceEq, Int.reduceLT, Int.reduceLE, Int.reduceNe]]; exact r2, sm.trans r3⟩
      by_cases k1a : a.k = 1
      · have k1b : a.f = true := by cases hb : a.f; exact absurd ⟨k1a, hb⟩ k1; rfl
        simp only [splice_Splice_Tell.v, splice_Splice_Tell.t, splice_Splice_Tell.t.p1, sy, reduceIte, Nat.reduceAdd, Nat.reduceLeDiff, Nat.reduceLT, Nat.reduceEqDiff, Int.reduceEq, Int.reduceLT, Int.reduceLE, Int.reduceNe, ly, e1, ldc_row q1, ldc_row h1, hp, k1a, k1b, r1]
      · simp only [splice_Splice_Tell.v, splice_Splice_Tell.t, splice_Splice_Tell.t.p1, sy, reduceIte, Nat.reduceAdd, Nat.reduceLeDiff, Nat.reduceLT, Nat.reduceEqDiff, Int.reduceEq, Int.reduceLT, Int.reduceLE, Int.reduceNe, ly, e1, ldc_row q1, ldc_row h1, hp, k1a, r1]
  · obtain ⟨s', r1, r2, r3⟩ := entered_r hf1 h1 hl1 hp a
    exact ⟨s', by simp only [splice_Splice_Tell.v, splice_Splice_Tell.t, splice_Splice_Tell.t.p1, sy, reduceIte, Nat.reduceAdd, Nat.reduceLeDiff, Nat.reduceLT, Nat.reduceEqDiff, Int.reduceEq, Int.reduceLT, Int.reduceLE, Int.reduceNe, ly, e1, ldc_row q1, ldc_row h1, hp, r1], r2, sm.trans r3⟩
  · obtain ⟨s', r1, r2, r3⟩ := righted_r hf1 h1 hl1 hp a
    exact ⟨s', by simp only [splice_Splice_Tell.v, splice_Splice_Tell.t, splice_Splice_Tell.t.p1, sy, reduceIte, Nat.reduceAdd, Nat.reduceLeDiff, Nat.reduceLT, Nat.reduceEqDiff, Int.reduceEq, Int.reduceLT, Int.reduceLE, Int.reduceNe, ly, e1, ldc_row q1, ldc_row h1, hp, r1], r2, sm.trans r3⟩
  · refine ⟨Put s1 b (urow c { m with at' := 6 } lp fv), by simp only [splice_Splice_Tell.v, splice_Splice_Tell.t, splice_Splice_Tell.t.p1, sy, reduceIte, Nat.reduceAdd, Nat.reduceLeDiff, Nat.reduceLT, Nat.reduceEqDiff, Int.reduceEq, Int.reduceLT, Int.reduceLE, Int.reduceNe, ly, e1, ldc_row q1, ldc_row h1, stv_row h1, hp], by rw [show tellC c m a = { m with at' := 6 } by simp only [tellC, hp, sy, reduceIte, Nat.reduceAdd, Nat.reduceLeDiff, Nat.reduceLT, Nat.reduceEqDiff, Int.reduceEq, Int.reduceLT, Int.reduceLE, Int.reduceNe]]; exact At.put (m := { m with at' := 6 }) h1 hf1 hl1 (by simp), sm.trans .put⟩
  · by_cases k3 : a.k = 3
    · have k3' : (a.k = 3) = True := eq_true k3
      obtain ⟨s2, hs2⟩ : ∃ s2, s2 = Put s1 b (urow c { m with dd := true } lp fv) := ⟨_, rfl⟩
      have e3 : stv s1 1 (.pointer (some ⟨b, 0, some 27⟩)) (.bool true) = some s2 := by
        rw [hs2]; simp only [stv_row h1, sy, reduceIte, Nat.reduceAdd, Nat.reduceLeDiff, Nat.reduceLT, Nat.reduceEqDiff, Int.reduceEq, Int.reduceLT, Int.reduceLE, Int.reduceNe, ly]
      have h2 : Row s2 b (urow c { m with dd := true } lp fv) := by rw [hs2]; exact get_put_same h1
      have q2 : s2.get s.n = some (.row 1 [[P b]] false) := by rw [hs2, get_put_ne (ne_row h1 q1 (by omega))]; exact q1
      have st2 : Stp b s1 s2 := by rw [hs2]; exact .put
      obtain ⟨s', r1, r2, r3⟩ := done_r (m := { m with dd := true }) (st2.2.2 hf1) h2 (hl1.stp h1 hf1 st2)
      exact ⟨s', by simp only [splice_Splice_Tell.v, splice_Splice_Tell.t, splice_Splice_Tell.t.p1, sy, reduceIte, Nat.reduceAdd, Nat.reduceLeDiff, Nat.reduceLT, Nat.reduceEqDiff, Int.reduceEq, Int.reduceLT, Int.reduceLE, Int.reduceNe, ly, e1, ldc_row q1, ldc_row h1, hp, k3', e3, ldc_row q2, r1], by rw [show tellC c m a = freeC { m with dd := true } (.fin (finR 132)) by simp only [tellC, hp, k3, sy, reduceIte, Nat.reduceAdd, Nat.reduceLeDiff, Nat.reduceLT, Nat.reduceEqDiff, Int.reduceEq, Int.reduceLT, Int.reduceLE, Int.reduceNe]]; exact r2, (sm.trans st2).trans r3⟩
    · have k3' : (a.k = 3) = False := eq_false k3
      obtain ⟨s2, hs2⟩ : ∃ s2, s2 = Put s1 b (urow c { m with dd := false } lp fv) := ⟨_, rfl⟩
      have e3 : stv s1 1 (.pointer (some ⟨b, 0, some 27⟩)) (.bool false) = some s2 := by
        rw [hs2]; simp only [stv_row h1, sy, reduceIte, Nat.reduceAdd, Nat.reduceLeDiff, Nat.reduceLT, Nat.reduceEqDiff, Int.reduceEq, Int.reduceLT, Int.reduceLE, Int.reduceNe, ly]
      have h2 : Row s2 b (urow c { m with dd := false } lp fv) := by rw [hs2]; exact get_put_same h1
      have q2 : s2.get s.n = some (.row 1 [[P b]] false) := by rw [hs2, get_put_ne (ne_row h1 q1 (by omega))]; exact q1
      have st2 : Stp b s1 s2 := by rw [hs2]; exact .put
      obtain ⟨s', r1, r2, r3⟩ := done_r (m := { m with dd := false }) (st2.2.2 hf1) h2 (hl1.stp h1 hf1 st2)
      exact ⟨s', by simp only [splice_Splice_Tell.v, splice_Splice_Tell.t, splice_Splice_Tell.t.p1, sy, reduceIte, Nat.reduceAdd, Nat.reduceLeDiff, Nat.reduceLT, Nat.reduceEqDiff, Int.reduceEq, Int.reduceLT, Int.reduceLE, Int.reduceNe, ly, e1, ldc_row q1, ldc_row h1, hp, k3', e3, ldc_row q2, r1], by rw [show tellC c m a = freeC { m with dd := false } (.fin ⟨0, 0, m.p, m.r, false⟩) by simp only [tellC, hp, k3', sy, reduceIte, Nat.reduceAdd, Nat.reduceLeDiff, Nat.reduceLT, Nat.reduceEqDiff, Int.reduceEq, Int.reduceLT, Int.reduceLE, Int.reduceNe]]; exact r2, (sm.trans st2).trans r3⟩
  · by_cases k3 : a.k = 3
    · obtain ⟨s', r1, r2, r3⟩ := fail_r hf1 h1 hl1 132
      exact ⟨s', by simp only [splice_Splice_Tell.v, splice_Splice_Tell.t, splice_Splice_Tell.t.p1, sy, reduceIte, Nat.reduceAdd, Nat.reduceLeDiff, Nat.reduceLT, Nat.reduceEqDiff, Int.reduceEq, Int.reduceLT, Int.reduceLE, Int.reduceNe, ly, e1, ldc_row q1, ldc_row h1, hp, k3, r1], by rw [show tellC c m a = freeC m (.fin (finR 132)) by simp only [tellC, hp, k3, sy, reduceIte, Nat.reduceAdd, Nat.reduceLeDiff, Nat.reduceLT, Nat.reduceEqDiff, Int.reduceEq, Int.reduceLT, Int.reduceLE, Int.reduceNe]]; exact r2, sm.trans r3⟩
    · obtain ⟨s', r1, r2, r3⟩ := fail_r hf1 h1 hl1 131
      exact ⟨s', by simp only [splice_Splice_Tell.v, splice_Splice_Tell.t, splice_Splice_Tell.t.p1, sy, reduceIte, Nat.reduceAdd, Nat.reduceLeDiff, Nat.reduceLT, Nat.reduceEqDiff, Int.reduceEq, Int.reduceLT, Int.reduceLE, Int.reduceNe, ly, e1, ldc_row q1, ldc_row h1, hp, k3, r1], by rw [show tellC c m a = freeC m (.fin (finR 131)) by simp only [tellC, hp, k3, sy, reduceIte, Nat.reduceAdd, Nat.reduceLeDiff, Nat.reduceLT, Nat.reduceEqDiff, Int.reduceEq, Int.reduceLT, Int.reduceLE, Int.reduceNe]]; exact r2, sm.trans r3⟩
  · obtain ⟨s', r1, r2, r3⟩ := run_r tell_ctx hf1 h1 hl1 (ht1 hp)
    exact ⟨s', by simp only [splice_Splice_Tell.v, splice_Splice_Tell.t, splice_Splice_Tell.t.p1, sy, reduceIte, Nat.reduceAdd, Nat.reduceLeDiff, Nat.reduceLT, Nat.reduceEqDiff, Int.reduceEq, Int.reduceLT, Int.reduceLE, Int.reduceNe, ly, e1, ldc_row q1, ldc_row h1, hp, r1], by rw [show tellC c m a = runC m m.th by simp only [tellC, hp, sy, reduceIte, Nat.reduceAdd, Nat.reduceLeDiff, Nat.reduceLT, Nat.reduceEqDiff, Int.reduceEq, Int.reduceLT, Int.reduceLE, Int.reduceNe]]; exact r2, sm.trans r3⟩
  · exact ⟨s1, by simp only [splice_Splice_Tell.v, splice_Splice_Tell.t, splice_Splice_Tell.t.p1, sy, reduceIte, Nat.reduceAdd, Nat.reduceLeDiff, Nat.reduceLT, Nat.reduceEqDiff, Int.reduceEq, Int.reduceLT, Int.reduceLE, Int.reduceNe, ly, e1, ldc_row q1, ldc_row h1, hp], by rw [show tellC c m a = m by simp only [tellC, hp, sy, reduceIte, Nat.reduceAdd, Nat.reduceLeDiff, Nat.reduceLT, Nat.reduceEqDiff, Int.reduceEq, Int.reduceLT, Int.reduceLE, Int.reduceNe]]; exact ⟨lp, fv, h1, hl1, ht1⟩, sm⟩
  · exact ⟨s1, by simp only [splice_Splice_Tell.v, splice_Splice_Tell.t, splice_Splice_Tell.t.p1, sy, reduceIte, Nat.reduceAdd, Nat.reduceLeDiff, Nat.reduceLT, Nat.reduceEqDiff, Int.reduceEq, Int.reduceLT, Int.reduceLE, Int.reduceNe, ly, e1, ldc_row q1, ldc_row h1, hp], by rw [show tellC c m a = m by simp only [tellC, hp, sy, reduceIte, Nat.reduceAdd, Nat.reduceLeDiff, Nat.reduceLT, Nat.reduceEqDiff, Int.reduceEq, Int.reduceLT, Int.reduceLE, Int.reduceNe]]; exact ⟨lp, fv, h1, hl1, ht1⟩, sm⟩

/-! ### Next, Wake -/

theorem ask_r {s : St} {b : Nat} {c : Cf} {m : Mm} {lp fv : Value} (h : Row s b (urow c m lp fv)) (k : Int) (t r r2 : Rf) (oa oo : Int) :
    splice_Splice_ask.r (P b) (.agg ⟨t.cs⟩) (.agg ⟨[.int .i64 k, .int .i64 0, .int .u64 0, .int .i64 r.id, .int .i64 r.rk, .int .u64 r.n, .int .i64 r.ln, .int .u64 r.bt, .int .i64 r2.id, .int .i64 r2.rk, .int .u64 r2.n, .int .i64 r2.ln, .int .u64 r2.bt, .int .i64 oa, .int .i64 oo]⟩) s = some (.agg ⟨stepC 1 t ⟨k, c.wl, c.wb, r, r2, oa, oo⟩ zRes⟩) := by
  simp only [splice_Splice_ask.r, splice_Splice_ask.t, sy, reduceIte, Nat.reduceAdd, Nat.reduceLeDiff, Nat.reduceLT, Nat.reduceEqDiff, Int.reduceEq, Int.reduceLT, Int.reduceLE, Int.reduceNe, ly, lda_row h, stepC]
theorem next_r {s : St} {b : Nat} {c : Cf} {m : Mm} (hA : At c m s b) (hi : InvM m) : splice_Splice_Next.r (P b) s = some (.agg ⟨nextC c m⟩) := by
  obtain ⟨lp, fv, h, hl, ht⟩ := hA
  obtain ⟨i1, i2, i3, i4⟩ := hi
  have g1 := ask_r h 3 m.p zR zR c.oa c.oo
  have g2 := ask_r h 1 m.r zR zR 0 0
  have g3 := ask_r h 7 c.me m.p m.r c.oa c.oo
  have g4 := ask_r h 5 m.p c.me zR c.oa c.oo
  have g5 := ask_r h 6 m.r c.me zR 0 0
  have g6 := ask_r h 4 c.me zR zR c.oa c.oo
  have g7 := ask_r h 8 c.me zR zR c.oa c.oo
  have g8 := ask_r h 4 m.p zR zR c.oa c.oo
  have hp : m.at' = 1 ∨ m.at' = 2 ∨ m.at' = 3 ∨ m.at' = 4 ∨ m.at' = 5 ∨ m.at' = 6 ∨ m.at' = 7 ∨ m.at' = 8 ∨ m.at' = 9 ∨ m.at' = 10 := by omega
  rcases hp with hp | hp | hp | hp | hp | hp | hp | hp | hp | hp <;> simp only [splice_Splice_Next.r, splice_Splice_Next.t, splice_Splice_Next.t.p1, splice_Splice_Next.t.p2, splice_Splice_Next.t.p3, splice_Splice_Next.t.p4, splice_Splice_Next.t.p5, sy, reduceIte, Nat.reduceAdd, Nat.reduceLeDiff, Nat.reduceLT, Nat.reduceEqDiff, Int.reduceEq, Int.reduceLT, Int.reduceLE, Int.reduceNe, ly, ldc_row h, lda_row h, g1, g2, g3, g4, g5, g6, g7, g8, nextC, hp, askC, stepC]
theorem wake_r {s : St} {b : Nat} {c : Cf} {m : Mm} (hf : Fresh s) (hA : At c m s b) : ∃ s', splice_Splice_Wake.v (P b) s = some (unit', s') ∧ At c (wakeC m) s' b ∧ Stp b s s' := by
  obtain ⟨lp, fv, h, hl, ht⟩ := hA
  by_cases hp : m.at' = 9
  · exact ⟨Put s b (urow c { m with at' := 1 } lp fv), by simp only [splice_Splice_Wake.v, splice_Splice_Wake.t, sy, reduceIte, Nat.reduceAdd, Nat.reduceLeDiff, Nat.reduceLT, Nat.reduceEqDiff, Int.reduceEq, Int.reduceLT, Int.reduceLE, Int.reduceNe, ly, ldc_row h, stv_row h, hp], by rw [show wakeC m = { m with at' := 1 } by simp only [wakeC, hp, if_true]]; exact At.put (m := { m with at' := 1 }) h hf hl (by simp), .put⟩
  · exact ⟨s, by simp only [splice_Splice_Wake.v, splice_Splice_Wake.t, sy, reduceIte, Nat.reduceAdd, Nat.reduceLeDiff, Nat.reduceLT, Nat.reduceEqDiff, Int.reduceEq, Int.reduceLT, Int.reduceLE, Int.reduceNe, ly, ldc_row h, hp], by rw [show wakeC m = m by simp only [wakeC, hp, if_false]]; exact ⟨lp, fv, h, hl, ht⟩, .refl b s⟩

/-! ### New -/

abbrev Bad : Value := T2 (.pointer none) 130
def okC (c : Cf) : Prop := c.me.rk = 2 ∧ BG c.me.ln c.me.bt c.wl c.wb ∧ okK c.fr.rk c.fr.n ∧ lessK c.fr.rk c.fr.n c.me.rk c.me.n ∧ okO c.oa c.oo
def m0 (c : Cf) : Mm := ⟨1, c.fr, none, zR, false, false, .no, zRes⟩
open Classical in
theorem new_no {s : St} {c : Cf} (hf : Fresh s) (hm : 0 ≤ c.me.bt) (hw : 0 ≤ c.wb) (h : ¬ okC c) : splice_New.v (.agg ⟨c.cs⟩) s = some (Bad, s) ∧ leapfrogref13x_New.v (.agg ⟨c.cs⟩) s = some (Bad, s) := by
  have r1 := right_i c.wl c.wb hw s
  have rr1 := rright_i c.wl c.wb hw s
  have b1 := begins_i c.me.ln c.me.bt c.wl c.wb hm hw s
  have rb1 := rbegins_i c.me.ln c.me.bt c.wl c.wb hm hw s hf
  have kc := kcheck_r c.fr.rk c.fr.n s
  have rkc := isKey_r c.fr.rk c.fr.n s
  have l1 := less_r c.fr.rk c.fr.n c.me.rk c.me.n s
  have rl1 := r9less_r c.fr.rk c.fr.n c.me.rk c.me.n s
  have ow := check_r c.oa c.oo s
  have row := isOwner_r c.oa c.oo s
  constructor
  · rcases Classical.propComplete (c.me.rk = 2) with k1 | k1 <;> rcases Classical.propComplete (BG c.me.ln c.me.bt c.wl c.wb) with k2 | k2 <;> rcases Classical.propComplete (okK c.fr.rk c.fr.n) with k3 | k3 <;> rcases Classical.propComplete (lessK c.fr.rk c.fr.n c.me.rk c.me.n) with k4 | k4
    case inl.inl.inl.inl =>
      have k5 : ¬ okO c.oa c.oo := fun k5 => h ⟨of_eq_true k1, of_eq_true k2, of_eq_true k3, of_eq_true k4, k5⟩
      have k6 : okV c.wl c.wb := (of_eq_true k2).2.1
      simp only [k3, k5, k6, reduceIte] at kc ow r1
      simp only [splice_New.v, splice_New.t, splice_New.t.p1, sy, reduceIte, Nat.reduceAdd, Nat.reduceLeDiff, Nat.reduceLT, Nat.reduceEqDiff, Int.reduceEq, Int.reduceLT, Int.reduceLE, Int.reduceNe, ly, r1, b1, kc, l1, ow, k1, k2, k3, k4]
    all_goals (simp only [k3, reduceIte] at kc; simp only [splice_New.v, splice_New.t, splice_New.t.p1, sy, reduceIte, Nat.reduceAdd, Nat.reduceLeDiff, Nat.reduceLT, Nat.reduceEqDiff, Int.reduceEq, Int.reduceLT, Int.reduceLE, Int.reduceNe, ly, b1, kc, l1, k1, k2, k3, k4])
  · rcases Classical.propComplete (okV c.wl c.wb) with k0 | k0
    · rcases Classical.propComplete (c.me.rk = 2) with k1 | k1
      · rcases Classical.propComplete (BG c.me.ln c.me.bt c.wl c.wb) with k2 | k2
        · rcases Classical.propComplete (okK c.fr.rk c.fr.n) with k3 | k3
          · rcases Classical.propComplete (lessK c.fr.rk c.fr.n c.me.rk c.me.n) with k4 | k4
            · have k5 : okO c.oa c.oo = False := eq_false fun k5 => h ⟨of_eq_true k1, of_eq_true k2, of_eq_true k3, of_eq_true k4, k5⟩
              simp only [leapfrogref13x_New.v, leapfrogref13x_New.t, leapfrogref13x_New.t.p1, sy, reduceIte, Nat.reduceAdd, Nat.reduceLeDiff, Nat.reduceLT, Nat.reduceEqDiff, Int.reduceEq, Int.reduceLT, Int.reduceLE, Int.reduceNe, ly, rr1, rb1, rkc, rl1, row, k0, k1, k2, k3, k4, k5]
            · simp only [leapfrogref13x_New.v, leapfrogref13x_New.t, leapfrogref13x_New.t.p1, sy, reduceIte, Nat.reduceAdd, Nat.reduceLeDiff, Nat.reduceLT, Nat.reduceEqDiff, Int.reduceEq, Int.reduceLT, Int.reduceLE, Int.reduceNe, ly, rr1, rb1, rkc, rl1, row, k0, k1, k2, k3, k4]
          · simp only [leapfrogref13x_New.v, leapfrogref13x_New.t, leapfrogref13x_New.t.p1, sy, reduceIte, Nat.reduceAdd, Nat.reduceLeDiff, Nat.reduceLT, Nat.reduceEqDiff, Int.reduceEq, Int.reduceLT, Int.reduceLE, Int.reduceNe, ly, rr1, rb1, rkc, rl1, row, k0, k1, k2, k3]
        · simp only [leapfrogref13x_New.v, leapfrogref13x_New.t, leapfrogref13x_New.t.p1, sy, reduceIte, Nat.reduceAdd, Nat.reduceLeDiff, Nat.reduceLT, Nat.reduceEqDiff, Int.reduceEq, Int.reduceLT, Int.reduceLE, Int.reduceNe, ly, rr1, rb1, rkc, rl1, row, k0, k1, k2]
      · simp only [leapfrogref13x_New.v, leapfrogref13x_New.t, leapfrogref13x_New.t.p1, sy, reduceIte, Nat.reduceAdd, Nat.reduceLeDiff, Nat.reduceLT, Nat.reduceEqDiff, Int.reduceEq, Int.reduceLT, Int.reduceLE, Int.reduceNe, ly, rr1, rb1, rkc, rl1, row, k0, k1]
    · simp only [leapfrogref13x_New.v, leapfrogref13x_New.t, leapfrogref13x_New.t.p1, sy, reduceIte, Nat.reduceAdd, Nat.reduceLeDiff, Nat.reduceLT, Nat.reduceEqDiff, Int.reduceEq, Int.reduceLT, Int.reduceLE, Int.reduceNe, ly, rr1, rb1, rkc, rl1, row, k0]
open Classical in
theorem new_yes {s : St} {c : Cf} (hf : Fresh s) (hm : 0 ≤ c.me.bt) (hw : 0 ≤ c.wb) (h : okC c) : splice_New.v (.agg ⟨c.cs⟩) s = some (T2 (P s.n) 0, s.new (.row 44 [urow c (m0 c) (.pointer none) .nilFunc] false)) := by
  obtain ⟨k1, k2, k3, k4, k5⟩ := h
  have r1 := right_i c.wl c.wb hw s
  have b1 := begins_i c.me.ln c.me.bt c.wl c.wb hm hw s
  have kc := kcheck_r c.fr.rk c.fr.n s
  have l1 := less_r c.fr.rk c.fr.n c.me.rk c.me.n s
  have ow := check_r c.oa c.oo s
  have k6 : okV c.wl c.wb := k2.2.1
  have k1' : (c.me.rk = 2) = True := eq_true k1
  simp only [k3, k5, k6, reduceIte] at kc ow r1
  rw [decide_eq_true k2] at b1
  rw [decide_eq_true k4] at l1
  simp only [splice_New.v, splice_New.t, splice_New.t.p1, sy, reduceIte, Nat.reduceAdd, Nat.reduceLeDiff, Nat.reduceLT, Nat.reduceEqDiff, Int.reduceEq, Int.reduceLT, Int.reduceLE, Int.reduceNe, ly, r1, b1, kc, l1, ow, k1', alv_eq, m0]
end Go.Proofs.Yteiagjbjokldgaa
