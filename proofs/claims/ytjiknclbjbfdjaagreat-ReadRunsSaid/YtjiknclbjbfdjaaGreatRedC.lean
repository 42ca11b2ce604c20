/-
  The machine of package read: got, Tell, again, Wake, Next.
-/
import Derived.Test.YtjiknclbjbfdjaaGreatRedB
import Derived.Test.YtjiknclbjbfdjaaGreatMachK
set_option linter.unusedSimpArgs false
set_option linter.unusedVariables false
set_option maxRecDepth 100000
set_option maxHeartbeats 2000000
namespace Go.Proofs.YtjiknclbjbfdjaaGreat
open Go.Sim Go.Sim.Bt
attribute [local congr] bdc cndc itec gdc gdSc gdUc

/-- The machine in the heap. -/
structure AtD (c : RC) (m : RM) (s : St) (p : Nat) (N : Nat) (b q qc : Nat) (ms : Mm) : Prop where
  row : DRow s p (drow c m b qc)
  hA : At c.sk ms s b q
  inv : InvS ms
  conf : ∃ ro, s.get qc = some (.row 8 [c.cs] ro)
  tab : ms.tab.length ≤ N
abbrev StpO (s s' : St) : Prop := StpK [32, 40, 1000] s s'
theorem StpO.more {s s' : St} (h : More s s') (hf : Fresh s) : StpO s s' := StpK.more h hf
theorem StpO.of {c : RC} {m : RM} {s s' : St} {p N b q qc : Nat} {ms : Mm} (h : AtD c m s p N b q qc ms) (k : StpD p b q s s') : StpO s s' := by
  refine ⟨by rw [k.2.1]; exact Nat.le_refl _, fun x y hx hy => ?_, k.2.2⟩
  rw [k.1 x ?_ ?_ ?_]
  · exact hx
  · rintro rfl; have h2 := h.row; unfold DRow at h2; rw [hx] at h2; cases h2; simp [kd] at hy
  · rintro rfl; have h2 := h.hA.row; unfold Row at h2; rw [hx] at h2; cases h2; simp [kd] at hy
  · rintro rfl; have h2 := h.hA.map; rw [hx] at h2; cases h2; simp [kd] at hy
theorem AtD.more {c : RC} {m : RM} {s s' : St} {p N b q qc : Nat} {ms : Mm} (h : AtD c m s p N b q qc ms) (k : More s s') (hf : Fresh s) : AtD c m s' p N b q qc ms :=
  ⟨k.get hf h.row, ⟨k.get hf h.hA.row, k.get hf h.hA.map⟩, h.inv, by obtain ⟨ro, g⟩ := h.conf; exact ⟨ro, k.get hf g⟩, h.tab⟩
theorem AtD.put {c : RC} {m m' : RM} {s : St} {p N b q qc : Nat} {ms : Mm} (h : AtD c m s p N b q qc ms) : AtD c m' (DPut s p (drow c m' b qc)) p N b q qc ms := by
  refine ⟨put_d h.row, at_dput h.hA h.row, h.inv, ?_, h.tab⟩
  obtain ⟨ro, g⟩ := h.conf
  refine ⟨ro, ?_⟩
  rw [get_put_ne ?_]; exact g
  rintro rfl; have h2 := h.row; unfold DRow at h2; rw [g] at h2; simp at h2
/-- Next. -/
def kindOk (x : List Value) : Prop := ∃ k t a r1, x = Value.int .i64 k :: t ∧ t[5]? = some (.int .i64 a) ∧ (k = 1 → a = 1 ∨ a = 2) ∧ t.length = r1
theorem rd_fail_at {c : RC} {m : RM} {s : St} {p N b q qc : Nat} {ms : Mm} (h : AtD c m s p N b q qc ms) (e : Int) : read_Read_fail.v (P p) (.int .i64 e) s = some (unit', DPut s p (drow c (failM m e) b qc)) ∧ AtD c (failM m e) (DPut s p (drow c (failM m e) b qc)) p N b q qc ms :=
  ⟨rd_fail h.row e, h.put⟩
def gotM (c : RC) (m : RM) (ms : Mm) (a : Ans) : RM × Mm :=
  if a.k = 1 ∧ a.f = false then ({ m with at' := 4, res := ⟨0, m.x.n, a.v, zR, zR, true⟩ }, ms)
  else if c.ceil = true then fnM c m ms a
  else (failM m 101, ms)
theorem got_r {c : RC} {m : RM} {s : St} {p N b q qc : Nat} {ms : Mm} (hf : Fresh s) (h : AtD c m s p N b q qc ms) (a : Ans) (hv : bx a.v = some [a.v]) (hsv : sameV a.v a.v = true) :
    ∃ s', read_Read_got.v (P p) (.agg ⟨a.cs⟩) s = some (unit', s') ∧ AtD c (gotM c m ms a).1 s' p (N + 1) b q qc (gotM c m ms a).2 ∧ StpO s s' := by
  have m1 : More s (s.new (.row 1 [[P p]] false)) := .new
  have m2 : More (s.new (.row 1 [[P p]] false)) ((s.new (.row 1 [[P p]] false)).new (.row 13 [a.cs] false)) := .new
  have mm := m1.trans m2
  have q1 : ((s.new (.row 1 [[P p]] false)).new (.row 13 [a.cs] false)).get s.n = some (.row 1 [[P p]] false) := m2.get hf.new get_new_same
  have q2 : ((s.new (.row 1 [[P p]] false)).new (.row 13 [a.cs] false)).get (s.n + 1) = some (.row 13 [a.cs] false) := get_new_same
  have e1 : alv s (P p) = some (P s.n, s.new (.row 1 [[P p]] false)) := rfl
  have e2 : alv (s.new (.row 1 [[P p]] false)) (.agg ⟨a.cs⟩) = some (P (s.n + 1), (s.new (.row 1 [[P p]] false)).new (.row 13 [a.cs] false)) := rfl
  have h2 := h.more mm hf
  have f2 := mm.fresh hf
  have so := StpO.more mm hf
  generalize (s.new (.row 1 [[P p]] false)).new (.row 13 [a.cs] false) = s2 at *
  obtain ⟨ro, gc⟩ := h2.conf
  have r2 := h2.row
  have other : (a.k = 1 ∧ a.f = false → False) → ∃ s', callV read_Read_got.ctx (ceilV qc) [.func (.func 49) ⟨[]⟩ ⟨[P s.n, P (s.n + 1)]⟩] s2 = some (.bool c.ceil, s') ∧ AtD c (if c.ceil = true then fnM c m ms a else (m, ms)).1 s' p (N + 1) b q qc (if c.ceil = true then fnM c m ms a else (m, ms)).2 ∧ StpO s s' ∧ s'.get s.n = some (.row 1 [[P p]] false) := by
    intro _
    unfold ceilV
    rw [callV_st (g := read_New_fn1.w) rfl]
    show ∃ s', read_New_fn1.v (.func (.func 49) ⟨[]⟩ ⟨[P s.n, P (s.n + 1)]⟩) (P qc) s2 = some (.bool c.ceil, s') ∧ _
    cases hc : c.ceil with
    | false =>
      exact ⟨s2, by simp only [read_New_fn1.v, read_New_fn1.t, sy, reduceIte, Nat.reduceAdd, Nat.reduceLeDiff, Nat.reduceLT, Nat.reduceEqDiff, Int.reduceEq, Int.reduceLT, Int.reduceLE, Int.reduceNe, ly, ldc_row gc, hc], ⟨h2.row, h2.hA, h2.inv, h2.conf, by have := h2.tab; simp only [Bool.false_eq_true, if_false]; omega⟩, so, q1⟩
    | true =>
      obtain ⟨s3, x1, x2, x3, x6⟩ := fn1_r f2 h2.row h2.hA h2.inv a q1 q2
      have g : ∀ {x n : Nat} {rows : List (List Value)} {r : Bool}, s2.get x = some (.row n rows r) → n ≠ 32 → n ≠ 40 → s3.get x = some (.row n rows r) := by
        intro x n rows r hx h32 h40
        rw [x6.1 x ?_ ?_ ?_]
        · exact hx
        · rintro rfl; have y := h2.row; unfold DRow at y; rw [hx] at y; simp at y; exact h32 y.1
        · rintro rfl; have y := h2.hA.row; unfold Row at y; rw [hx] at y; simp at y; exact h40 y.1
        · rintro rfl; have y := h2.hA.map; rw [hx] at y; simp at y
      have gc3 := g gc (by omega) (by omega)
      have cv : callV read_New_fn1.ctx (.func (.func 49) ⟨[]⟩ ⟨[P s.n, P (s.n + 1)]⟩) [] s2 = some (unit', s3) := by
        rw [callV_st (g := read_Read_got_fn1.w) rfl]
        exact x1
      refine ⟨s3, ?_, ⟨x2, x3, inv_fnM h2.inv a, ⟨ro, gc3⟩, by have := h2.tab; have := fnM_tab (c := c) (m := m) (ms := ms) a; simp only [if_true]; omega⟩, so.trans (StpO.of h2 x6), g q1 (by omega) (by omega)⟩
      simp only [read_New_fn1.v, read_New_fn1.t, sy, reduceIte, Nat.reduceAdd, Nat.reduceLeDiff, Nat.reduceLT, Nat.reduceEqDiff, Int.reduceEq, Int.reduceLT, Int.reduceLE, Int.reduceNe, ly, ldc_row gc, hc, cv, ldc_row gc3]
  have fin : (a.k = 1 ∧ a.f = false → False) → (∀ s' : St, s'.get s.n = some (.row 1 [[P p]] false) → callV read_Read_got.ctx (ceilV qc) [.func (.func 49) ⟨[]⟩ ⟨[P s.n, P (s.n + 1)]⟩] s2 = some (.bool c.ceil, s') → ∀ F, read_Read_fail.v (P p) (.int .i64 101) s' = some (unit', F) → read_Read_got.v (P p) (.agg ⟨a.cs⟩) s = some (unit', if c.ceil = true then s' else F)) := by
    intro hno s' g cv F hF
    rcases Classical.propComplete (a.k = 1) with k1 | k1
    · have k2 : a.f = true := by cases hb : a.f; exact (hno ⟨of_eq_true k1, hb⟩).elim; rfl
      cases hc : c.ceil <;> rw [hc] at cv <;> simp only [read_Read_got.v, read_Read_got.t, sy, reduceIte, Nat.reduceAdd, Nat.reduceLeDiff, Nat.reduceLT, Nat.reduceEqDiff, Int.reduceEq, Int.reduceLT, Int.reduceLE, Int.reduceNe, ly, e1, e2, ldc_row q2, ldc_row q1, ldc_row r2, k1, k2, cv, ldc_row g, hF]
    · cases hc : c.ceil <;> rw [hc] at cv <;> simp only [read_Read_got.v, read_Read_got.t, sy, reduceIte, Nat.reduceAdd, Nat.reduceLeDiff, Nat.reduceLT, Nat.reduceEqDiff, Int.reduceEq, Int.reduceLT, Int.reduceLE, Int.reduceNe, ly, e1, e2, ldc_row q2, ldc_row q1, ldc_row r2, k1, cv, ldc_row g, hF]
  by_cases hyes : a.k = 1 ∧ a.f = false
  · have k1 : (a.k = 1) = True := eq_true hyes.1
    have e3 := rd_end r2 ⟨0, m.x.n, a.v, zR, zR, true⟩ hv
    have g : ∀ X, (DPut s2 p X).get s.n = some (.row 1 [[P p]] false) := fun X => by
      rw [get_put_ne ?_]; exact q1
      rintro y; rw [y] at q1; unfold DRow at r2; rw [r2] at q1; simp at q1
    have g2 : ∀ X, (DPut s2 p X).get (s.n + 1) = some (.row 13 [a.cs] false) := fun X => by
      rw [get_put_ne ?_]; exact q2
      rintro y; rw [y] at q2; unfold DRow at r2; rw [r2] at q2; simp at q2
    have sn : sameV (.int .u64 m.x.n) (.int .u64 m.x.n) = true := by simp [sameV]
    rw [show gotM c m ms a = ({ m with at' := 4, res := ⟨0, m.x.n, a.v, zR, zR, true⟩ }, ms) by unfold gotM; rw [if_pos hyes]]
    refine ⟨_, ?_, ⟨(h2.put (m' := { m with at' := 4, res := ⟨0, m.x.n, a.v, zR, zR, true⟩ })).row, (h2.put (m' := { m with at' := 4, res := ⟨0, m.x.n, a.v, zR, zR, true⟩ })).hA, h2.inv, (h2.put (m' := { m with at' := 4, res := ⟨0, m.x.n, a.v, zR, zR, true⟩ })).conf, by have := h2.tab; show ms.tab.length ≤ N + 1; omega⟩, so.trans (StpO.of h2 .put)⟩
    simp only [read_Read_got.v, read_Read_got.t, sy, reduceIte, Nat.reduceAdd, Nat.reduceLeDiff, Nat.reduceLT, Nat.reduceEqDiff, Int.reduceEq, Int.reduceLT, Int.reduceLE, Int.reduceNe, ly, e1, e2, ldc_row q2, ldc_row q1, ldc_row r2, k1, hyes.2, hv, e3, ldc_row (g _), ldc_row (g2 _), ldc_put r2, sameP, sn, hsv]
  · obtain ⟨s3, cv, h3, so3, g3⟩ := other hyes
    have hg : gotM c m ms a = if c.ceil = true then fnM c m ms a else (failM m 101, ms) := by unfold gotM; rw [if_neg hyes]
    rw [hg]
    by_cases hc : c.ceil = true
    · obtain ⟨f1, f2'⟩ := rd_fail_at h3 101
      have e3 := fin hyes s3 g3 cv _ f1
      simp only [if_pos hc] at h3 e3 ⊢
      exact ⟨_, e3, h3, so3⟩
    · simp only [if_neg hc] at h3 ⊢
      obtain ⟨f1, f2'⟩ := rd_fail_at h3 101
      have e3 := fin hyes s3 g3 cv _ f1
      rw [if_neg hc] at e3
      exact ⟨_, e3, f2', so3.trans (StpO.of h3 .put)⟩

/-! ### Tell, Wake, Next -/

def tellD (c : RC) (m : RM) (ms : Mm) (a : Ans) (x : Option Rf) : RM × Mm :=
  if m.at' = 1 then (soughtM c m (tellF c.sk ms a x), tellF c.sk ms a x) else if m.at' = 2 then gotM c m ms a else (m, ms)
theorem tell_tab {c : Cf} {m : Mm} {a : Ans} {x : Option Rf} : (tellF c m a x).tab.length ≤ m.tab.length + 1 := by
  have hg : ∀ (m : Mm) (x : Option Rf), (goesF c m x).tab = m.tab := by
    intro m x
    cases x with
    | none => simp only [goesF, againC]; split <;> rfl
    | some r => simp only [goesF]; split; rfl; split <;> rfl
  have ha : ∀ m : Mm, (againC c m).tab = m.tab := by intro m; unfold againC; split <;> rfl
  have hk : ∀ r y : Rf, (keepC m r y).tab.length ≤ m.tab.length + 1 := fun r y => upd_len _ _ _
  unfold tellF
  repeat' split
  all_goals first
    | omega
    | (rw [hg]; show m.tab.length ≤ _; omega)
    | (rw [ha]; first | exact hk _ _ | omega)
    | exact hk _ _
    | (show m.tab.length ≤ _; omega)
theorem tell_d {c : RC} {m : RM} {s : St} {p N b q qc : Nat} {ms : Mm} (hf : Fresh s) (hC : okC c.sk) (h : AtD c m s p N b q qc ms) (a : Ans) (hv : bx a.v = some [a.v]) (hsv : sameV a.v a.v = true) {D : Nat} {x : Option Rf} (hc : Chase ms.tab ms.wl ms.wb D (curF ms).rk (curF ms).n a.r x) (hD : D < BIG) :
    ∃ s', read_Read_Tell.v (P p) (.agg ⟨a.cs⟩) s = some (unit', s') ∧ AtD c (tellD c m ms a x).1 s' p (N + 1) b q qc (tellD c m ms a x).2 ∧ StpO s s' := by
  have hr := h.row
  unfold tellD
  rcases Classical.propComplete (m.at' = 1) with k1 | k1
  · rw [if_pos (of_eq_true k1)]
    obtain ⟨s1, e1, hA1, st1⟩ := tell_f h.hA h.inv.n0 h.inv.okw a hc hD
    have r1 : DRow s1 p (drow c m b qc) := stq_row h.hA st1 hr (by omega)
    have so1 := StpO.of h (StpD.stq (p := p) st1)
    obtain ⟨ro, gc⟩ := h.conf
    have h1 : AtD c m s1 p (N + 1) b q qc (tellF c.sk ms a x) := ⟨r1, hA1, inv_tellF hC h.inv a x, ⟨ro, stq_row h.hA st1 gc (by omega)⟩, by have := h.tab; have := tell_tab (c := c.sk) (m := ms) (a := a) (x := x); omega⟩
    obtain ⟨s2, e2, g⟩ := rd_sought r1 hA1
    refine ⟨s2, by simp only [read_Read_Tell.v, read_Read_Tell.t, sy, reduceIte, Nat.reduceAdd, Nat.reduceLeDiff, Nat.reduceLT, Nat.reduceEqDiff, Int.reduceEq, Int.reduceLT, Int.reduceLE, Int.reduceNe, ly, ldc_row hr, k1, e1, e2], ?_⟩
    rcases g with ⟨rfl, g⟩ | rfl
    · exact ⟨by simp only [g]; exact h1, so1⟩
    · exact ⟨h1.put, so1.trans (StpO.of h1 .put)⟩
  · rw [if_neg (of_eq_false k1)]
    rcases Classical.propComplete (m.at' = 2) with k2 | k2
    · rw [if_pos (of_eq_true k2)]
      obtain ⟨s1, e1, h1, so1⟩ := got_r hf h a hv hsv
      exact ⟨s1, by simp only [read_Read_Tell.v, read_Read_Tell.t, sy, reduceIte, Nat.reduceAdd, Nat.reduceLeDiff, Nat.reduceLT, Nat.reduceEqDiff, Int.reduceEq, Int.reduceLT, Int.reduceLE, Int.reduceNe, ly, ldc_row hr, k1, k2, e1], h1, so1⟩
    · rw [if_neg (of_eq_false k2)]
      exact ⟨s, by simp only [read_Read_Tell.v, read_Read_Tell.t, sy, reduceIte, Nat.reduceAdd, Nat.reduceLeDiff, Nat.reduceLT, Nat.reduceEqDiff, Int.reduceEq, Int.reduceLT, Int.reduceLE, Int.reduceNe, ly, ldc_row hr, k1, k2], ⟨h.row, h.hA, h.inv, h.conf, by have := h.tab; show ms.tab.length ≤ N + 1; omega⟩, StpK.refl _ _⟩
end Go.Proofs.YtjiknclbjbfdjaaGreat
