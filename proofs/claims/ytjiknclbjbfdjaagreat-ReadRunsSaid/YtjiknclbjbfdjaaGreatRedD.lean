/-
  The machine of package read: again, Wake, Next, New.
-/
import Derived.Test.YtjiknclbjbfdjaaGreatRedC
import Derived.Test.YtjiknclbjbfdjaaGreatMachV
set_option linter.unusedSimpArgs false
set_option linter.unusedVariables false
set_option maxRecDepth 100000
set_option maxHeartbeats 2000000
namespace Go.Proofs.YtjiknclbjbfdjaaGreat
open Go.Sim Go.Sim.Bt
attribute [local congr] bdc cndc itec gdc gdSc gdUc

def againM (c : RC) (m : RM) (ms : Mm) : RM × Mm := if 64 ≤ m.tries then (failM m 121, ms) else ({ m with tries := m.tries + 1, at' := 1 }, m0 c.sk)
theorem target_r (c : RC) (s : St) : read_target.r (.agg ⟨c.cs⟩) s = some (KV 2 c.key) := by
  simp only [read_target.r, read_target.t, sy, reduceIte, Nat.reduceAdd, Nat.reduceLeDiff, Nat.reduceLT, Nat.reduceEqDiff, Int.reduceEq, Int.reduceLT, Int.reduceLE, Int.reduceNe, ly]
theorem sameI {k : IntKind} {a : Int} : sameV (.int k a) (.int k a) = true := by simp [sameV]
theorem AtD.stp {c : RC} {m : RM} {s s' : St} {p N b q qc : Nat} {ms : Mm} {ks : List Nat} (h : AtD c m s p N b q qc ms) (k : StpK ks s s') (h1 : 32 ∉ ks) (h2 : 40 ∉ ks) (h3 : 1000 ∉ ks) (h4 : 8 ∉ ks) : AtD c m s' p N b q qc ms := by
  obtain ⟨ro, g⟩ := h.conf
  exact ⟨k.row h.row h1, h.hA.stp k h2 h3, h.inv, ⟨ro, k.row g h4⟩, h.tab⟩
theorem inv_m0 {c : Cf} (hC : okC c) : InvS (m0 c) := ⟨by simp [m0], hC.2.2.2.1, fun e => by simp [m0] at e⟩
theorem again_d {c : RC} {m : RM} {s : St} {p N b q qc : Nat} {ms : Mm} (hf : Fresh s) (hC : okC c.sk) (hb : 0 ≤ c.st.bt) (ht : 0 ≤ m.tries) (h : AtD c m s p N b q qc ms) :
    ∃ s' b' q', read_Read_again.v (P p) s = some (unit', s') ∧ AtD c (againM c m ms).1 s' p N b' q' qc (againM c m ms).2 ∧ StpO s s' := by
  have hr := h.row
  unfold againM
  rcases Classical.propComplete (64 ≤ m.tries) with k1 | k1
  · rw [if_pos (of_eq_true k1)]
    obtain ⟨e1, h1⟩ := rd_fail_at h 121
    exact ⟨_, b, q, by simp only [read_Read_again.v, read_Read_again.t, sy, reduceIte, Nat.reduceAdd, Nat.reduceLeDiff, Nat.reduceLT, Nat.reduceEqDiff, Int.reduceEq, Int.reduceLT, Int.reduceLE, Int.reduceNe, ly, ldc_row hr, k1, e1], h1, StpO.of h .put⟩
  · rw [if_neg (of_eq_false k1)]
    have k1' : m.tries < 64 := by have := of_eq_false k1; omega
    obtain ⟨s1, hs1⟩ : ∃ s1, s1 = DPut s p (drow c { m with tries := m.tries + 1 } b qc) := ⟨_, rfl⟩
    have ew : IntKind.i64.wrap (m.tries + 1) = m.tries + 1 := wrap64 (by omega) (by omega)
    have e1 : stv s 1 (.pointer (some ⟨p, 0, some 15⟩)) (.int .i64 (m.tries + 1)) = some s1 := by
      rw [hs1]; simp only [stv_row hr, sy, reduceIte, Nat.reduceAdd, Nat.reduceLeDiff, Nat.reduceLT, Nat.reduceEqDiff, Int.reduceEq, Int.reduceLT, Int.reduceLE, Int.reduceNe, ly]
    have h1 : AtD c { m with tries := m.tries + 1 } s1 p N b q qc ms := by rw [hs1]; exact h.put
    have o1 : StpO s s1 := by rw [hs1]; exact StpO.of h .put
    have f1 := o1.2.2 hf
    have r1 := h1.row
    have tg := target_r c s1
    rcases new_r f1 c.sk hb with ⟨g, _⟩ | ⟨_, e2⟩
    · exact absurd hC g
    have hA2 := at_new f1 c.sk
    have mo : More s1 (N2 s1 c.sk) := More.new.trans .new
    have h2 : AtD c { m with tries := m.tries + 1 } (N2 s1 c.sk) p N b q qc ms := h1.more mo f1
    have o2 : StpO s1 (N2 s1 c.sk) := StpO.more mo f1
    have f2 := mo.fresh f1
    generalize N2 s1 c.sk = s2 at *
    have r2 := h2.row
    obtain ⟨s3, hs3⟩ : ∃ s3, s3 = DPut s2 p (drow c { m with tries := m.tries + 1 } (s1.n + 1) qc) := ⟨_, rfl⟩
    have e3 : stv s2 1 (.pointer (some ⟨p, 0, some 9⟩)) (P (s1.n + 1)) = some s3 := by
      rw [hs3]; simp only [stv_row r2, sy, reduceIte, Nat.reduceAdd, Nat.reduceLeDiff, Nat.reduceLT, Nat.reduceEqDiff, Int.reduceEq, Int.reduceLT, Int.reduceLE, Int.reduceNe, ly]
    have r3 : DRow s3 p (drow c { m with tries := m.tries + 1 } (s1.n + 1) qc) := by rw [hs3]; exact put_d r2
    have e4 : stv s3 1 (.pointer (some ⟨p, 0, some 8⟩)) (.int .i64 1) = some (DPut s2 p (drow c { m with tries := m.tries + 1, at' := 1 } (s1.n + 1) qc)) := by
      simp only [stv_row r3, sy, reduceIte, Nat.reduceAdd, Nat.reduceLeDiff, Nat.reduceLT, Nat.reduceEqDiff, Int.reduceEq, Int.reduceLT, Int.reduceLE, Int.reduceNe, ly]
      rw [hs3, put_put]
    obtain ⟨ro, gc⟩ := h2.conf
    have np : qc ≠ p := by rintro rfl; unfold DRow at r2; rw [r2] at gc; simp at gc
    refine ⟨_, s1.n + 1, s1.n, ?_, ⟨put_d r2, at_dput hA2 r2, inv_m0 hC, ⟨ro, by rw [get_put_ne np]; exact gc⟩, by simp [m0]⟩, (o1.trans o2).trans (.put r2 (by simp [kd]))⟩
    simp only [read_Read_again.v, read_Read_again.t, sy, reduceIte, Nat.reduceAdd, Nat.reduceLeDiff, Nat.reduceLT, Nat.reduceEqDiff, Int.reduceEq, Int.reduceLT, Int.reduceLE, Int.reduceNe, ly, ldc_row hr, k1, ew, e1, ldc_row r1, lda_row r1, tg, e2, ldc_row r2, lda_row r2, sameI, same5, e3, e4]
def wakeD (c : RC) (m : RM) (ms : Mm) : RM × Mm := if m.at' = 3 then againM c m ms else (m, ms)
theorem wake_d {c : RC} {m : RM} {s : St} {p N b q qc : Nat} {ms : Mm} (hf : Fresh s) (hC : okC c.sk) (hb : 0 ≤ c.st.bt) (ht : 0 ≤ m.tries) (h : AtD c m s p N b q qc ms) :
    ∃ s' b' q', read_Read_Wake.v (P p) s = some (unit', s') ∧ AtD c (wakeD c m ms).1 s' p N b' q' qc (wakeD c m ms).2 ∧ StpO s s' := by
  have hr := h.row
  unfold wakeD
  rcases Classical.propComplete (m.at' = 3) with k1 | k1
  · rw [if_pos (of_eq_true k1)]
    obtain ⟨s', b', q', e1, h1, o1⟩ := again_d hf hC hb ht h
    exact ⟨s', b', q', by simp only [read_Read_Wake.v, read_Read_Wake.t, sy, reduceIte, Nat.reduceAdd, Nat.reduceLeDiff, Nat.reduceLT, Nat.reduceEqDiff, Int.reduceEq, Int.reduceLT, Int.reduceLE, Int.reduceNe, ly, ldc_row hr, k1, e1], h1, o1⟩
  · rw [if_neg (of_eq_false k1)]
    exact ⟨s, b, q, by simp only [read_Read_Wake.v, read_Read_Wake.t, sy, reduceIte, Nat.reduceAdd, Nat.reduceLeDiff, Nat.reduceLT, Nat.reduceEqDiff, Int.reduceEq, Int.reduceLT, Int.reduceLE, Int.reduceNe, ly, ldc_row hr, k1], h, .refl _ _⟩

/-! ### Next -/

def nextD (m : RM) (ms : Mm) : List Value :=
  if m.at' = 1 then nextC ms else if m.at' = 2 then stepC 1 m.x ⟨2, 0, 0, zR, zR, 0, 0⟩ zRes else if m.at' = 3 then stepC 2 zR zAsk zRes else stepV 3 zR zAsk m.res m.res.v
theorem next_d {c : RC} {m : RM} {s : St} {p N b q qc : Nat} {ms : Mm} (h : AtD c m s p N b q qc ms) (ha : 1 ≤ m.at' ∧ m.at' ≤ 4) : read_Read_Next.r (P p) s = some (.agg ⟨nextD m ms⟩) := by
  have hr := h.row
  have n1 := next_r h.hA
  unfold nextD
  rcases Classical.propComplete (m.at' = 1) with k1 | k1
  · rw [if_pos (of_eq_true k1)]
    have nc : (∃ k t a r, nextC ms = stepC k t a r) := by unfold nextC; split <;> exact ⟨_, _, _, _, rfl⟩
    obtain ⟨k, t, a, r, g⟩ := nc
    rw [g] at n1 ⊢
    simp only [read_Read_Next.r, read_Read_Next.t, read_Read_Next.t.p3, sy, reduceIte, Nat.reduceAdd, Nat.reduceLeDiff, Nat.reduceLT, Nat.reduceEqDiff, Int.reduceEq, Int.reduceLT, Int.reduceLE, Int.reduceNe, ly, ldc_row hr, k1, n1]
  · rw [if_neg (of_eq_false k1)]
    rcases Classical.propComplete (m.at' = 2) with k2 | k2
    · rw [if_pos (of_eq_true k2)]
      simp only [read_Read_Next.r, read_Read_Next.t, read_Read_Next.t.p3, read_Read_Next.t.p1, sy, reduceIte, Nat.reduceAdd, Nat.reduceLeDiff, Nat.reduceLT, Nat.reduceEqDiff, Int.reduceEq, Int.reduceLT, Int.reduceLE, Int.reduceNe, ly, ldc_row hr, lda_row hr, k1, k2]
    · rw [if_neg (of_eq_false k2)]
      rcases Classical.propComplete (m.at' = 3) with k3 | k3
      · rw [if_pos (of_eq_true k3)]
        simp only [read_Read_Next.r, read_Read_Next.t, read_Read_Next.t.p3, sy, reduceIte, Nat.reduceAdd, Nat.reduceLeDiff, Nat.reduceLT, Nat.reduceEqDiff, Int.reduceEq, Int.reduceLT, Int.reduceLE, Int.reduceNe, ly, ldc_row hr, lda_row hr, k1, k2, k3]
      · rw [if_neg (of_eq_false k3)]
        have k4 : (m.at' = 4) = True := eq_true (by have := of_eq_false k1; have := of_eq_false k2; have := of_eq_false k3; omega)
        simp only [read_Read_Next.r, read_Read_Next.t, read_Read_Next.t.p3, read_Read_Next.t.p2, sy, reduceIte, Nat.reduceAdd, Nat.reduceLeDiff, Nat.reduceLT, Nat.reduceEqDiff, Int.reduceEq, Int.reduceLT, Int.reduceLE, Int.reduceNe, ly, ldc_row hr, lda_row hr, k1, k2, k3, k4]

/-! ### New -/

theorem bx_ceil {qc : Nat} : bx (ceilV qc) = some [ceilV qc] := id rfl
def mD : RM := ⟨1, zR, 0, zRV⟩
theorem new_d {s : St} (hf : Fresh s) (c : RC) (hb : 0 ≤ c.st.bt) :
    (¬ okC c.sk ∧ ∃ s', read_New.v (.agg ⟨c.cs⟩) s = some (T2 (.pointer none) 170, s') ∧ More s s') ∨
    (okC c.sk ∧ ∃ s', read_New.v (.agg ⟨c.cs⟩) s = some (T2 (P (s.n + 3)) 0, s') ∧ AtD c mD s' (s.n + 3) 0 (s.n + 2) (s.n + 1) s.n (m0 c.sk) ∧ More s s') := by
  have e0 : alv s (.agg ⟨c.cs⟩) = some (P s.n, s.new (.row 8 [c.cs] false)) := rfl
  have m1 : More s (s.new (.row 8 [c.cs] false)) := .new
  have g1 : (s.new (.row 8 [c.cs] false)).get s.n = some (.row 8 [c.cs] false) := get_new_same
  have n1 : (s.new (.row 8 [c.cs] false)).n = s.n + 1 := rfl
  have f1 := m1.fresh hf
  generalize s.new (.row 8 [c.cs] false) = s1 at *
  have tg := target_r c s1
  rcases new_r f1 c.sk hb with ⟨hC, e2⟩ | ⟨hC, e2⟩
  · refine .inl ⟨hC, s1, ?_, m1⟩
    simp only [read_New.v, read_New.t, sy, reduceIte, Nat.reduceAdd, Nat.reduceLeDiff, Nat.reduceLT, Nat.reduceEqDiff, Int.reduceEq, Int.reduceLT, Int.reduceLE, Int.reduceNe, ly, e0, ldc_row g1, lda_row g1, tg, e2, sameI, same5]
  · right
    have hA2 := at_new f1 c.sk
    have mo : More s1 (N2 s1 c.sk) := More.new.trans .new
    have n2 : (N2 s1 c.sk).n = s1.n + 2 := rfl
    have f2 := mo.fresh f1
    have g2 := mo.get f1 g1
    generalize N2 s1 c.sk = s2 at *
    have m3 : ∀ X, More s2 (s2.new X) := fun X => .new
    obtain ⟨X, hX⟩ : ∃ X : List Value, X = (drow c mD (s1.n + 1) s.n).set 16 .nilFunc := ⟨_, rfl⟩
    have hX' := hX
    simp only [drow, mD, ly] at hX'
    have r3 : DRow (s2.new (.row 32 [X] false)) s2.n X := get_new_same
    have e3 : alv s2 (.agg ⟨X⟩) = some (P s2.n, s2.new (.row 32 [X] false)) := by rw [hX']; rfl
    rw [hX'] at r3 e3
    obtain ⟨s4, hs4⟩ : ∃ s4, s4 = DPut (s2.new (.row 32 [X] false)) s2.n (drow c mD (s1.n + 1) s.n) := ⟨_, rfl⟩
    have e4 : stv (s2.new (.row 32 [X] false)) 1 (.pointer (some ⟨s2.n, 0, some 16⟩)) (ceilV s.n) = some s4 := by
      rw [hs4, hX']; simp only [stv_row r3, stv_put r3, sy, reduceIte, Nat.reduceAdd, Nat.reduceLeDiff, Nat.reduceLT, Nat.reduceEqDiff, Int.reduceEq, Int.reduceLT, Int.reduceLE, Int.reduceNe, ly, mD, bx_ceil]
    have en : s2.n = s.n + 3 := by omega
    refine ⟨hC, s4, ?_, ?_, ?_⟩
    · rw [hX'] at e4
      rw [en] at e3 e4
      simp only [read_New.v, read_New.t, sy, reduceIte, Nat.reduceAdd, Nat.reduceLeDiff, Nat.reduceLT, Nat.reduceEqDiff, Int.reduceEq, Int.reduceLT, Int.reduceLE, Int.reduceNe, ly, e0, ldc_row g1, lda_row g1, tg, e2, sameI, same5, ldc_row g2, lda_row g2, e3, e4]
    · rw [hs4, ← en, show s.n + 2 = s1.n + 1 by omega, show s.n + 1 = s1.n by omega]
      have r3' : DRow (s2.new (.row 32 [X] false)) s2.n X := get_new_same
      refine ⟨put_d r3', at_dput ⟨(m3 _).get f2 hA2.row, (m3 _).get f2 hA2.map⟩ r3', inv_m0 hC, ⟨false, ?_⟩, by simp [m0]⟩
      rw [get_put_ne (by omega)]; exact (m3 _).get f2 g2
    · rw [hs4]
      exact ((m1.trans mo).trans (m3 _)).put (by omega)
/-- What holds of it at any time. -/
structure InvD (m : RM) : Prop where
  at' : 1 ≤ m.at' ∧ m.at' ≤ 4
  tr : 0 ≤ m.tries
theorem invD_sought {c : RC} {m : RM} {ms : Mm} (h : InvD m) : InvD (soughtM c m ms) := by
  unfold soughtM failM
  obtain ⟨h1, h2⟩ := h
  repeat' split
  all_goals exact ⟨by first | exact h1 | simp, h2⟩
theorem invD_tell {c : RC} {m : RM} {ms : Mm} {a : Ans} {x : Option Rf} (h : InvD m) : InvD (tellD c m ms a x).1 := by
  unfold tellD
  split
  · exact invD_sought h
  · split
    · unfold gotM
      split
      · exact ⟨by simp, h.tr⟩
      · split
        · unfold fnM
          split
          · exact invD_sought ⟨by simp, h.tr⟩
          · exact ⟨by simp, h.tr⟩
        · exact ⟨by simp [failM], h.tr⟩
    · exact h
theorem invD_wake {c : RC} {m : RM} {ms : Mm} (h : InvD m) : InvD (wakeD c m ms).1 := by
  unfold wakeD
  split
  · unfold againM
    split
    · exact ⟨by simp [failM], h.tr⟩
    · exact ⟨by simp, by have := h.tr; show 0 ≤ m.tries + 1; omega⟩
  · exact h
end Go.Proofs.YtjiknclbjbfdjaaGreat
