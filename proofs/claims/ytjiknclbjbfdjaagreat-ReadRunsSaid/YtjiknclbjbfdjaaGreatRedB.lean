/-
  The machine of package read: the callback, got, Tell.
-/
import Derived.Test.YtjiknclbjbfdjaaGreatRedA
import Derived.Test.YtjiknclbjbfdjaaGreatSekF
set_option linter.unusedSimpArgs false
set_option linter.unusedVariables false
set_option maxRecDepth 100000
set_option maxHeartbeats 2000000
namespace Go.Proofs.YtjiknclbjbfdjaaGreat
open Go.Sim Go.Sim.Bt
attribute [local congr] bdc cndc itec gdc gdSc gdUc

theorem callV_st {C : Ctx} {f : Nat} {g : List Value → St → Option (Value × St)} {a x c : List Value} {s : St} (h : Sim.lookC C f = some (.st g)) : callV C (.func (.func f) ⟨a⟩ ⟨c⟩) x s = g (a ++ x ++ c) s := by
  simp only [callV, h]
theorem sameP {b : Nat} : sameV (P b) (P b) = true := by simp [sameV]
/-- What the search's steps leave of other rows. -/
theorem stq_row {c : Cf} {m : Mm} {s s' : St} {b q : Nat} (hA : At c m s b q) (k : Stq b q s s') {x n : Nat} {rows : List (List Value)} {ro : Bool} (hx : s.get x = some (.row n rows ro)) (hn : n ≠ 40) : s'.get x = some (.row n rows ro) := by
  rw [k.1 x ?_ ?_]
  · exact hx
  · rintro rfl
    have h1 := hA.row
    unfold Row at h1
    rw [hx] at h1
    simp at h1
    exact hn h1.1
  · rintro rfl
    have h1 := hA.map
    rw [hx] at h1
    simp at h1
theorem at_dput {c : Cf} {m : Mm} {s : St} {b q p : Nat} {X Y : List Value} (hA : At c m s b q) (h : DRow s p X) : At c m (DPut s p Y) b q := by
  refine ⟨?_, ?_⟩
  · show St.get _ _ = _
    rw [get_put_ne ?_]; exact hA.row
    rintro rfl
    have h1 := hA.row
    unfold Row at h1
    unfold DRow at h
    rw [h] at h1
    simp at h1
  · rw [get_put_ne ?_]; exact hA.map
    rintro rfl
    have h1 := hA.map
    unfold DRow at h
    rw [h] at h1
    simp at h1
/-- Rows that are neither the machine's, the search's nor the map. -/
def StpD (p b q : Nat) (s s' : St) : Prop := (∀ x, x ≠ p → x ≠ b → x ≠ q → s'.get x = s.get x) ∧ s'.n = s.n ∧ (Fresh s → Fresh s')
theorem StpD.trans {p b q : Nat} {s s1 s2 : St} (h : StpD p b q s s1) (k : StpD p b q s1 s2) : StpD p b q s s2 :=
  ⟨fun x h1 h2 h3 => (k.1 x h1 h2 h3).trans (h.1 x h1 h2 h3), k.2.1.trans h.2.1, fun f => k.2.2 (h.2.2 f)⟩
theorem StpD.put {p b q : Nat} {s : St} {x : Blk} : StpD p b q s (s.put p x) := ⟨fun _ h _ _ => get_put_ne h, rfl, fun f => f.put⟩
theorem StpD.stq {p b q : Nat} {s s' : St} (k : Stq b q s s') : StpD p b q s s' := ⟨fun x _ h2 h3 => k.1 x h2 h3, k.2.1, k.2.2⟩
theorem StpD.refl (p b q : Nat) (s : St) : StpD p b q s s := ⟨fun _ _ _ _ => rfl, rfl, id⟩
theorem dead_tab {m : Mm} (a : Ans) : (deadF m a).tab.length ≤ m.tab.length + 1 := by
  unfold deadF
  split
  · simp only []
    split <;> exact upd_len _ _ _
  · omega
/-- What the callback makes of it: it waits, or, if who was asked is dead, the search goes on. -/
def fnM (c : RC) (m : RM) (ms : Mm) (a : Ans) : RM × Mm :=
  if a.k = 3 then (soughtM c { m with at' := 1 } (deadF ms a), deadF ms a) else ({ m with at' := 3 }, ms)
theorem fn1_r {s : St} {p b q qc qm qa : Nat} {c : RC} {m : RM} {ms : Mm} {roa : Bool} (hf : Fresh s) (h : DRow s p (drow c m b qc)) (hA : At c.sk ms s b q) (hi : InvS ms) (a : Ans)
    (hm : s.get qm = some (.row 1 [[P p]] false)) (ha : s.get qa = some (.row 13 [a.cs] roa)) :
    ∃ s', read_Read_got_fn1.v (P qm) (P qa) s = some (unit', s') ∧ DRow s' p (drow c (fnM c m ms a).1 b qc) ∧ At c.sk (fnM c m ms a).2 s' b q ∧ StpD p b q s s' := by
  have hmp : qm ≠ p := by rintro rfl; have h2 := h; unfold DRow at h2; rw [hm] at h2; simp at h2
  have hap : qa ≠ p := by rintro rfl; have h2 := h; unfold DRow at h2; rw [ha] at h2; simp at h2
  obtain ⟨s1, hs1⟩ : ∃ s1, s1 = DPut s p (drow c { m with at' := 3 } b qc) := ⟨_, rfl⟩
  have e1 : stv s 1 (.pointer (some ⟨p, 0, some 8⟩)) (.int .i64 3) = some s1 := by
    rw [hs1]; simp only [stv_row h, sy, reduceIte, Nat.reduceAdd, Nat.reduceLeDiff, Nat.reduceLT, Nat.reduceEqDiff, Int.reduceEq, Int.reduceLT, Int.reduceLE, Int.reduceNe, ly]
  have h1 : DRow s1 p (drow c { m with at' := 3 } b qc) := by rw [hs1]; exact put_d h
  have hA1 : At c.sk ms s1 b q := by rw [hs1]; exact at_dput hA h
  have hm1 : s1.get qm = some (.row 1 [[P p]] false) := by rw [hs1, get_put_ne hmp]; exact hm
  have ha1 : s1.get qa = some (.row 13 [a.cs] roa) := by rw [hs1, get_put_ne hap]; exact ha
  have st1 : StpD p b q s s1 := by rw [hs1]; exact .put
  rcases Classical.propComplete (a.k = 3) with k3 | k3
  · rw [show fnM c m ms a = (soughtM c { m with at' := 1 } (deadF ms a), deadF ms a) by unfold fnM; rw [if_pos (of_eq_true k3)]]
    obtain ⟨s2, e2, hA2, st2⟩ := dead_f hA1 hi.n0 a
    have h2 : DRow s2 p (drow c { m with at' := 3 } b qc) := stq_row hA1 st2 h1 (by omega)
    have hm2 := stq_row hA1 st2 hm1 (by omega)
    obtain ⟨s3, hs3⟩ : ∃ s1, s1 = DPut s2 p (drow c { m with at' := 1 } b qc) := ⟨_, rfl⟩
    have e3 : stv s2 1 (.pointer (some ⟨p, 0, some 8⟩)) (.int .i64 1) = some s3 := by
      rw [hs3]; simp only [stv_row h2, sy, reduceIte, Nat.reduceAdd, Nat.reduceLeDiff, Nat.reduceLT, Nat.reduceEqDiff, Int.reduceEq, Int.reduceLT, Int.reduceLE, Int.reduceNe, ly]
    have h3 : DRow s3 p (drow c { m with at' := 1 } b qc) := by rw [hs3]; exact put_d h2
    have hA3 : At c.sk (deadF ms a) s3 b q := by rw [hs3]; exact at_dput hA2 h2
    have hm3 : s3.get qm = some (.row 1 [[P p]] false) := by rw [hs3, get_put_ne hmp]; exact hm2
    have st3 : StpD p b q s2 s3 := by rw [hs3]; exact .put
    obtain ⟨s4, e4, g⟩ := rd_sought h3 hA3
    have ex : read_Read_got_fn1.v (P qm) (P qa) s = some (unit', s4) := by
      simp only [read_Read_got_fn1.v, read_Read_got_fn1.t, sy, reduceIte, Nat.reduceAdd, Nat.reduceLeDiff, Nat.reduceLT, Nat.reduceEqDiff, Int.reduceEq, Int.reduceLT, Int.reduceLE, Int.reduceNe, ly, ldc_row hm, e1, ldc_row ha1, lda_row ha1, k3, ldc_row hm1, ldc_row h1, e2, ldc_row hm2, sameP, e3, ldc_row hm3, e4]
    rcases g with ⟨rfl, g⟩ | rfl
    · exact ⟨s4, ex, by rw [g]; exact h3, hA3, (st1.trans (.stq st2)).trans st3⟩
    · exact ⟨_, ex, put_d h3, at_dput hA3 h3, ((st1.trans (.stq st2)).trans st3).trans .put⟩
  · rw [show fnM c m ms a = ({ m with at' := 3 }, ms) by unfold fnM; rw [if_neg (of_eq_false k3)]]
    refine ⟨s1, ?_, h1, hA1, st1⟩
    simp only [read_Read_got_fn1.v, read_Read_got_fn1.t, sy, reduceIte, Nat.reduceAdd, Nat.reduceLeDiff, Nat.reduceLT, Nat.reduceEqDiff, Int.reduceEq, Int.reduceLT, Int.reduceLE, Int.reduceNe, ly, ldc_row hm, e1, ldc_row ha1, k3]
theorem inv_fnM {c : RC} {m : RM} {ms : Mm} (h : InvS ms) (a : Ans) : InvS (fnM c m ms a).2 := by
  unfold fnM
  split
  · exact inv_deadF h a
  · exact h
theorem fnM_tab {c : RC} {m : RM} {ms : Mm} (a : Ans) : (fnM c m ms a).2.tab.length ≤ ms.tab.length + 1 := by
  unfold fnM
  split
  · exact dead_tab a
  · show ms.tab.length ≤ _; omega
end Go.Proofs.YtjiknclbjbfdjaaGreat
