/-
  Common, Compare, Begins: the program's and the reference's.
-/
import Derived.Test.YteafgjpbfhjbjaaGreatVecD
set_option linter.unusedSimpArgs false
set_option linter.unusedVariables false
set_option maxRecDepth 100000
namespace Go.Proofs.YteafgjpbfhjbjaaGreat
open Go.Sim Go.Sim.Bt
attribute [local congr] bdc cndc itec gdc gdSc gdUc
def nb (x : Nat) : Nat := ((List.range 9).find? fun k => decide (x < 2 ^ k)).getD 9
theorem two_bits {n b m c : Nat} (s : St) (hf : Fresh s) (h1 : n ≤ 32) (h2 : b < 2 ^ n) (h3 : m ≤ 32) (h4 : c < 2 ^ m) : ∃ u v s1 s2, r01Bits.v (VV n b) s = some (u, s1) ∧ r01Bits.v (VV m c) s1 = some (v, s2) ∧ More s s2 ∧ IsI s2 u (bl n b) ∧ IsI s2 v (bl m c) := by
  obtain ⟨u, s1, e1, m1, i1⟩ := bits_is s h1 h2
  obtain ⟨v, s2, e2, m2, i2⟩ := bits_is s1 h3 h4
  exact ⟨u, v, s1, s2, e1, e2, m1.trans m2, i1.more m2 (m1.fresh hf), i2⟩
theorem rBegins_ok {n b m c : Nat} (s : St) (hf : Fresh s) (h1 : n ≤ 32) (h2 : b < 2 ^ n) (h3 : m ≤ 32) (h4 : c < 2 ^ m) : r01BeginsQ.r (VV n b) (VV m c) s = some (.bool (decide (m ≤ n ∧ b / 2 ^ (n - m) = c))) := by
  obtain ⟨u, v, s1, s2, e1, e2, _, i1, i2⟩ := two_bits s.frz hf.frz h1 h2 h3 h4
  refine frzR_of (s' := s2) ?_ rfl
  by_cases h5 : m ≤ n ∧ b / 2 ^ (n - m) = c
  · have e3 : (lcp (bl n b) (bl m c) : Int) = m := by have := (lcp_eq_len h2 h4).2 h5; omega
    simp only [r01Begins.v, r01Begins.t, sy, reduceIte, Nat.reduceAdd, Nat.reduceLeDiff, Nat.reduceLT, Nat.reduceEqDiff, Int.reduceEq, Int.reduceLT, Int.reduceLE, Int.reduceNe, ly, rright_ok s.frz h1 h2, rright_ok s.frz h3 h4, e1, e2, common_r i1 i2 (by rw [bl_length]; omega), e3, h5]
  · have e3 : ¬ ((lcp (bl n b) (bl m c) : Int) = m) := fun e => h5 ((lcp_eq_len h2 h4).1 (by omega))
    simp only [r01Begins.v, r01Begins.t, sy, reduceIte, Nat.reduceAdd, Nat.reduceLeDiff, Nat.reduceLT, Nat.reduceEqDiff, Int.reduceEq, Int.reduceLT, Int.reduceLE, Int.reduceNe, ly, rright_ok s.frz h1 h2, rright_ok s.frz h3 h4, e1, e2, common_r i1 i2 (by rw [bl_length]; omega), e3, h5]
theorem rBegins_no {L B M C : Int} (s : St) (h : ¬ (okV L B ∧ okV M C)) (hB : 0 ≤ B) (hC : 0 ≤ C) : r01BeginsQ.r (VI L B) (VI M C) s = some (.bool false) := by
  refine frzR_of (s' := s.frz) ?_ rfl
  by_cases hk : okV L B
  · have hk2 : ¬ okV M C := fun x => h ⟨hk, x⟩
    obtain ⟨n, b, rfl, rfl, h1, h2⟩ := hk
    simp only [r01Begins.v, r01Begins.t, sy, reduceIte, Nat.reduceAdd, Nat.reduceLeDiff, Nat.reduceLT, Nat.reduceEqDiff, Int.reduceEq, Int.reduceLT, Int.reduceLE, Int.reduceNe, ly, rright_ok s.frz h1 h2, rright_no s.frz hk2 hC]
  · simp only [r01Begins.v, r01Begins.t, sy, reduceIte, Nat.reduceAdd, Nat.reduceLeDiff, Nat.reduceLT, Nat.reduceEqDiff, Int.reduceEq, Int.reduceLT, Int.reduceLE, Int.reduceNe, ly, rright_no s.frz hk hB]
theorem begins_no {L B M C : Int} (s : St) (h : ¬ (okV L B ∧ okV M C)) (hB : 0 ≤ B) (hC : 0 ≤ C) : vec_Begins.r (VI L B) (VI M C) s = some (.bool false) := by
  by_cases hk : okV L B
  · have hk2 : ¬ okV M C := fun x => h ⟨hk, x⟩
    obtain ⟨n, b, rfl, rfl, h1, h2⟩ := hk
    exact begins_no2 s h1 h2 hk2 hC
  · exact begins_no1 s rfl hk hB
end Go.Proofs.YteafgjpbfhjbjaaGreat
