/-
  Bit, Prefix, Rest, Flip: the program's and the reference's.
-/
import Derived.Test.YteiagjbjokldgaaVecC
set_option linter.unusedSimpArgs false
set_option linter.unusedVariables false
set_option maxRecDepth 100000
namespace Go.Proofs.Yteiagjbjokldgaa
open Go.Sim Go.Sim.Bt
attribute [local congr] bdc cndc itec gdc gdSc gdUc

theorem i5 : ¬ ((5 : Int) = 0) := by omega
theorem i10 : ¬ ((10 : Int) = 0) := by omega

/-! ### The program -/

/-- Two results, the second a number. -/
abbrev T2 (v : Value) (e : Int) : Value := .tuple ⟨[v, .int .i64 e]⟩

theorem b64 {n b : Nat} (h1 : n ≤ 32) (h2 : b < 2 ^ n) : b < 2 ^ 64 := by
  have := pow32 h1; omega
/-! ### The reference -/

theorem rbits {n b : Nat} (s : St) (h1 : n ≤ 32) (h2 : b < 2 ^ n) : ∃ v s', leapfrogref01x_Bits.v (VV n b) s = some (v, s') ∧ IsI s' v (bl n b) :=
  ⟨_, _, bits_v s h1 h2, by have := @IsI.new s (bl n b) (2 * n); rwa [bl_length] at this⟩
theorem IsI.slc {s : St} {n e : Nat} {l : List Nat} {v : Value} (h : IsI s v l) (hv : ∃ b i e, v = .slice (some ⟨b, i, some 0⟩) l.length (2 * e) ∧ l.length ≤ e) {lo hi : Nat} (h1 : lo ≤ hi) (h2 : hi ≤ l.length) :
    ∃ u, Sim.slc s 1 v (some (.int .i64 (lo : Int))) (some (.int .i64 (hi : Int))) none = some u ∧ IsI s u ((l.take hi).drop lo) := by
  obtain ⟨b, i, e, rfl, he⟩ := hv
  rcases h with ⟨h, _⟩ | ⟨b', i', e', rows, ro, h, hg, hr⟩
  · cases h
  · cases h
    refine ⟨.slice (some ⟨b, i + lo, some 0⟩) (hi - lo) (2 * (e - lo)), ?_, .inr ⟨b, i + lo, 2 * (e - lo), rows, ro, by simp [List.length_drop, List.length_take]; omega, hg, fun j d hj => ?_⟩⟩
    · have a1 : (0 : Int) ≤ lo := by omega
      have a2 : (0 : Int) ≤ hi := by omega
      simp only [Sim.slc, optN, isNat, if_pos a1, if_pos a2, bds, Int.toNat_natCast, hg]
      rw [if_pos ⟨trivial, h1⟩, if_neg (by omega), if_pos (by omega), show 2 * e / 2 = e by omega]
    · rw [List.getElem?_drop, List.getElem?_take] at hj
      split at hj
      · rw [show i + lo + j = i + (lo + j) by omega]; exact hr _ _ hj
      · cases hj
theorem slc_lo {s : St} {sz b i len e : Nat} {rows : List (List Value)} {ro : Bool} (hg : s.get b = some (.row sz rows ro)) {hi : Nat} (h2 : hi ≤ len) (he : len ≤ e) :
    Sim.slc s sz (.slice (some ⟨b, i, some 0⟩) len (2 * e)) none (some (.int .i64 (hi : Int))) none = some (.slice (some ⟨b, i, some 0⟩) hi (2 * e)) := by
  have a2 : (0 : Int) ≤ hi := by omega
  simp only [Sim.slc, optN, isNat, if_pos a2, bds, Int.toNat_natCast, hg]
  rw [if_pos ⟨trivial, by omega⟩, if_neg (by omega), if_pos (by omega), show 2 * e / 2 = e by omega]
  simp
theorem slc_hi {s : St} {sz b i len e : Nat} {rows : List (List Value)} {ro : Bool} (hg : s.get b = some (.row sz rows ro)) {lo : Nat} (h2 : lo ≤ len) (he : len ≤ e) :
    Sim.slc s sz (.slice (some ⟨b, i, some 0⟩) len (2 * e)) (some (.int .i64 (lo : Int))) none none = some (.slice (some ⟨b, i + lo, some 0⟩) (len - lo) (2 * (e - lo))) := by
  have a2 : (0 : Int) ≤ lo := by omega
  simp only [Sim.slc, optN, isNat, if_pos a2, bds, Int.toNat_natCast, hg]
  rw [if_pos ⟨trivial, by omega⟩, if_neg (by omega), if_pos (by omega), show 2 * e / 2 = e by omega]
theorem get_bits {s : St} {n b : Nat} : (s.new (.row 1 (rowsI (bl n b)) false)).get s.n = some (.row 1 (rowsI (bl n b)) false) := get_new_same
theorem is_part {s : St} {n b i m e : Nat} (hm : i + m ≤ n) : IsI (s.new (.row 1 (rowsI (bl n b)) false)) (.slice (some ⟨s.n, i, some 0⟩) m e) (((bl n b).drop i).take m) :=
  .inr ⟨s.n, i, e, _, _, by simp [bl_length]; omega, get_bits, fun j d hj => by
    rw [List.getElem?_take] at hj
    split at hj
    · rw [List.getElem?_drop] at hj; exact rowsI_get hj
    · cases hj⟩

theorem rPrefix_no {L B i : Int} (s : St) (h : ¬ okV L B) (hB : 0 ≤ B) : leapfrogref01x_PrefixQ.r (VI L B) (.int .i64 i) s = some (T2 (VI 0 0) 10) := by
  refine frzR_of (s' := s.frz) ?_ rfl
  simp only [leapfrogref01x_Prefix.v, leapfrogref01x_Prefix.t, sy, reduceIte, Nat.reduceAdd, Nat.reduceLeDiff, Nat.reduceLT, Nat.reduceEqDiff, Int.reduceEq, Int.reduceLT, Int.reduceLE, Int.reduceNe, ly, rright_no s.frz h hB]
theorem rPrefix_out {n b : Nat} {i : Int} (s : St) (h1 : n ≤ 32) (h2 : b < 2 ^ n) (hi : ¬ (0 ≤ i ∧ i ≤ n)) : leapfrogref01x_PrefixQ.r (VV n b) (.int .i64 i) s = some (T2 (VI 0 0) 5) := by
  refine frzR_of (s' := s.frz) ?_ rfl
  by_cases h : i < 0
  · simp only [leapfrogref01x_Prefix.v, leapfrogref01x_Prefix.t, sy, reduceIte, Nat.reduceAdd, Nat.reduceLeDiff, Nat.reduceLT, Nat.reduceEqDiff, Int.reduceEq, Int.reduceLT, Int.reduceLE, Int.reduceNe, ly, rright_ok s.frz h1 h2, h]
  · have h3 : (n : Int) < i := by omega
    simp only [leapfrogref01x_Prefix.v, leapfrogref01x_Prefix.t, sy, reduceIte, Nat.reduceAdd, Nat.reduceLeDiff, Nat.reduceLT, Nat.reduceEqDiff, Int.reduceEq, Int.reduceLT, Int.reduceLE, Int.reduceNe, ly, rright_ok s.frz h1 h2, h, h3]
theorem rPrefix_ok {n b i : Nat} (s : St) (h1 : n ≤ 32) (h2 : b < 2 ^ n) (hi : i ≤ n) : leapfrogref01x_PrefixQ.r (VV n b) (.int .i64 i) s = some (T2 (VV i (b / 2 ^ (n - i))) 0) := by
  have h : ¬ ((i : Int) < 0) := by omega
  have h3 : ¬ ((n : Int) < i) := by omega
  have e1 := @slc_lo _ 1 s.frz.n 0 n n _ _ (@get_bits s.frz n b) i hi (Nat.le_refl _)
  have e2 := @is_part s.frz n b 0 i (2 * n) (by omega)
  rw [List.drop_zero, take_bl hi] at e2
  have e3 := of_r e2 (fun d => bl_lt) (by rw [bl_length]; omega)
  rw [bl_length, ofBits_bl (div_lt_pow h2 hi)] at e3
  refine frzR_of (s' := s.frz.new (.row 1 (rowsI (bl n b)) false)) ?_ rfl
  simp only [leapfrogref01x_Prefix.v, leapfrogref01x_Prefix.t, sy, reduceIte, Nat.reduceAdd, Nat.reduceLeDiff, Nat.reduceLT, Nat.reduceEqDiff, Int.reduceEq, Int.reduceLT, Int.reduceLE, Int.reduceNe, ly, rright_ok s.frz h1 h2, h, h3, bits_v s.frz h1 h2, e1, e3]
end Go.Proofs.Yteiagjbjokldgaa
