/-
  Common, Compare, Begins: the program's and the reference's.
-/
import Derived.Test.YteiagjbjokldgaaVecD
set_option linter.unusedSimpArgs false
set_option linter.unusedVariables false
set_option maxRecDepth 100000
namespace Go.Proofs.Yteiagjbjokldgaa
open Go.Sim Go.Sim.Bt
attribute [local congr] bdc cndc itec gdc gdSc gdUc

/-! ### math/bits.Len64 -/

def len8 : List UInt8 := (List.append (List.append [0, 1, 2, 2, 3, 3, 3, 3, 4, 4, 4, 4, 4, 4, 4, 4, 5, 5, 5, 5, 5, 5, 5, 5, 5, 5, 5, 5, 5, 5, 5, 5, 6, 6, 6, 6, 6, 6, 6, 6, 6, 6, 6, 6, 6, 6, 6, 6, 6, 6, 6, 6, 6, 6, 6, 6, 6, 6, 6, 6, 6, 6, 6, 6] [7, 7, 7, 7, 7, 7, 7, 7, 7, 7, 7, 7, 7, 7, 7, 7, 7, 7, 7, 7, 7, 7, 7, 7, 7, 7, 7, 7, 7, 7, 7, 7, 7, 7, 7, 7, 7, 7, 7, 7, 7, 7, 7, 7, 7, 7, 7, 7, 7, 7, 7, 7, 7, 7, 7, 7, 7, 7, 7, 7, 7, 7, 7, 7]) (List.append [8, 8, 8, 8, 8, 8, 8, 8, 8, 8, 8, 8, 8, 8, 8, 8, 8, 8, 8, 8, 8, 8, 8, 8, 8, 8, 8, 8, 8, 8, 8, 8, 8, 8, 8, 8, 8, 8, 8, 8, 8, 8, 8, 8, 8, 8, 8, 8, 8, 8, 8, 8, 8, 8, 8, 8, 8, 8, 8, 8, 8, 8, 8, 8] [8, 8, 8, 8, 8, 8, 8, 8, 8, 8, 8, 8, 8, 8, 8, 8, 8, 8, 8, 8, 8, 8, 8, 8, 8, 8, 8, 8, 8, 8, 8, 8, 8, 8, 8, 8, 8, 8, 8, 8, 8, 8, 8, 8, 8, 8, 8, 8, 8, 8, 8, 8, 8, 8, 8, 8, 8, 8, 8, 8, 8, 8, 8, 8]))
def nb (x : Nat) : Nat := ((List.range 9).find? fun k => decide (x < 2 ^ k)).getD 9
theorem nb_blen {x : Nat} (h : x < 256) : nb x = blen x := by
  have h1 : x < 2 ^ (blen x) := blen_le.1 (Nat.le_refl _)
  have h2 : blen x ≤ 8 := blen_le.2 (by omega)
  have h3 : ∀ k, k < blen x → ¬ x < 2 ^ k := fun k hk hc => by have := blen_le.2 hc; omega
  unfold nb
  generalize blen x = m at *
  have hm : m = 0 ∨ m = 1 ∨ m = 2 ∨ m = 3 ∨ m = 4 ∨ m = 5 ∨ m = 6 ∨ m = 7 ∨ m = 8 := by omega
  have e : (List.range 9).find? (fun k => decide (x < 2 ^ k)) = some m := by
    rw [List.find?_eq_some_iff_getElem]
    refine ⟨by simpa using h1, m, by simp; omega, by simp, fun j hj => ?_⟩
    simpa using h3 j hj
  rw [e]; rfl
theorem len8_tab : ∀ x : Fin 256, len8[x.val]? = some (UInt8.ofNat (nb x.val)) := by decide +kernel
theorem len8_get {x : Nat} (h : x < 256) : len8[x]? = some (UInt8.ofNat (blen x)) := by
  rw [← nb_blen h]; exact len8_tab ⟨x, h⟩
theorem blen_div {x k : Nat} (h : 2 ^ k ≤ x) : blen x = k + blen (x / 2 ^ k) := by
  apply Nat.le_antisymm
  · rw [blen_le, Nat.pow_add, Nat.mul_comm, ← Nat.div_lt_iff_lt_mul (Nat.two_pow_pos k)]
    exact blen_le.1 (Nat.le_refl _)
  · have h1 : x < 2 ^ blen x := blen_le.1 (Nat.le_refl _)
    have hk : k < blen x := by
      rcases Nat.lt_or_ge k (blen x) with h2 | h2
      · exact h2
      · have := Nat.pow_le_pow_right (n := 2) (by omega) h2; omega
    have : blen (x / 2 ^ k) ≤ blen x - k := by
      rw [blen_le, Nat.div_lt_iff_lt_mul (Nat.two_pow_pos k), ← Nat.pow_add, show blen x - k + k = blen x by omega]
      exact h1
    omega
theorem len64_s (x : Nat) (s : St) (h : x < 2 ^ 8) (n : Nat) (hn : n ≤ 100) : ((cvi .u8 (.int .u64 (x : Int))).bind fun x20 => (idxS (.string ⟨⟨len8⟩⟩) x20).bind fun x21 => (cvi .i64 x21).bind fun x22 => (bin .add (.int .i64 (n : Int)) x22).bind fun x23 => some x23) = some (.int .i64 ((n + blen x : Nat) : Int)) := by
  have e1 : IntKind.u8.wrap (x : Int) = x := wrapu8 (by omega) (by omega)
  have h2 : blen x ≤ 8 := blen_le.2 (by omega)
  have e2 : idxS (.string ⟨⟨len8⟩⟩) (.int .u8 (x : Int)) = some (.int .u8 (blen x)) := by
    rw [idxS_str (by omega)]
    simp only [Int.toNat_natCast, len8_get (show x < 256 by omega), Option.map_some]
    congr 2
    generalize blen x = m at *
    simp only [UInt8.toNat_ofNat']
    omega
  have e3 : IntKind.i64.wrap (blen x : Int) = blen x := wrap64 (by omega) (by omega)
  have e4 : IntKind.i64.wrap ((n : Int) + blen x) = ((n + blen x : Nat) : Int) := by rw [wrap64 (by omega) (by omega)]; omega
  simp only [sy, reduceIte, Nat.reduceAdd, Nat.reduceLeDiff, Nat.reduceLT, Nat.reduceEqDiff, Int.reduceEq, Int.reduceLT, Int.reduceLE, Int.reduceNe, ly, e1, e2, e3, e4]
/-! ### The program -/

/-- Which of two whole numbers stands first. -/
abbrev cmpI (a b : Int) : Int := cmpN a b
/-- .. of two vectors. -/
def cmpV (n b m c : Nat) : Int :=
  if lcp (bl n b) (bl m c) < min n m then cmpI ((b / 2 ^ (n - 1 - lcp (bl n b) (bl m c)) % 2 : Nat) : Int) ((c / 2 ^ (m - 1 - lcp (bl n b) (bl m c)) % 2 : Nat) : Int)
  else cmpI n m
/-! ### The reference -/

theorem two_bits {n b m c : Nat} (s : St) (hf : Fresh s) (h1 : n ≤ 32) (h2 : b < 2 ^ n) (h3 : m ≤ 32) (h4 : c < 2 ^ m) : ∃ u v s1 s2, leapfrogref01x_Bits.v (VV n b) s = some (u, s1) ∧ leapfrogref01x_Bits.v (VV m c) s1 = some (v, s2) ∧ More s s2 ∧ IsI s2 u (bl n b) ∧ IsI s2 v (bl m c) := by
  obtain ⟨u, s1, e1, m1, i1⟩ := bits_is s h1 h2
  obtain ⟨v, s2, e2, m2, i2⟩ := bits_is s1 h3 h4
  exact ⟨u, v, s1, s2, e1, e2, m1.trans m2, i1.more m2 (m1.fresh hf), i2⟩
theorem rBegins_ok {n b m c : Nat} (s : St) (hf : Fresh s) (h1 : n ≤ 32) (h2 : b < 2 ^ n) (h3 : m ≤ 32) (h4 : c < 2 ^ m) : leapfrogref01x_BeginsQ.r (VV n b) (VV m c) s = some (.bool (decide (m ≤ n ∧ b / 2 ^ (n - m) = c))) := by
  obtain ⟨u, v, s1, s2, e1, e2, _, i1, i2⟩ := two_bits s.frz hf.frz h1 h2 h3 h4
  refine frzR_of (s' := s2) ?_ rfl
  by_cases h5 : m ≤ n ∧ b / 2 ^ (n - m) = c
  · have e3 : (lcp (bl n b) (bl m c) : Int) = m := by have := (lcp_eq_len h2 h4).2 h5; omega
    simp only [leapfrogref01x_Begins.v, leapfrogref01x_Begins.t, sy, reduceIte, Nat.reduceAdd, Nat.reduceLeDiff, Nat.reduceLT, Nat.reduceEqDiff, Int.reduceEq, Int.reduceLT, Int.reduceLE, Int.reduceNe, ly, rright_ok s.frz h1 h2, rright_ok s.frz h3 h4, e1, e2, common_r i1 i2 (by rw [bl_length]; omega), e3, h5]
  · have e3 : ¬ ((lcp (bl n b) (bl m c) : Int) = m) := fun e => h5 ((lcp_eq_len h2 h4).1 (by omega))
    simp only [leapfrogref01x_Begins.v, leapfrogref01x_Begins.t, sy, reduceIte, Nat.reduceAdd, Nat.reduceLeDiff, Nat.reduceLT, Nat.reduceEqDiff, Int.reduceEq, Int.reduceLT, Int.reduceLE, Int.reduceNe, ly, rright_ok s.frz h1 h2, rright_ok s.frz h3 h4, e1, e2, common_r i1 i2 (by rw [bl_length]; omega), e3, h5]
theorem rBegins_no {L B M C : Int} (s : St) (h : ¬ (okV L B ∧ okV M C)) (hB : 0 ≤ B) (hC : 0 ≤ C) : leapfrogref01x_BeginsQ.r (VI L B) (VI M C) s = some (.bool false) := by
  refine frzR_of (s' := s.frz) ?_ rfl
  by_cases hk : okV L B
  · have hk2 : ¬ okV M C := fun x => h ⟨hk, x⟩
    obtain ⟨n, b, rfl, rfl, h1, h2⟩ := hk
    simp only [leapfrogref01x_Begins.v, leapfrogref01x_Begins.t, sy, reduceIte, Nat.reduceAdd, Nat.reduceLeDiff, Nat.reduceLT, Nat.reduceEqDiff, Int.reduceEq, Int.reduceLT, Int.reduceLE, Int.reduceNe, ly, rright_ok s.frz h1 h2, rright_no s.frz hk2 hC]
  · simp only [leapfrogref01x_Begins.v, leapfrogref01x_Begins.t, sy, reduceIte, Nat.reduceAdd, Nat.reduceLeDiff, Nat.reduceLT, Nat.reduceEqDiff, Int.reduceEq, Int.reduceLT, Int.reduceLE, Int.reduceNe, ly, rright_no s.frz hk hB]
theorem begins_no {L B M C : Int} (s : St) (h : ¬ (okV L B ∧ okV M C)) (hB : 0 ≤ B) (hC : 0 ≤ C) : vec_Begins.r (VI L B) (VI M C) s = some (.bool false) := by
  by_cases hk : okV L B
  · have hk2 : ¬ okV M C := fun x => h ⟨hk, x⟩
    obtain ⟨n, b, rfl, rfl, h1, h2⟩ := hk
    exact begins_no2 s h1 h2 hk2 hC
  · exact begins_no1 s rfl hk hB
theorem lcp_differ {n m b c : Nat} (h2 : b < 2 ^ n) (h4 : c < 2 ^ m) (hn : lcp (bl n b) (bl m c) < n) (hm : lcp (bl n b) (bl m c) < m) :
    b / 2 ^ (n - 1 - lcp (bl n b) (bl m c)) % 2 ≠ c / 2 ^ (m - 1 - lcp (bl n b) (bl m c)) % 2 := by
  intro e
  have key := @le_lcp_bl n m b c (lcp (bl n b) (bl m c) + 1) h2 h4
  have k0 := (@le_lcp_bl n m b c (lcp (bl n b) (bl m c)) h2 h4).1 (Nat.le_refl _)
  generalize lcp (bl n b) (bl m c) = k at *
  have : k + 1 ≤ k := key.2 ⟨hn, hm, by
    have a1 := k0.2.2
    rw [show n - k = (n - 1 - k) + 1 by omega, show m - k = (m - 1 - k) + 1 by omega, Nat.pow_succ, Nat.pow_succ, ← Nat.div_div_eq_div_mul, ← Nat.div_div_eq_div_mul] at a1
    rw [show n - (k + 1) = n - 1 - k by omega, show m - (k + 1) = m - 1 - k by omega]
    omega⟩
  omega
theorem rCompare_ok {n b m c : Nat} (s : St) (hf : Fresh s) (h1 : n ≤ 32) (h2 : b < 2 ^ n) (h3 : m ≤ 32) (h4 : c < 2 ^ m) : leapfrogref01x_CompareQ.r (VV n b) (VV m c) s = some (T2 (.int .i64 (cmpV n b m c)) 0) := by
  obtain ⟨u, v, s1, s2, e1, e2, _, i1, i2⟩ := two_bits s.frz hf.frz h1 h2 h3 h4
  refine frzR_of (s' := s2) ?_ rfl
  have c0 := common_r i1 i2 (by rw [bl_length]; omega)
  have l1 := i1.len
  have l2 := i2.len
  rw [bl_length] at l1 l2
  have hd := @lcp_differ n m b c h2 h4
  have hl1 := lcp_le_left (bl n b) (bl m c)
  have hl2 := lcp_le_right (bl n b) (bl m c)
  rw [bl_length] at hl1 hl2
  unfold cmpV cmpI cmpN
  generalize lcp (bl n b) (bl m c) = k at *
  by_cases a1 : k = n
  · have a1' : (k : Int) = n := by omega
    have a3 : ¬ k < min n m := by omega
    by_cases a2 : k = m
    · subst a1
      subst a2
      simp only [leapfrogref01x_Compare.v, leapfrogref01x_Compare.t, sy, reduceIte, Nat.reduceAdd, Nat.reduceLeDiff, Nat.reduceLT, Nat.reduceEqDiff, Int.reduceEq, Int.reduceLT, Int.reduceLE, Int.reduceNe, ly, rright_ok s.frz h1 h2, rright_ok s.frz h3 h4, e1, e2, c0, l1, l2, a3, Int.lt_irrefl]
    · have a2' : ¬ ((k : Int) = m) := by omega
      have a2'' : ¬ ((n : Int) = m) := by omega
      have a4 : (n : Int) < m := by omega
      simp only [leapfrogref01x_Compare.v, leapfrogref01x_Compare.t, sy, reduceIte, Nat.reduceAdd, Nat.reduceLeDiff, Nat.reduceLT, Nat.reduceEqDiff, Int.reduceEq, Int.reduceLT, Int.reduceLE, Int.reduceNe, ly, rright_ok s.frz h1 h2, rright_ok s.frz h3 h4, e1, e2, c0, l1, l2, a1', a2', a2'', a3, a4]
  · have a1' : ¬ ((k : Int) = n) := by omega
    by_cases a2 : k = m
    · have a2' : (k : Int) = m := by omega
      have a3 : ¬ k < min n m := by omega
      have a4 : ¬ ((n : Int) < m) := by omega
      have a5 : (m : Int) < n := by omega
      have a6 : ¬ ((m : Int) = n) := by omega
      simp only [leapfrogref01x_Compare.v, leapfrogref01x_Compare.t, sy, reduceIte, Nat.reduceAdd, Nat.reduceLeDiff, Nat.reduceLT, Nat.reduceEqDiff, Int.reduceEq, Int.reduceLT, Int.reduceLE, Int.reduceNe, ly, rright_ok s.frz h1 h2, rright_ok s.frz h3 h4, e1, e2, c0, l1, l2, a1', a2', a3, a4, a5, a6]
    · have a2' : ¬ ((k : Int) = m) := by omega
      have a3 : k < min n m := by omega
      obtain ⟨p, p1, p2⟩ := i1.at (@bl_get n b k (by omega))
      obtain ⟨q, q1, q2⟩ := i2.at (@bl_get m c k (by omega))
      have hd := hd (by omega) (by omega)
      by_cases a4 : b / 2 ^ (n - 1 - k) % 2 < c / 2 ^ (m - 1 - k) % 2
      · have a5 : ((b / 2 ^ (n - 1 - k) % 2 : Nat) : Int) < ((c / 2 ^ (m - 1 - k) % 2 : Nat) : Int) := by omega
        simp only [leapfrogref01x_Compare.v, leapfrogref01x_Compare.t, sy, reduceIte, Nat.reduceAdd, Nat.reduceLeDiff, Nat.reduceLT, Nat.reduceEqDiff, Int.reduceEq, Int.reduceLT, Int.reduceLE, Int.reduceNe, ly, rright_ok s.frz h1 h2, rright_ok s.frz h3 h4, e1, e2, c0, l1, l2, a1', a2', p1, p2, q1, q2, a3, a5]
      · have a5 : ¬ (((b / 2 ^ (n - 1 - k) % 2 : Nat) : Int) < ((c / 2 ^ (m - 1 - k) % 2 : Nat) : Int)) := by omega
        have a6 : ((c / 2 ^ (m - 1 - k) % 2 : Nat) : Int) < ((b / 2 ^ (n - 1 - k) % 2 : Nat) : Int) := by omega
        simp only [leapfrogref01x_Compare.v, leapfrogref01x_Compare.t, sy, reduceIte, Nat.reduceAdd, Nat.reduceLeDiff, Nat.reduceLT, Nat.reduceEqDiff, Int.reduceEq, Int.reduceLT, Int.reduceLE, Int.reduceNe, ly, rright_ok s.frz h1 h2, rright_ok s.frz h3 h4, e1, e2, c0, l1, l2, a1', a2', p1, p2, q1, q2, a3, a5, a6]
theorem rCompare_no {L B M C : Int} (s : St) (h : ¬ (okV L B ∧ okV M C)) (hB : 0 ≤ B) (hC : 0 ≤ C) : leapfrogref01x_CompareQ.r (VI L B) (VI M C) s = some (T2 (.int .i64 0) 10) := by
  refine frzR_of (s' := s.frz) ?_ rfl
  by_cases hk : okV L B
  · have hk2 : ¬ okV M C := fun x => h ⟨hk, x⟩
    obtain ⟨n, b, rfl, rfl, h1, h2⟩ := hk
    simp only [leapfrogref01x_Compare.v, leapfrogref01x_Compare.t, sy, reduceIte, Nat.reduceAdd, Nat.reduceLeDiff, Nat.reduceLT, Nat.reduceEqDiff, Int.reduceEq, Int.reduceLT, Int.reduceLE, Int.reduceNe, ly, rright_ok s.frz h1 h2, rright_no s.frz hk2 hC]
  · simp only [leapfrogref01x_Compare.v, leapfrogref01x_Compare.t, sy, reduceIte, Nat.reduceAdd, Nat.reduceLeDiff, Nat.reduceLT, Nat.reduceEqDiff, Int.reduceEq, Int.reduceLT, Int.reduceLE, Int.reduceNe, ly, rright_no s.frz hk hB]
end Go.Proofs.Yteiagjbjokldgaa
