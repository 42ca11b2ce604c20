/-
  Bytes and kinds that are handed in, cut off.
-/
import Derived.Test.YteapmnolmfickaaPakZ
set_option linter.unusedSimpArgs false
set_option linter.unusedVariables false
set_option maxRecDepth 100000
set_option maxHeartbeats 4000000
namespace Go.Proofs.Yteapmnolmfickaa
open Go.Sim Go.Sim.Bt
attribute [local congr] bdc cndc itec gdc gdSc gdUc
end Go.Proofs.Yteapmnolmfickaa
/-
  There and back, plainly: what is written is read, and what is read has just these bytes.
-/
set_option linter.unusedSimpArgs false
set_option linter.unusedVariables false
set_option maxRecDepth 100000
set_option maxHeartbeats 4000000
namespace Go.Proofs.Yteapmnolmfickaa
open Go.Sim Go.Sim.Bt
def Has (bs : List Int) : Nat → List Int → Prop
  | _, [] => True
  | p, y :: l => bs[p]? = some y ∧ Has bs (p + 1) l
theorem has_append {bs : List Int} : ∀ {p : Nat} {l m : List Int}, Has bs p (l ++ m) ↔ Has bs p l ∧ Has bs (p + l.length) m
  | p, [], m => by simp [Has]
  | p, y :: l, m => by
    simp only [List.cons_append, Has, has_append, List.length_cons, and_assoc]
    rw [show p + 1 + l.length = p + (l.length + 1) by omega]
theorem Has.take {bs : List Int} : ∀ {p : Nat} {l : List Int}, Has bs p l → (bs.drop p).take l.length = l
  | p, [], h => rfl
  | p, y :: l, h => by
    obtain ⟨hp, he⟩ := List.getElem?_eq_some_iff.1 h.1
    rw [List.drop_eq_getElem_cons hp, he, List.length_cons, List.take_succ_cons, h.2.take]
theorem Has.le {bs : List Int} : ∀ {p : Nat} {l : List Int}, p ≤ bs.length → Has bs p l → p + l.length ≤ bs.length
  | p, [], hp, h => hp
  | p, y :: l, hp, h => by
    have := (List.getElem?_eq_some_iff.1 h.1).1
    have := Has.le (p := p + 1) (by omega) h.2
    simp; omega
theorem has_mid (a l c : List Int) : Has (a ++ l ++ c) a.length l := by
  induction l generalizing a with
  | nil => trivial
  | cons y l ih =>
    refine ⟨by simp, ?_⟩
    have := ih (a ++ [y])
    simpa using this
theorem numA {bs : List Int} {most : Nat} : ∀ (d i x y : Nat) {p : Nat}, i + d = 9 → (0 < i → 0 < y) → x + y * 128 ^ i ≤ most → most ≤ maxU → Has bs p (numB y) → numL bs most (d + 1) i x p = .ok (x + y * 128 ^ i) (p + (numB y).length)
  | d, i, x, y, p, hi, h0, hm, hU, h => by
    have h9 : 128 ^ 9 = 9223372036854775808 := by decide
    unfold numL
    by_cases hy : y < 128
    · rw [numB, dif_pos hy] at h ⊢
      have hb : y % 128 = y := Nat.mod_eq_of_lt hy
      have hc : condN most i x y = true := by
        refine decide_eq_true ⟨fun e => by have := h0 e.1; omega, fun e => ?_, .inr ?_⟩
        · obtain ⟨rfl, e2⟩ := e
          have := h0 (by omega)
          unfold maxU at hU
          omega
        · rw [if_neg (by omega), hb]; exact hm
      rw [byteP_some h.1, if_pos hc]
      simp only []
      rw [if_pos hy, hb]
      rfl
    · rw [numB, dif_neg hy] at h ⊢
      have hb : (y % 128 + 128) % 128 = y % 128 := by omega
      have hpow : 128 ^ (i + 1) = 128 ^ i * 128 := Nat.pow_succ ..
      have e1 : y * 128 ^ i = y % 128 * 128 ^ i + y / 128 * 128 ^ (i + 1) := by
        have e0 := Nat.mod_add_div y 128
        calc y * 128 ^ i = (y % 128 + 128 * (y / 128)) * 128 ^ i := by rw [e0]
          _ = _ := by rw [Nat.add_mul, hpow, Nat.mul_comm 128 (y / 128), Nat.mul_assoc, Nat.mul_comm 128 (128 ^ i)]
      have hq : 1 ≤ y / 128 := by omega
      have hge : 128 ^ (i + 1) ≤ y / 128 * 128 ^ (i + 1) := Nat.le_mul_of_pos_left _ hq
      have i9 : i ≠ 9 := fun e => by
        subst e
        have : 128 ^ 10 = 9223372036854775808 * 128 := by decide
        unfold maxU at hU
        simp only [show 9 + 1 = 10 from rfl] at hge e1
        omega
      have hc : condN most i x (y % 128 + 128) = true := by
        refine decide_eq_true ⟨fun e => by omega, fun e => i9 e.1, .inr ?_⟩
        rw [if_pos (by omega), hb]; omega
      rw [byteP_some h.1, if_pos hc]
      simp only []
      rw [if_neg (by omega), hb]
      obtain ⟨d', rfl⟩ : ∃ d', d = d' + 1 := ⟨d - 1, by omega⟩
      rw [numA d' (i + 1) (x + y % 128 * 128 ^ i) (y / 128) (by omega) (by omega) (by omega) hU h.2, e1]
      congr 1
      · omega
      · simp; omega
theorem numP_w {bs : List Int} {most y p : Nat} (hm : y ≤ most) (hU : most ≤ maxU) (h : Has bs p (numB y)) : numP bs most p = .ok y (p + (numB y).length) := by
  unfold numP
  rw [numA 9 0 0 y (by omega) (by omega) (by simpa using hm) hU h]
  simp
theorem unzz_zz (i : Int) : unzz (zz i) = i := by
  unfold unzz zz
  split <;> split <;> omega
theorem intP_w {bs : List Int} {i : Int} {p : Nat} (hi : zz i < 2 ^ 64) (h : Has bs p (numB (zz i))) : intP bs p = .ok i (p + (numB (zz i)).length) := by
  unfold intP
  rw [numP_w (by unfold maxU; omega) (Nat.le_refl _) h]
  simp only [unzz_zz]
theorem kb_mod (n : Nat) : ∀ k m, k ≤ m → kb (n % 2 ^ (8 * m)) k = kb n k
  | 0, m, _ => rfl
  | k + 1, m, h => by
    unfold kb
    rw [kb_mod n k m (by omega)]
    congr 2
    have e : 2 ^ (8 * m) = 2 ^ (8 * k) * (256 * 2 ^ (8 * (m - k - 1))) := by
      rw [show 256 = 2 ^ 8 from rfl, ← Nat.pow_add, ← Nat.pow_add]; congr 1; omega
    rw [e, Nat.mod_mul_right_div_self, Nat.mod_mul_right_mod]
theorem kb_vp_step {m B : Nat} (h : 8 ≤ m) : kb (vp m B) ((m + 7) / 8) = ((B / 2 ^ (m - 8) % 256 : Nat) : Int) :: kb (vp (m - 8) (B % 2 ^ (m - 8))) ((m - 8 + 7) / 8) := by
  have ht : (m + 7) / 8 = (m - 8 + 7) / 8 + 1 := by omega
  have hk : ∀ n m, kb n (m + 1) = ((n / 2 ^ (8 * m) % 256 : Nat) : Int) :: kb n m := fun _ _ => rfl
  rw [ht, hk]
  have he : 8 * ((m + 7) / 8) - m = 8 * ((m - 8 + 7) / 8) - (m - 8) := by omega
  have hs : 8 * ((m - 8 + 7) / 8) = (8 * ((m - 8 + 7) / 8) - (m - 8)) + (m - 8) := by omega
  congr 1
  · congr 2
    unfold vp
    rw [he]
    generalize 8 * ((m - 8 + 7) / 8) - (m - 8) = E at *
    rw [hs, Nat.pow_add, ← Nat.div_div_eq_div_mul, Nat.mul_div_cancel _ (Nat.two_pow_pos _)]
  · rw [← kb_mod (vp m B) _ _ (Nat.le_refl _)]
    congr 1
    unfold vp
    rw [he]
    generalize 8 * ((m - 8 + 7) / 8) - (m - 8) = E at *
    rw [hs, Nat.pow_add, Nat.mul_comm (2 ^ E), Nat.mul_mod_mul_right]
theorem kb_vp_last {m B : Nat} (h0 : 0 < m) (h : m < 8) : kb (vp m B) ((m + 7) / 8) = [((B * 2 ^ (8 - m) % 256 : Nat) : Int)] := by
  have ht : (m + 7) / 8 = 1 := by omega
  rw [ht]
  unfold kb kb vp
  rw [ht]
  simp
theorem vecA {bs : List Int} : ∀ (d m v B : Nat) {p : Nat}, m ≤ 8 * d → B < 2 ^ m → Has bs p (kb (vp m B) ((m + 7) / 8)) → vecL bs d m v p = .ok (v * 2 ^ m + B) (p + (m + 7) / 8)
  | 0, m, v, B, p, hd, hB, h => by
    have : m = 0 := by omega
    subst this
    simp at hB
    subst hB
    unfold vecL; simp
  | d + 1, m, v, B, p, hd, hB, h => by
    unfold vecL
    by_cases h0 : m = 0
    · subst h0
      simp at hB
      subst hB
      simp
    · rw [if_neg h0]
      by_cases h8 : 8 ≤ m
      · rw [kb_vp_step h8] at h
        have hq : B / 2 ^ (m - 8) < 256 := by
          apply Nat.div_lt_of_lt_mul
          rw [show 256 = 2 ^ 8 from rfl, ← Nat.pow_add, show m - 8 + 8 = m by omega]; exact hB
        have hh := h.1
        rw [Nat.mod_eq_of_lt hq] at hh
        rw [byteP_some hh, show 8 - m = 0 by omega, if_pos (by simp [Nat.mod_one])]
        simp only [Nat.sub_zero, Nat.pow_zero, Nat.div_one]
        rw [vecA d (m - 8) _ _ (by omega) (Nat.mod_lt _ (Nat.two_pow_pos _)) h.2]
        have e : (v * 2 ^ 8 + B / 2 ^ (m - 8)) * 2 ^ (m - 8) + B % 2 ^ (m - 8) = v * 2 ^ m + B := by
          have e1 : 2 ^ m = 2 ^ 8 * 2 ^ (m - 8) := by rw [← Nat.pow_add]; congr 1; omega
          have e2 := Nat.div_add_mod B (2 ^ (m - 8))
          rw [Nat.mul_comm] at e2
          rw [Nat.add_mul, Nat.mul_assoc, ← e1, Nat.add_assoc, e2]
        rw [e]
        congr 1
        omega
      · rw [kb_vp_last (by omega) (by omega)] at h
        have hB8 : B * 2 ^ (8 - m) < 256 := by
          rw [show 256 = 2 ^ m * 2 ^ (8 - m) by rw [← Nat.pow_add, show m + (8 - m) = 8 by omega]]
          exact Nat.mul_lt_mul_of_pos_right hB (Nat.two_pow_pos _)
        have hh := h.1
        rw [Nat.mod_eq_of_lt hB8] at hh
        rw [byteP_some hh, if_pos (by simp)]
        simp only []
        rw [Nat.mul_div_cancel _ (Nat.two_pow_pos _), show m - 8 = 0 by omega, show 8 - (8 - m) = m by omega, show (m + 7) / 8 = 1 by omega]
        cases d with
        | zero => rfl
        | succ d => unfold vecL; rw [if_pos rfl]
theorem vecP_w {bs : List Int} {L B p : Nat} (h1 : L ≤ 32) (h2 : B < 2 ^ L) (h : Has bs p (vecB L B)) : vecP bs p = .ok (L, B) (p + (vecB L B).length) := by
  unfold vecB at h ⊢
  unfold vecP
  rw [byteP_some h.1, if_pos (decide_eq_true h1)]
  simp only []
  rw [vecA 5 L 0 B (by omega) h2 h.2]
  simp [kb_length]; omega
theorem keyA {bs : List Int} : ∀ (d x n : Nat) {p : Nat}, n < 2 ^ (8 * d) → Has bs p (kb n d) → keyL bs d x p = .ok (x * 2 ^ (8 * d) + n) (p + d)
  | 0, x, n, p, hn, h => by
    simp at hn
    subst hn
    unfold keyL; simp
  | d + 1, x, n, p, hn, h => by
    have hq : n / 2 ^ (8 * d) < 256 := by
      apply Nat.div_lt_of_lt_mul
      rw [show 256 = 2 ^ 8 from rfl, ← Nat.pow_add]; exact hn
    unfold kb at h
    have hh := h.1
    rw [Nat.mod_eq_of_lt hq] at hh
    unfold keyL
    rw [byteP_some hh, if_pos rfl]
    simp only []
    have h2 := h.2
    rw [← kb_mod n d d (Nat.le_refl _)] at h2
    rw [keyA d _ (n % 2 ^ (8 * d)) (Nat.mod_lt _ (Nat.two_pow_pos _)) h2]
    have e : (x * 256 + n / 2 ^ (8 * d)) * 2 ^ (8 * d) + n % 2 ^ (8 * d) = x * 2 ^ (8 * (d + 1)) + n := by
      have e1 : 2 ^ (8 * (d + 1)) = 256 * 2 ^ (8 * d) := by rw [show 256 = 2 ^ 8 from rfl, ← Nat.pow_add]; congr 1; omega
      have e2 := Nat.div_add_mod n (2 ^ (8 * d))
      rw [Nat.mul_comm] at e2
      rw [Nat.add_mul, Nat.mul_assoc, ← e1, Nat.add_assoc, e2]
    rw [e]
    congr 1
    omega
theorem bytesA {bs : List Int} : ∀ (l acc : List Int) {p : Nat}, okY l → Has bs p l → bytesL bs l.length acc p = .ok (acc ++ l) (p + l.length)
  | [], acc, p, hl, h => by simp [bytesL]
  | y :: l, acc, p, hl, h => by
    obtain ⟨z, rfl, hz⟩ : ∃ z : Nat, y = z ∧ z < 256 := by
      have := hl y (by simp)
      exact ⟨y.toNat, by omega, by omega⟩
    rw [List.length_cons]
    unfold bytesL
    rw [byteP_some h.1, if_pos rfl]
    simp only []
    rw [bytesA l _ (fun y hy => hl y (by simp [hy])) h.2]
    simp; omega
theorem keyP_w {bs : List Int} {r : Int} {n p : Nat} (ok : okK r n) (hn : n < 18446744073709551616) (h : Has bs p (keyB r n)) : ∃ m : Nat, r = (m : Int) ∧ keyP bs p = .ok (m, n) (p + (keyB r n).length) := by
  have hr : r = 1 ∨ r = 2 ∨ r = 3 := by unfold okK at ok; omega
  have hw : IntKind.u8.wrap r = r := wrapu8 (by omega) (by omega)
  unfold keyB at h ⊢
  rw [hw] at h ⊢
  obtain ⟨m, rfl⟩ : ∃ m : Nat, r = m := ⟨r.toNat, by omega⟩
  refine ⟨m, rfl, ?_⟩
  unfold keyP
  rw [byteP_some h.1, if_pos (decide_eq_true (by omega))]
  simp only []
  by_cases h2 : m = 2
  · subst h2
    have h3 := h.2
    have h3 : Has bs (p + 1) (kb n 8) := h3
    have hk := keyA 8 0 n (by omega) h3
    simp [hk, kb_length]
  · have hn0 : n = 0 := by unfold okK at ok; omega
    subst hn0
    rw [if_neg h2, if_neg (by omega)]
    rfl
theorem bts_nil {l : List Int} (h : (⟨⟨bts l⟩⟩ : ByteArray) = noB) : l = [] := by
  cases l with
  | nil => rfl
  | cons a l =>
    unfold noB at h
    injection h with h
    injection h with h
    simp [bts] at h
theorem fieldP_w {bs : List Int} {f : Fd} {l : List Int} {p : Nat} (a : FdA f) (ok : okP (f, l)) (hl : okY l) (h : Has bs p (wB f l)) : fieldP bs f.k p = .ok (clr (f, l)) (p + (wB f l).length) := by
  obtain ⟨k, n, i, t, b, vl, vb, kr, kn, id, rr, rn, rl, rb⟩ := f
  obtain ⟨f1, f2, f3, f4, f5, f6, f7, f8, f9, f10, f11, f12⟩ := a
  obtain ⟨⟨k1, k2⟩, sm, o4, o5, o6, o7⟩ := ok
  simp only at *
  have c : k = 1 ∨ k = 2 ∨ k = 3 ∨ k = 4 ∨ k = 5 ∨ k = 6 ∨ k = 7 := by omega
  rcases c with rfl | rfl | rfl | rfl | rfl | rfl | rfl
  · simp [sameP, onlyF, ownB] at sm
    obtain ⟨rfl, rfl, hb, ⟨rfl, rfl⟩, ⟨rfl, rfl⟩, rfl, rfl, rfl, rfl, rfl⟩ := sm
    have hl := bts_nil hb.symm
    subst hl
    obtain ⟨m, rfl⟩ : ∃ m : Nat, n = m := ⟨n.toNat, by omega⟩
    simp only [wB, if_true, Int.toNat_natCast] at h ⊢
    unfold fieldP
    rw [if_pos rfl, numP_w (by unfold maxU; omega) (Nat.le_refl _) h]
    rfl
  · simp [sameP, onlyF, ownB] at sm
    obtain ⟨rfl, rfl, hb, ⟨rfl, rfl⟩, ⟨rfl, rfl⟩, rfl, rfl, rfl, rfl, rfl⟩ := sm
    have hl := bts_nil hb.symm
    subst hl
    have e : wB ⟨2, 0, i, false, b, 0, 0, 0, 0, 0, 0, 0, 0, 0⟩ [] = numB (zz i) := rfl
    rw [e] at h ⊢
    unfold fieldP
    rw [if_neg (by omega), if_pos rfl, intP_w (zz_lt f3 f4) h]
    rfl
  · simp [sameP, onlyF, ownB] at sm
    obtain ⟨rfl, rfl, hb, ⟨rfl, rfl⟩, ⟨rfl, rfl⟩, rfl, rfl, rfl, rfl, rfl⟩ := sm
    have hl := bts_nil hb.symm
    subst hl
    have e : wB ⟨3, 0, 0, t, b, 0, 0, 0, 0, 0, 0, 0, 0, 0⟩ [] = [((if t = true then 1 else 0 : Nat) : Int)] := by cases t <;> rfl
    rw [e] at h ⊢
    unfold fieldP
    rw [if_neg (by omega), if_neg (by omega), if_pos rfl, byteP_some h.1]
    cases t <;> rfl
  · simp [sameP, onlyF, ownB] at sm
    obtain ⟨rfl, rfl, rfl, ⟨rfl, rfl⟩, ⟨rfl, rfl⟩, rfl, rfl, rfl, rfl, rfl⟩ := sm
    have hn := o4 rfl
    have e : wB ⟨4, 0, 0, false, b, 0, 0, 0, 0, 0, 0, 0, 0, 0⟩ l = numB l.length ++ l := rfl
    rw [e] at h ⊢
    obtain ⟨h1, h2⟩ := has_append.1 h
    unfold fieldP
    rw [if_neg (by omega), if_neg (by omega), if_neg (by omega), if_pos rfl, numP_w hn (by unfold maxU; omega) h1]
    simp only []
    rw [bytesA l [] hl h2]
    simp only [List.nil_append, List.length_append, Nat.add_assoc]
    rfl
  · simp [sameP, onlyF, ownB] at sm
    obtain ⟨rfl, rfl, rfl, hb, ⟨rfl, rfl⟩, rfl, rfl, rfl, rfl, rfl⟩ := sm
    have hl := bts_nil hb.symm
    subst hl
    obtain ⟨L, B, rfl, rfl, g1, g2⟩ := o5 rfl
    have e : wB ⟨5, 0, 0, false, b, (L : Int), (B : Int), 0, 0, 0, 0, 0, 0, 0⟩ [] = vecB L B := rfl
    rw [e] at h ⊢
    unfold fieldP
    rw [if_neg (by omega), if_neg (by omega), if_neg (by omega), if_neg (by omega), if_pos rfl, vecP_w g1 g2 h]
    rfl
  · simp [sameP, onlyF, ownB] at sm
    obtain ⟨rfl, rfl, rfl, hb, ⟨rfl, rfl⟩, rfl, rfl, rfl, rfl, rfl⟩ := sm
    have hl := bts_nil hb.symm
    subst hl
    obtain ⟨m, rfl⟩ : ∃ m : Nat, kn = m := ⟨kn.toNat, by omega⟩
    have e : wB ⟨6, 0, 0, false, b, 0, 0, kr, (m : Int), 0, 0, 0, 0, 0⟩ [] = keyB kr m := rfl
    rw [e] at h ⊢
    unfold fieldP
    obtain ⟨r, rfl, hk⟩ := keyP_w (o6 rfl) (by omega) h
    rw [if_neg (by omega), if_neg (by omega), if_neg (by omega), if_neg (by omega), if_neg (by omega), if_pos rfl, hk]
    rfl
  · simp [sameP, onlyF, ownB] at sm
    obtain ⟨rfl, rfl, rfl, hb, ⟨rfl, rfl⟩, rfl, rfl⟩ := sm
    have hl := bts_nil hb.symm
    subst hl
    obtain ⟨ok, L, B, rfl, rfl, g1, g2⟩ := o7 rfl
    obtain ⟨m, rfl⟩ : ∃ m : Nat, rn = m := ⟨rn.toNat, by omega⟩
    have e : wB ⟨7, 0, 0, false, b, 0, 0, 0, 0, id, rr, (m : Int), (L : Int), (B : Int)⟩ [] = (numB (zz id) ++ keyB rr m) ++ vecB L B := rfl
    rw [e] at h ⊢
    obtain ⟨h12, h3⟩ := has_append.1 h
    obtain ⟨h1, h2⟩ := has_append.1 h12
    rw [List.length_append, ← Nat.add_assoc] at h3
    obtain ⟨r, rfl, hk⟩ := keyP_w ok (by omega) h2
    unfold fieldP
    rw [if_neg (by omega), if_neg (by omega), if_neg (by omega), if_neg (by omega), if_neg (by omega), if_neg (by omega), if_pos rfl, intP_w (zz_lt f8 f9) h1]
    simp only []
    rw [hk]
    simp only []
    rw [vecP_w g1 g2 h3]
    simp only [List.length_append, Nat.add_assoc]
    rfl
end Go.Proofs.Yteapmnolmfickaa
/-
  There and back, plainly: a field that is read; rows of fields.
-/
set_option linter.unusedSimpArgs false
set_option linter.unusedVariables false
set_option maxRecDepth 100000
set_option maxHeartbeats 4000000
namespace Go.Proofs.Yteapmnolmfickaa
open Go.Sim Go.Sim.Bt
def Got (bs : List Int) (k : Int) (p q : Nat) (a : FB) : Prop := okP a ∧ okY a.2 ∧ a.1.k = k ∧ Has bs p (wB a.1 a.2) ∧ q = p + (wB a.1 a.2).length
theorem firstL_w {bs : List Int} : ∀ (fs : List FB) {p : Nat} {gs : List FB}, (∀ f ∈ fs, FdA f.1 ∧ okP f ∧ okY f.2) → Has bs p (wBs fs) → firstL bs (fs.map fun f => f.1.k) p gs = .ok (gs ++ fs.map clr) (p + (wBs fs).length)
  | [], p, gs, hf, h => by simp [firstL, wBs]
  | f :: fs, p, gs, hf, h => by
    obtain ⟨a1, a2, a3⟩ := hf f (by simp)
    obtain ⟨h1, h2⟩ := has_append.1 (show Has bs p (wB f.1 f.2 ++ wBs fs) from h)
    rw [List.map_cons]
    unfold firstL
    rw [fieldP_w a1 a2 a3 h1]
    simp only []
    rw [firstL_w fs (fun x hx => hf x (by simp [hx])) h2]
    simp [wBs, Nat.add_assoc]
end Go.Proofs.Yteapmnolmfickaa
/-
  Bytes cut at any place; kinds of fields; what is written is bytes.
-/
set_option linter.unusedSimpArgs false
set_option linter.unusedVariables false
set_option maxRecDepth 100000
set_option maxHeartbeats 4000000
namespace Go.Proofs.Yteapmnolmfickaa
open Go.Sim Go.Sim.Bt
attribute [local congr] bdc cndc itec gdc gdSc gdUc
theorem okY_nil : okY [] := fun y hy => absurd hy List.not_mem_nil
theorem okY_cons {y : Int} {l : List Int} (h : 0 ≤ y ∧ y < 256) (k : okY l) : okY (y :: l) := fun z hz => by
  rcases List.mem_cons.1 hz with rfl | hz
  · exact h
  · exact k z hz
theorem okY_app {l m : List Int} (h : okY l) (k : okY m) : okY (l ++ m) := fun z hz => by
  rcases List.mem_append.1 hz with hz | hz
  · exact h z hz
  · exact k z hz
theorem okY_numB : ∀ (n x : Nat), x ≤ n → okY (numB x)
  | n, x, h => by
    rw [numB]
    split
    · exact okY_cons (by omega) okY_nil
    · cases n with
      | zero => omega
      | succ n => exact okY_cons (by omega) (okY_numB n (x / 128) (by omega))
theorem okY_kb (n : Nat) : ∀ m, okY (kb n m)
  | 0 => okY_nil
  | m + 1 => okY_cons (by omega) (okY_kb n m)
theorem okY_keyB (r : Int) (n : Nat) : okY (keyB r n) := by
  unfold keyB
  refine okY_cons (by rw [wrapu8_eq]; omega) ?_
  split
  · exact okY_kb n 8
  · exact okY_nil
theorem okY_vecB {L B : Int} (h : okV L B) : okY (vecB L.toNat B.toNat) := by
  obtain ⟨n, b, rfl, rfl, h1, h2⟩ := h
  exact okY_cons (by simp only [Int.toNat_natCast]; omega) (okY_kb _ _)
theorem okY_wB {f : Fd} {l : List Int} (ok : okP (f, l)) (hl : okY l) : okY (wB f l) := by
  unfold wB
  split
  · exact okY_numB _ _ (Nat.le_refl _)
  · split
    · exact okY_numB _ _ (Nat.le_refl _)
    · split
      · refine okY_cons ?_ okY_nil
        split <;> omega
      · split
        · exact okY_app (okY_numB _ _ (Nat.le_refl _)) hl
        · split
          · rename_i h5; exact okY_vecB (ok.2.2.2.1 h5)
          · split
            · exact okY_keyB _ _
            · rename_i h1 h2 h3 h4 h5 h6
              have h7 : f.k = 7 := by have := ok.1.1; have := ok.1.2; simp only at *; omega
              exact okY_app (okY_app (okY_numB _ _ (Nat.le_refl _)) (okY_keyB _ _)) (okY_vecB (ok.2.2.2.2.2 h7).2)
theorem okY_wBs : ∀ {fs : List FB}, (∀ f ∈ fs, FdA f.1 ∧ okP f ∧ okY f.2) → okY (wBs fs) ∧ (wBs fs).length ≤ 65600 * fs.length
  | [], h => ⟨okY_nil, by simp [wBs]⟩
  | f :: fs, h => by
    obtain ⟨h1, h2⟩ := okY_wBs (fs := fs) fun x hx => h x (by simp [hx])
    obtain ⟨a1, a2, a3⟩ := h f (by simp)
    have := wB_len a1 a2
    refine ⟨okY_app (okY_wB a2 a3) h1, ?_⟩
    rw [wBs, List.length_append, List.length_cons]
    have e : 65600 * (fs.length + 1) = 65600 * fs.length + 65600 := by rw [Nat.mul_succ]
    omega
end Go.Proofs.Yteapmnolmfickaa
