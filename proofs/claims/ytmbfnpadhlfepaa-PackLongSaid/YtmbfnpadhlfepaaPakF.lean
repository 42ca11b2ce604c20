/-
  Keys' bytes stand in their order (plain).
-/
import Derived.Test.YtmbfnpadhlfepaaPakE
set_option linter.unusedSimpArgs false
set_option linter.unusedVariables false
namespace Go.Proofs.Ytmbfnpadhlfepaa
open Go.Sim Go.Sim.Bt

theorem u8_lt {p q : Nat} (hp : p < 256) (hq : q < 256) : UInt8.ofNat p < UInt8.ofNat q ↔ p < q := by
  rw [UInt8.lt_iff_toNat_lt, UInt8.toNat_ofNat_of_lt' (by simpa [UInt8.size] using hp), UInt8.toNat_ofNat_of_lt' (by simpa [UInt8.size] using hq)]
theorem u8_eq {p q : Nat} (hp : p < 256) (hq : q < 256) : UInt8.ofNat p = UInt8.ofNat q ↔ p = q := by
  rw [← UInt8.toNat_inj, UInt8.toNat_ofNat_of_lt' (by simpa [UInt8.size] using hp), UInt8.toNat_ofNat_of_lt' (by simpa [UInt8.size] using hq)]
theorem digit (a m : Nat) : a % 2 ^ (8 * (m + 1)) = a % 2 ^ (8 * m) + 2 ^ (8 * m) * (a / 2 ^ (8 * m) % 256) := by
  rw [show 8 * (m + 1) = 8 * m + 8 by omega, Nat.pow_add, Nat.mod_mul]
theorem bts_cons (p : Nat) (l : List Int) : bts (((p : Nat) : Int) :: l) = UInt8.ofNat p :: bts l := rfl
theorem kb_less (a b : Nat) : ∀ m, Op.bytesLess (bts (kb a m)) (bts (kb b m)) = decide (a % 2 ^ (8 * m) < b % 2 ^ (8 * m))
  | 0 => by simp [kb, bts, Op.bytesLess, Nat.mod_one]
  | m + 1 => by
    have ih := kb_less a b m
    rw [kb, kb, bts_cons, bts_cons, Op.bytesLess, ih, digit a m, digit b m]
    have h1 : a / 2 ^ (8 * m) % 256 < 256 := Nat.mod_lt _ (by decide)
    have h2 : b / 2 ^ (8 * m) % 256 < 256 := Nat.mod_lt _ (by decide)
    have h3 : a % 2 ^ (8 * m) < 2 ^ (8 * m) := Nat.mod_lt _ (Nat.pow_pos (by decide))
    have h4 : b % 2 ^ (8 * m) < 2 ^ (8 * m) := Nat.mod_lt _ (Nat.pow_pos (by decide))
    generalize a / 2 ^ (8 * m) % 256 = p at *
    generalize b / 2 ^ (8 * m) % 256 = q at *
    generalize a % 2 ^ (8 * m) = x at *
    generalize b % 2 ^ (8 * m) = y at *
    generalize 2 ^ (8 * m) = M at *
    rw [Bool.eq_iff_iff]
    simp only [Bool.or_eq_true, Bool.and_eq_true, decide_eq_true_eq, beq_iff_eq, u8_lt h1 h2, u8_eq h1 h2]
    rcases Nat.lt_trichotomy p q with h | h | h
    · have : M * (p + 1) ≤ M * q := Nat.mul_le_mul_left _ h
      rw [Nat.mul_add, Nat.mul_one] at this
      constructor
      · intro _; omega
      · intro _; exact .inl h
    · subst h
      constructor
      · rintro (h | ⟨_, h⟩) <;> omega
      · intro h; exact .inr ⟨rfl, by omega⟩
    · have : M * (q + 1) ≤ M * p := Nat.mul_le_mul_left _ h
      rw [Nat.mul_add, Nat.mul_one] at this
      constructor
      · rintro (h | ⟨_, h⟩) <;> omega
      · intro _; omega
theorem kb_eq (a b : Nat) : ∀ m, bts (kb a m) = bts (kb b m) ↔ a % 2 ^ (8 * m) = b % 2 ^ (8 * m)
  | 0 => by simp [kb, Nat.mod_one]
  | m + 1 => by
    have ih := kb_eq a b m
    rw [kb, kb, bts_cons, bts_cons, List.cons.injEq, ih, digit a m, digit b m]
    have h1 : a / 2 ^ (8 * m) % 256 < 256 := Nat.mod_lt _ (by decide)
    have h2 : b / 2 ^ (8 * m) % 256 < 256 := Nat.mod_lt _ (by decide)
    have h3 : a % 2 ^ (8 * m) < 2 ^ (8 * m) := Nat.mod_lt _ (Nat.pow_pos (by decide))
    have h4 : b % 2 ^ (8 * m) < 2 ^ (8 * m) := Nat.mod_lt _ (Nat.pow_pos (by decide))
    rw [u8_eq h1 h2]
    generalize a / 2 ^ (8 * m) % 256 = p at *
    generalize b / 2 ^ (8 * m) % 256 = q at *
    generalize a % 2 ^ (8 * m) = x at *
    generalize b % 2 ^ (8 * m) = y at *
    generalize 2 ^ (8 * m) = M at *
    constructor
    · rintro ⟨rfl, rfl⟩; rfl
    · intro h
      rcases Nat.lt_trichotomy p q with g | g | g
      · have : M * (p + 1) ≤ M * q := Nat.mul_le_mul_left _ g
        rw [Nat.mul_add, Nat.mul_one] at this
        omega
      · subst g; exact ⟨rfl, by omega⟩
      · have : M * (q + 1) ≤ M * p := Nat.mul_le_mul_left _ g
        rw [Nat.mul_add, Nat.mul_one] at this
        omega
theorem keyB_less {r t : Int} {n m : Nat} (h1 : okK r n) (h2 : okK t m) (hn : n < 2 ^ 64) (hm : m < 2 ^ 64) : Op.bytesLess (bts (keyB r n)) (bts (keyB t m)) = decide (r < t ∨ (r = t ∧ n < m)) := by
  have hb : ∀ m : Nat, bts (keyB 1 m) = [1] ∧ bts (keyB 3 m) = [3] ∧ bts (keyB 2 m) = 2 :: bts (kb m 8) := fun m => ⟨rfl, rfl, rfl⟩
  have hl := kb_less n m 8
  rw [show (8 * 8 : Nat) = 64 from rfl, Nat.mod_eq_of_lt hn, Nat.mod_eq_of_lt hm] at hl
  unfold okK at h1 h2
  have c1 : r = 1 ∧ n = 0 ∨ r = 2 ∨ r = 3 ∧ n = 0 := by omega
  have c2 : t = 1 ∧ m = 0 ∨ t = 2 ∨ t = 3 ∧ m = 0 := by omega
  rcases c1 with ⟨rfl, rfl⟩ | rfl | ⟨rfl, rfl⟩ <;> rcases c2 with ⟨rfl, rfl⟩ | rfl | ⟨rfl, rfl⟩ <;> simp only [(hb _).1, (hb _).2.1, (hb _).2.2, Op.bytesLess] <;> first | (rw [hl]; simp) | simp
theorem keyB_eq {r t : Int} {n m : Nat} (h1 : okK r n) (h2 : okK t m) (hn : n < 2 ^ 64) (hm : m < 2 ^ 64) : bts (keyB r n) = bts (keyB t m) ↔ r = t ∧ n = m := by
  have hb : ∀ m : Nat, bts (keyB 1 m) = [1] ∧ bts (keyB 3 m) = [3] ∧ bts (keyB 2 m) = 2 :: bts (kb m 8) := fun m => ⟨rfl, rfl, rfl⟩
  have hl := kb_eq n m 8
  rw [show (8 * 8 : Nat) = 64 from rfl, Nat.mod_eq_of_lt hn, Nat.mod_eq_of_lt hm] at hl
  unfold okK at h1 h2
  have c1 : r = 1 ∧ n = 0 ∨ r = 2 ∨ r = 3 ∧ n = 0 := by omega
  have c2 : t = 1 ∧ m = 0 ∨ t = 2 ∨ t = 3 ∧ m = 0 := by omega
  rcases c1 with ⟨rfl, rfl⟩ | rfl | ⟨rfl, rfl⟩ <;> rcases c2 with ⟨rfl, rfl⟩ | rfl | ⟨rfl, rfl⟩ <;> simp only [(hb _).1, (hb _).2.1, (hb _).2.2] <;> first | (rw [List.cons.injEq, hl]; simp) | simp
end Go.Proofs.Ytmbfnpadhlfepaa
