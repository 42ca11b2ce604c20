/-
  Rows of bits: plain law, no program in sight.
-/
import Derived.Test.YteafgjpbfhjbjaaGreatSymA
set_option linter.unusedSimpArgs false
set_option linter.unusedVariables false
namespace Go.Sim.Bt
def bl (n b : Nat) : List Nat := (List.range n).map fun j => b / 2 ^ (n - 1 - j) % 2
def ofBits (l : List Nat) : Nat := l.foldl (fun a d => a * 2 + d) 0
theorem bl_length (n b : Nat) : (bl n b).length = n := by simp [bl]
theorem bl_get {n b j : Nat} (h : j < n) : (bl n b)[j]? = some (b / 2 ^ (n - 1 - j) % 2) := by
  simp [bl, h]
theorem bl_ext {n b : Nat} {l : List Nat} (hl : l.length = n) (h : ∀ j, j < n → l[j]? = some (b / 2 ^ (n - 1 - j) % 2)) : l = bl n b := by
  apply List.ext_getElem?
  intro j
  by_cases hj : j < n
  · rw [h j hj, bl_get hj]
  · rw [List.getElem?_eq_none (by omega), List.getElem?_eq_none (by rw [bl_length]; omega)]
theorem bl_snoc (n b : Nat) : bl n (b / 2) ++ [b % 2] = bl (n + 1) b := by
  apply bl_ext (by simp [bl_length])
  intro j hj
  by_cases h : j < n
  · rw [List.getElem?_append_left (by rw [bl_length]; exact h), bl_get h, Nat.div_div_eq_div_mul, ← Nat.pow_succ']
    congr 5; omega
  · have : j = n := by omega
    subst this
    rw [List.getElem?_append_right (by rw [bl_length]; omega), bl_length]
    simp
theorem ofBits_snoc (l : List Nat) (d : Nat) : ofBits (l ++ [d]) = ofBits l * 2 + d := by simp [ofBits]
theorem ofBits_bl : ∀ {n b : Nat}, b < 2 ^ n → ofBits (bl n b) = b
  | 0, b, h => by simp at h; subst h; rfl
  | n + 1, b, h => by
    rw [← bl_snoc, ofBits_snoc, ofBits_bl (by rw [Nat.pow_succ] at h; omega)]
    omega
theorem take_bl {n b k : Nat} (h : k ≤ n) : (bl n b).take k = bl k (b / 2 ^ (n - k)) := by
  apply bl_ext (by simp [bl_length]; omega)
  intro j hj
  rw [List.getElem?_take_of_lt hj, bl_get (by omega), Nat.div_div_eq_div_mul, ← Nat.pow_add]
  congr 4; omega
def lcp : List Nat → List Nat → Nat
  | a :: l, b :: m => if a = b then lcp l m + 1 else 0
  | _, _ => 0
theorem le_lcp : ∀ {l m : List Nat} {k : Nat}, k ≤ lcp l m ↔ k ≤ l.length ∧ k ≤ m.length ∧ l.take k = m.take k
  | [], m, k => by simp [lcp]; intro h; subst h; simp
  | a :: l, [], k => by simp [lcp]; intro h; subst h; simp
  | a :: l, b :: m, 0 => by simp
  | a :: l, b :: m, k + 1 => by
    simp only [lcp, List.length_cons, List.take_succ_cons, List.cons.injEq]
    split
    · rename_i h
      subst h
      rw [Nat.add_le_add_iff_right, le_lcp]
      simp
    · rename_i h
      simp [h]
theorem lcp_le_right (l m : List Nat) : lcp l m ≤ m.length := (le_lcp.1 (Nat.le_refl (lcp l m))).2.1
theorem bl_inj {n a b : Nat} (ha : a < 2 ^ n) (hb : b < 2 ^ n) (h : bl n a = bl n b) : a = b := by
  rw [← ofBits_bl ha, ← ofBits_bl hb, h]
theorem div_lt_pow {n k a : Nat} (ha : a < 2 ^ n) (hk : k ≤ n) : a / 2 ^ (n - k) < 2 ^ k := by
  rw [Nat.div_lt_iff_lt_mul (Nat.two_pow_pos _), ← Nat.pow_add, show k + (n - k) = n by omega]; exact ha
theorem le_lcp_bl {n m a b k : Nat} (ha : a < 2 ^ n) (hb : b < 2 ^ m) : k ≤ lcp (bl n a) (bl m b) ↔ k ≤ n ∧ k ≤ m ∧ a / 2 ^ (n - k) = b / 2 ^ (m - k) := by
  rw [le_lcp, bl_length, bl_length]
  constructor
  · rintro ⟨h1, h2, h3⟩
    rw [take_bl h1, take_bl h2] at h3
    exact ⟨h1, h2, bl_inj (div_lt_pow ha h1) (div_lt_pow hb h2) h3⟩
  · rintro ⟨h1, h2, h3⟩
    exact ⟨h1, h2, by rw [take_bl h1, take_bl h2, h3]⟩
theorem lcp_eq_len {n m a b : Nat} (ha : a < 2 ^ n) (hb : b < 2 ^ m) : lcp (bl n a) (bl m b) = m ↔ m ≤ n ∧ a / 2 ^ (n - m) = b := by
  have h := @le_lcp_bl n m a b m ha hb
  have h2 := lcp_le_right (bl n a) (bl m b)
  rw [bl_length] at h2
  simp only [Nat.sub_self, Nat.pow_zero, Nat.div_one, Nat.le_refl, true_and] at h
  rw [← h]; omega
end Go.Sim.Bt
