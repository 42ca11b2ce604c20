/-
  Rows of bits: plain law, no program in sight.
-/
import Derived.Test.YteiagjbjokldgaaSymA
set_option linter.unusedSimpArgs false
set_option linter.unusedVariables false
namespace Go.Sim.Bt

def bl (n b : Nat) : List Nat := (List.range n).map fun j => b / 2 ^ (n - 1 - j) % 2
def ofBits (l : List Nat) : Nat := l.foldl (fun a d => a * 2 + d) 0

theorem bl_length (n b : Nat) : (bl n b).length = n := by simp [bl]
theorem bl_get {n b j : Nat} (h : j < n) : (bl n b)[j]? = some (b / 2 ^ (n - 1 - j) % 2) := by
  simp [bl, h]
theorem bl_lt {n b d : Nat} (h : d ∈ bl n b) : d < 2 := by
  simp only [bl, List.mem_map] at h
  obtain ⟨j, _, rfl⟩ := h
  exact Nat.mod_lt _ (by omega)
theorem bl_ext {n b : Nat} {l : List Nat} (hl : l.length = n) (h : ∀ j, j < n → l[j]? = some (b / 2 ^ (n - 1 - j) % 2)) : l = bl n b := by
  apply List.ext_getElem?
  intro j
  by_cases hj : j < n
  · rw [h j hj, bl_get hj]
  · rw [List.getElem?_eq_none (by omega), List.getElem?_eq_none (by rw [bl_length]; omega)]
theorem bl_snoc (n b : Nat) : bl n (b / 2) ++ [b % 2] = bl (n + 1) b := by
  apply bl_ext (by simp [bl_length])
  intro j hj
  by_cases h : j < n
  · rw [List.getElem?_append_left (by rw [bl_length]; exact h), bl_get h, Nat.div_div_eq_div_mul, ← Nat.pow_succ']
    congr 5; omega
  · have : j = n := by omega
    subst this
    rw [List.getElem?_append_right (by rw [bl_length]; omega), bl_length]
    simp
theorem bl_zero (b : Nat) : bl 0 b = [] := rfl
theorem ofBits_nil : ofBits [] = 0 := rfl
theorem ofBits_snoc (l : List Nat) (d : Nat) : ofBits (l ++ [d]) = ofBits l * 2 + d := by simp [ofBits]
theorem ofBits_bl : ∀ {n b : Nat}, b < 2 ^ n → ofBits (bl n b) = b
  | 0, b, h => by simp at h; subst h; rfl
  | n + 1, b, h => by
    rw [← bl_snoc, ofBits_snoc, ofBits_bl (by rw [Nat.pow_succ] at h; omega)]
    omega
theorem ofBits_lt : ∀ {n : Nat} {l : List Nat}, l.length = n → (∀ d ∈ l, d < 2) → ofBits l < 2 ^ n
  | 0, l, h, _ => by simp at h; subst h; simp [ofBits]
  | n + 1, l, h, hd => by
    obtain ⟨l', d, rfl⟩ : ∃ l' d, l = l' ++ [d] := ⟨l.dropLast, l.getLast (by intro e; simp [e] at h), (List.dropLast_concat_getLast _).symm⟩
    have := ofBits_lt (n := n) (l := l') (by simpa using h) fun x hx => hd x (by simp only [List.mem_append]; exact .inl hx)
    have hd' := hd d (by simp only [List.mem_append, List.mem_singleton]; exact .inr trivial)
    rw [ofBits_snoc, Nat.pow_succ]; omega
theorem bit_tb (b i : Nat) : b / 2 ^ i % 2 = (b.testBit i).toNat := (Nat.toNat_testBit b i).symm
theorem take_bl {n b k : Nat} (h : k ≤ n) : (bl n b).take k = bl k (b / 2 ^ (n - k)) := by
  apply bl_ext (by simp [bl_length]; omega)
  intro j hj
  rw [List.getElem?_take_of_lt hj, bl_get (by omega), Nat.div_div_eq_div_mul, ← Nat.pow_add]
  congr 4; omega
theorem drop_bl {n b k : Nat} (h : k ≤ n) : (bl n b).drop k = bl (n - k) (b % 2 ^ (n - k)) := by
  apply bl_ext (by simp [bl_length])
  intro j hj
  rw [List.getElem?_drop, bl_get (by omega), bit_tb, bit_tb, Nat.testBit_mod_two_pow]
  have : n - k - 1 - j < n - k := by omega
  simp only [this, decide_true, Bool.true_and]
  congr 3; omega
theorem bl_append {n b m c : Nat} (hc : c < 2 ^ m) : bl n b ++ bl m c = bl (n + m) (b * 2 ^ m + c) := by
  apply bl_ext (by simp [bl_length])
  intro j hj
  by_cases h : j < n
  · rw [List.getElem?_append_left (by rw [bl_length]; exact h), bl_get h]
    have e : 2 ^ (n + m - 1 - j) = 2 ^ m * 2 ^ (n - 1 - j) := by rw [← Nat.pow_add]; congr 1; omega
    rw [e, ← Nat.div_div_eq_div_mul, Nat.mul_comm b, Nat.mul_add_div (Nat.two_pow_pos m), Nat.div_eq_of_lt hc, Nat.add_zero]
  · rw [List.getElem?_append_right (by rw [bl_length]; omega), bl_length, bl_get (by omega), bit_tb, bit_tb, Nat.mul_comm b, Nat.testBit_two_pow_mul_add _ hc]
    have : n + m - 1 - j < m := by omega
    simp only [this, if_true]
    congr 3; omega
theorem flip_bl {n b i : Nat} (hi : i < n) : (bl n b).set i (1 - b / 2 ^ (n - 1 - i) % 2) = bl n (b ^^^ 2 ^ (n - 1 - i)) := by
  apply bl_ext (by simp [bl_length])
  intro j hj
  rw [bit_tb b, bit_tb, Nat.testBit_xor, Nat.testBit_two_pow]
  by_cases h : i = j
  · subst h
    rw [List.getElem?_set_self (by rw [bl_length]; exact hi)]
    cases b.testBit (n - 1 - i) <;> simp
  · rw [List.getElem?_set_ne h, bl_get hj, bit_tb]
    have : n - 1 - i ≠ n - 1 - j := by omega
    simp [this]

/-- How far two rows are alike. -/
def lcp : List Nat → List Nat → Nat
  | a :: l, b :: m => if a = b then lcp l m + 1 else 0
  | _, _ => 0

theorem le_lcp : ∀ {l m : List Nat} {k : Nat}, k ≤ lcp l m ↔ k ≤ l.length ∧ k ≤ m.length ∧ l.take k = m.take k
  | [], m, k => by simp [lcp]; intro h; subst h; simp
  | a :: l, [], k => by simp [lcp]; intro h; subst h; simp
  | a :: l, b :: m, 0 => by simp
  | a :: l, b :: m, k + 1 => by
    simp only [lcp, List.length_cons, List.take_succ_cons, List.cons.injEq]
    split
    · rename_i h
      subst h
      rw [Nat.add_le_add_iff_right, le_lcp]
      simp
    · rename_i h
      simp [h]
theorem lcp_le_left (l m : List Nat) : lcp l m ≤ l.length := (le_lcp.1 (Nat.le_refl (lcp l m))).1
theorem lcp_le_right (l m : List Nat) : lcp l m ≤ m.length := (le_lcp.1 (Nat.le_refl (lcp l m))).2.1
theorem bl_inj {n a b : Nat} (ha : a < 2 ^ n) (hb : b < 2 ^ n) (h : bl n a = bl n b) : a = b := by
  rw [← ofBits_bl ha, ← ofBits_bl hb, h]
theorem div_lt_pow {n k a : Nat} (ha : a < 2 ^ n) (hk : k ≤ n) : a / 2 ^ (n - k) < 2 ^ k := by
  rw [Nat.div_lt_iff_lt_mul (Nat.two_pow_pos _), ← Nat.pow_add, show k + (n - k) = n by omega]; exact ha
theorem le_lcp_bl {n m a b k : Nat} (ha : a < 2 ^ n) (hb : b < 2 ^ m) : k ≤ lcp (bl n a) (bl m b) ↔ k ≤ n ∧ k ≤ m ∧ a / 2 ^ (n - k) = b / 2 ^ (m - k) := by
  rw [le_lcp, bl_length, bl_length]
  constructor
  · rintro ⟨h1, h2, h3⟩
    rw [take_bl h1, take_bl h2] at h3
    exact ⟨h1, h2, bl_inj (div_lt_pow ha h1) (div_lt_pow hb h2) h3⟩
  · rintro ⟨h1, h2, h3⟩
    exact ⟨h1, h2, by rw [take_bl h1, take_bl h2, h3]⟩

/-- How many bits a number has. -/
def blen (x : Nat) : Nat := if x = 0 then 0 else x.log2 + 1
theorem blen_le {x k : Nat} : blen x ≤ k ↔ x < 2 ^ k := by
  unfold blen
  split
  · rename_i h; subst h; simp [Nat.two_pow_pos]
  · rename_i h
    rw [Nat.succ_le_iff, Nat.log2_lt h]
theorem xor_lt_iff {a b k : Nat} : a ^^^ b < 2 ^ k ↔ a / 2 ^ k = b / 2 ^ k := by
  constructor
  · intro h
    apply Nat.eq_of_testBit_eq
    intro i
    rw [Nat.testBit_div_two_pow, Nat.testBit_div_two_pow]
    have h1 := Nat.testBit_lt_two_pow (Nat.lt_of_lt_of_le h (Nat.pow_le_pow_right (n := 2) (by omega) (show k ≤ k + i by omega)))
    rw [Nat.testBit_xor] at h1
    rw [Nat.add_comm i k]
    cases h2 : a.testBit (k + i) <;> cases h3 : b.testBit (k + i) <;> simp [h2, h3] at h1 ⊢
  · intro h
    apply Nat.lt_pow_two_of_testBit
    intro i hi
    rw [Nat.testBit_xor]
    have h1 := congrArg (fun x => x.testBit (i - k)) h
    simp only [Nat.testBit_div_two_pow] at h1
    rw [show i - k + k = i by omega] at h1
    rw [h1]; simp
theorem lcp_blen {n m a b : Nat} (ha : a < 2 ^ n) (hb : b < 2 ^ m) : lcp (bl n a) (bl m b) = min n m - blen (a / 2 ^ (n - min n m) ^^^ b / 2 ^ (m - min n m)) := by
  have key : ∀ k, k ≤ lcp (bl n a) (bl m b) ↔ k ≤ min n m ∧ blen (a / 2 ^ (n - min n m) ^^^ b / 2 ^ (m - min n m)) ≤ min n m - k := by
    intro k
    rw [le_lcp_bl ha hb, blen_le, xor_lt_iff, Nat.div_div_eq_div_mul, Nat.div_div_eq_div_mul, ← Nat.pow_add, ← Nat.pow_add]
    constructor
    · rintro ⟨h1, h2, h3⟩
      have h4 : k ≤ min n m := by omega
      exact ⟨h4, by rw [show n - min n m + (min n m - k) = n - k by omega, show m - min n m + (min n m - k) = m - k by omega]; exact h3⟩
    · rintro ⟨h1, h3⟩
      refine ⟨by omega, by omega, ?_⟩
      rwa [show n - min n m + (min n m - k) = n - k by omega, show m - min n m + (min n m - k) = m - k by omega] at h3
  have hle : blen (a / 2 ^ (n - min n m) ^^^ b / 2 ^ (m - min n m)) ≤ min n m := by
    rw [blen_le]
    exact Nat.xor_lt_two_pow (div_lt_pow ha (by omega)) (div_lt_pow hb (by omega))
  apply Nat.le_antisymm
  · have := (key _).1 (Nat.le_refl _)
    omega
  · rw [key]; omega
theorem lcp_eq_len {n m a b : Nat} (ha : a < 2 ^ n) (hb : b < 2 ^ m) : lcp (bl n a) (bl m b) = m ↔ m ≤ n ∧ a / 2 ^ (n - m) = b := by
  have h := @le_lcp_bl n m a b m ha hb
  have h2 := lcp_le_right (bl n a) (bl m b)
  rw [bl_length] at h2
  simp only [Nat.sub_self, Nat.pow_zero, Nat.div_one, Nat.le_refl, true_and] at h
  rw [← h]; omega

/-! ### One order -/

def cmpN (a b : Int) : Int := if a < b then -1 else if b < a then 1 else 0
def lexc : List Nat → List Nat → Int
  | [], [] => 0
  | [], _ :: _ => -1
  | _ :: _, [] => 1
  | a :: l, b :: m => if a < b then -1 else if b < a then 1 else lexc l m

theorem lexc_neg : ∀ l m : List Nat, lexc l m = - lexc m l
  | [], [] => rfl
  | [], _ :: _ => rfl
  | _ :: _, [] => rfl
  | a :: l, b :: m => by
    simp only [lexc]
    by_cases h1 : a < b
    · rw [if_pos h1, if_neg (by omega), if_pos h1]
    · by_cases h2 : b < a
      · rw [if_neg h1, if_pos h2, if_pos h2]; rfl
      · rw [if_neg h1, if_neg h2, if_neg h2, if_neg h1, lexc_neg l m]
theorem lexc_zero : ∀ {l m : List Nat}, lexc l m = 0 ↔ l = m
  | [], [] => by simp [lexc]
  | [], _ :: _ => by simp [lexc]
  | _ :: _, [] => by simp [lexc]
  | a :: l, b :: m => by
    simp only [lexc, List.cons.injEq]
    by_cases h1 : a < b
    · rw [if_pos h1]; simp; omega
    · by_cases h2 : b < a
      · rw [if_neg h1, if_pos h2]; simp; omega
      · rw [if_neg h1, if_neg h2, lexc_zero (l := l) (m := m)]
        have : a = b := by omega
        simp [this]
theorem lexc_trans : ∀ {l m k : List Nat}, lexc l m ≤ 0 → lexc m k ≤ 0 → lexc l k ≤ 0
  | [], _, [], _, _ => by simp [lexc]
  | [], _, _ :: _, _, _ => by simp [lexc]
  | _ :: _, [], _, h, _ => by simp [lexc] at h
  | _ :: _, _ :: _, [], _, h => by simp [lexc] at h
  | a :: l, b :: m, c :: k, h1, h2 => by
    simp only [lexc] at h1 h2 ⊢
    by_cases q1 : a < b
    · by_cases q2 : c < b
      · rw [if_neg (by omega), if_pos q2] at h2; omega
      · rw [if_pos (by omega)]; omega
    · rw [if_neg q1] at h1
      by_cases q2 : b < a
      · rw [if_pos q2] at h1; omega
      · rw [if_neg q2] at h1
        have : a = b := by omega
        subst this
        by_cases q3 : a < c
        · rw [if_pos q3]; omega
        · rw [if_neg q3] at h2 ⊢
          by_cases q4 : c < a
          · rw [if_pos q4] at h2; omega
          · rw [if_neg q4] at h2 ⊢
            exact lexc_trans h1 h2
theorem lexc_block : ∀ {p l m k : List Nat}, p <+: l → p <+: m → ¬ p <+: k → ¬ k <+: p → lexc l k = lexc m k ∧ lexc l k ≠ 0
  | [], l, m, k, _, _, h, _ => absurd List.nil_prefix h
  | x :: p, l, m, [], _, _, _, h => absurd List.nil_prefix h
  | x :: p, [], m, y :: k, h, _, _, _ => by simp at h
  | x :: p, _ :: l, [], y :: k, _, h, _, _ => by simp at h
  | x :: p, a :: l, b :: m, y :: k, h1, h2, h3, h4 => by
    rw [List.cons_prefix_cons] at h1 h2
    obtain ⟨rfl, h1⟩ := h1
    obtain ⟨rfl, h2⟩ := h2
    simp only [lexc]
    by_cases q1 : x < y
    · simp [q1]
    · by_cases q2 : y < x
      · simp [q1, q2]
      · have : x = y := by omega
        subst this
        simp only [Nat.lt_irrefl, if_false]
        exact lexc_block h1 h2 (fun h => h3 (by rw [List.cons_prefix_cons]; exact ⟨rfl, h⟩)) (fun h => h4 (by rw [List.cons_prefix_cons]; exact ⟨rfl, h⟩))
theorem lexc_lcp : ∀ {l m : List Nat}, lexc l m = if lcp l m < min l.length m.length then cmpN ((l[lcp l m]?.getD 0 : Nat) : Int) ((m[lcp l m]?.getD 0 : Nat) : Int) else cmpN l.length m.length
  | [], [] => by simp [lexc, lcp, cmpN]
  | [], _ :: m => by simp [lexc, lcp, cmpN] <;> omega
  | _ :: l, [] => by simp [lexc, lcp, cmpN] <;> omega
  | a :: l, b :: m => by
    by_cases h : a = b
    · subst h
      have ih := lexc_lcp (l := l) (m := m)
      simp only [lexc, lcp, if_true, Nat.lt_irrefl, if_false, List.length_cons, List.getElem?_cons_succ, ih]
      by_cases q : lcp l m < min l.length m.length
      · rw [if_pos q, if_pos (by omega)]
      · rw [if_neg q, if_neg (by omega)]
        unfold cmpN
        simp
    · simp only [lexc, lcp, if_neg h, List.length_cons, List.getElem?_cons_zero, Option.getD_some]
      have e : 0 < min (l.length + 1) (m.length + 1) := by omega
      rw [if_pos e]
      unfold cmpN
      by_cases q1 : a < b
      · rw [if_pos q1, if_pos (show (a : Int) < b by omega)]
      · rw [if_neg q1, if_neg (show ¬ (a : Int) < b by omega), if_pos (show b < a by omega), if_pos (show (b : Int) < a by omega)]
theorem bl_eq {n m a b : Nat} (ha : a < 2 ^ n) (hb : b < 2 ^ m) : bl n a = bl m b ↔ n = m ∧ a = b := by
  constructor
  · intro h
    have h1 := congrArg List.length h
    rw [bl_length, bl_length] at h1
    subst h1
    exact ⟨rfl, bl_inj ha hb h⟩
  · rintro ⟨rfl, rfl⟩; rfl
theorem bl_prefix {n m a b : Nat} (ha : a < 2 ^ n) (hb : b < 2 ^ m) : bl m b <+: bl n a ↔ m ≤ n ∧ a / 2 ^ (n - m) = b := by
  rw [List.prefix_iff_eq_take, bl_length]
  constructor
  · intro h
    have h1 := congrArg List.length h
    rw [bl_length, List.length_take, bl_length] at h1
    have h2 : m ≤ n := by omega
    rw [take_bl h2] at h
    exact ⟨h2, (bl_inj hb (div_lt_pow ha h2) h).symm⟩
  · rintro ⟨h1, h2⟩
    rw [take_bl h1, h2]
end Go.Sim.Bt
