/-
  A whole number and a vector, as the writer and the reference write them.
-/
import Derived.Test.YtmbfnpadhlfepaaPakH
set_option linter.unusedSimpArgs false
set_option linter.unusedVariables false
set_option maxRecDepth 100000
set_option maxHeartbeats 4000000
namespace Go.Proofs.Ytmbfnpadhlfepaa
open Go.Sim Go.Sim.Bt
attribute [local congr] bdc cndc itec gdc gdSc gdUc

theorem xor_ones (a : Nat) (h : a < 2 ^ 64) : a ^^^ (2 ^ 64 - 1) = 2 ^ 64 - 1 - a := by
  have e : BitVec.ofNat 64 a ^^^ BitVec.allOnes 64 = ~~~ (BitVec.ofNat 64 a) := BitVec.xor_allOnes
  have := congrArg BitVec.toNat e
  rw [BitVec.toNat_xor, BitVec.toNat_not, BitVec.toNat_allOnes, BitVec.toNat_ofNat, Nat.mod_eq_of_lt h] at this
  exact this
theorem int_w {b n0 : Nat} {s : St} {l : List Int} {i : Int} (h1 : -9223372036854775808 ≤ i) (h2 : i ≤ 9223372036854775807) (h : WrAt b n0 s l) (hl : l.length + 20 ≤ 140737488355328) :
    ∃ s', pack_writer_int.v (wpt b) (.int .i64 i) s = some (.tuple ⟨[]⟩, s') ∧ WrAt b n0 s' (l ++ numB (zz i)) ∧ WSt b n0 s s' := by
  obtain ⟨s', g1, g2, g3⟩ := number_w (zz i) (zz_lt h1 h2) h hl
  refine ⟨s', ?_, g2, g3⟩
  have e1 : cvi .u64 (.int .i64 i) = some (.int .u64 (((i % 18446744073709551616).toNat : Nat) : Int)) := by
    rw [cvi_int, wrapu64_eq]
    have : (((i % 18446744073709551616).toNat : Nat) : Int) = i % 18446744073709551616 := by omega
    rw [this]
  have e2 : bin .shl (.int .u64 (((i % 18446744073709551616).toNat : Nat) : Int)) (.int .u64 1) = some (.int .u64 (((2 * (i % 18446744073709551616).toNat) % 2 ^ 64 : Nat) : Int)) := by
    rw [bin_shl (by omega)]
    have e : IntKind.u64.wrap ((((i % 18446744073709551616).toNat : Nat) : Int) * 2 ^ (min (1 : Int).toNat IntKind.u64.bits)) = (((2 * (i % 18446744073709551616).toNat) % 2 ^ 64 : Nat) : Int) := by
      rw [show min (1 : Int).toNat IntKind.u64.bits = 1 from rfl, wrapu64_eq]
      omega
    rw [e]
  have e3 : bin .shr (.int .i64 i) (.int .u64 63) = some (.int .i64 (if i < 0 then -1 else 0)) := by
    rw [bin_shr (by omega)]
    have e : i.fdiv (2 ^ (min (63 : Int).toNat IntKind.i64.bits)) = if i < 0 then -1 else 0 := by
      rw [show min (63 : Int).toNat IntKind.i64.bits = 63 from rfl, Int.fdiv_eq_ediv_of_nonneg _ (by decide)]
      split <;> omega
    rw [e]
  have e4 : cvi .u64 (.int .i64 (if i < 0 then -1 else 0)) = some (.int .u64 ((if i < 0 then 2 ^ 64 - 1 else 0 : Nat) : Int)) := by
    rw [cvi_int, wrapu64_eq]
    split <;> rfl
  have e5 : bin .xor (.int .u64 (((2 * (i % 18446744073709551616).toNat) % 2 ^ 64 : Nat) : Int)) (.int .u64 ((if i < 0 then 2 ^ 64 - 1 else 0 : Nat) : Int)) = some (.int .u64 (zz i : Int)) := by
    rw [xor_u64 (Nat.mod_lt _ (by decide)) (by split <;> decide)]
    have e : ((2 * (i % 18446744073709551616).toNat) % 2 ^ 64) ^^^ (if i < 0 then 2 ^ 64 - 1 else 0) = zz i := by
      unfold zz
      split
      · rw [xor_ones _ (Nat.mod_lt _ (by decide))]; omega
      · rw [Nat.xor_zero]; omega
    rw [e]
  unfold pack_writer_int.v pack_writer_int.t
  simp only [std_bd, e1, e2, e3, e4, e5, g1, bds]

/-- A vector's bytes: its length, and its bits, the first ahead. -/
def vp (L B : Nat) : Nat := B * 2 ^ (8 * ((L + 7) / 8) - L)
def vecB (L B : Nat) : List Int := (L : Int) :: kb (vp L B) ((L + 7) / 8)
theorem vp_lt {L B : Nat} (h2 : B < 2 ^ L) : vp L B < 2 ^ (8 * ((L + 7) / 8)) := by
  unfold vp
  have e : 8 * ((L + 7) / 8) = L + (8 * ((L + 7) / 8) - L) := by omega
  rw [e, Nat.pow_add, show L + (8 * ((L + 7) / 8) - L) - L = 8 * ((L + 7) / 8) - L by omega]
  exact Nat.mul_lt_mul_of_lt_of_le h2 (Nat.le_refl _) (Nat.two_pow_pos _)
theorem vp_64 {L B : Nat} (h1 : L ≤ 32) (h2 : B < 2 ^ L) : vp L B < 2 ^ 64 :=
  Nat.lt_of_lt_of_le (vp_lt h2) (Nat.pow_le_pow_right (by omega) (by omega))
theorem vecloop {b n0 : Nat} (n : Nat) : ∀ (m : Nat), m ≤ 8 → ∀ {s : St} {l : List Int}, WrAt b n0 s l → l.length + m ≤ 140737488355328 →
    ∃ s', (∀ k, iter (pack_writer_vector.l5 std) (k + m + 1) [wpt b, .int .u64 (n : Int), .int .i64 ((m : Int) - 1)] s = some (0, [], s')) ∧ WrAt b n0 s' (l ++ kb n m) ∧ WSt b n0 s s'
  | 0, _, s, l, h, _ => ⟨s, fun k => by
      rw [iter_succ]
      simp only [pack_writer_vector.l5, sy, reduceIte, Nat.reduceAdd, Nat.reduceLeDiff, Nat.reduceLT, Nat.reduceEqDiff, Int.reduceEq, Int.reduceLT, Int.reduceLE, Int.reduceNe, ly]
      rfl, by simpa [kb] using h, .refl _ _ _⟩
  | m + 1, hm, s, l, h, hl => by
    obtain ⟨v, hv, hstep⟩ := wr_step h (by omega)
    obtain ⟨v', s1, s2, p1, p2, p3, p4⟩ := hstep ((n / 2 ^ (8 * m) % 256 : Nat) : Int)
    obtain ⟨s', q1, q2, q3⟩ := vecloop n m (by omega) p3 (by simp; omega)
    refine ⟨s', fun k => ?_, by rw [kb, List.append_cons]; exact q2, p4.trans q3⟩
    rw [show ((m + 1 : Nat) : Int) - 1 = (m : Int) by omega, show k + (m + 1) + 1 = (k + m + 1) + 1 by omega, iter_succ]
    have c : m = 0 ∨ m = 1 ∨ m = 2 ∨ m = 3 ∨ m = 4 ∨ m = 5 ∨ m = 6 ∨ m = 7 := by omega
    have e1 : bin .mul (.int .i64 8) (.int .i64 (m : Int)) = some (.int .i64 ((8 * m : Nat) : Int)) := by rcases c with rfl | rfl | rfl | rfl | rfl | rfl | rfl | rfl <;> rfl
    have e2 : cvi .u64 (.int .i64 ((8 * m : Nat) : Int)) = some (.int .u64 ((8 * m : Nat) : Int)) := by rcases c with rfl | rfl | rfl | rfl | rfl | rfl | rfl | rfl <;> rfl
    have e3 := shr_u64 (a := n) (k := 8 * m) (k' := .u64) (by omega)
    have e4 := cvi_u8 .u64 (n / 2 ^ (8 * m))
    have e5 : bin .geq (.int .i64 (m : Int)) (.int .i64 0) = some (.bool true) := by rcases c with rfl | rfl | rfl | rfl | rfl | rfl | rfl | rfl <;> rfl
    have e6 : bin .sub (.int .i64 (m : Int)) (.int .i64 1) = some (.int .i64 ((m : Int) - 1)) := by rcases c with rfl | rfl | rfl | rfl | rfl | rfl | rfl | rfl <;> rfl
    have e7 : nck (wpt b) = some (wpt b) := rfl
    have e8 : fld 0 (wpt b) = some (wpt b) := rfl
    have e9 := bls1 s ((n / 2 ^ (8 * m) % 256 : Nat) : Int)
    unfold pack_writer_vector.l5
    simp only [u8] at e4 p1
    simp only [std_bd, std_cnd, List.getD_cons_zero, List.getD_cons_succ, e1, e2, e3, e4, e5, e6, e7, e8, e9, hv, p1, p2, bds, cnd]
    exact q1 k
theorem vec_w {b n0 : Nat} {s : St} {l : List Int} {L B : Nat} (h1 : L ≤ 32) (h2 : B < 2 ^ L) (h : WrAt b n0 s l) (hl : l.length + 9 ≤ 140737488355328) :
    ∃ s', pack_writer_vector.v (wpt b) (.agg ⟨[.int .i64 (L : Int), .int .u64 (B : Int)]⟩) s = some (.tuple ⟨[]⟩, s') ∧ WrAt b n0 s' (l ++ vecB L B) ∧ WSt b n0 s s' := by
  obtain ⟨v, hv, hstep⟩ := wr_step h (by omega)
  obtain ⟨v', s1, s2, p1, p2, p3, p4⟩ := hstep (L : Int)
  obtain ⟨s', q1, q2, q3⟩ := vecloop (vp L B) ((L + 7) / 8) (by omega) p3 (by simp; omega)
  refine ⟨s', ?_, by rw [vecB]; simpa using q2, p4.trans q3⟩
  have q := q1 (BIG - (L + 7) / 8 - 1)
  rw [show BIG - (L + 7) / 8 - 1 + (L + 7) / 8 + 1 = BIG by unfold BIG; omega] at q
  have e0 : cvi .u8 (.int .i64 (L : Int)) = some (.int .u8 (L : Int)) := by
    rw [cvi_int, wrapu8 (by omega) (by omega)]
  have e1 : bin .add (.int .i64 (L : Int)) (.int .i64 7) = some (.int .i64 ((L + 7 : Nat) : Int)) := by
    rw [bin_add, wrap64 (by omega) (by omega)]; rfl
  have e2 : bin .quo (.int .i64 ((L + 7 : Nat) : Int)) (.int .i64 8) = some (.int .i64 (((L + 7) / 8 : Nat) : Int)) := by
    rw [bin_quo (by omega), Int.tdiv_eq_ediv_of_nonneg (by omega), wrap64 (by omega) (by omega), show ((L + 7 : Nat) : Int) / 8 = (((L + 7) / 8 : Nat) : Int) by omega]
  have e3 : bin .mul (.int .i64 8) (.int .i64 (((L + 7) / 8 : Nat) : Int)) = some (.int .i64 ((8 * ((L + 7) / 8) : Nat) : Int)) := by
    rw [bin_mul, wrap64 (by omega) (by omega), show (8 : Int) * (((L + 7) / 8 : Nat) : Int) = ((8 * ((L + 7) / 8) : Nat) : Int) by omega]
  have e4 : bin .sub (.int .i64 ((8 * ((L + 7) / 8) : Nat) : Int)) (.int .i64 (L : Int)) = some (.int .i64 ((8 * ((L + 7) / 8) - L : Nat) : Int)) := by
    rw [bin_sub, wrap64 (by omega) (by omega), show ((8 * ((L + 7) / 8) : Nat) : Int) - (L : Int) = ((8 * ((L + 7) / 8) - L : Nat) : Int) by omega]
  have e5 : cvi .u64 (.int .i64 ((8 * ((L + 7) / 8) - L : Nat) : Int)) = some (.int .u64 ((8 * ((L + 7) / 8) - L : Nat) : Int)) := by
    rw [cvi_int, wrapu64 (by omega) (by omega)]
  have e6 : bin .shl (.int .u64 (B : Int)) (.int .u64 ((8 * ((L + 7) / 8) - L : Nat) : Int)) = some (.int .u64 (vp L B : Int)) := shl_u64 (by omega) (vp_64 h1 h2)
  have e7 : bin .sub (.int .i64 (((L + 7) / 8 : Nat) : Int)) (.int .i64 1) = some (.int .i64 ((((L + 7) / 8 : Nat) : Int) - 1)) := by
    rw [bin_sub, wrap64 (by omega) (by omega)]
  have e8 : nck (wpt b) = some (wpt b) := rfl
  have e9 : fld 0 (wpt b) = some (wpt b) := rfl
  have f1 : bx (.agg ⟨[.int .i64 (L : Int), .int .u64 (B : Int)]⟩) = some [.int .i64 (L : Int), .int .u64 (B : Int)] := rfl
  have f2 : lcl [.int .i64 (L : Int), .int .u64 (B : Int)] 0 = some (.int .i64 (L : Int)) := rfl
  have f3 : lcl [.int .i64 (L : Int), .int .u64 (B : Int)] 1 = some (.int .u64 (B : Int)) := rfl
  have f4 := bls1 s (L : Int)
  simp only [u8] at p1
  clear q1 q2 q3 p3 p4 hstep h
  generalize ((8 * ((L + 7) / 8) - L : Nat) : Int) = z3 at *
  generalize ((8 * ((L + 7) / 8) : Nat) : Int) = z2 at *
  generalize (((L + 7) / 8 : Nat) : Int) = z1 at *
  generalize ((L + 7 : Nat) : Int) = z0 at *
  generalize ((vp L B : Nat) : Int) = z4 at *
  unfold pack_writer_vector.v pack_writer_vector.t
  simp only [std_bd, std_cnd, std_it, f1, f2, f3, f4, e0, e1, e2, e3, e4, e5, e6, e7, e8, e9, hv, p1, p2, q, bds]

/-! ### The reference's -/

theorem half_step (Q k : Nat) : Q / 2 % 2 ^ k * 2 + Q % 2 = Q % 2 ^ (k + 1) := by
  rw [Nat.pow_succ, Nat.mul_comm (2 ^ k) 2, Nat.mod_mul]; omega
/-- The `j`-th bit of the bits and the zeros behind them. -/
theorem vp_bit {L B j : Nat} (hj : j < 8 * ((L + 7) / 8)) : vp L B / 2 ^ (8 * ((L + 7) / 8) - 1 - j) % 2 = if j < L then B / 2 ^ (L - 1 - j) % 2 else 0 := by
  unfold vp
  by_cases h : j < L
  · rw [if_pos h, show 8 * ((L + 7) / 8) - 1 - j = (8 * ((L + 7) / 8) - L) + (L - 1 - j) by omega, Nat.pow_add, ← Nat.div_div_eq_div_mul, Nat.mul_div_cancel _ (Nat.two_pow_pos _)]
  · rw [if_neg h, show 8 * ((L + 7) / 8) - L = (8 * ((L + 7) / 8) - 1 - j) + ((j - L) + 1) by omega, Nat.pow_add, ← Nat.mul_assoc, Nat.mul_right_comm, Nat.mul_div_cancel _ (Nat.two_pow_pos _), Nat.pow_succ, ← Nat.mul_assoc, Nat.mul_mod_left]
theorem ext_step {L B i k : Nat} (hk : k < 8) (hi : i + 8 ≤ 8 * ((L + 7) / 8)) :
    (vp L B / 2 ^ (8 * ((L + 7) / 8) - (i + k)) % 2 ^ k) * 2 + (if i + k < L then B / 2 ^ (L - 1 - (i + k)) % 2 else 0) = vp L B / 2 ^ (8 * ((L + 7) / 8) - (i + (k + 1))) % 2 ^ (k + 1) := by
  rw [← vp_bit (by omega), show 8 * ((L + 7) / 8) - (i + k) = 8 * ((L + 7) / 8) - 1 - (i + k) + 1 by omega, Nat.pow_succ, ← Nat.div_div_eq_div_mul, half_step,
    show 8 * ((L + 7) / 8) - (i + (k + 1)) = 8 * ((L + 7) / 8) - 1 - (i + k) by omega]
theorem rbyteloop {s : St} {u w : Value} {L B i : Nat} (h1 : L ≤ 32) (hw : IsI s w (bl L B)) (hi : i + 8 ≤ 8 * ((L + 7) / 8)) : ∀ (d k : Nat), k + d = 8 →
    ∀ e, iter (leapfrogref03x_vector.l8 std) (e + d + 1) [u, w, .int .i64 (i : Int), .int .u8 ((vp L B / 2 ^ (8 * ((L + 7) / 8) - (i + k)) % 2 ^ k : Nat) : Int), .int .i64 (k : Int)] s
      = some (0, [u, w, .int .i64 (i : Int), .int .u8 ((vp L B / 2 ^ (8 * ((L + 7) / 8) - (i + 8)) % 256 : Nat) : Int)], s)
  | 0, k, hk, e => by
    have : k = 8 := by omega
    subst this
    have e1 : bin .lss (.int .i64 ((8 : Nat) : Int)) (.int .i64 8) = some (.bool false) := rfl
    rw [iter_succ]
    unfold leapfrogref03x_vector.l8
    simp only [std_bd, std_cnd, List.getD_cons_zero, List.getD_cons_succ, e1, bds, cnd]
  | d + 1, k, hk, e => by
    have ih := rbyteloop (u := u) h1 hw hi d (k + 1) (by omega) e
    have hx : vp L B / 2 ^ (8 * ((L + 7) / 8) - (i + k)) % 2 ^ k < 128 := Nat.lt_of_lt_of_le (Nat.mod_lt _ (Nat.two_pow_pos _)) (Nat.pow_le_pow_right (n := 2) (by omega) (show k ≤ 7 by omega))
    have hst := ext_step (L := L) (B := B) (i := i) (k := k) (by omega) hi
    generalize hX : vp L B / 2 ^ (8 * ((L + 7) / 8) - (i + k)) % 2 ^ k = X at *
    have e1 : bin .lss (.int .i64 (k : Int)) (.int .i64 8) = some (.bool true) := by
      rw [bin_lss, decide_eq_true (by omega)]
    have e2 : bin .mul (.int .u8 (X : Int)) (.int .u8 2) = some (.int .u8 ((X * 2 : Nat) : Int)) := by
      rw [bin_mul, wrapu8 (by omega) (by omega)]; rfl
    have e3 : bin .add (.int .i64 (i : Int)) (.int .i64 (k : Int)) = some (.int .i64 ((i + k : Nat) : Int)) := by
      rw [bin_add, wrap64 (by omega) (by omega)]; rfl
    have e4 := hw.len
    rw [bl_length] at e4
    have e5 : bin .add (.int .i64 (k : Int)) (.int .i64 1) = some (.int .i64 ((k + 1 : Nat) : Int)) := by
      rw [bin_add, wrap64 (by omega) (by omega)]; rfl
    rw [show e + (d + 1) + 1 = (e + d + 1) + 1 by omega, iter_succ]
    unfold leapfrogref03x_vector.l8
    by_cases h : i + k < L
    · rw [if_pos h] at hst
      obtain ⟨p, p1, p2⟩ := hw.at (bl_get (n := L) (b := B) h)
      have hb : B / 2 ^ (L - 1 - (i + k)) % 2 < 2 := Nat.mod_lt _ (by omega)
      generalize B / 2 ^ (L - 1 - (i + k)) % 2 = D at *
      have e6 : bin .lss (.int .i64 ((i + k : Nat) : Int)) (.int .i64 (L : Int)) = some (.bool true) := by
        rw [bin_lss, decide_eq_true (by omega)]
      have e7 : cvi .u8 (.int .i64 (D : Int)) = some (.int .u8 (D : Int)) := by
        rw [cvi_int, wrapu8 (by omega) (by omega)]
      have e8 : bin .add (.int .u8 ((X * 2 : Nat) : Int)) (.int .u8 (D : Int)) = some (.int .u8 ((X * 2 + D : Nat) : Int)) := by
        rw [bin_add, wrapu8 (by omega) (by omega)]; rfl
      simp only [std_bd, std_cnd, List.getD_cons_zero, List.getD_cons_succ, e1, e2, e3, e4, e5, e6, e7, e8, p1, p2, bds, cnd]
      rw [hst]
      exact ih
    · rw [if_neg h, Nat.add_zero] at hst
      have e6 : bin .lss (.int .i64 ((i + k : Nat) : Int)) (.int .i64 (L : Int)) = some (.bool false) := by
        rw [bin_lss, decide_eq_false (by omega)]
      simp only [std_bd, std_cnd, List.getD_cons_zero, List.getD_cons_succ, e1, e2, e3, e4, e5, e6, bds, cnd]
      rw [hst]
      exact ih
theorem rvecloop {s0 : St} {w : Value} {L B n0 : Nat} (h1 : L ≤ 32) (h0 : n0 ≤ s0.n) (hk : ∀ s', More s0 s' → IsI s' w (bl L B)) : ∀ (m t : Nat), t + m = (L + 7) / 8 → ∀ {s : St} {v : Value} {l : List Int}, Fresh s → Ful n0 s 1 v (br l) →
      (∀ y, ∃ v' s', app (s.new (.row 1 [[.int .u8 y]] false)) 1 1 v (.slice (some ⟨s.n, 0, some 0⟩) 1 2) = some (v', s') ∧ More s0 s' ∧ Ful s0.n s' 1 v' (br (l ++ [y])) ∧ Fresh s') → More s0 s → l.length + m + 1 ≤ 140737488355328 →
    ∃ v' s', (∀ e, iter (leapfrogref03x_vector.l4 std) (e + m + 1) [v, w, .int .i64 ((8 * t : Nat) : Int)] s = some (0, [v'], s')) ∧ Ful n0 s' 1 v' (br (l ++ kb (vp L B) m)) ∧ More s0 s' ∧ Fresh s'
  | 0, t, ht, s, v, l, f, h, hp, mo, hl => by
    refine ⟨v, s, fun e => ?_, by simpa [kb] using h, mo, f⟩
    have e4 := (hk s mo).len
    rw [bl_length] at e4
    have e6 : bin .lss (.int .i64 ((8 * t : Nat) : Int)) (.int .i64 (L : Int)) = some (.bool false) := by
      rw [bin_lss, decide_eq_false (by omega)]
    rw [iter_succ]
    unfold leapfrogref03x_vector.l4
    simp only [std_bd, std_cnd, List.getD_cons_zero, List.getD_cons_succ, e4, e6, bds, cnd]
  | m + 1, t, ht, s, v, l, f, h, hp, mo, hl => by
    have e4 := (hk s mo).len
    rw [bl_length] at e4
    have e6 : bin .lss (.int .i64 ((8 * t : Nat) : Int)) (.int .i64 (L : Int)) = some (.bool true) := by
      rw [bin_lss, decide_eq_true (by omega)]
    have q := rbyteloop (u := v) h1 (hk s mo) (i := 8 * t) (by omega) 8 0 rfl (BIG - 9)
    rw [show BIG - 9 + 8 + 1 = BIG from rfl, Nat.pow_zero, Nat.mod_one, show 8 * ((L + 7) / 8) - (8 * t + 8) = 8 * m by omega] at q
    obtain ⟨v1, s1, p1, p2, p3, p4⟩ := hp ((vp L B / 2 ^ (8 * m) % 256 : Nat) : Int)
    obtain ⟨v', s', q1, q2, q3, q4⟩ := rvecloop (B := B) h1 h0 hk m (t + 1) (by omega) p4 (p3.le h0) (fun y => br_one p4 p3 p2 y (by simp; omega)) p2 (by simp; omega)
    refine ⟨v', s', fun e => ?_, by rw [kb, List.append_cons]; exact q2, q3, q4⟩
    have e5 : bin .add (.int .i64 ((8 * t : Nat) : Int)) (.int .i64 8) = some (.int .i64 ((8 * (t + 1) : Nat) : Int)) := by
      rw [bin_add, wrap64 (by omega) (by omega)]; rfl
    rw [show e + (m + 1) + 1 = (e + m + 1) + 1 by omega, iter_succ]
    unfold leapfrogref03x_vector.l4
    have q' : iter (leapfrogref03x_vector.l8 std) BIG [v, w, .int .i64 ((8 * t : Nat) : Int), .int .u8 0, .int .i64 0] s = _ := q
    simp only [std_bd, std_cnd, std_it, List.getD_cons_zero, List.getD_cons_succ, e4, e6, q', bls1, p1, e5, bds, cnd]
    exact q1 e
theorem vecB_len (L B : Nat) : (vecB L B).length = (L + 7) / 8 + 1 := by simp [vecB, kb_length]
theorem rvector_v {s : St} {L B : Nat} (h1 : L ≤ 32) (h2 : B < 2 ^ L) (f : Fresh s) : Mk s (leapfrogref03x_vector.v (.agg ⟨[.int .i64 (L : Int), .int .u64 (B : Int)]⟩) s) (vecB L B) := by
  have f1 : Fresh (s.new (.row 1 (br [(L : Int)]) false)) := f.new
  have g1 : Ful s.n (s.new (.row 1 (br [(L : Int)]) false)) 1 (.slice (some ⟨s.n, 0, some 0⟩) 1 2) (br [(L : Int)]) := .inr ⟨s.n, 2, Nat.le_refl _, rfl, get_new_same, .inr rfl⟩
  have m1 : More s (s.new (.row 1 (br [(L : Int)]) false)) := .new
  have e0 : s.new (.row 1 [[.int .u8 (L : Int)]] false) = s.new (.row 1 (br [(L : Int)]) false) := rfl
  generalize hs1 : s.new (.row 1 (br [(L : Int)]) false) = s1 at *
  obtain ⟨w, s2, b1, b2, b3⟩ := bits_is s1 h1 h2
  have f2 := b2.fresh f1
  have g2 : Ful s.n s2 1 (.slice (some ⟨s.n, 0, some 0⟩) 1 2) (br [(L : Int)]) := g1.more b2 f1
  have gr : s2.get s.n = some (.row 1 (br [(L : Int)]) false) := b2.get f1 (by rw [← hs1]; exact get_new_same)
  have m2 := m1.trans b2
  have hp : ∀ y, ∃ v' s', app (s2.new (.row 1 [[.int .u8 y]] false)) 1 1 (.slice (some ⟨s.n, 0, some 0⟩) 1 2) (.slice (some ⟨s2.n, 0, some 0⟩) 1 2) = some (v', s') ∧ More s2 s' ∧ Ful s2.n s' 1 v' (br ([(L : Int)] ++ [y])) ∧ Fresh s' := by
    intro y
    have gn : (s2.new (.row 1 [[.int .u8 y]] false)).get s.n = some (.row 1 (br [(L : Int)]) false) := More.new.get f2 gr
    refine ⟨_, _, app_full (by rfl) rowsOf_one gn (by simp [br_length]) (by omega) (by omega) (by omega) (by omega), More.new.trans .new, .inr ⟨_, 1, by rw [new_n]; omega, rfl, get_new_same, .inl rfl⟩, f2.new.new⟩
  obtain ⟨v', s', q1, q2, q3, q4⟩ := rvecloop (s0 := s2) (w := w) (B := B) (n0 := s.n) h1 m2.n (fun s' m => b3.more m f2) ((L + 7) / 8) 0 (by omega) f2 g2 hp (.refl _) (by simp; omega)
  refine ⟨v', s', ?_, m2.trans q3, by rw [vecB]; simpa using q2, q4⟩
  have q := q1 (BIG - (L + 7) / 8 - 1)
  rw [show BIG - (L + 7) / 8 - 1 + (L + 7) / 8 + 1 = BIG by unfold BIG; omega] at q
  have e1 : cvi .u8 (.int .i64 (L : Int)) = some (.int .u8 (L : Int)) := by
    rw [cvi_int, wrapu8 (by omega) (by omega)]
  have e2 : bx (.agg ⟨[.int .i64 (L : Int), .int .u64 (B : Int)]⟩) = some [.int .i64 (L : Int), .int .u64 (B : Int)] := rfl
  have e3 : lcl [.int .i64 (L : Int), .int .u64 (B : Int)] 0 = some (.int .i64 (L : Int)) := rfl
  have e4 : lal [.int .i64 (L : Int), .int .u64 (B : Int)] 0 2 = some (VV L B) := rfl
  unfold leapfrogref03x_vector.v leapfrogref03x_vector.t
  simp only [std_bd, std_cnd, std_it, e1, e2, e3, e4, bls1, e0, b1, bds]
  rw [show iter (leapfrogref03x_vector.l4 std) BIG [.slice (some ⟨s.n, 0, some 0⟩) 1 2, w, .int .i64 0] s2 = _ from q]
  rfl
end Go.Proofs.Ytmbfnpadhlfepaa
