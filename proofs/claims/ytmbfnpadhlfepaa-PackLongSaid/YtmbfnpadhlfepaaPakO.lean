/-
  The program's reader: a number, a whole number.
-/
import Derived.Test.YtmbfnpadhlfepaaPakN
set_option linter.unusedSimpArgs false
set_option linter.unusedVariables false
set_option maxRecDepth 100000
set_option maxHeartbeats 4000000
namespace Go.Proofs.Ytmbfnpadhlfepaa
open Go.Sim Go.Sim.Bt
attribute [local congr] bdc cndc itec gdc gdSc gdUc

theorem okY.at {bs : List Int} (h : okY bs) {p : Nat} {y : Int} (hp : bs[p]? = some y) : ∃ z : Nat, y = z ∧ z < 256 := by
  have := h y (List.mem_of_getElem? hp)
  exact ⟨y.toNat, by omega, by omega⟩
theorem byteP_none {bs : List Int} {c : Nat → Bool} {p : Nat} (h : bs[p]? = none) : byteP bs c p = .bad 32 p := by unfold byteP; rw [h]
theorem byteP_some {bs : List Int} {c : Nat → Bool} {p y : Nat} (h : bs[p]? = some (y : Int)) : byteP bs c p = if c y = true then .ok y (p + 1) else .bad 31 p := by unfold byteP; rw [h]; rfl
theorem pow128_le {i : Nat} (h : i ≤ 9) : 128 ^ i ≤ 9223372036854775808 := Nat.le_trans (Nat.pow_le_pow_right (by omega) h) (by decide)

section
variable {n1 b p : Nat} {bv : Value} {bs : List Int} {s : St}
theorem numstep {most i x y : Nat} (hm : most = maxU ∨ (most ≤ 65536 ∧ i ≤ 2)) (hi : i ≤ 9) (hx : x < 128 ^ i) (h : RdAt n1 b bv bs p s) (hp : bs[p]? = some (y : Int)) (hy : y < 256) :
    ∃ s', RdAt n1 b bv bs (p + 1) s' ∧ RdS b s s' ∧ ∀ e, iter (pack_reader_number.l4 std) (e + 1) [rpt b, .int .u64 (most : Int), .int .u64 (x : Int), .int .i64 (i : Int)] s =
      if condN most i x y = true then
        (if y < 128 then some (1, [.int .u64 ((x + y % 128 * 128 ^ i : Nat) : Int)], s') else iter (pack_reader_number.l4 std) e [rpt b, .int .u64 (most : Int), .int .u64 ((x + y % 128 * 128 ^ i : Nat) : Int), .int .i64 ((i + 1 : Nat) : Int)] s')
      else some (0, [pv 31], s) := by
  have pk := peek_ok h hp
  have nb := next_bad h
  obtain ⟨s', no, h1, h2⟩ := next_ok h hp
  refine ⟨s', h1, h2, fun e => ?_⟩
  have p128 := pow128_le hi
  have p1 : 128 ^ i = 2 ^ (7 * i) := by rw [Nat.pow_mul]
  have hF : pack_fits.r (.int .u64 (x : Int)) (.int .i64 ((7 * i : Nat) : Int)) (.int .u8 (y : Int)) (.int .u64 (most : Int)) s = some (.bool (decide (most = maxU ∨ x + y % 128 * 128 ^ i + (if 128 ≤ y then 128 ^ (i + 1) else 0) ≤ most))) := by
    rcases hm with rfl | ⟨hm, hi2⟩
    · rw [show ((maxU : Nat) : Int) = 18446744073709551615 from rfl, fits_max, decide_eq_true (.inl rfl)]
    · rw [fits_r hi2 hx hy hm]
      have : (most = maxU ∨ x + y % 128 * 128 ^ i + (if 128 ≤ y then 128 ^ (i + 1) else 0) ≤ most) ↔ x + y % 128 * 128 ^ i + (if 128 ≤ y then 128 ^ (i + 1) else 0) ≤ most := by
        constructor
        · rintro (e | e)
          · unfold maxU at e; omega
          · exact e
        · exact .inr
      simp only [this]
  have e7 : IntKind.i64.wrap (7 * (i : Int)) = ((7 * i : Nat) : Int) := by rw [wrap64 (by omega) (by omega)]; omega
  have e8 : IntKind.i64.wrap ((i : Int) + 1) = ((i + 1 : Nat) : Int) := by rw [wrap64 (by omega) (by omega)]; omega
  have k1 : ((0 : Int) < (i : Int)) = (0 < i) := propext (by omega)
  have k2 : ((y : Int) = 0) = (y = 0) := propext (by omega)
  have k3 : ((i : Int) = 9) = (i = 9) := propext (by omega)
  have k4 : ((y : Int) = 1) = (y = 1) := propext (by omega)
  have k5 : ((y : Int) < 128) = (y < 128) := propext (by omega)
  have nk : nck (rpt b) = some (rpt b) := rfl
  have fl : fld 0 (rpt b) = some (rpt b) := rfl
  rw [iter_succ]
  by_cases hc : condN most i x y = true
  · rw [if_pos hc]
    obtain ⟨c1, c2, c3⟩ := of_decide_eq_true hc
    rw [decide_eq_true c3] at hF
    have a1 := and127 hy
    have a2 : IntKind.u64.wrap ((y % 128 : Nat) : Int) = ((y % 128 : Nat) : Int) := wrapu64 (by omega) (by omega)
    have a3 : IntKind.u64.wrap ((7 * i : Nat) : Int) = ((7 * i : Nat) : Int) := wrapu64 (by omega) (by omega)
    have hb : y % 128 * 128 ^ i < 2 ^ 64 := by
      by_cases h9 : i = 9
      · have : y = 1 := Decidable.of_not_not fun e => c2 ⟨h9, e⟩
        subst this
        rw [show 1 % 128 = 1 from rfl, Nat.one_mul]; omega
      · have := Nat.mul_le_mul (show y % 128 ≤ 127 by omega) (show 128 ^ i ≤ 128 ^ 8 from Nat.pow_le_pow_right (by omega) (by omega))
        have e : 127 * 128 ^ 8 < 2 ^ 64 := by decide
        omega
    have a4 : bin .shl (.int .u64 ((y % 128 : Nat) : Int)) (.int .u64 ((7 * i : Nat) : Int)) = some (.int .u64 ((y % 128 * 128 ^ i : Nat) : Int)) := by
      rw [shl_u64 (by omega) (by rw [← p1]; exact hb), p1]
    have a5 : bin .or (.int .u64 (x : Int)) (.int .u64 ((y % 128 * 128 ^ i : Nat) : Int)) = some (.int .u64 ((x + y % 128 * 128 ^ i : Nat) : Int)) := by
      rw [or_u64 (by omega) hb, Nat.or_comm, Nat.mul_comm (y % 128), p1, ← Nat.two_pow_add_eq_or_of_lt (by rw [← p1]; exact hx), Nat.add_comm]
    rcases Classical.propComplete (0 < i) with d1 | d1 <;> rcases Classical.propComplete (i = 9) with d3 | d3 <;> rcases Classical.propComplete (y = 0) with d2 | d2 <;> rcases Classical.propComplete (y = 1) with d4 | d4 <;>
      first
      | (exfalso; simp only [d1, d2, d3, d4, true_and, and_true, not_true_eq_false, ne_eq, not_false_eq_true, and_self] at c1 c2; done)
      | (exfalso; have := of_eq_true d2; have := of_eq_true d4; omega)
      | (exfalso; have := of_eq_true d3; have := of_eq_false d1; omega)
      | (rcases Classical.propComplete (y < 128) with d5 | d5 <;>
          simp only [pack_reader_number.l4, pack_reader_number.l4.p1, nk, fl, pk, sy, reduceIte, Nat.reduceAdd, Nat.reduceLeDiff, Nat.reduceLT, Nat.reduceEqDiff, Int.reduceEq, Int.reduceLT, Int.reduceLE, Int.reduceNe, ly, k1, k2, k3, k4, k5, d1, d2, d3, d4, d5, e7, hF, no, a1, a2, a3, a4, a5, e8])
  · rw [if_neg hc]
    have hcn : ¬ (¬ (0 < i ∧ y = 0) ∧ ¬ (i = 9 ∧ y ≠ 1) ∧ (most = maxU ∨ x + y % 128 * 128 ^ i + (if 128 ≤ y then 128 ^ (i + 1) else 0) ≤ most)) := fun e => hc (decide_eq_true e)
    rcases Classical.propComplete (0 < i) with d1 | d1 <;> rcases Classical.propComplete (i = 9) with d3 | d3 <;> rcases Classical.propComplete (y = 0) with d2 | d2 <;> rcases Classical.propComplete (y = 1) with d4 | d4 <;>
      first
      | (exfalso; have := of_eq_true d2; have := of_eq_true d4; omega)
      | (exfalso; have := of_eq_true d3; have := of_eq_false d1; omega)
      | (simp only [pack_reader_number.l4, pack_reader_number.l4.p1, nk, fl, pk, sy, reduceIte, Nat.reduceAdd, Nat.reduceLeDiff, Nat.reduceLT, Nat.reduceEqDiff, Int.reduceEq, Int.reduceLT, Int.reduceLE, Int.reduceNe, ly, k1, k2, k3, k4, k5, d1, d2, d3, d4, e7, nb]; done)
      | (have c3 : ¬ (most = maxU ∨ x + y % 128 * 128 ^ i + (if 128 ≤ y then 128 ^ (i + 1) else 0) ≤ most) := fun e => hcn (by simp only [d1, d2, d3, d4, e, true_and, and_true, and_false, false_and, not_false_eq_true, not_true_eq_false, ne_eq, and_self])
         rw [decide_eq_false c3] at hF
         simp only [pack_reader_number.l4, pack_reader_number.l4.p1, nk, fl, pk, sy, reduceIte, Nat.reduceAdd, Nat.reduceLeDiff, Nat.reduceLT, Nat.reduceEqDiff, Int.reduceEq, Int.reduceLT, Int.reduceLE, Int.reduceNe, ly, k1, k2, k3, k4, k5, d1, d2, d3, d4, e7, hF, nb])
/-- What the loop of a number answers. -/
def NumIs (n1 b : Nat) (bv : Value) (bs : List Int) (s : St) (r : Nat → Option Cut) : RdR Nat → Prop
  | .ok a q => ∃ s', (∀ e, r e = some (1, [.int .u64 (a : Int)], s')) ∧ RdAt n1 b bv bs q s' ∧ RdS b s s'
  | .bad er q => ∃ s', (∀ e, r e = some (0, [pv er], s')) ∧ RdAt n1 b bv bs q s' ∧ RdS b s s'
theorem numloop_q {most : Nat} : ∀ (d i x : Nat) {p : Nat} {s : St}, i + d = 9 → x < 128 ^ i → (most = maxU ∨ (most ≤ 65536 ∧ i ≤ 2)) → RdAt n1 b bv bs p s →
    NumIs n1 b bv bs s (fun e => iter (pack_reader_number.l4 std) (e + d + 1) [rpt b, .int .u64 (most : Int), .int .u64 (x : Int), .int .i64 (i : Int)] s) (numL bs most (d + 1) i x p)
  | d, i, x, p, s, hi, hx, hm, h => by
    unfold numL
    cases hp : bs[p]? with
    | none =>
      rw [byteP_none hp]
      have pk := peek_no h hp
      have nk : nck (rpt b) = some (rpt b) := rfl
      have fl : fld 0 (rpt b) = some (rpt b) := rfl
      refine ⟨s, fun e => ?_, h, .refl _ _⟩
      dsimp only
      rw [iter_succ]
      simp only [pack_reader_number.l4, nk, fl, pk, sy, reduceIte, Nat.reduceAdd, Nat.reduceLeDiff, Nat.reduceLT, Nat.reduceEqDiff, Int.reduceEq, Int.reduceLT, Int.reduceLE, Int.reduceNe, ly]
    | some y' =>
      obtain ⟨y, rfl, hy⟩ := h.ok.at hp
      rw [byteP_some hp]
      obtain ⟨s1, h1, h2, h3⟩ := numstep hm (by omega) hx h hp hy
      by_cases hc : condN most i x y = true
      · rw [if_pos hc]
        simp only []
        by_cases h128 : y < 128
        · rw [if_pos h128]
          refine ⟨s1, fun e => ?_, h1, h2⟩
          show iter _ (e + d + 1) _ _ = _
          rw [h3, if_pos hc, if_pos h128]
        · rw [if_neg h128]
          obtain ⟨c1, c2, c3⟩ := of_decide_eq_true hc
          have h9 : i ≠ 9 := fun e => c2 ⟨e, by omega⟩
          have hb : x + y % 128 * 128 ^ i < 128 ^ (i + 1) := by
            have : y % 128 * 128 ^ i ≤ 127 * 128 ^ i := Nat.mul_le_mul_right _ (by omega)
            rw [Nat.pow_succ]; omega
          have hm' : most = maxU ∨ (most ≤ 65536 ∧ i + 1 ≤ 2) := by
            rcases hm with e | ⟨e, e2⟩
            · exact .inl e
            · refine .inr ⟨e, ?_⟩
              rcases c3 with c3 | c3
              · unfold maxU at c3; omega
              · rw [if_pos (by omega)] at c3
                rcases Nat.lt_or_ge i 2 with k | k
                · omega
                · have : 128 ^ 3 ≤ 128 ^ (i + 1) := Nat.pow_le_pow_right (by omega) (by omega)
                  have e : 128 ^ 3 = 2097152 := by decide
                  omega
          obtain ⟨d', rfl⟩ : ∃ d', d = d' + 1 := ⟨d - 1, by omega⟩
          have ih := numloop_q d' (i + 1) (x + y % 128 * 128 ^ i) (by omega) hb hm' h1
          revert ih
          cases numL bs most (d' + 1) (i + 1) (x + y % 128 * 128 ^ i) (p + 1) with
          | ok a q =>
            rintro ⟨s', k1, k2, k3⟩
            refine ⟨s', fun e => ?_, k2, h2.trans k3⟩
            show iter _ (e + (d' + 1) + 1) _ _ = _
            rw [h3, if_pos hc, if_neg h128]
            exact k1 e
          | bad er q =>
            rintro ⟨s', k1, k2, k3⟩
            refine ⟨s', fun e => ?_, k2, h2.trans k3⟩
            show iter _ (e + (d' + 1) + 1) _ _ = _
            rw [h3, if_pos hc, if_neg h128]
            exact k1 e
      · rw [if_neg hc]
        refine ⟨s, fun e => ?_, h, .refl _ _⟩
        show iter _ (e + d + 1) _ _ = _
        rw [h3, if_neg hc]
theorem number_q {most : Nat} (hm : most = maxU ∨ most ≤ 65536) (h : RdAt n1 b bv bs p s) : RdIs n1 b bv bs s (fun a : Nat => .int .u64 (a : Int)) (pack_reader_number.q (rpt b) (.int .u64 (most : Int)) s) (numP bs most p) := by
  have := numloop_q 9 0 0 (by omega) (by decide) (hm.imp id fun e => ⟨e, by omega⟩) h
  unfold numP
  revert this
  cases numL bs most 10 0 0 p with
  | ok a q =>
    rintro ⟨s', k1, k2, k3⟩
    refine ⟨s', ?_, k2, k3⟩
    have := k1 (BIG - 10)
    dsimp only at this
    rw [show BIG - 10 + 9 + 1 = BIG from rfl] at this
    have this : iter (pack_reader_number.l4 std) BIG [rpt b, .int .u64 (most : Int), .int .u64 0, .int .i64 0] s = _ := this
    unfold pack_reader_number.q pack_reader_number.t
    simp only [std_bd, std_it, this, bds, List.getD_cons_zero]
    rfl
  | bad er q =>
    rintro ⟨s', k1, k2, k3⟩
    refine ⟨s', ?_, k2, k3⟩
    have := k1 (BIG - 10)
    dsimp only at this
    rw [show BIG - 10 + 9 + 1 = BIG from rfl] at this
    have this : iter (pack_reader_number.l4 std) BIG [rpt b, .int .u64 (most : Int), .int .u64 0, .int .i64 0] s = _ := this
    unfold pack_reader_number.q pack_reader_number.t
    simp only [std_bd, std_it, this, bds, List.getD_cons_zero]
    rfl
theorem xor_i64 (a : Nat) (h : a < 9223372036854775808) : bin .xor (.int .i64 (a : Int)) (.int .i64 (-1)) = some (.int .i64 (-(a : Int) - 1)) := by
  rw [bin_xor]
  change some (Value.int .i64 (IntKind.i64.wrap ((BitVec.ofInt 64 (a : Int) ^^^ BitVec.ofInt 64 (-1) : BitVec 64).toNat : Int))) = _
  rw [BitVec.ofInt_natCast, show BitVec.ofInt 64 (-1) = BitVec.allOnes 64 by decide, BitVec.xor_allOnes, BitVec.toNat_not, BitVec.toNat_ofNat, Nat.mod_eq_of_lt (by omega)]
  have : IntKind.i64.wrap ((2 ^ 64 - 1 - a : Nat) : Int) = -(a : Int) - 1 := by
    simp [IntKind.wrap, IntKind.signed, IntKind.bits]; omega
  rw [this]
theorem xor_i64z (a : Nat) (h : a < 9223372036854775808) : bin .xor (.int .i64 (a : Int)) (.int .i64 0) = some (.int .i64 (a : Int)) := by
  rw [bin_xor]
  change some (Value.int .i64 (IntKind.i64.wrap ((BitVec.ofInt 64 (a : Int) ^^^ BitVec.ofInt 64 0 : BitVec 64).toNat : Int))) = _
  rw [BitVec.ofInt_natCast, show BitVec.ofInt 64 0 = 0#64 by decide, BitVec.xor_zero, BitVec.toNat_ofNat, Nat.mod_eq_of_lt (by omega), wrap64 (by omega) (by omega)]
theorem un_neg {a : Int} (h1 : -9223372036854775807 ≤ a) (h2 : a ≤ 9223372036854775807) : un .neg (.int .i64 a) = some (.int .i64 (-a)) := by
  rw [← wrap64 (n := -a) (by omega) (by omega)]; simp [un, Op.unary, run0, Op.intArith]; rfl
theorem unzz_r {x : Nat} (h : x < 2 ^ 64) {K : Value → Option (Bool × Value × St)} : ((bin .shr (.int .u64 (x : Int)) (.int .u64 1)).bind fun x2 => (cvi .i64 x2).bind fun x3 => (bin .and (.int .u64 (x : Int)) (.int .u64 1)).bind fun x4 => (cvi .i64 x4).bind fun x5 => (un .neg x5).bind fun x6 => (bin .xor x3 x6).bind K) = K (.int .i64 (unzz x)) := by
  have e1 := shr_u64 (a := x) (k := 1) (k' := .u64) (by omega)
  rw [show ((1 : Nat) : Int) = 1 from rfl, Nat.pow_one] at e1
  have e2 : cvi .i64 (.int .u64 ((x / 2 : Nat) : Int)) = some (.int .i64 ((x / 2 : Nat) : Int)) := by rw [cvi_int, wrap64 (by omega) (by omega)]
  have e3 := and_u64 (a := x) (b := 1) h (by decide)
  rw [show ((1 : Nat) : Int) = 1 from rfl, Nat.and_one_is_mod] at e3
  have e4 : cvi .i64 (.int .u64 ((x % 2 : Nat) : Int)) = some (.int .i64 ((x % 2 : Nat) : Int)) := by rw [cvi_int, wrap64 (by omega) (by omega)]
  have e5 : un .neg (.int .i64 ((x % 2 : Nat) : Int)) = some (.int .i64 (-((x % 2 : Nat) : Int))) := un_neg (by omega) (by omega)
  have hlt : x / 2 < 9223372036854775808 := by omega
  rw [e1, bds, e2, bds, e3, bds, e4, bds, e5, bds]
  unfold unzz
  by_cases hx : x % 2 = 1
  · rw [if_pos hx, hx, show -((1 : Nat) : Int) = -1 from rfl, xor_i64 _ hlt, bds]
  · rw [if_neg hx, show x % 2 = 0 by omega, show -((0 : Nat) : Int) = 0 from rfl, xor_i64z _ hlt, bds]
theorem int_q (h : RdAt n1 b bv bs p s) : RdIs n1 b bv bs s (fun a : Int => .int .i64 a) (pack_reader_int.q (rpt b) s) (intP bs p) := by
  have hn := number_q (most := maxU) (.inl rfl) h
  rw [show ((maxU : Nat) : Int) = 18446744073709551615 from rfl] at hn
  have hlt := @numL_lt bs maxU 10 0 0 p
  unfold intP
  unfold numP at *
  revert hn hlt
  cases numL bs maxU 10 0 0 p with
  | ok a q =>
    rintro ⟨s', k1, k2, k3⟩ hlt
    refine ⟨s', ?_, k2, k3⟩
    unfold pack_reader_int.q pack_reader_int.t
    simp only [std_bd, std_cnd, k1, bds, cnd]
    exact unzz_r (hlt rfl (by decide) rfl)
  | bad er q =>
    rintro ⟨s', k1, k2, k3⟩ _
    refine ⟨s', ?_, k2, k3⟩
    unfold pack_reader_int.q pack_reader_int.t
    simp only [std_bd, std_cnd, k1, bds, cnd]
end
end Go.Proofs.Ytmbfnpadhlfepaa
