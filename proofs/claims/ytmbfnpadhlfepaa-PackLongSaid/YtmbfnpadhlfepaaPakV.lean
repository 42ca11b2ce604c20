/-
  The reference's reader: a number, a whole number, a key.
-/
import Derived.Test.YtmbfnpadhlfepaaPakU
set_option linter.unusedSimpArgs false
set_option linter.unusedVariables false
set_option maxRecDepth 100000
set_option maxHeartbeats 4000000
namespace Go.Proofs.Ytmbfnpadhlfepaa
open Go.Sim Go.Sim.Bt
attribute [local congr] bdc cndc itec gdc gdSc gdUc

section
variable {n1 b p : Nat} {bv : Value} {bs : List Int} {s : St}
theorem rnumstep {most i x y : Nat} (hm : most = maxU ∨ (most = 65536 ∧ i ≤ 2)) (hi : i ≤ 9) (hx : x < 128 ^ i) (h : RrAt n1 b bv bs p 0 s) (hp : bs[p]? = some (y : Int)) (hy : y < 256) :
    if condN most i x y = true then ∃ s', RrAt n1 b bv bs (p + 1) 0 s' ∧ RdS b s s' ∧ ∀ e, iter (leapfrogref03x_Reader_number.l3 std) (e + 1) [rpt b, .int .u64 (most : Int), .int .u64 (x : Int), .int .u64 ((128 ^ i : Nat) : Int), .int .i64 (i : Int)] s =
        (if y < 128 then some (1, [.int .u64 ((x + y % 128 * 128 ^ i : Nat) : Int)], s') else iter (leapfrogref03x_Reader_number.l3 std) e [rpt b, .int .u64 (most : Int), .int .u64 ((x + y % 128 * 128 ^ i : Nat) : Int), .int .u64 ((128 ^ (i + 1) : Nat) : Int), .int .i64 ((i + 1 : Nat) : Int)] s')
      else ∃ s', RrAt n1 b bv bs p 31 s' ∧ RdS b s s' ∧ ∀ e, iter (leapfrogref03x_Reader_number.l3 std) (e + 1) [rpt b, .int .u64 (most : Int), .int .u64 (x : Int), .int .u64 ((128 ^ i : Nat) : Int), .int .i64 (i : Int)] s = some (1, [.int .u64 0], s') := by
  have nx := rnext_ok h hp
  have hlt : p < bs.length := (List.getElem?_eq_some_iff.1 hp).1
  have hsz := h.sz
  have p128 := pow128_le hi
  have hF : leapfrogref03x_within.r (.int .u64 (x : Int)) (.int .u64 ((128 ^ i : Nat) : Int)) (.int .u8 (y : Int)) (.int .u64 (most : Int)) s = some (.bool (decide (most = maxU ∨ x + y % 128 * 128 ^ i + (if 128 ≤ y then 128 ^ (i + 1) else 0) ≤ most))) := by
    rcases hm with rfl | ⟨hm, hi2⟩
    · rw [show ((maxU : Nat) : Int) = 18446744073709551615 from rfl, within_max, decide_eq_true (.inl rfl)]
    · rw [within_r hi2 hx hy hm]
      have : (most = maxU ∨ x + y % 128 * 128 ^ i + (if 128 ≤ y then 128 ^ (i + 1) else 0) ≤ most) ↔ x + y % 128 * 128 ^ i + (if 128 ≤ y then 128 ^ (i + 1) else 0) ≤ most := by
        constructor
        · rintro (e | e)
          · unfold maxU at e; omega
          · exact e
        · exact .inr
      simp only [this]
  have e8 : IntKind.i64.wrap ((i : Int) + 1) = ((i + 1 : Nat) : Int) := by rw [wrap64 (by omega) (by omega)]; omega
  have e9 : IntKind.i64.wrap ((p : Int) + 1) = ((p + 1 : Nat) : Int) := by rw [wrap64 (by omega) (by omega)]; omega
  have k1 : ((0 : Int) < (i : Int)) = (0 < i) := propext (by omega)
  have k2 : ((y : Int) = 0) = (y = 0) := propext (by omega)
  have k3 : ((i : Int) = 9) = (i = 9) := propext (by omega)
  have k4 : ((y : Int) = 1) = (y = 1) := propext (by omega)
  have k5 : ((y : Int) < 128) = (y < 128) := propext (by omega)
  have k6 : (i : Int) < 10 := by omega
  have nk : nck (rpt b) = some (rpt b) := rfl
  have f1 : fld 1 (rpt b) = some (.pointer (some ⟨b, 0, some 1⟩)) := rfl
  have f2 : fld 2 (rpt b) = some (.pointer (some ⟨b, 0, some 2⟩)) := rfl
  by_cases hc : condN most i x y = true
  · rw [if_pos hc]
    have hput := h.put (q := p + 1) (by omega) 0
    refine ⟨_, hput.1, hput.2, fun e => ?_⟩
    rw [iter_succ]
    obtain ⟨c1, c2, c3⟩ := of_decide_eq_true hc
    rw [decide_eq_true c3] at hF
    have a1 : bin .rem (.int .u8 (y : Int)) (.int .u8 128) = some (.int .u8 ((y % 128 : Nat) : Int)) := by
      rw [bin_rem (by omega), Int.tmod_eq_emod_of_nonneg (by omega)]; rfl
    have a2 : IntKind.u64.wrap ((y % 128 : Nat) : Int) = ((y % 128 : Nat) : Int) := wrapu64 (by omega) (by omega)
    have hb : y % 128 * 128 ^ i < 2 ^ 64 ∧ x + y % 128 * 128 ^ i < 2 ^ 64 := by
      by_cases h9 : i = 9
      · have : y = 1 := Decidable.of_not_not fun e => c2 ⟨h9, e⟩
        subst this
        rw [show 1 % 128 = 1 from rfl, Nat.one_mul]; omega
      · have := Nat.mul_le_mul (show y % 128 ≤ 127 by omega) (show 128 ^ i ≤ 128 ^ 8 from Nat.pow_le_pow_right (by omega) (by omega))
        have e : 127 * 128 ^ 8 < 2 ^ 63 := by decide
        have e2 : (2 : Nat) ^ 64 = 2 ^ 63 + 2 ^ 63 := by decide
        have e3 : (2 : Nat) ^ 63 = 9223372036854775808 := by decide
        omega
    have a4 : bin .mul (.int .u64 ((y % 128 : Nat) : Int)) (.int .u64 ((128 ^ i : Nat) : Int)) = some (.int .u64 ((y % 128 * 128 ^ i : Nat) : Int)) := by
      rw [mul_u64, Nat.mod_eq_of_lt hb.1]
    have a5 : bin .add (.int .u64 (x : Int)) (.int .u64 ((y % 128 * 128 ^ i : Nat) : Int)) = some (.int .u64 ((x + y % 128 * 128 ^ i : Nat) : Int)) := by
      rw [add_u64, Nat.mod_eq_of_lt hb.2]
    have a6 : i ≠ 9 → bin .mul (.int .u64 ((128 ^ i : Nat) : Int)) (.int .u64 128) = some (.int .u64 ((128 ^ (i + 1) : Nat) : Int)) := fun h9 => by
      have := mul_u64 (a := 128 ^ i) (b := 128)
      have e : 128 ^ i * 128 ≤ 9223372036854775808 := by rw [← Nat.pow_succ]; exact pow128_le (by omega)
      rw [Nat.mod_eq_of_lt (by omega), ← Nat.pow_succ] at this
      exact this
    generalize ((128 ^ i : Nat) : Int) = P at *
    rcases Classical.propComplete (0 < i) with d1 | d1 <;> rcases Classical.propComplete (i = 9) with d3 | d3 <;> rcases Classical.propComplete (y = 0) with d2 | d2 <;> rcases Classical.propComplete (y = 1) with d4 | d4 <;>
      first
      | (exfalso; simp only [d1, d2, d3, d4, true_and, and_true, not_true_eq_false, ne_eq, not_false_eq_true, and_self] at c1 c2; done)
      | (exfalso; have := of_eq_true d2; have := of_eq_true d4; omega)
      | (exfalso; have := of_eq_true d3; have := of_eq_false d1; omega)
      | (rcases Classical.propComplete (y < 128) with d5 | d5
         · simp only [leapfrogref03x_Reader_number.l3, leapfrogref03x_Reader_number.l3.p1, nx, T2b, nk, f1, f2, sy, reduceIte, Nat.reduceAdd, Nat.reduceLeDiff, Nat.reduceLT, Nat.reduceEqDiff, Int.reduceEq, Int.reduceLT, Int.reduceLE, Int.reduceNe, ly, k1, k2, k3, k4, k5, k6, d1, d2, d3, d4, d5, hF, ldc_row h.row, stv_row h.row, e9, a1, a2, a4, a5, e8]
         · first
           | (exfalso; have := of_eq_true d4; have := of_eq_false d5; omega)
           | (have a6 := a6 (of_eq_false d3)
              simp only [leapfrogref03x_Reader_number.l3, leapfrogref03x_Reader_number.l3.p1, nx, T2b, nk, f1, f2, sy, reduceIte, Nat.reduceAdd, Nat.reduceLeDiff, Nat.reduceLT, Nat.reduceEqDiff, Int.reduceEq, Int.reduceLT, Int.reduceLE, Int.reduceNe, ly, k1, k2, k3, k4, k5, k6, d1, d2, d3, d4, d5, hF, ldc_row h.row, stv_row h.row, e9, a1, a2, a4, a5, a6, e8]))
  · rw [if_neg hc]
    have hput := h.put h.le 31
    refine ⟨_, hput.1, hput.2, fun e => ?_⟩
    rw [iter_succ]
    have hcn : ¬ (¬ (0 < i ∧ y = 0) ∧ ¬ (i = 9 ∧ y ≠ 1) ∧ (most = maxU ∨ x + y % 128 * 128 ^ i + (if 128 ≤ y then 128 ^ (i + 1) else 0) ≤ most)) := fun e => hc (decide_eq_true e)
    rcases Classical.propComplete (0 < i) with d1 | d1 <;> rcases Classical.propComplete (i = 9) with d3 | d3 <;> rcases Classical.propComplete (y = 0) with d2 | d2 <;> rcases Classical.propComplete (y = 1) with d4 | d4 <;>
      first
      | (exfalso; have := of_eq_true d2; have := of_eq_true d4; omega)
      | (exfalso; have := of_eq_true d3; have := of_eq_false d1; omega)
      | (simp only [leapfrogref03x_Reader_number.l3, leapfrogref03x_Reader_number.l3.p1, nx, T2b, nk, f1, f2, sy, reduceIte, Nat.reduceAdd, Nat.reduceLeDiff, Nat.reduceLT, Nat.reduceEqDiff, Int.reduceEq, Int.reduceLT, Int.reduceLE, Int.reduceNe, ly, k1, k2, k3, k4, k6, d1, d2, d3, d4, stv_row h.row]; done)
      | (have c3 : ¬ (most = maxU ∨ x + y % 128 * 128 ^ i + (if 128 ≤ y then 128 ^ (i + 1) else 0) ≤ most) := fun e => hcn (by simp only [d1, d2, d3, d4, e, true_and, and_true, and_false, false_and, not_false_eq_true, not_true_eq_false, ne_eq, and_self])
         rw [decide_eq_false c3] at hF
         simp only [leapfrogref03x_Reader_number.l3, leapfrogref03x_Reader_number.l3.p1, nx, T2b, nk, f1, f2, sy, reduceIte, Nat.reduceAdd, Nat.reduceLeDiff, Nat.reduceLT, Nat.reduceEqDiff, Int.reduceEq, Int.reduceLT, Int.reduceLE, Int.reduceNe, ly, k1, k2, k3, k4, k6, d1, d2, d3, d4, hF, stv_row h.row])
def RNumIs (n1 b : Nat) (bv : Value) (bs : List Int) (s : St) (r : Nat → Option Cut) : RdR Nat → Prop
  | .ok a q => ∃ s', (∀ e, r e = some (1, [.int .u64 (a : Int)], s')) ∧ RrAt n1 b bv bs q 0 s' ∧ RdS b s s'
  | .bad er q => ∃ s', (∀ e, r e = some (1, [.int .u64 0], s')) ∧ RrAt n1 b bv bs q er s' ∧ RdS b s s' ∧ er ≠ 0
theorem rnumloop_v {most : Nat} : ∀ (d i x : Nat) {p : Nat} {s : St}, i + d = 9 → x < 128 ^ i → (most = maxU ∨ (most = 65536 ∧ i ≤ 2)) → RrAt n1 b bv bs p 0 s →
    RNumIs n1 b bv bs s (fun e => iter (leapfrogref03x_Reader_number.l3 std) (e + d + 1) [rpt b, .int .u64 (most : Int), .int .u64 (x : Int), .int .u64 ((128 ^ i : Nat) : Int), .int .i64 (i : Int)] s) (numL bs most (d + 1) i x p)
  | d, i, x, p, s, hi, hx, hm, h => by
    unfold numL
    cases hp : bs[p]? with
    | none =>
      rw [byteP_none hp]
      obtain ⟨s', nx, h1, h2⟩ := rnext_no h hp
      have k6 : (i : Int) < 10 := by omega
      refine ⟨s', fun e => ?_, h1, h2, by omega⟩
      dsimp only
      rw [iter_succ]
      simp only [leapfrogref03x_Reader_number.l3, nx, T2b, sy, reduceIte, Nat.reduceAdd, Nat.reduceLeDiff, Nat.reduceLT, Nat.reduceEqDiff, Int.reduceEq, Int.reduceLT, Int.reduceLE, Int.reduceNe, ly, k6]
    | some y' =>
      obtain ⟨y, rfl, hy⟩ := h.ok.at hp
      rw [byteP_some hp]
      have hst := rnumstep hm (by omega) hx h hp hy
      by_cases hc : condN most i x y = true
      · rw [if_pos hc] at hst ⊢
        obtain ⟨s1, h1, h2, h3⟩ := hst
        simp only []
        by_cases h128 : y < 128
        · rw [if_pos h128]
          refine ⟨s1, fun e => ?_, h1, h2⟩
          show iter _ (e + d + 1) _ _ = _
          rw [h3, if_pos h128]
        · rw [if_neg h128]
          obtain ⟨c1, c2, c3⟩ := of_decide_eq_true hc
          have h9 : i ≠ 9 := fun e => c2 ⟨e, by omega⟩
          have hb : x + y % 128 * 128 ^ i < 128 ^ (i + 1) := by
            have : y % 128 * 128 ^ i ≤ 127 * 128 ^ i := Nat.mul_le_mul_right _ (by omega)
            rw [Nat.pow_succ]; omega
          have hm' : most = maxU ∨ (most = 65536 ∧ i + 1 ≤ 2) := by
            rcases hm with e | ⟨e, e2⟩
            · exact .inl e
            · refine .inr ⟨e, ?_⟩
              rcases c3 with c3 | c3
              · unfold maxU at c3; omega
              · rw [if_pos (by omega)] at c3
                rcases Nat.lt_or_ge i 2 with k | k
                · omega
                · have : 128 ^ 3 ≤ 128 ^ (i + 1) := Nat.pow_le_pow_right (by omega) (by omega)
                  have e : 128 ^ 3 = 2097152 := by decide
                  omega
          obtain ⟨d', rfl⟩ : ∃ d', d = d' + 1 := ⟨d - 1, by omega⟩
          have ih := rnumloop_v d' (i + 1) (x + y % 128 * 128 ^ i) (by omega) hb hm' h1
          revert ih
          cases numL bs most (d' + 1) (i + 1) (x + y % 128 * 128 ^ i) (p + 1) with
          | ok a q =>
            rintro ⟨s', k1, k2, k3⟩
            refine ⟨s', fun e => ?_, k2, h2.trans k3⟩
            show iter _ (e + (d' + 1) + 1) _ _ = _
            rw [h3, if_neg h128]
            exact k1 e
          | bad er q =>
            rintro ⟨s', k1, k2, k3, k4⟩
            refine ⟨s', fun e => ?_, k2, h2.trans k3, k4⟩
            show iter _ (e + (d' + 1) + 1) _ _ = _
            rw [h3, if_neg h128]
            exact k1 e
      · rw [if_neg hc] at hst ⊢
        obtain ⟨s1, h1, h2, h3⟩ := hst
        exact ⟨s1, fun e => h3 _, h1, h2, by omega⟩
def fU (a : Nat) : Value := .int .u64 (a : Int)
theorem rnumber_e {e : Int} {x : Value} (he : e ≠ 0) (h : RrAt n1 b bv bs p e s) : leapfrogref03x_Reader_number.v (rpt b) x s = some (fU 0, s) := by
  have k := rnext_e he h
  have hl : iter (leapfrogref03x_Reader_number.l3 std) BIG [rpt b, x, .int .u64 0, .int .u64 1, .int .i64 0] s = some ((1, [.int .u64 0], s) : Cut) := by
    rw [show BIG = 4611686018427387903 + 1 from rfl, iter_succ]
    simp only [leapfrogref03x_Reader_number.l3, k, T2b, sy, reduceIte, Nat.reduceAdd, Nat.reduceLeDiff, Nat.reduceLT, Nat.reduceEqDiff, Int.reduceEq, Int.reduceLT, Int.reduceLE, Int.reduceNe, ly]
  simp only [leapfrogref03x_Reader_number.v, leapfrogref03x_Reader_number.t, sy, reduceIte, Nat.reduceAdd, Nat.reduceLeDiff, Nat.reduceLT, Nat.reduceEqDiff, Int.reduceEq, Int.reduceLT, Int.reduceLE, Int.reduceNe, ly, hl, fU]
  rfl
def RrN (n1 b : Nat) (bv : Value) (bs : List Int) (s : St) (r : Option (Value × St)) : RdR Nat → Prop
  | .ok a q => ∃ s', r = some (fU a, s') ∧ RrAt n1 b bv bs q 0 s' ∧ RdS b s s'
  | .bad e q => ∃ s', r = some (fU 0, s') ∧ RrAt n1 b bv bs q e s' ∧ RdS b s s' ∧ e ≠ 0
theorem rnumber_rd {most : Nat} (hm : most = maxU ∨ most = 65536) (h : RrAt n1 b bv bs p 0 s) : RrN n1 b bv bs s (leapfrogref03x_Reader_number.v (rpt b) (.int .u64 (most : Int)) s) (numP bs most p) := by
  have := rnumloop_v 9 0 0 (by omega) (by decide) (hm.imp id fun e => ⟨e, by omega⟩) h
  unfold numP
  revert this
  cases numL bs most 10 0 0 p with
  | ok a q =>
    rintro ⟨s', k1, k2, k3⟩
    refine ⟨s', ?_, k2, k3⟩
    have := k1 (BIG - 10)
    dsimp only at this
    rw [show BIG - 10 + 9 + 1 = BIG from rfl] at this
    have this : iter (leapfrogref03x_Reader_number.l3 std) BIG [rpt b, .int .u64 (most : Int), .int .u64 0, .int .u64 1, .int .i64 0] s = _ := this
    unfold leapfrogref03x_Reader_number.v leapfrogref03x_Reader_number.t
    simp only [std_bd, std_it, this, bds, List.getD_cons_zero]
    rfl
  | bad er q =>
    rintro ⟨s', k1, k2, k3, k4⟩
    refine ⟨s', ?_, k2, k3, k4⟩
    have := k1 (BIG - 10)
    dsimp only at this
    rw [show BIG - 10 + 9 + 1 = BIG from rfl] at this
    have this : iter (leapfrogref03x_Reader_number.l3 std) BIG [rpt b, .int .u64 (most : Int), .int .u64 0, .int .u64 1, .int .i64 0] s = _ := this
    unfold leapfrogref03x_Reader_number.v leapfrogref03x_Reader_number.t
    simp only [std_bd, std_it, this, bds, List.getD_cons_zero]
    rfl
def fI (a : Int) : Value := .int .i64 a
theorem rint_of {x : Nat} (h : x < 2 ^ 64) {a0 : Value} {s s' : St} (k : leapfrogref03x_Reader_number.v a0 (.int .u64 18446744073709551615) s = some (fU x, s')) : leapfrogref03x_Reader_int.v a0 s = some (fI (unzz x), s') := by
  unfold fU at k
  have e1 : bin .rem (.int .u64 (x : Int)) (.int .u64 2) = some (.int .u64 ((x % 2 : Nat) : Int)) := by
    rw [bin_rem (by omega), Int.tmod_eq_emod_of_nonneg (by omega)]; rfl
  have e2 := quo_u64 (a := x) (b := 2) h (by omega)
  rw [show ((2 : Nat) : Int) = 2 from rfl] at e2
  have e3 : IntKind.i64.wrap ((x / 2 : Nat) : Int) = ((x / 2 : Nat) : Int) := wrap64 (by omega) (by omega)
  have e4 : un .neg (.int .i64 ((x / 2 : Nat) : Int)) = some (.int .i64 (-((x / 2 : Nat) : Int))) := un_neg (by omega) (by omega)
  have e5 : IntKind.i64.wrap (-((x / 2 : Nat) : Int) - 1) = -((x / 2 : Nat) : Int) - 1 := wrap64 (by omega) (by omega)
  have k1 : (((x % 2 : Nat) : Int) = 1) = (x % 2 = 1) := propext (by omega)
  unfold fI unzz
  generalize x / 2 = H at *
  generalize x % 2 = L at *
  by_cases hx : L = 1
  · rw [if_pos hx]
    simp only [leapfrogref03x_Reader_int.v, leapfrogref03x_Reader_int.t, std_bd, std_cnd, k, bds, e1, e2, e3, e4, e5, eqb1, k1, hx, decide_true, cndt, cvi_int, bin_sub]
    simp only [show ((1 : Nat) : Int) = 1 from rfl, decide_true, cndt, e2, bds, cvi_int, e3, e4, bin_sub, e5]
  · rw [if_neg hx]
    simp only [leapfrogref03x_Reader_int.v, leapfrogref03x_Reader_int.t, std_bd, std_cnd, k, bds, e1, e2, e3, eqb1, k1, hx, decide_false, cndf, cvi_int]
theorem rint_e {e : Int} (he : e ≠ 0) (h : RrAt n1 b bv bs p e s) : leapfrogref03x_Reader_int.v (rpt b) s = some (fI 0, s) := rint_of (by decide) (rnumber_e he h)
theorem rint_v (h : RrAt n1 b bv bs p 0 s) : RrIs n1 b bv bs s fI (leapfrogref03x_Reader_int.v (rpt b) s) (intP bs p) := by
  have hn := rnumber_rd (most := maxU) (.inl rfl) h
  rw [show ((maxU : Nat) : Int) = 18446744073709551615 from rfl] at hn
  have hlt := @numL_lt bs maxU 10 0 0 p
  unfold intP
  unfold numP at *
  revert hn hlt
  cases numL bs maxU 10 0 0 p with
  | ok a q =>
    rintro ⟨s', k1, k2, k3⟩ hlt
    exact ⟨s', rint_of (hlt rfl (by decide) rfl) k1, k2, k3⟩
  | bad er q =>
    rintro ⟨s', k1, k2, k3, k4⟩ _
    exact ⟨_, s', rint_of (by decide) k1, k2, k3, k4⟩
end
end Go.Proofs.Ytmbfnpadhlfepaa
