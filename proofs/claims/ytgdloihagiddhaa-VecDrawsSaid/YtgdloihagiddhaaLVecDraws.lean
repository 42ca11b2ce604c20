/-
  VecDraws, over abstract values.
-/
import Derived.Test.YtgdloihagiddhaaVecF
import Derived.Test.YtgdloihagiddhaaGS0
set_option linter.unusedSimpArgs false
set_option linter.unusedVariables false
set_option maxRecDepth 100000
namespace Go.Proofs.Ytgdloihagiddhaa
open Go.Sim Go.Sim.Bt
attribute [local congr] bdc cndc itec gdc gdSc gdUc
namespace VecDraws

/-! ### Mix -/

def mixA (x : Nat) : Nat := (x + 11400714819323198485) % 2 ^ 64
def mixB (a : Nat) : Nat := ((a ^^^ a / 2 ^ 30) * 13787848793156543929) % 2 ^ 64
def mixC (a : Nat) : Nat := ((a ^^^ a / 2 ^ 27) * 10723151780598845931) % 2 ^ 64
def mixN (x : Nat) : Nat := mixC (mixB (mixA x)) ^^^ mixC (mixB (mixA x)) / 2 ^ 31
theorem xdiv_lt {a k : Nat} (h : a < 2 ^ 64) : a / 2 ^ k < 2 ^ 64 := Nat.lt_of_le_of_lt (Nat.div_le_self _ _) h
theorem mixN_lt (x : Nat) : mixN x < 2 ^ 64 := by
  have h : mixC (mixB (mixA x)) < 2 ^ 64 := Nat.mod_lt _ (by omega)
  exact Nat.xor_lt_two_pow h (xdiv_lt h)
theorem mix_r (x : Nat) (s : St) : vec_Mix.r (.int .u64 (x : Int)) s = some (.int .u64 (mixN x : Int)) := by
  have hA : mixA x < 2 ^ 64 := Nat.mod_lt _ (by omega)
  have hB : mixB (mixA x) < 2 ^ 64 := Nat.mod_lt _ (by omega)
  have hC : mixC (mixB (mixA x)) < 2 ^ 64 := Nat.mod_lt _ (by omega)
  have e1 : bin .add (.int .u64 (x : Int)) (.int .u64 11400714819323198485) = some (.int .u64 (mixA x : Int)) := @add_u64 x 11400714819323198485
  have e2 : bin .shr (.int .u64 (mixA x : Int)) (.int .u64 30) = some (.int .u64 ((mixA x / 2 ^ 30 : Nat) : Int)) := @shr_u64 (mixA x) 30 .u64 (by omega)
  have e3 := xor_u64 hA (xdiv_lt (k := 30) hA)
  have e4 : bin .mul (.int .u64 ((mixA x ^^^ mixA x / 2 ^ 30 : Nat) : Int)) (.int .u64 13787848793156543929) = some (.int .u64 (mixB (mixA x) : Int)) := @mul_u64 (mixA x ^^^ mixA x / 2 ^ 30) 13787848793156543929
  have e5 : bin .shr (.int .u64 (mixB (mixA x) : Int)) (.int .u64 27) = some (.int .u64 ((mixB (mixA x) / 2 ^ 27 : Nat) : Int)) := @shr_u64 (mixB (mixA x)) 27 .u64 (by omega)
  have e6 := xor_u64 hB (xdiv_lt (k := 27) hB)
  have e7 : bin .mul (.int .u64 ((mixB (mixA x) ^^^ mixB (mixA x) / 2 ^ 27 : Nat) : Int)) (.int .u64 10723151780598845931) = some (.int .u64 (mixC (mixB (mixA x)) : Int)) := @mul_u64 (mixB (mixA x) ^^^ mixB (mixA x) / 2 ^ 27) 10723151780598845931
  have e8 : bin .shr (.int .u64 (mixC (mixB (mixA x)) : Int)) (.int .u64 31) = some (.int .u64 ((mixC (mixB (mixA x)) / 2 ^ 31 : Nat) : Int)) := @shr_u64 (mixC (mixB (mixA x))) 31 .u64 (by omega)
  have e9 := xor_u64 hC (xdiv_lt (k := 31) hC)
  unfold vec_Mix.r vec_Mix.t
  simp only [std_bd, e1, bds, e2, e3, e4, e5, e6, e7, e8, e9]
  rfl
theorem rmix_r (x : Nat) (s : St) : leapfrogref01x_Mix.r (.int .u64 (x : Int)) s = some (.int .u64 (mixN x : Int)) := by
  have hA : mixA x < 2 ^ 64 := Nat.mod_lt _ (by omega)
  have hB : mixB (mixA x) < 2 ^ 64 := Nat.mod_lt _ (by omega)
  have hC : mixC (mixB (mixA x)) < 2 ^ 64 := Nat.mod_lt _ (by omega)
  have e1 : bin .add (.int .u64 (x : Int)) (.int .u64 11400714819323198485) = some (.int .u64 (mixA x : Int)) := @add_u64 x 11400714819323198485
  have p1 : leapfrogref01x_Power.r (.int .i64 30) s = some (.int .u64 ((2 ^ 30 : Nat) : Int)) := power_r 30 s (by omega)
  have p2 : leapfrogref01x_Power.r (.int .i64 27) s = some (.int .u64 ((2 ^ 27 : Nat) : Int)) := power_r 27 s (by omega)
  have p3 : leapfrogref01x_Power.r (.int .i64 31) s = some (.int .u64 ((2 ^ 31 : Nat) : Int)) := power_r 31 s (by omega)
  have e2 := @quo_u64 (mixA x) (2 ^ 30) hA (by omega)
  have e3 := xor_u64 hA (xdiv_lt (k := 30) hA)
  have e4 : bin .mul (.int .u64 ((mixA x ^^^ mixA x / 2 ^ 30 : Nat) : Int)) (.int .u64 13787848793156543929) = some (.int .u64 (mixB (mixA x) : Int)) := @mul_u64 (mixA x ^^^ mixA x / 2 ^ 30) 13787848793156543929
  have e5 := @quo_u64 (mixB (mixA x)) (2 ^ 27) hB (by omega)
  have e6 := xor_u64 hB (xdiv_lt (k := 27) hB)
  have e7 : bin .mul (.int .u64 ((mixB (mixA x) ^^^ mixB (mixA x) / 2 ^ 27 : Nat) : Int)) (.int .u64 10723151780598845931) = some (.int .u64 (mixC (mixB (mixA x)) : Int)) := @mul_u64 (mixB (mixA x) ^^^ mixB (mixA x) / 2 ^ 27) 10723151780598845931
  have e8 := @quo_u64 (mixC (mixB (mixA x))) (2 ^ 31) hC (by omega)
  have e9 := xor_u64 hC (xdiv_lt (k := 31) hC)
  unfold leapfrogref01x_Mix.r leapfrogref01x_Mix.t
  simp only [std_bd, e1, bds, p1, e2, e3, e4, p2, e5, e6, e7, p3, e8, e9]
  rfl

/-! ### Draw -/

theorem draw_no (n x : Int) (s : St) (h : ¬ (0 ≤ n ∧ n ≤ 32)) : vec_Draw.r (.int .i64 n) (.int .u64 x) s = some (T2 (VI 0 0) 5) := by
  by_cases h1 : n < 0
  · simp only [vec_Draw.r, vec_Draw.t, std_bd, std_gd, std_gdS, std_gdU, std_cnd, std_it, bds, bdn, cndt, cndf, cndd, cndb, gdtt, gdff, gdtf, gdft, gdun, gdSun, gdSt, gdSf, gdStf, gdSft, gdUt, gdUf, gdUtf, gdUft, pikt, pikf, eqb1, neb1, eqb0, neb0, eqb2, neb2, eqb3n, neb3n, eqb3nn, neb3nn, eqk1, eqb_agg, neb_agg, eqks_nil, eqks_cons, bin_add, bin_sub, bin_mul, bin_lss, bin_leq, bin_gtr, bin_geq, un_notd, un_not, cvi_int, cvs_str, mn2_int, mx2_int, lenS_str, lenL_slc, bx_int, bx_bool, bx_str, bx_ptr, bx_slc, bx_agg, lcl_eq, xtr_eq, cellsA_agg, spl_z, spl_c, spl_s, bld_nil, bld_cons, bls_nil, bls_cons, prt_t, prt_f, nck_ptr, fld_ptr, lal, stl, decide_true, decide_false, decide_eq_true_eq, Bool.false_eq_true, Bool.not_true, Bool.not_false, Bool.and_true, Bool.and_false, Bool.true_and, Bool.false_and, Option.map_some, Option.map_none, if_true, if_false, ite_true, ite_false, reduceIte, and_self, and_true, true_and, false_and, and_false, eq_self, ne_eq, not_true_eq_false, not_false_eq_true, Nat.zero_add, Nat.reduceAdd, Nat.reduceLeDiff, Nat.reduceLT, Nat.reduceEqDiff, Nat.le_refl, Nat.add_zero, Option.some.injEq, Prod.mk.injEq, Value.agg.injEq, Value.bool.injEq, Value.int.injEq, Value.tuple.injEq, Array.mk.injEq, List.cons.injEq, and_self, List.length_cons, List.length_nil, List.getElem?_cons_zero, List.getElem?_cons_succ, List.getElem?_nil, List.drop_succ_cons, List.drop_zero, List.take_succ_cons, List.take_zero, List.take_nil, List.drop_nil, List.getD_cons_zero, List.getD_cons_succ, rep1, rep2, rep3, rep4, List.set_cons_zero, List.set_cons_succ, List.cons_append, List.nil_append, h1]
  · have h2 : 32 < n := by omega
    simp only [vec_Draw.r, vec_Draw.t, std_bd, std_gd, std_gdS, std_gdU, std_cnd, std_it, bds, bdn, cndt, cndf, cndd, cndb, gdtt, gdff, gdtf, gdft, gdun, gdSun, gdSt, gdSf, gdStf, gdSft, gdUt, gdUf, gdUtf, gdUft, pikt, pikf, eqb1, neb1, eqb0, neb0, eqb2, neb2, eqb3n, neb3n, eqb3nn, neb3nn, eqk1, eqb_agg, neb_agg, eqks_nil, eqks_cons, bin_add, bin_sub, bin_mul, bin_lss, bin_leq, bin_gtr, bin_geq, un_notd, un_not, cvi_int, cvs_str, mn2_int, mx2_int, lenS_str, lenL_slc, bx_int, bx_bool, bx_str, bx_ptr, bx_slc, bx_agg, lcl_eq, xtr_eq, cellsA_agg, spl_z, spl_c, spl_s, bld_nil, bld_cons, bls_nil, bls_cons, prt_t, prt_f, nck_ptr, fld_ptr, lal, stl, decide_true, decide_false, decide_eq_true_eq, Bool.false_eq_true, Bool.not_true, Bool.not_false, Bool.and_true, Bool.and_false, Bool.true_and, Bool.false_and, Option.map_some, Option.map_none, if_true, if_false, ite_true, ite_false, reduceIte, and_self, and_true, true_and, false_and, and_false, eq_self, ne_eq, not_true_eq_false, not_false_eq_true, Nat.zero_add, Nat.reduceAdd, Nat.reduceLeDiff, Nat.reduceLT, Nat.reduceEqDiff, Nat.le_refl, Nat.add_zero, Option.some.injEq, Prod.mk.injEq, Value.agg.injEq, Value.bool.injEq, Value.int.injEq, Value.tuple.injEq, Array.mk.injEq, List.cons.injEq, and_self, List.length_cons, List.length_nil, List.getElem?_cons_zero, List.getElem?_cons_succ, List.getElem?_nil, List.drop_succ_cons, List.drop_zero, List.take_succ_cons, List.take_zero, List.take_nil, List.drop_nil, List.getD_cons_zero, List.getD_cons_succ, rep1, rep2, rep3, rep4, List.set_cons_zero, List.set_cons_succ, List.cons_append, List.nil_append, h1, h2]
theorem draw_ok (n x : Nat) (s : St) (h : n ≤ 32) : vec_Draw.r (.int .i64 n) (.int .u64 x) s = some (T2 (VV n (mixN x / 2 ^ (64 - n))) 0) := by
  have h1 : ¬ ((n : Int) < 0) := by omega
  have h2 : ¬ ((32 : Int) < n) := by omega
  have e1 : IntKind.i64.wrap (64 - (n : Int)) = ((64 - n : Nat) : Int) := by rw [wrap64 (by omega) (by omega)]; omega
  have e2 : IntKind.u64.wrap ((64 - n : Nat) : Int) = ((64 - n : Nat) : Int) := wrapu64 (by omega) (by omega)
  have e3 := @shr_u64 (mixN x) (64 - n) .u64 (by omega)
  simp only [vec_Draw.r, vec_Draw.t, std_bd, std_gd, std_gdS, std_gdU, std_cnd, std_it, bds, bdn, cndt, cndf, cndd, cndb, gdtt, gdff, gdtf, gdft, gdun, gdSun, gdSt, gdSf, gdStf, gdSft, gdUt, gdUf, gdUtf, gdUft, pikt, pikf, eqb1, neb1, eqb0, neb0, eqb2, neb2, eqb3n, neb3n, eqb3nn, neb3nn, eqk1, eqb_agg, neb_agg, eqks_nil, eqks_cons, bin_add, bin_sub, bin_mul, bin_lss, bin_leq, bin_gtr, bin_geq, un_notd, un_not, cvi_int, cvs_str, mn2_int, mx2_int, lenS_str, lenL_slc, bx_int, bx_bool, bx_str, bx_ptr, bx_slc, bx_agg, lcl_eq, xtr_eq, cellsA_agg, spl_z, spl_c, spl_s, bld_nil, bld_cons, bls_nil, bls_cons, prt_t, prt_f, nck_ptr, fld_ptr, lal, stl, decide_true, decide_false, decide_eq_true_eq, Bool.false_eq_true, Bool.not_true, Bool.not_false, Bool.and_true, Bool.and_false, Bool.true_and, Bool.false_and, Option.map_some, Option.map_none, if_true, if_false, ite_true, ite_false, reduceIte, and_self, and_true, true_and, false_and, and_false, eq_self, ne_eq, not_true_eq_false, not_false_eq_true, Nat.zero_add, Nat.reduceAdd, Nat.reduceLeDiff, Nat.reduceLT, Nat.reduceEqDiff, Nat.le_refl, Nat.add_zero, Option.some.injEq, Prod.mk.injEq, Value.agg.injEq, Value.bool.injEq, Value.int.injEq, Value.tuple.injEq, Array.mk.injEq, List.cons.injEq, and_self, List.length_cons, List.length_nil, List.getElem?_cons_zero, List.getElem?_cons_succ, List.getElem?_nil, List.drop_succ_cons, List.drop_zero, List.take_succ_cons, List.take_zero, List.take_nil, List.drop_nil, List.getD_cons_zero, List.getD_cons_succ, rep1, rep2, rep3, rep4, List.set_cons_zero, List.set_cons_succ, List.cons_append, List.nil_append, h1, h2, mix_r, e1, e2, e3]
theorem rdraw_no (n x : Int) (s : St) (h : ¬ (0 ≤ n ∧ n ≤ 32)) : leapfrogref01x_DrawQ.r (.int .i64 n) (.int .u64 x) s = some (T2 (VI 0 0) 5) := by
  refine frzR_of (s' := s.frz) ?_ rfl
  by_cases h1 : n < 0
  · simp only [leapfrogref01x_Draw.v, leapfrogref01x_Draw.t, std_bd, std_gd, std_gdS, std_gdU, std_cnd, std_it, bds, bdn, cndt, cndf, cndd, cndb, gdtt, gdff, gdtf, gdft, gdun, gdSun, gdSt, gdSf, gdStf, gdSft, gdUt, gdUf, gdUtf, gdUft, pikt, pikf, eqb1, neb1, eqb0, neb0, eqb2, neb2, eqb3n, neb3n, eqb3nn, neb3nn, eqk1, eqb_agg, neb_agg, eqks_nil, eqks_cons, bin_add, bin_sub, bin_mul, bin_lss, bin_leq, bin_gtr, bin_geq, un_notd, un_not, cvi_int, cvs_str, mn2_int, mx2_int, lenS_str, lenL_slc, bx_int, bx_bool, bx_str, bx_ptr, bx_slc, bx_agg, lcl_eq, xtr_eq, cellsA_agg, spl_z, spl_c, spl_s, bld_nil, bld_cons, bls_nil, bls_cons, prt_t, prt_f, nck_ptr, fld_ptr, lal, stl, decide_true, decide_false, decide_eq_true_eq, Bool.false_eq_true, Bool.not_true, Bool.not_false, Bool.and_true, Bool.and_false, Bool.true_and, Bool.false_and, Option.map_some, Option.map_none, if_true, if_false, ite_true, ite_false, reduceIte, and_self, and_true, true_and, false_and, and_false, eq_self, ne_eq, not_true_eq_false, not_false_eq_true, Nat.zero_add, Nat.reduceAdd, Nat.reduceLeDiff, Nat.reduceLT, Nat.reduceEqDiff, Nat.le_refl, Nat.add_zero, Option.some.injEq, Prod.mk.injEq, Value.agg.injEq, Value.bool.injEq, Value.int.injEq, Value.tuple.injEq, Array.mk.injEq, List.cons.injEq, and_self, List.length_cons, List.length_nil, List.getElem?_cons_zero, List.getElem?_cons_succ, List.getElem?_nil, List.drop_succ_cons, List.drop_zero, List.take_succ_cons, List.take_zero, List.take_nil, List.drop_nil, List.getD_cons_zero, List.getD_cons_succ, rep1, rep2, rep3, rep4, List.set_cons_zero, List.set_cons_succ, List.cons_append, List.nil_append, h1]
  · have h2 : 32 < n := by omega
    simp only [leapfrogref01x_Draw.v, leapfrogref01x_Draw.t, std_bd, std_gd, std_gdS, std_gdU, std_cnd, std_it, bds, bdn, cndt, cndf, cndd, cndb, gdtt, gdff, gdtf, gdft, gdun, gdSun, gdSt, gdSf, gdStf, gdSft, gdUt, gdUf, gdUtf, gdUft, pikt, pikf, eqb1, neb1, eqb0, neb0, eqb2, neb2, eqb3n, neb3n, eqb3nn, neb3nn, eqk1, eqb_agg, neb_agg, eqks_nil, eqks_cons, bin_add, bin_sub, bin_mul, bin_lss, bin_leq, bin_gtr, bin_geq, un_notd, un_not, cvi_int, cvs_str, mn2_int, mx2_int, lenS_str, lenL_slc, bx_int, bx_bool, bx_str, bx_ptr, bx_slc, bx_agg, lcl_eq, xtr_eq, cellsA_agg, spl_z, spl_c, spl_s, bld_nil, bld_cons, bls_nil, bls_cons, prt_t, prt_f, nck_ptr, fld_ptr, lal, stl, decide_true, decide_false, decide_eq_true_eq, Bool.false_eq_true, Bool.not_true, Bool.not_false, Bool.and_true, Bool.and_false, Bool.true_and, Bool.false_and, Option.map_some, Option.map_none, if_true, if_false, ite_true, ite_false, reduceIte, and_self, and_true, true_and, false_and, and_false, eq_self, ne_eq, not_true_eq_false, not_false_eq_true, Nat.zero_add, Nat.reduceAdd, Nat.reduceLeDiff, Nat.reduceLT, Nat.reduceEqDiff, Nat.le_refl, Nat.add_zero, Option.some.injEq, Prod.mk.injEq, Value.agg.injEq, Value.bool.injEq, Value.int.injEq, Value.tuple.injEq, Array.mk.injEq, List.cons.injEq, and_self, List.length_cons, List.length_nil, List.getElem?_cons_zero, List.getElem?_cons_succ, List.getElem?_nil, List.drop_succ_cons, List.drop_zero, List.take_succ_cons, List.take_zero, List.take_nil, List.drop_nil, List.getD_cons_zero, List.getD_cons_succ, rep1, rep2, rep3, rep4, List.set_cons_zero, List.set_cons_succ, List.cons_append, List.nil_append, h1, h2]
theorem top_bit {y j : Nat} (hj : j ≤ 63) : (y * 2 ^ j % 2 ^ 64) / 2 ^ 63 = y / 2 ^ (63 - j) % 2 := by
  have e1 : (2 : Nat) ^ 64 = 2 ^ (64 - j) * 2 ^ j := by rw [← Nat.pow_add]; congr 1; omega
  have e2 : (2 : Nat) ^ 63 = 2 ^ (63 - j) * 2 ^ j := by rw [← Nat.pow_add]; congr 1; omega
  rw [e1, e2, Nat.mul_mod_mul_right, Nat.mul_div_mul_right _ _ (Nat.two_pow_pos j)]
  rw [show 64 - j = (63 - j) + 1 by omega, Nat.pow_succ, Nat.mod_mul_right_div_self]
theorem rdraw_l6 {s : St} (hf : Fresh s) {n y : Nat} (hn : n ≤ 32) (hy : y < 2 ^ 64) :
    ∃ u s', IsI s' u (bl n (y / 2 ^ (64 - n))) ∧ iter (leapfrogref01x_Draw.l6 std) BIG [Value.int .i64 (n : Int), .int .u64 (y : Int), .slice none 0 0, Value.int .i64 ((0 : Nat) : Int), .agg ⟨[.int .i64 0, .int .u64 0]⟩] s = some (0, [u, .agg ⟨[.int .i64 0, .int .u64 0]⟩], s') := by
  refine iter_rel (fun d xs s' => More s s' ∧ ∃ j u, j + d = n ∧ Own s.n s' 1 u (rowsI ((bl n (y / 2 ^ (64 - n))).take j)) ∧ xs = [Value.int .i64 (n : Int), .int .u64 ((y * 2 ^ j % 2 ^ 64 : Nat) : Int), u, Value.int .i64 (j : Int), .agg ⟨[.int .i64 0, .int .u64 0]⟩])
    (fun r : Option Cut => ∃ u s', IsI s' u (bl n (y / 2 ^ (64 - n))) ∧ r = some (0, [u, .agg ⟨[.int .i64 0, .int .u64 0]⟩], s')) ?_ BIG n _ s (by unfold BIG; omega) ⟨.refl s, 0, _, by omega, .inl ⟨rfl, rfl⟩, by rw [Nat.pow_zero, Nat.mul_one, Nat.mod_eq_of_lt hy]⟩
  rintro d xs s' rec ⟨hm', j, u, hj, ho, rfl⟩ ih
  cases d with
  | zero =>
    have e1 : ¬ ((j : Int) < n) := by omega
    rw [List.take_of_length_le (by rw [bl_length]; omega)] at ho
    refine ⟨u, s', ?_, by simp only [leapfrogref01x_Draw.l6, std_bd, std_gd, std_gdS, std_gdU, std_cnd, std_it, bds, bdn, cndt, cndf, cndd, cndb, gdtt, gdff, gdtf, gdft, gdun, gdSun, gdSt, gdSf, gdStf, gdSft, gdUt, gdUf, gdUtf, gdUft, pikt, pikf, eqb1, neb1, eqb0, neb0, eqb2, neb2, eqb3n, neb3n, eqb3nn, neb3nn, eqk1, eqb_agg, neb_agg, eqks_nil, eqks_cons, bin_add, bin_sub, bin_mul, bin_lss, bin_leq, bin_gtr, bin_geq, un_notd, un_not, cvi_int, cvs_str, mn2_int, mx2_int, lenS_str, lenL_slc, bx_int, bx_bool, bx_str, bx_ptr, bx_slc, bx_agg, lcl_eq, xtr_eq, cellsA_agg, spl_z, spl_c, spl_s, bld_nil, bld_cons, bls_nil, bls_cons, prt_t, prt_f, nck_ptr, fld_ptr, lal, stl, decide_true, decide_false, decide_eq_true_eq, Bool.false_eq_true, Bool.not_true, Bool.not_false, Bool.and_true, Bool.and_false, Bool.true_and, Bool.false_and, Option.map_some, Option.map_none, if_true, if_false, ite_true, ite_false, reduceIte, and_self, and_true, true_and, false_and, and_false, eq_self, ne_eq, not_true_eq_false, not_false_eq_true, Nat.zero_add, Nat.reduceAdd, Nat.reduceLeDiff, Nat.reduceLT, Nat.reduceEqDiff, Nat.le_refl, Nat.add_zero, Option.some.injEq, Prod.mk.injEq, Value.agg.injEq, Value.bool.injEq, Value.int.injEq, Value.tuple.injEq, Array.mk.injEq, List.cons.injEq, and_self, List.length_cons, List.length_nil, List.getElem?_cons_zero, List.getElem?_cons_succ, List.getElem?_nil, List.drop_succ_cons, List.drop_zero, List.take_succ_cons, List.take_zero, List.take_nil, List.drop_nil, List.getD_cons_zero, List.getD_cons_succ, rep1, rep2, rep3, rep4, List.set_cons_zero, List.set_cons_succ, List.cons_append, List.nil_append, e1]⟩
    rcases ho with ⟨rfl, h0⟩ | ⟨q, hq, rfl, hg⟩
    · left
      refine ⟨rfl, ?_⟩
      have := congrArg List.length h0
      rw [rowsI_length] at this
      exact List.eq_nil_of_length_eq_zero this
    · right
      exact ⟨q, 0, 1, _, _, by rw [rowsI_length], hg, fun k d hk => by rw [Nat.zero_add]; exact rowsI_get hk⟩
  | succ d =>
    have e1 : (j : Int) < n := by omega
    have e5 : IntKind.i64.wrap ((j : Int) + 1) = ((j + 1 : Nat) : Int) := by rw [wrap64 (by omega) (by omega)]; omega
    have p1 : leapfrogref01x_Power.r (.int .i64 63) s' = some (.int .u64 ((2 ^ 63 : Nat) : Int)) := power_r 63 s' (by omega)
    have q1 := @quo_u64 (y * 2 ^ j % 2 ^ 64) (2 ^ 63) (Nat.mod_lt _ (by omega)) (by omega)
    rw [top_bit (by omega)] at q1
    have hlt : y / 2 ^ (63 - j) % 2 < 2 := Nat.mod_lt _ (by omega)
    have e6 : IntKind.i64.wrap ((y / 2 ^ (63 - j) % 2 : Nat) : Int) = ((y / 2 ^ (63 - j) % 2 : Nat) : Int) := wrap64 (by omega) (by omega)
    have e7 : bin .mul (.int .u64 ((y * 2 ^ j % 2 ^ 64 : Nat) : Int)) (.int .u64 2) = some (.int .u64 ((y * 2 ^ (j + 1) % 2 ^ 64 : Nat) : Int)) := by
      have h := @mul_u64 (y * 2 ^ j % 2 ^ 64) 2
      rw [Nat.mod_mul_mod, Nat.mul_assoc, ← Nat.pow_succ] at h
      exact h
    have hx : (bl n (y / 2 ^ (64 - n)))[j]? = some (y / 2 ^ (63 - j) % 2) := by
      rw [bl_get (by omega), Nat.div_div_eq_div_mul, ← Nat.pow_add, show 64 - n + (n - 1 - j) = 63 - j by omega]
    have ho' : Own s.n (s'.new (.row 1 [[.int .i64 ((y / 2 ^ (63 - j) % 2 : Nat) : Int)]] false)) 1 u (rowsI ((bl n (y / 2 ^ (64 - n))).take j)) := by
      rcases ho with ⟨rfl, h0⟩ | ⟨q, hq, rfl, hg⟩
      · exact .inl ⟨rfl, h0⟩
      · exact .inr ⟨q, hq, rfl, by rw [get_new_ne (by have := (hm'.fresh hf).lt hg; omega)]; exact hg⟩
    obtain ⟨u', s2, g1, g2, g3, _⟩ := ho'.app (by_ := 8) (news := [[.int .i64 ((y / 2 ^ (63 - j) % 2 : Nat) : Int)]]) (x := .slice (some ⟨s'.n, 0, some 0⟩) 1 2) (hm'.trans .new) rfl rowsOf_one (by simp [rowsI_length]; omega) (by simp [rowsI_length]; omega)
    have e8 : rowsI ((bl n (y / 2 ^ (64 - n))).take j) ++ [[.int .i64 ((y / 2 ^ (63 - j) % 2 : Nat) : Int)]] = rowsI ((bl n (y / 2 ^ (64 - n))).take (j + 1)) := by
      rw [List.take_add_one, hx]; simp [rowsI]
    rw [e8] at g3
    simp only [leapfrogref01x_Draw.l6, std_bd, std_gd, std_gdS, std_gdU, std_cnd, std_it, bds, bdn, cndt, cndf, cndd, cndb, gdtt, gdff, gdtf, gdft, gdun, gdSun, gdSt, gdSf, gdStf, gdSft, gdUt, gdUf, gdUtf, gdUft, pikt, pikf, eqb1, neb1, eqb0, neb0, eqb2, neb2, eqb3n, neb3n, eqb3nn, neb3nn, eqk1, eqb_agg, neb_agg, eqks_nil, eqks_cons, bin_add, bin_sub, bin_mul, bin_lss, bin_leq, bin_gtr, bin_geq, un_notd, un_not, cvi_int, cvs_str, mn2_int, mx2_int, lenS_str, lenL_slc, bx_int, bx_bool, bx_str, bx_ptr, bx_slc, bx_agg, lcl_eq, xtr_eq, cellsA_agg, spl_z, spl_c, spl_s, bld_nil, bld_cons, bls_nil, bls_cons, prt_t, prt_f, nck_ptr, fld_ptr, lal, stl, decide_true, decide_false, decide_eq_true_eq, Bool.false_eq_true, Bool.not_true, Bool.not_false, Bool.and_true, Bool.and_false, Bool.true_and, Bool.false_and, Option.map_some, Option.map_none, if_true, if_false, ite_true, ite_false, reduceIte, and_self, and_true, true_and, false_and, and_false, eq_self, ne_eq, not_true_eq_false, not_false_eq_true, Nat.zero_add, Nat.reduceAdd, Nat.reduceLeDiff, Nat.reduceLT, Nat.reduceEqDiff, Nat.le_refl, Nat.add_zero, Option.some.injEq, Prod.mk.injEq, Value.agg.injEq, Value.bool.injEq, Value.int.injEq, Value.tuple.injEq, Array.mk.injEq, List.cons.injEq, and_self, List.length_cons, List.length_nil, List.getElem?_cons_zero, List.getElem?_cons_succ, List.getElem?_nil, List.drop_succ_cons, List.drop_zero, List.take_succ_cons, List.take_zero, List.take_nil, List.drop_nil, List.getD_cons_zero, List.getD_cons_succ, rep1, rep2, rep3, rep4, List.set_cons_zero, List.set_cons_succ, List.cons_append, List.nil_append, e1, p1, q1, e6, als_eq, g1, e7, e5, Nat.zero_lt_succ, Nat.reduceMul]
    exact ih d _ _ (by omega) ⟨g2, j + 1, u', by omega, g3, rfl⟩
theorem rdraw_ok (n x : Nat) (s : St) (hf : Fresh s) (h : n ≤ 32) : leapfrogref01x_DrawQ.r (.int .i64 n) (.int .u64 x) s = some (T2 (VV n (mixN x / 2 ^ (64 - n))) 0) := by
  have h1 : ¬ ((n : Int) < 0) := by omega
  have h2 : ¬ ((32 : Int) < n) := by omega
  obtain ⟨u, s', g1, g2⟩ := rdraw_l6 hf.frz h (mixN_lt x)
  have hlt : mixN x / 2 ^ (64 - n) < 2 ^ n := by
    rw [Nat.div_lt_iff_lt_mul (Nat.two_pow_pos _), ← Nat.pow_add, show n + (64 - n) = 64 by omega]
    exact mixN_lt x
  have g3 := of_r g1 (fun d => bl_lt) (by rw [bl_length]; omega)
  rw [bl_length, ofBits_bl hlt] at g3
  rw [show ((0 : Nat) : Int) = 0 from rfl] at g2
  refine frzR_of (s' := s') ?_ rfl
  simp only [leapfrogref01x_Draw.v, leapfrogref01x_Draw.t, std_bd, std_gd, std_gdS, std_gdU, std_cnd, std_it, bds, bdn, cndt, cndf, cndd, cndb, gdtt, gdff, gdtf, gdft, gdun, gdSun, gdSt, gdSf, gdStf, gdSft, gdUt, gdUf, gdUtf, gdUft, pikt, pikf, eqb1, neb1, eqb0, neb0, eqb2, neb2, eqb3n, neb3n, eqb3nn, neb3nn, eqk1, eqb_agg, neb_agg, eqks_nil, eqks_cons, bin_add, bin_sub, bin_mul, bin_lss, bin_leq, bin_gtr, bin_geq, un_notd, un_not, cvi_int, cvs_str, mn2_int, mx2_int, lenS_str, lenL_slc, bx_int, bx_bool, bx_str, bx_ptr, bx_slc, bx_agg, lcl_eq, xtr_eq, cellsA_agg, spl_z, spl_c, spl_s, bld_nil, bld_cons, bls_nil, bls_cons, prt_t, prt_f, nck_ptr, fld_ptr, lal, stl, decide_true, decide_false, decide_eq_true_eq, Bool.false_eq_true, Bool.not_true, Bool.not_false, Bool.and_true, Bool.and_false, Bool.true_and, Bool.false_and, Option.map_some, Option.map_none, if_true, if_false, ite_true, ite_false, reduceIte, and_self, and_true, true_and, false_and, and_false, eq_self, ne_eq, not_true_eq_false, not_false_eq_true, Nat.zero_add, Nat.reduceAdd, Nat.reduceLeDiff, Nat.reduceLT, Nat.reduceEqDiff, Nat.le_refl, Nat.add_zero, Option.some.injEq, Prod.mk.injEq, Value.agg.injEq, Value.bool.injEq, Value.int.injEq, Value.tuple.injEq, Array.mk.injEq, List.cons.injEq, and_self, List.length_cons, List.length_nil, List.getElem?_cons_zero, List.getElem?_cons_succ, List.getElem?_nil, List.drop_succ_cons, List.drop_zero, List.take_succ_cons, List.take_zero, List.take_nil, List.drop_nil, List.getD_cons_zero, List.getD_cons_succ, rep1, rep2, rep3, rep4, List.set_cons_zero, List.set_cons_succ, List.cons_append, List.nil_append, h1, h2, rmix_r, g2, g3]

/-! ### Prefixes -/

/-- All prefixes of a vector. -/
def pre (n b : Nat) : List (Int × Int) := (List.range (n + 1)).map fun i : Nat => ((i : Int), ((b / 2 ^ (n - i) : Nat) : Int))
theorem pre_length (n b : Nat) : (pre n b).length = n + 1 := by simp [pre]
theorem pre_get {n b i : Nat} (h : i ≤ n) : (pre n b)[i]? = some ((i : Int), ((b / 2 ^ (n - i) : Nat) : Int)) := by
  simp [pre, List.getElem?_range (show i < n + 1 by omega)]
def rowsP (l : List (Int × Int)) : List (List Value) := l.map fun p => [Value.int .i64 p.1, .int .u64 p.2]
theorem rowsP_length (l : List (Int × Int)) : (rowsP l).length = l.length := by simp [rowsP]
theorem isI_part {s : St} {c n b i e : Nat} {ro : Bool} (hg : s.get c = some (.row 1 (rowsI (bl n b)) ro)) (hi : i ≤ n) : IsI s (.slice (some ⟨c, 0, some 0⟩) i e) ((bl n b).take i) :=
  .inr ⟨c, 0, e, _, ro, by rw [List.length_take, bl_length]; congr 1; omega, hg, fun j d hj => by
    rw [List.getElem?_take] at hj
    split at hj
    · rw [Nat.zero_add]; exact rowsI_get hj
    · cases hj⟩
theorem rpre_l6 {s : St} (hf : Fresh s) {c n b : Nat} (hn : n ≤ 32) (hb : b < 2 ^ n) (hg : s.get c = some (.row 1 (rowsI (bl n b)) false)) :
    ∃ u s', More s s' ∧ IsV s' u (pre n b) ∧ iter (leapfrogref01x_Prefixes.l6 std) BIG [Value.slice none 0 0, .slice (some ⟨c, 0, some 0⟩) n (2 * n), Value.int .i64 ((0 : Nat) : Int)] s = some (0, [u], s') := by
  refine iter_rel (fun d xs s' => More s s' ∧ ∃ j u, j + d = n + 1 ∧ Own s.n s' 2 u (rowsP ((pre n b).take j)) ∧ xs = [u, .slice (some ⟨c, 0, some 0⟩) n (2 * n), Value.int .i64 (j : Int)])
    (fun r : Option Cut => ∃ u s', More s s' ∧ IsV s' u (pre n b) ∧ r = some (0, [u], s')) ?_ BIG (n + 1) _ s (by unfold BIG; omega) ⟨.refl s, 0, _, by omega, .inl ⟨rfl, rfl⟩, rfl⟩
  rintro d xs s' rec ⟨hm', j, u, hj, ho, rfl⟩ ih
  cases d with
  | zero =>
    have e1 : ¬ ((j : Int) ≤ n) := by omega
    rw [List.take_of_length_le (by rw [pre_length]; omega)] at ho
    refine ⟨u, s', hm', ?_, by simp only [leapfrogref01x_Prefixes.l6, std_bd, std_gd, std_gdS, std_gdU, std_cnd, std_it, bds, bdn, cndt, cndf, cndd, cndb, gdtt, gdff, gdtf, gdft, gdun, gdSun, gdSt, gdSf, gdStf, gdSft, gdUt, gdUf, gdUtf, gdUft, pikt, pikf, eqb1, neb1, eqb0, neb0, eqb2, neb2, eqb3n, neb3n, eqb3nn, neb3nn, eqk1, eqb_agg, neb_agg, eqks_nil, eqks_cons, bin_add, bin_sub, bin_mul, bin_lss, bin_leq, bin_gtr, bin_geq, un_notd, un_not, cvi_int, cvs_str, mn2_int, mx2_int, lenS_str, lenL_slc, bx_int, bx_bool, bx_str, bx_ptr, bx_slc, bx_agg, lcl_eq, xtr_eq, cellsA_agg, spl_z, spl_c, spl_s, bld_nil, bld_cons, bls_nil, bls_cons, prt_t, prt_f, nck_ptr, fld_ptr, lal, stl, decide_true, decide_false, decide_eq_true_eq, Bool.false_eq_true, Bool.not_true, Bool.not_false, Bool.and_true, Bool.and_false, Bool.true_and, Bool.false_and, Option.map_some, Option.map_none, if_true, if_false, ite_true, ite_false, reduceIte, and_self, and_true, true_and, false_and, and_false, eq_self, ne_eq, not_true_eq_false, not_false_eq_true, Nat.zero_add, Nat.reduceAdd, Nat.reduceLeDiff, Nat.reduceLT, Nat.reduceEqDiff, Nat.le_refl, Nat.add_zero, Option.some.injEq, Prod.mk.injEq, Value.agg.injEq, Value.bool.injEq, Value.int.injEq, Value.tuple.injEq, Array.mk.injEq, List.cons.injEq, and_self, List.length_cons, List.length_nil, List.getElem?_cons_zero, List.getElem?_cons_succ, List.getElem?_nil, List.drop_succ_cons, List.drop_zero, List.take_succ_cons, List.take_zero, List.take_nil, List.drop_nil, List.getD_cons_zero, List.getD_cons_succ, rep1, rep2, rep3, rep4, List.set_cons_zero, List.set_cons_succ, List.cons_append, List.nil_append, e1]⟩
    rcases ho with ⟨rfl, h0⟩ | ⟨q, hq, rfl, hg⟩
    · left
      refine ⟨rfl, ?_⟩
      have := congrArg List.length h0
      rw [rowsP_length] at this
      exact List.eq_nil_of_length_eq_zero this
    · right
      exact ⟨q, 0, 1, _, _, by rw [rowsP_length], hg, fun k p hk => by rw [Nat.zero_add, rowsP, List.getElem?_map, hk]; rfl⟩
  | succ d =>
    have e1 : (j : Int) ≤ n := by omega
    have hjn : j ≤ n := by omega
    have e5 : IntKind.i64.wrap ((j : Int) + 1) = ((j + 1 : Nat) : Int) := by rw [wrap64 (by omega) (by omega)]; omega
    have hg' := hm'.get hf hg
    have sl := slc_lo (i := 0) hg' hjn (Nat.le_refl n)
    have of := of_r (isI_part (e := 2 * n) hg' hjn) (fun d hd => bl_lt (List.mem_of_mem_take hd)) (by rw [List.length_take, bl_length]; omega)
    rw [take_bl hjn, bl_length, ofBits_bl (div_lt_pow hb hjn)] at of
    have hx := @pre_get n b j hjn
    have ho' : Own s.n (s'.new (.row 2 [[.int .i64 (j : Int), .int .u64 ((b / 2 ^ (n - j) : Nat) : Int)]] false)) 2 u (rowsP ((pre n b).take j)) := by
      rcases ho with ⟨rfl, h0⟩ | ⟨q, hq, rfl, hg⟩
      · exact .inl ⟨rfl, h0⟩
      · exact .inr ⟨q, hq, rfl, by rw [get_new_ne (by have := (hm'.fresh hf).lt hg; omega)]; exact hg⟩
    obtain ⟨u', s2, g1, g2, g3, _⟩ := ho'.app (by_ := 16) (news := [[.int .i64 (j : Int), .int .u64 ((b / 2 ^ (n - j) : Nat) : Int)]]) (x := .slice (some ⟨s'.n, 0, some 0⟩) 1 2) (hm'.trans .new) rfl rowsOf_one (by simp [rowsP_length]; omega) (by simp [rowsP_length]; omega)
    have e8 : rowsP ((pre n b).take j) ++ [[.int .i64 (j : Int), .int .u64 ((b / 2 ^ (n - j) : Nat) : Int)]] = rowsP ((pre n b).take (j + 1)) := by
      rw [List.take_add_one, hx]; simp [rowsP]
    rw [e8] at g3
    simp only [leapfrogref01x_Prefixes.l6, std_bd, std_gd, std_gdS, std_gdU, std_cnd, std_it, bds, bdn, cndt, cndf, cndd, cndb, gdtt, gdff, gdtf, gdft, gdun, gdSun, gdSt, gdSf, gdStf, gdSft, gdUt, gdUf, gdUtf, gdUft, pikt, pikf, eqb1, neb1, eqb0, neb0, eqb2, neb2, eqb3n, neb3n, eqb3nn, neb3nn, eqk1, eqb_agg, neb_agg, eqks_nil, eqks_cons, bin_add, bin_sub, bin_mul, bin_lss, bin_leq, bin_gtr, bin_geq, un_notd, un_not, cvi_int, cvs_str, mn2_int, mx2_int, lenS_str, lenL_slc, bx_int, bx_bool, bx_str, bx_ptr, bx_slc, bx_agg, lcl_eq, xtr_eq, cellsA_agg, spl_z, spl_c, spl_s, bld_nil, bld_cons, bls_nil, bls_cons, prt_t, prt_f, nck_ptr, fld_ptr, lal, stl, decide_true, decide_false, decide_eq_true_eq, Bool.false_eq_true, Bool.not_true, Bool.not_false, Bool.and_true, Bool.and_false, Bool.true_and, Bool.false_and, Option.map_some, Option.map_none, if_true, if_false, ite_true, ite_false, reduceIte, and_self, and_true, true_and, false_and, and_false, eq_self, ne_eq, not_true_eq_false, not_false_eq_true, Nat.zero_add, Nat.reduceAdd, Nat.reduceLeDiff, Nat.reduceLT, Nat.reduceEqDiff, Nat.le_refl, Nat.add_zero, Option.some.injEq, Prod.mk.injEq, Value.agg.injEq, Value.bool.injEq, Value.int.injEq, Value.tuple.injEq, Array.mk.injEq, List.cons.injEq, and_self, List.length_cons, List.length_nil, List.getElem?_cons_zero, List.getElem?_cons_succ, List.getElem?_nil, List.drop_succ_cons, List.drop_zero, List.take_succ_cons, List.take_zero, List.take_nil, List.drop_nil, List.getD_cons_zero, List.getD_cons_succ, rep1, rep2, rep3, rep4, List.set_cons_zero, List.set_cons_succ, List.cons_append, List.nil_append, e1, sl, of, als_eq, g1, e5, Nat.zero_lt_succ, Nat.reduceMul]
    exact ih d _ _ (by omega) ⟨g2, j + 1, u', by omega, g3, rfl⟩
theorem rPrefixes_ok {s : St} (hf : Fresh s) {n b : Nat} (hn : n ≤ 32) (hb : b < 2 ^ n) : ∃ u s', More s s' ∧ IsV s' u (pre n b) ∧ leapfrogref01x_Prefixes.v (VV n b) s = some (u, s') := by
  obtain ⟨u, s', m, i, e⟩ := rpre_l6 (s := s.new (.row 1 (rowsI (bl n b)) false)) hf.new hn hb get_new_same
  rw [show ((0 : Nat) : Int) = 0 from rfl] at e
  exact ⟨u, s', More.new.trans m, i, by simp only [leapfrogref01x_Prefixes.v, leapfrogref01x_Prefixes.t, std_bd, std_gd, std_gdS, std_gdU, std_cnd, std_it, bds, bdn, cndt, cndf, cndd, cndb, gdtt, gdff, gdtf, gdft, gdun, gdSun, gdSt, gdSf, gdStf, gdSft, gdUt, gdUf, gdUtf, gdUft, pikt, pikf, eqb1, neb1, eqb0, neb0, eqb2, neb2, eqb3n, neb3n, eqb3nn, neb3nn, eqk1, eqb_agg, neb_agg, eqks_nil, eqks_cons, bin_add, bin_sub, bin_mul, bin_lss, bin_leq, bin_gtr, bin_geq, un_notd, un_not, cvi_int, cvs_str, mn2_int, mx2_int, lenS_str, lenL_slc, bx_int, bx_bool, bx_str, bx_ptr, bx_slc, bx_agg, lcl_eq, xtr_eq, cellsA_agg, spl_z, spl_c, spl_s, bld_nil, bld_cons, bls_nil, bls_cons, prt_t, prt_f, nck_ptr, fld_ptr, lal, stl, decide_true, decide_false, decide_eq_true_eq, Bool.false_eq_true, Bool.not_true, Bool.not_false, Bool.and_true, Bool.and_false, Bool.true_and, Bool.false_and, Option.map_some, Option.map_none, if_true, if_false, ite_true, ite_false, reduceIte, and_self, and_true, true_and, false_and, and_false, eq_self, ne_eq, not_true_eq_false, not_false_eq_true, Nat.zero_add, Nat.reduceAdd, Nat.reduceLeDiff, Nat.reduceLT, Nat.reduceEqDiff, Nat.le_refl, Nat.add_zero, Option.some.injEq, Prod.mk.injEq, Value.agg.injEq, Value.bool.injEq, Value.int.injEq, Value.tuple.injEq, Array.mk.injEq, List.cons.injEq, and_self, List.length_cons, List.length_nil, List.getElem?_cons_zero, List.getElem?_cons_succ, List.getElem?_nil, List.drop_succ_cons, List.drop_zero, List.take_succ_cons, List.take_zero, List.take_nil, List.drop_nil, List.getD_cons_zero, List.getD_cons_succ, rep1, rep2, rep3, rep4, List.set_cons_zero, List.set_cons_succ, List.cons_append, List.nil_append, rright_ok s hn hb, bits_v s hn hb, e]⟩
theorem rPrefixes_no {s : St} {L B : Int} (h : ¬ okV L B) (hB : 0 ≤ B) : leapfrogref01x_Prefixes.v (VI L B) s = some (.slice none 0 0, s) := by
  simp only [leapfrogref01x_Prefixes.v, leapfrogref01x_Prefixes.t, std_bd, std_gd, std_gdS, std_gdU, std_cnd, std_it, bds, bdn, cndt, cndf, cndd, cndb, gdtt, gdff, gdtf, gdft, gdun, gdSun, gdSt, gdSf, gdStf, gdSft, gdUt, gdUf, gdUtf, gdUft, pikt, pikf, eqb1, neb1, eqb0, neb0, eqb2, neb2, eqb3n, neb3n, eqb3nn, neb3nn, eqk1, eqb_agg, neb_agg, eqks_nil, eqks_cons, bin_add, bin_sub, bin_mul, bin_lss, bin_leq, bin_gtr, bin_geq, un_notd, un_not, cvi_int, cvs_str, mn2_int, mx2_int, lenS_str, lenL_slc, bx_int, bx_bool, bx_str, bx_ptr, bx_slc, bx_agg, lcl_eq, xtr_eq, cellsA_agg, spl_z, spl_c, spl_s, bld_nil, bld_cons, bls_nil, bls_cons, prt_t, prt_f, nck_ptr, fld_ptr, lal, stl, decide_true, decide_false, decide_eq_true_eq, Bool.false_eq_true, Bool.not_true, Bool.not_false, Bool.and_true, Bool.and_false, Bool.true_and, Bool.false_and, Option.map_some, Option.map_none, if_true, if_false, ite_true, ite_false, reduceIte, and_self, and_true, true_and, false_and, and_false, eq_self, ne_eq, not_true_eq_false, not_false_eq_true, Nat.zero_add, Nat.reduceAdd, Nat.reduceLeDiff, Nat.reduceLT, Nat.reduceEqDiff, Nat.le_refl, Nat.add_zero, Option.some.injEq, Prod.mk.injEq, Value.agg.injEq, Value.bool.injEq, Value.int.injEq, Value.tuple.injEq, Array.mk.injEq, List.cons.injEq, and_self, List.length_cons, List.length_nil, List.getElem?_cons_zero, List.getElem?_cons_succ, List.getElem?_nil, List.drop_succ_cons, List.drop_zero, List.take_succ_cons, List.take_zero, List.take_nil, List.drop_nil, List.getD_cons_zero, List.getD_cons_succ, rep1, rep2, rep3, rep4, List.set_cons_zero, List.set_cons_succ, List.cons_append, List.nil_append, rright_no s h hB]

/-! ### The closure -/

theorem fn1 {s : St} {R K W M : Nat} {k : Nat} {most : Int} {wv : Value} {l : List (Int × Int)} {p : Int × Int} (hR : s.get R = some (.row 1 [[.bool true]] false)) (hK : s.get K = some (.row 1 [[.int .i64 (k : Int)]] false))
    (hW : s.get W = some (.row 1 [[wv]] false)) (hM : s.get M = some (.row 1 [[.int .i64 most]] false)) (hRK : R ≠ K) (hRW : R ≠ W) (hRM : R ≠ M) (hKM : K ≠ M) (hi : IsV s wv l) (hp : l[k]? = some p) (hk : k ≤ 1000) (hl : l.length ≤ 1000) :
    ∃ s', leapfroglaw01x_VecDraws_fn1.v (VI p.1 p.2) (.pointer (some ⟨R, 0, some 0⟩)) (.pointer (some ⟨K, 0, some 0⟩)) (.pointer (some ⟨W, 0, some 0⟩)) (.pointer (some ⟨M, 0, some 0⟩)) s = some (.bool (decide (((k + 1 : Nat) : Int) < most)), s') ∧
      s'.get R = some (.row 1 [[.bool true]] false) ∧ s'.get K = some (.row 1 [[.int .i64 ((k + 1 : Nat) : Int)]] false) ∧ (∀ c, c ≠ R → c ≠ K → s'.get c = s.get c) := by
  have hkl : k < l.length := (List.getElem?_eq_some_iff.1 hp).1
  have e1 : (k : Int) < l.length := by omega
  obtain ⟨q, q1, q2⟩ := hi.at hp
  obtain ⟨s1, t1, t2, t3, t4, _⟩ := stv_spec (i := 0) (j := 0) (n := 1) hR (v := .bool true) (cs := [.bool true]) rfl rfl rfl (by simp)
  have k1 : s1.get K = some (.row 1 [[.int .i64 (k : Int)]] false) := by rw [t3 K (Ne.symm hRK)]; exact hK
  obtain ⟨s2, u1, u2, u3, u4, _⟩ := stv_spec (i := 0) (j := 0) (n := 1) k1 (v := .int .i64 ((k + 1 : Nat) : Int)) (cs := [.int .i64 ((k + 1 : Nat) : Int)]) rfl rfl rfl (by simp)
  have e5 : IntKind.i64.wrap ((k : Int) + 1) = ((k + 1 : Nat) : Int) := by rw [wrap64 (by omega) (by omega)]; omega
  have r2 : s2.get R = some (.row 1 [[.bool true]] false) := by rw [u3 R hRK]; exact t2
  have k2 : s2.get K = some (.row 1 [[.int .i64 ((k + 1 : Nat) : Int)]] false) := u2
  have m2 : s2.get M = some (.row 1 [[.int .i64 most]] false) := by rw [u3 M (Ne.symm hKM), t3 M (Ne.symm hRM)]; exact hM
  refine ⟨s2, ?_, r2, k2, fun c h1 h2 => by rw [u3 c h2, t3 c h1]⟩
  simp only [leapfroglaw01x_VecDraws_fn1.v, leapfroglaw01x_VecDraws_fn1.t, std_bd, std_gd, std_gdS, std_gdU, std_cnd, std_it, bds, bdn, cndt, cndf, cndd, cndb, gdtt, gdff, gdtf, gdft, gdun, gdSun, gdSt, gdSf, gdStf, gdSft, gdUt, gdUf, gdUtf, gdUft, pikt, pikf, eqb1, neb1, eqb0, neb0, eqb2, neb2, eqb3n, neb3n, eqb3nn, neb3nn, eqk1, eqb_agg, neb_agg, eqks_nil, eqks_cons, bin_add, bin_sub, bin_mul, bin_lss, bin_leq, bin_gtr, bin_geq, un_notd, un_not, cvi_int, cvs_str, mn2_int, mx2_int, lenS_str, lenL_slc, bx_int, bx_bool, bx_str, bx_ptr, bx_slc, bx_agg, lcl_eq, xtr_eq, cellsA_agg, spl_z, spl_c, spl_s, bld_nil, bld_cons, bls_nil, bls_cons, prt_t, prt_f, nck_ptr, fld_ptr, lal, stl, decide_true, decide_false, decide_eq_true_eq, Bool.false_eq_true, Bool.not_true, Bool.not_false, Bool.and_true, Bool.and_false, Bool.true_and, Bool.false_and, Option.map_some, Option.map_none, if_true, if_false, ite_true, ite_false, reduceIte, and_self, and_true, true_and, false_and, and_false, eq_self, ne_eq, not_true_eq_false, not_false_eq_true, Nat.zero_add, Nat.reduceAdd, Nat.reduceLeDiff, Nat.reduceLT, Nat.reduceEqDiff, Nat.le_refl, Nat.add_zero, Option.some.injEq, Prod.mk.injEq, Value.agg.injEq, Value.bool.injEq, Value.int.injEq, Value.tuple.injEq, Array.mk.injEq, List.cons.injEq, and_self, List.length_cons, List.length_nil, List.getElem?_cons_zero, List.getElem?_cons_succ, List.getElem?_nil, List.drop_succ_cons, List.drop_zero, List.take_succ_cons, List.take_zero, List.take_nil, List.drop_nil, List.getD_cons_zero, List.getD_cons_succ, rep1, rep2, rep3, rep4, List.set_cons_zero, List.set_cons_succ, List.cons_append, List.nil_append, ldc_row hR, ldc_row hK, ldc_row hW, ldc_row k1, ldc_row r2, ldc_row k2, ldc_row m2, hi.len, e1, q1, q2, t1, u1, e5]

theorem callV_fn1 {s : St} {R K W M : Nat} {w : Value} : callV vec_Prefixes_fn1.ctx (.func (.func 26) ⟨[]⟩ ⟨[.pointer (some ⟨R, 0, some 0⟩), .pointer (some ⟨K, 0, some 0⟩), .pointer (some ⟨W, 0, some 0⟩), .pointer (some ⟨M, 0, some 0⟩)]⟩) [w] s =
    leapfroglaw01x_VecDraws_fn1.v w (.pointer (some ⟨R, 0, some 0⟩)) (.pointer (some ⟨K, 0, some 0⟩)) (.pointer (some ⟨W, 0, some 0⟩)) (.pointer (some ⟨M, 0, some 0⟩)) s := rfl

theorem IsV.keep {s s' : St} {R K : Nat} {r k : List (List Value)} {v : Value} {l : List (Int × Int)} (h : IsV s v l) (hR : s.get R = some (.row 1 r false)) (hK : s.get K = some (.row 1 k false)) (hs : ∀ c, c ≠ R → c ≠ K → s'.get c = s.get c) : IsV s' v l := by
  rcases h with ⟨rfl, rfl⟩ | ⟨b, i, e, rows, ro, rfl, hg, hr⟩
  · exact .inl ⟨rfl, rfl⟩
  · refine .inr ⟨b, i, e, rows, ro, rfl, ?_, hr⟩
    rw [hs b (by rintro rfl; rw [hR] at hg; simp at hg) (by rintro rfl; rw [hK] at hg; simp at hg)]
    exact hg

/-- The function value of the law's own closure. -/
abbrev yl (R K W M : Nat) : Value := .func (.func 26) ⟨[]⟩ ⟨[.pointer (some ⟨R, 0, some 0⟩), .pointer (some ⟨K, 0, some 0⟩), .pointer (some ⟨W, 0, some 0⟩), .pointer (some ⟨M, 0, some 0⟩)]⟩

theorem pre_l2 {s : St} {R K W M V : Nat} {most : Int} {wv : Value} {n b : Nat} (hn : n ≤ 32) (hb : b < 2 ^ n) (hR : s.get R = some (.row 1 [[.bool true]] false)) (hK : s.get K = some (.row 1 [[.int .i64 0]] false))
    (hW : s.get W = some (.row 1 [[wv]] false)) (hM : s.get M = some (.row 1 [[.int .i64 most]] false)) (hV : s.get V = some (.row 2 [[.int .i64 n, .int .u64 b]] false)) (hRK : R ≠ K) (hRW : R ≠ W) (hRM : R ≠ M) (hKW : K ≠ W) (hKM : K ≠ M) (hi : IsV s wv (pre n b)) (hm : 1 ≤ most) :
    ∃ x s', (x = 0 ∨ x = 1) ∧ iter (vec_Prefixes_fn1.l2 std) BIG [yl R K W M, .pointer (some ⟨V, 0, some 0⟩), Value.int .i64 ((n + 1 : Nat) : Int), Value.int .i64 ((0 : Nat) : Int)] s = some (x, [], s') ∧
      s'.get R = some (.row 1 [[.bool true]] false) ∧ s'.get K = some (.row 1 [[.int .i64 (if most < ((n + 1 : Nat) : Int) then most else ((n + 1 : Nat) : Int))]] false) ∧ (∀ c, c ≠ R → c ≠ K → s'.get c = s.get c) := by
  have hVR : V ≠ R := by rintro rfl; rw [hR] at hV; simp at hV
  have hVK : V ≠ K := by rintro rfl; rw [hK] at hV; simp at hV
  refine iter_rel (fun d xs s' => ∃ j : Nat, j + d = n + 1 ∧ (j : Int) < most ∧ s'.get R = some (.row 1 [[.bool true]] false) ∧ s'.get K = some (.row 1 [[.int .i64 (j : Int)]] false) ∧ (∀ c, c ≠ R → c ≠ K → s'.get c = s.get c) ∧ xs = [yl R K W M, .pointer (some ⟨V, 0, some 0⟩), Value.int .i64 ((n + 1 : Nat) : Int), Value.int .i64 (j : Int)])
    (fun r : Option Cut => ∃ x s', (x = 0 ∨ x = 1) ∧ r = some (x, [], s') ∧ s'.get R = some (.row 1 [[.bool true]] false) ∧ s'.get K = some (.row 1 [[.int .i64 (if most < ((n + 1 : Nat) : Int) then most else ((n + 1 : Nat) : Int))]] false) ∧ (∀ c, c ≠ R → c ≠ K → s'.get c = s.get c)) ?_ BIG (n + 1) _ s (by unfold BIG; omega) ⟨0, by omega, by omega, hR, hK, fun _ _ _ => rfl, rfl⟩
  rintro d xs s' rec ⟨j, hj, hjm, gR, gK, gs, rfl⟩ ih
  cases d with
  | zero =>
    have e1 : ¬ ((j : Int) < ((n + 1 : Nat) : Int)) := by omega
    refine ⟨0, s', .inl rfl, by simp only [vec_Prefixes_fn1.l2, std_bd, std_gd, std_gdS, std_gdU, std_cnd, std_it, bds, bdn, cndt, cndf, cndd, cndb, gdtt, gdff, gdtf, gdft, gdun, gdSun, gdSt, gdSf, gdStf, gdSft, gdUt, gdUf, gdUtf, gdUft, pikt, pikf, eqb1, neb1, eqb0, neb0, eqb2, neb2, eqb3n, neb3n, eqb3nn, neb3nn, eqk1, eqb_agg, neb_agg, eqks_nil, eqks_cons, bin_add, bin_sub, bin_mul, bin_lss, bin_leq, bin_gtr, bin_geq, un_notd, un_not, cvi_int, cvs_str, mn2_int, mx2_int, lenS_str, lenL_slc, bx_int, bx_bool, bx_str, bx_ptr, bx_slc, bx_agg, lcl_eq, xtr_eq, cellsA_agg, spl_z, spl_c, spl_s, bld_nil, bld_cons, bls_nil, bls_cons, prt_t, prt_f, nck_ptr, fld_ptr, lal, stl, decide_true, decide_false, decide_eq_true_eq, Bool.false_eq_true, Bool.not_true, Bool.not_false, Bool.and_true, Bool.and_false, Bool.true_and, Bool.false_and, Option.map_some, Option.map_none, if_true, if_false, ite_true, ite_false, reduceIte, and_self, and_true, true_and, false_and, and_false, eq_self, ne_eq, not_true_eq_false, not_false_eq_true, Nat.zero_add, Nat.reduceAdd, Nat.reduceLeDiff, Nat.reduceLT, Nat.reduceEqDiff, Nat.le_refl, Nat.add_zero, Option.some.injEq, Prod.mk.injEq, Value.agg.injEq, Value.bool.injEq, Value.int.injEq, Value.tuple.injEq, Array.mk.injEq, List.cons.injEq, and_self, List.length_cons, List.length_nil, List.getElem?_cons_zero, List.getElem?_cons_succ, List.getElem?_nil, List.drop_succ_cons, List.drop_zero, List.take_succ_cons, List.take_zero, List.take_nil, List.drop_nil, List.getD_cons_zero, List.getD_cons_succ, rep1, rep2, rep3, rep4, List.set_cons_zero, List.set_cons_succ, List.cons_append, List.nil_append, e1], gR, ?_, gs⟩
    rw [if_neg (by omega), gK]
    have : (j : Int) = ((n + 1 : Nat) : Int) := by omega
    rw [this]
  | succ d =>
    have e1 : (j : Int) < ((n + 1 : Nat) : Int) := by omega
    have gW : s'.get W = some (.row 1 [[wv]] false) := by rw [gs W (Ne.symm hRW) (Ne.symm hKW)]; exact hW
    have gM : s'.get M = some (.row 1 [[.int .i64 most]] false) := by rw [gs M (Ne.symm hRM) (Ne.symm hKM)]; exact hM
    have gV : s'.get V = some (.row 2 [[.int .i64 n, .int .u64 b]] false) := by rw [gs V hVR hVK]; exact hV
    have gi := IsV.keep hi hR hK gs
    obtain ⟨s2, f1, f2, f3, f4⟩ := fn1 gR gK gW gM hRK hRW hRM hKM gi (pre_get (show j ≤ n by omega)) (by omega) (by rw [pre_length]; omega)
    have px := @prefix_r n b j s' hn (by omega)
    have e5 : IntKind.i64.wrap ((j : Int) + 1) = ((j + 1 : Nat) : Int) := by rw [wrap64 (by omega) (by omega)]; omega
    have cv := @callV_fn1 s' R K W M (VV j (b / 2 ^ (n - j)))
    rw [f1] at cv
    by_cases hlt : ((j + 1 : Nat) : Int) < most
    · simp only [vec_Prefixes_fn1.l2, std_bd, std_gd, std_gdS, std_gdU, std_cnd, std_it, bds, bdn, cndt, cndf, cndd, cndb, gdtt, gdff, gdtf, gdft, gdun, gdSun, gdSt, gdSf, gdStf, gdSft, gdUt, gdUf, gdUtf, gdUft, pikt, pikf, eqb1, neb1, eqb0, neb0, eqb2, neb2, eqb3n, neb3n, eqb3nn, neb3nn, eqk1, eqb_agg, neb_agg, eqks_nil, eqks_cons, bin_add, bin_sub, bin_mul, bin_lss, bin_leq, bin_gtr, bin_geq, un_notd, un_not, cvi_int, cvs_str, mn2_int, mx2_int, lenS_str, lenL_slc, bx_int, bx_bool, bx_str, bx_ptr, bx_slc, bx_agg, lcl_eq, xtr_eq, cellsA_agg, spl_z, spl_c, spl_s, bld_nil, bld_cons, bls_nil, bls_cons, prt_t, prt_f, nck_ptr, fld_ptr, lal, stl, decide_true, decide_false, decide_eq_true_eq, Bool.false_eq_true, Bool.not_true, Bool.not_false, Bool.and_true, Bool.and_false, Bool.true_and, Bool.false_and, Option.map_some, Option.map_none, if_true, if_false, ite_true, ite_false, reduceIte, and_self, and_true, true_and, false_and, and_false, eq_self, ne_eq, not_true_eq_false, not_false_eq_true, Nat.zero_add, Nat.reduceAdd, Nat.reduceLeDiff, Nat.reduceLT, Nat.reduceEqDiff, Nat.le_refl, Nat.add_zero, Option.some.injEq, Prod.mk.injEq, Value.agg.injEq, Value.bool.injEq, Value.int.injEq, Value.tuple.injEq, Array.mk.injEq, List.cons.injEq, and_self, List.length_cons, List.length_nil, List.getElem?_cons_zero, List.getElem?_cons_succ, List.getElem?_nil, List.drop_succ_cons, List.drop_zero, List.take_succ_cons, List.take_zero, List.take_nil, List.drop_nil, List.getD_cons_zero, List.getD_cons_succ, rep1, rep2, rep3, rep4, List.set_cons_zero, List.set_cons_succ, List.cons_append, List.nil_append, e1, lda_row gV, px, cv, hlt, e5]
      exact ih d _ _ (by omega) ⟨j + 1, by omega, hlt, f2, f3, fun c h1 h2 => by rw [f4 c h1 h2, gs c h1 h2], rfl⟩
    · refine ⟨1, s2, .inr rfl, by simp only [vec_Prefixes_fn1.l2, std_bd, std_gd, std_gdS, std_gdU, std_cnd, std_it, bds, bdn, cndt, cndf, cndd, cndb, gdtt, gdff, gdtf, gdft, gdun, gdSun, gdSt, gdSf, gdStf, gdSft, gdUt, gdUf, gdUtf, gdUft, pikt, pikf, eqb1, neb1, eqb0, neb0, eqb2, neb2, eqb3n, neb3n, eqb3nn, neb3nn, eqk1, eqb_agg, neb_agg, eqks_nil, eqks_cons, bin_add, bin_sub, bin_mul, bin_lss, bin_leq, bin_gtr, bin_geq, un_notd, un_not, cvi_int, cvs_str, mn2_int, mx2_int, lenS_str, lenL_slc, bx_int, bx_bool, bx_str, bx_ptr, bx_slc, bx_agg, lcl_eq, xtr_eq, cellsA_agg, spl_z, spl_c, spl_s, bld_nil, bld_cons, bls_nil, bls_cons, prt_t, prt_f, nck_ptr, fld_ptr, lal, stl, decide_true, decide_false, decide_eq_true_eq, Bool.false_eq_true, Bool.not_true, Bool.not_false, Bool.and_true, Bool.and_false, Bool.true_and, Bool.false_and, Option.map_some, Option.map_none, if_true, if_false, ite_true, ite_false, reduceIte, and_self, and_true, true_and, false_and, and_false, eq_self, ne_eq, not_true_eq_false, not_false_eq_true, Nat.zero_add, Nat.reduceAdd, Nat.reduceLeDiff, Nat.reduceLT, Nat.reduceEqDiff, Nat.le_refl, Nat.add_zero, Option.some.injEq, Prod.mk.injEq, Value.agg.injEq, Value.bool.injEq, Value.int.injEq, Value.tuple.injEq, Array.mk.injEq, List.cons.injEq, and_self, List.length_cons, List.length_nil, List.getElem?_cons_zero, List.getElem?_cons_succ, List.getElem?_nil, List.drop_succ_cons, List.drop_zero, List.take_succ_cons, List.take_zero, List.take_nil, List.drop_nil, List.getD_cons_zero, List.getD_cons_succ, rep1, rep2, rep3, rep4, List.set_cons_zero, List.set_cons_succ, List.cons_append, List.nil_append, e1, lda_row gV, px, cv, hlt], f2, ?_, fun c h1 h2 => by rw [f4 c h1 h2, gs c h1 h2]⟩
      rw [f3]
      congr 5
      split <;> omega

theorem fn_ok {s : St} {R K W M V : Nat} {most : Int} {wv : Value} {n b : Nat} (hn : n ≤ 32) (hb : b < 2 ^ n) (hR : s.get R = some (.row 1 [[.bool true]] false)) (hK : s.get K = some (.row 1 [[.int .i64 0]] false))
    (hW : s.get W = some (.row 1 [[wv]] false)) (hM : s.get M = some (.row 1 [[.int .i64 most]] false)) (hV : s.get V = some (.row 2 [[.int .i64 n, .int .u64 b]] false)) (hRK : R ≠ K) (hRW : R ≠ W) (hRM : R ≠ M) (hKW : K ≠ W) (hKM : K ≠ M) (hi : IsV s wv (pre n b)) (hm : 1 ≤ most) :
    ∃ s', vec_Prefixes_fn1.v (yl R K W M) (.pointer (some ⟨V, 0, some 0⟩)) s = some (.tuple ⟨[]⟩, s') ∧
      s'.get R = some (.row 1 [[.bool true]] false) ∧ s'.get K = some (.row 1 [[.int .i64 (if most < ((n + 1 : Nat) : Int) then most else ((n + 1 : Nat) : Int))]] false) ∧ (∀ c, c ≠ R → c ≠ K → s'.get c = s.get c) := by
  obtain ⟨x, s', hx, g1, g2, g3, g4⟩ := pre_l2 hn hb hR hK hW hM hV hRK hRW hRM hKW hKM hi hm
  have e5 : IntKind.i64.wrap ((n : Int) + 1) = ((n + 1 : Nat) : Int) := by rw [wrap64 (by omega) (by omega)]; omega
  rw [show ((0 : Nat) : Int) = 0 from rfl] at g1
  refine ⟨s', ?_, g2, g3, g4⟩
  rcases hx with rfl | rfl
  · simp only [vec_Prefixes_fn1.v, vec_Prefixes_fn1.t, std_bd, std_gd, std_gdS, std_gdU, std_cnd, std_it, bds, bdn, cndt, cndf, cndd, cndb, gdtt, gdff, gdtf, gdft, gdun, gdSun, gdSt, gdSf, gdStf, gdSft, gdUt, gdUf, gdUtf, gdUft, pikt, pikf, eqb1, neb1, eqb0, neb0, eqb2, neb2, eqb3n, neb3n, eqb3nn, neb3nn, eqk1, eqb_agg, neb_agg, eqks_nil, eqks_cons, bin_add, bin_sub, bin_mul, bin_lss, bin_leq, bin_gtr, bin_geq, un_notd, un_not, cvi_int, cvs_str, mn2_int, mx2_int, lenS_str, lenL_slc, bx_int, bx_bool, bx_str, bx_ptr, bx_slc, bx_agg, lcl_eq, xtr_eq, cellsA_agg, spl_z, spl_c, spl_s, bld_nil, bld_cons, bls_nil, bls_cons, prt_t, prt_f, nck_ptr, fld_ptr, lal, stl, decide_true, decide_false, decide_eq_true_eq, Bool.false_eq_true, Bool.not_true, Bool.not_false, Bool.and_true, Bool.and_false, Bool.true_and, Bool.false_and, Option.map_some, Option.map_none, if_true, if_false, ite_true, ite_false, reduceIte, and_self, and_true, true_and, false_and, and_false, eq_self, ne_eq, not_true_eq_false, not_false_eq_true, Nat.zero_add, Nat.reduceAdd, Nat.reduceLeDiff, Nat.reduceLT, Nat.reduceEqDiff, Nat.le_refl, Nat.add_zero, Option.some.injEq, Prod.mk.injEq, Value.agg.injEq, Value.bool.injEq, Value.int.injEq, Value.tuple.injEq, Array.mk.injEq, List.cons.injEq, and_self, List.length_cons, List.length_nil, List.getElem?_cons_zero, List.getElem?_cons_succ, List.getElem?_nil, List.drop_succ_cons, List.drop_zero, List.take_succ_cons, List.take_zero, List.take_nil, List.drop_nil, List.getD_cons_zero, List.getD_cons_succ, rep1, rep2, rep3, rep4, List.set_cons_zero, List.set_cons_succ, List.cons_append, List.nil_append, lda_row hV, ldc_row hV, right_ok s hn hb, e5, g1]
  · simp only [vec_Prefixes_fn1.v, vec_Prefixes_fn1.t, std_bd, std_gd, std_gdS, std_gdU, std_cnd, std_it, bds, bdn, cndt, cndf, cndd, cndb, gdtt, gdff, gdtf, gdft, gdun, gdSun, gdSt, gdSf, gdStf, gdSft, gdUt, gdUf, gdUtf, gdUft, pikt, pikf, eqb1, neb1, eqb0, neb0, eqb2, neb2, eqb3n, neb3n, eqb3nn, neb3nn, eqk1, eqb_agg, neb_agg, eqks_nil, eqks_cons, bin_add, bin_sub, bin_mul, bin_lss, bin_leq, bin_gtr, bin_geq, un_notd, un_not, cvi_int, cvs_str, mn2_int, mx2_int, lenS_str, lenL_slc, bx_int, bx_bool, bx_str, bx_ptr, bx_slc, bx_agg, lcl_eq, xtr_eq, cellsA_agg, spl_z, spl_c, spl_s, bld_nil, bld_cons, bls_nil, bls_cons, prt_t, prt_f, nck_ptr, fld_ptr, lal, stl, decide_true, decide_false, decide_eq_true_eq, Bool.false_eq_true, Bool.not_true, Bool.not_false, Bool.and_true, Bool.and_false, Bool.true_and, Bool.false_and, Option.map_some, Option.map_none, if_true, if_false, ite_true, ite_false, reduceIte, and_self, and_true, true_and, false_and, and_false, eq_self, ne_eq, not_true_eq_false, not_false_eq_true, Nat.zero_add, Nat.reduceAdd, Nat.reduceLeDiff, Nat.reduceLT, Nat.reduceEqDiff, Nat.le_refl, Nat.add_zero, Option.some.injEq, Prod.mk.injEq, Value.agg.injEq, Value.bool.injEq, Value.int.injEq, Value.tuple.injEq, Array.mk.injEq, List.cons.injEq, and_self, List.length_cons, List.length_nil, List.getElem?_cons_zero, List.getElem?_cons_succ, List.getElem?_nil, List.drop_succ_cons, List.drop_zero, List.take_succ_cons, List.take_zero, List.take_nil, List.drop_nil, List.getD_cons_zero, List.getD_cons_succ, rep1, rep2, rep3, rep4, List.set_cons_zero, List.set_cons_succ, List.cons_append, List.nil_append, lda_row hV, ldc_row hV, right_ok s hn hb, e5, g1, Nat.one_ne_zero]
theorem fn_no {s : St} {y : Value} {V : Nat} {L B : Int} (h : ¬ okV L B) (hB : 0 ≤ B) (hV : s.get V = some (.row 2 [[.int .i64 L, .int .u64 B]] false)) : vec_Prefixes_fn1.v y (.pointer (some ⟨V, 0, some 0⟩)) s = some (.tuple ⟨[]⟩, s) := by
  simp only [vec_Prefixes_fn1.v, vec_Prefixes_fn1.t, std_bd, std_gd, std_gdS, std_gdU, std_cnd, std_it, bds, bdn, cndt, cndf, cndd, cndb, gdtt, gdff, gdtf, gdft, gdun, gdSun, gdSt, gdSf, gdStf, gdSft, gdUt, gdUf, gdUtf, gdUft, pikt, pikf, eqb1, neb1, eqb0, neb0, eqb2, neb2, eqb3n, neb3n, eqb3nn, neb3nn, eqk1, eqb_agg, neb_agg, eqks_nil, eqks_cons, bin_add, bin_sub, bin_mul, bin_lss, bin_leq, bin_gtr, bin_geq, un_notd, un_not, cvi_int, cvs_str, mn2_int, mx2_int, lenS_str, lenL_slc, bx_int, bx_bool, bx_str, bx_ptr, bx_slc, bx_agg, lcl_eq, xtr_eq, cellsA_agg, spl_z, spl_c, spl_s, bld_nil, bld_cons, bls_nil, bls_cons, prt_t, prt_f, nck_ptr, fld_ptr, lal, stl, decide_true, decide_false, decide_eq_true_eq, Bool.false_eq_true, Bool.not_true, Bool.not_false, Bool.and_true, Bool.and_false, Bool.true_and, Bool.false_and, Option.map_some, Option.map_none, if_true, if_false, ite_true, ite_false, reduceIte, and_self, and_true, true_and, false_and, and_false, eq_self, ne_eq, not_true_eq_false, not_false_eq_true, Nat.zero_add, Nat.reduceAdd, Nat.reduceLeDiff, Nat.reduceLT, Nat.reduceEqDiff, Nat.le_refl, Nat.add_zero, Option.some.injEq, Prod.mk.injEq, Value.agg.injEq, Value.bool.injEq, Value.int.injEq, Value.tuple.injEq, Array.mk.injEq, List.cons.injEq, and_self, List.length_cons, List.length_nil, List.getElem?_cons_zero, List.getElem?_cons_succ, List.getElem?_nil, List.drop_succ_cons, List.drop_zero, List.take_succ_cons, List.take_zero, List.take_nil, List.drop_nil, List.getD_cons_zero, List.getD_cons_succ, rep1, rep2, rep3, rep4, List.set_cons_zero, List.set_cons_succ, List.cons_append, List.nil_append, lda_row hV, right_no s h hB, i10]
theorem callV_fn {s : St} {V : Nat} {y : Value} : callV leapfroglaw01x_VecDraws.ctx (.func (.func 48) ⟨[]⟩ ⟨[.pointer (some ⟨V, 0, some 0⟩)]⟩) [y] s = vec_Prefixes_fn1.v y (.pointer (some ⟨V, 0, some 0⟩)) s := rfl
theorem eqb6 {f : Fn} {a c : Array Value} : eqb [6] false false (.func f a c) .nilFunc = none ∨ True := .inr trivial
theorem alive_r (s : St) : leapfroglaw01x_aliveC.r s = some (.bool true) := rfl

/-- The second half: the prefixes. -/
theorem half {s : St} {M : Nat} {L B : Int} (hf : Fresh s) (hB : 0 ≤ B) {m0 : Int} (hM : s.get M = some (.row 1 [[.int .i64 m0]] false)) :
    ∃ s', leapfroglaw01x_VecDraws.t.p1 std [.int .i64 L, .int .u64 B] (.pointer (some ⟨M, 0, some 0⟩), s) = some (.bool true, s') := by
  have hMn := hf.lt hM
  obtain ⟨wv, s2, l, m2, iv, ep, hl⟩ : ∃ wv s2 l, More s s2 ∧ IsV s2 wv l ∧ leapfrogref01x_Prefixes.v (VI L B) s = some (wv, s2) ∧ ((∃ n b : Nat, L = n ∧ B = b ∧ n ≤ 32 ∧ b < 2 ^ n ∧ l = pre n b) ∨ (¬ okV L B ∧ l = [])) := by
    by_cases hk : okV L B
    · obtain ⟨n, b, rfl, rfl, h1, h2⟩ := hk
      obtain ⟨u, s', g1, g2, g3⟩ := rPrefixes_ok hf h1 h2
      exact ⟨u, s', _, g1, g2, g3, .inl ⟨n, b, rfl, rfl, h1, h2, rfl⟩⟩
    · exact ⟨_, s, [], .refl s, .inl ⟨rfl, rfl⟩, rPrefixes_no hk hB, .inr ⟨hk, rfl⟩⟩
  have f2 := m2.fresh hf
  have M2 := m2.get hf hM
  have hMn2 := f2.lt M2
  obtain ⟨s3, a3, w3, m3, n3⟩ := alv_spec (s := s2) (v := .slice none 0 0) (cs := [.slice none 0 0]) rfl
  have f3 := m3.fresh f2
  obtain ⟨s4, a4, w4, k4, n4, f4⟩ := stv_spec (i := 0) (j := 0) (n := 1) w3 (v := wv) (cs := [wv]) (by
    rcases iv with ⟨rfl, _⟩ | ⟨b, i, e, rows, ro, rfl, _⟩ <;> rfl) rfl rfl (by simp)
  have f4 := f4 f3
  have M4 : s4.get M = some (.row 1 [[.int .i64 m0]] false) := by rw [k4 M (by omega)]; exact m3.get f2 M2
  have iv4 : IsV s4 wv l := by
    rcases iv.more m3 f2 with ⟨rfl, rfl⟩ | ⟨b, i, e, rows, ro, rfl, hg, hr⟩
    · exact .inl ⟨rfl, rfl⟩
    · exact .inr ⟨b, i, e, rows, ro, rfl, by rw [k4 b (by rintro rfl; rw [w3] at hg; simp at hg)]; exact hg, hr⟩
  -- how many at most
  obtain ⟨s5, most, e5, hm1, M5, k5, n5, f5⟩ : ∃ s5 most, ((ldc s4 (.pointer (some ⟨M, 0, some 0⟩))).bind fun x36 => (bin .lss x36 (.int .i64 1)).bind fun x37 => (gd x37 false (ldc s4 (.pointer (some ⟨M, 0, some 0⟩)))).bind fun x38 => (gd x37 false (bin .gtr x38 (.int .i64 40))).bind fun x39 => (pik x37 (.bool true) x39).bind fun x40 =>
      cnd x40 ((stv s4 1 (.pointer (some ⟨M, 0, some 0⟩)) (.int .i64 40)).bind fun s41 => some ((0, [.pointer (some ⟨M, 0, some 0⟩), .pointer (some ⟨s2.n, 0, some 0⟩), .agg ⟨[.int .i64 L, .int .u64 B]⟩], s41) : Cut)) (some (0, [.pointer (some ⟨M, 0, some 0⟩), .pointer (some ⟨s2.n, 0, some 0⟩), .agg ⟨[.int .i64 L, .int .u64 B]⟩], s4))) =
      some (0, [.pointer (some ⟨M, 0, some 0⟩), .pointer (some ⟨s2.n, 0, some 0⟩), .agg ⟨[.int .i64 L, .int .u64 B]⟩], s5) ∧ 1 ≤ most ∧ s5.get M = some (.row 1 [[.int .i64 most]] false) ∧ (∀ c, c ≠ M → s5.get c = s4.get c) ∧ s5.n = s4.n ∧ Fresh s5 := by
    obtain ⟨s5, g1, g2, g3, g4, g5⟩ := stv_spec (i := 0) (j := 0) (n := 1) M4 (v := .int .i64 40) (cs := [.int .i64 40]) rfl rfl rfl (by simp)
    by_cases h1 : m0 < 1
    · exact ⟨s5, 40, by simp only [std_bd, std_gd, std_gdS, std_gdU, std_cnd, std_it, bds, bdn, cndt, cndf, cndd, cndb, gdtt, gdff, gdtf, gdft, gdun, gdSun, gdSt, gdSf, gdStf, gdSft, gdUt, gdUf, gdUtf, gdUft, pikt, pikf, eqb1, neb1, eqb0, neb0, eqb2, neb2, eqb3n, neb3n, eqb3nn, neb3nn, eqk1, eqb_agg, neb_agg, eqks_nil, eqks_cons, bin_add, bin_sub, bin_mul, bin_lss, bin_leq, bin_gtr, bin_geq, un_notd, un_not, cvi_int, cvs_str, mn2_int, mx2_int, lenS_str, lenL_slc, bx_int, bx_bool, bx_str, bx_ptr, bx_slc, bx_agg, lcl_eq, xtr_eq, cellsA_agg, spl_z, spl_c, spl_s, bld_nil, bld_cons, bls_nil, bls_cons, prt_t, prt_f, nck_ptr, fld_ptr, lal, stl, decide_true, decide_false, decide_eq_true_eq, Bool.false_eq_true, Bool.not_true, Bool.not_false, Bool.and_true, Bool.and_false, Bool.true_and, Bool.false_and, Option.map_some, Option.map_none, if_true, if_false, ite_true, ite_false, reduceIte, and_self, and_true, true_and, false_and, and_false, eq_self, ne_eq, not_true_eq_false, not_false_eq_true, Nat.zero_add, Nat.reduceAdd, Nat.reduceLeDiff, Nat.reduceLT, Nat.reduceEqDiff, Nat.le_refl, Nat.add_zero, Option.some.injEq, Prod.mk.injEq, Value.agg.injEq, Value.bool.injEq, Value.int.injEq, Value.tuple.injEq, Array.mk.injEq, List.cons.injEq, and_self, List.length_cons, List.length_nil, List.getElem?_cons_zero, List.getElem?_cons_succ, List.getElem?_nil, List.drop_succ_cons, List.drop_zero, List.take_succ_cons, List.take_zero, List.take_nil, List.drop_nil, List.getD_cons_zero, List.getD_cons_succ, rep1, rep2, rep3, rep4, List.set_cons_zero, List.set_cons_succ, List.cons_append, List.nil_append, h1, ldc_row M4, g1], by omega, g2, g3, g4, g5 f4⟩
    · by_cases h2 : 40 < m0
      · exact ⟨s5, 40, by simp only [std_bd, std_gd, std_gdS, std_gdU, std_cnd, std_it, bds, bdn, cndt, cndf, cndd, cndb, gdtt, gdff, gdtf, gdft, gdun, gdSun, gdSt, gdSf, gdStf, gdSft, gdUt, gdUf, gdUtf, gdUft, pikt, pikf, eqb1, neb1, eqb0, neb0, eqb2, neb2, eqb3n, neb3n, eqb3nn, neb3nn, eqk1, eqb_agg, neb_agg, eqks_nil, eqks_cons, bin_add, bin_sub, bin_mul, bin_lss, bin_leq, bin_gtr, bin_geq, un_notd, un_not, cvi_int, cvs_str, mn2_int, mx2_int, lenS_str, lenL_slc, bx_int, bx_bool, bx_str, bx_ptr, bx_slc, bx_agg, lcl_eq, xtr_eq, cellsA_agg, spl_z, spl_c, spl_s, bld_nil, bld_cons, bls_nil, bls_cons, prt_t, prt_f, nck_ptr, fld_ptr, lal, stl, decide_true, decide_false, decide_eq_true_eq, Bool.false_eq_true, Bool.not_true, Bool.not_false, Bool.and_true, Bool.and_false, Bool.true_and, Bool.false_and, Option.map_some, Option.map_none, if_true, if_false, ite_true, ite_false, reduceIte, and_self, and_true, true_and, false_and, and_false, eq_self, ne_eq, not_true_eq_false, not_false_eq_true, Nat.zero_add, Nat.reduceAdd, Nat.reduceLeDiff, Nat.reduceLT, Nat.reduceEqDiff, Nat.le_refl, Nat.add_zero, Option.some.injEq, Prod.mk.injEq, Value.agg.injEq, Value.bool.injEq, Value.int.injEq, Value.tuple.injEq, Array.mk.injEq, List.cons.injEq, and_self, List.length_cons, List.length_nil, List.getElem?_cons_zero, List.getElem?_cons_succ, List.getElem?_nil, List.drop_succ_cons, List.drop_zero, List.take_succ_cons, List.take_zero, List.take_nil, List.drop_nil, List.getD_cons_zero, List.getD_cons_succ, rep1, rep2, rep3, rep4, List.set_cons_zero, List.set_cons_succ, List.cons_append, List.nil_append, h1, h2, ldc_row M4, g1], by omega, g2, g3, g4, g5 f4⟩
      · exact ⟨s4, m0, by simp only [std_bd, std_gd, std_gdS, std_gdU, std_cnd, std_it, bds, bdn, cndt, cndf, cndd, cndb, gdtt, gdff, gdtf, gdft, gdun, gdSun, gdSt, gdSf, gdStf, gdSft, gdUt, gdUf, gdUtf, gdUft, pikt, pikf, eqb1, neb1, eqb0, neb0, eqb2, neb2, eqb3n, neb3n, eqb3nn, neb3nn, eqk1, eqb_agg, neb_agg, eqks_nil, eqks_cons, bin_add, bin_sub, bin_mul, bin_lss, bin_leq, bin_gtr, bin_geq, un_notd, un_not, cvi_int, cvs_str, mn2_int, mx2_int, lenS_str, lenL_slc, bx_int, bx_bool, bx_str, bx_ptr, bx_slc, bx_agg, lcl_eq, xtr_eq, cellsA_agg, spl_z, spl_c, spl_s, bld_nil, bld_cons, bls_nil, bls_cons, prt_t, prt_f, nck_ptr, fld_ptr, lal, stl, decide_true, decide_false, decide_eq_true_eq, Bool.false_eq_true, Bool.not_true, Bool.not_false, Bool.and_true, Bool.and_false, Bool.true_and, Bool.false_and, Option.map_some, Option.map_none, if_true, if_false, ite_true, ite_false, reduceIte, and_self, and_true, true_and, false_and, and_false, eq_self, ne_eq, not_true_eq_false, not_false_eq_true, Nat.zero_add, Nat.reduceAdd, Nat.reduceLeDiff, Nat.reduceLT, Nat.reduceEqDiff, Nat.le_refl, Nat.add_zero, Option.some.injEq, Prod.mk.injEq, Value.agg.injEq, Value.bool.injEq, Value.int.injEq, Value.tuple.injEq, Array.mk.injEq, List.cons.injEq, and_self, List.length_cons, List.length_nil, List.getElem?_cons_zero, List.getElem?_cons_succ, List.getElem?_nil, List.drop_succ_cons, List.drop_zero, List.take_succ_cons, List.take_zero, List.take_nil, List.drop_nil, List.getD_cons_zero, List.getD_cons_succ, rep1, rep2, rep3, rep4, List.set_cons_zero, List.set_cons_succ, List.cons_append, List.nil_append, h1, h2, ldc_row M4], by omega, M4, fun _ _ => rfl, rfl, f4⟩
  have W5 : s5.get s2.n = some (.row 1 [[wv]] false) := by rw [k5 _ (by omega)]; exact w4
  have iv5 : IsV s5 wv l := by
    rcases iv4 with ⟨rfl, rfl⟩ | ⟨b, i, e, rows, ro, rfl, hg, hr⟩
    · exact .inl ⟨rfl, rfl⟩
    · exact .inr ⟨b, i, e, rows, ro, rfl, by rw [k5 b (by rintro rfl; rw [M4] at hg; simp at hg)]; exact hg, hr⟩
  -- the variables
  obtain ⟨s6, a6, v6, m6, n6⟩ := alv_spec (s := s5) (v := VI L B) (cs := [.int .i64 L, .int .u64 B]) rfl
  have f6 := m6.fresh f5
  obtain ⟨s7, a7, v7, m7, n7⟩ := alv_spec (s := s6) (v := .int .i64 0) (cs := [.int .i64 0]) rfl
  have f7 := m7.fresh f6
  obtain ⟨s8, a8, v8, m8, n8⟩ := alv_spec (s := s7) (v := .bool false) (cs := [.bool false]) rfl
  have f8 := m8.fresh f7
  have K8 := m8.get f7 v7
  obtain ⟨s9, a9, v9, k9, n9, f9⟩ := stv_spec (i := 0) (j := 0) (n := 1) K8 (v := .int .i64 0) (cs := [.int .i64 0]) rfl rfl rfl (by simp)
  have R9 : s9.get s7.n = some (.row 1 [[.bool false]] false) := by rw [k9 _ (by omega)]; exact v8
  obtain ⟨s10, a10, v10, k10, n10, f10⟩ := stv_spec (i := 0) (j := 0) (n := 1) R9 (v := .bool true) (cs := [.bool true]) rfl rfl rfl (by simp)
  have R10 : s10.get s7.n = some (.row 1 [[.bool true]] false) := v10
  have K10 : s10.get s6.n = some (.row 1 [[.int .i64 0]] false) := by rw [k10 _ (by omega)]; exact v9
  have old : ∀ c, c < s6.n → s10.get c = s6.get c := fun c hc => by
    rw [k10 c (by omega), k9 c (by omega), m8.old c (by omega), m7.old c hc]
  have n42 : s4.n = s2.n + 1 := by rw [n4, n3]
  have W10 : s10.get s2.n = some (.row 1 [[wv]] false) := by rw [old _ (by omega), m6.old _ (by omega)]; exact W5
  have M10 : s10.get M = some (.row 1 [[.int .i64 most]] false) := by rw [old _ (by omega), m6.old _ (by omega)]; exact M5
  have V10 : s10.get s5.n = some (.row 2 [[.int .i64 L, .int .u64 B]] false) := by rw [old _ (by omega)]; exact v6
  have iv10 : IsV s10 wv l := by
    rcases iv5 with ⟨rfl, rfl⟩ | ⟨b, i, e, rows, ro, rfl, hg, hr⟩
    · exact .inl ⟨rfl, rfl⟩
    · have hb := f5.lt hg
      exact .inr ⟨b, i, e, rows, ro, rfl, by rw [old b (by omega), m6.old b hb]; exact hg, hr⟩
  -- the call
  obtain ⟨s11, k, ec, R11, K11, k11, hk⟩ : ∃ s11 k, callV leapfroglaw01x_VecDraws.ctx (.func (.func 48) ⟨[]⟩ ⟨[.pointer (some ⟨s5.n, 0, some 0⟩)]⟩) [yl s7.n s6.n s2.n M] s10 = some (.tuple ⟨[]⟩, s11) ∧ s11.get s7.n = some (.row 1 [[.bool true]] false) ∧ s11.get s6.n = some (.row 1 [[.int .i64 k]] false) ∧
      (∀ c, c ≠ s7.n → c ≠ s6.n → s11.get c = s10.get c) ∧ k = if most < (l.length : Int) then most else (l.length : Int) := by
    rw [callV_fn]
    rcases hl with ⟨n, b, rfl, rfl, h1, h2, rfl⟩ | ⟨hno, rfl⟩
    · obtain ⟨s', g1, g2, g3, g4⟩ := fn_ok h1 h2 R10 K10 W10 M10 V10 (by omega) (by omega) (by omega) (by omega) (by omega) iv10 hm1
      exact ⟨s', _, g1, g2, g3, g4, by rw [pre_length]⟩
    · exact ⟨s10, 0, fn_no hno hB V10, R10, K10, fun _ _ _ => rfl, by simp only [List.length_nil]; rw [if_neg (by omega)]; rfl⟩
  have W11 : s11.get s2.n = some (.row 1 [[wv]] false) := by rw [k11 _ (by omega) (by omega)]; exact W10
  have M11 : s11.get M = some (.row 1 [[.int .i64 most]] false) := by rw [k11 _ (by omega) (by omega)]; exact M10
  have vp : vec_Prefixes.v (VI L B) s5 = some (.func (.func 48) ⟨[]⟩ ⟨[.pointer (some ⟨s5.n, 0, some 0⟩)]⟩, s6) := by
    simp only [vec_Prefixes.v, vec_Prefixes.t, std_bd, std_gd, std_gdS, std_gdU, std_cnd, std_it, bds, bdn, cndt, cndf, cndd, cndb, gdtt, gdff, gdtf, gdft, gdun, gdSun, gdSt, gdSf, gdStf, gdSft, gdUt, gdUf, gdUtf, gdUft, pikt, pikf, eqb1, neb1, eqb0, neb0, eqb2, neb2, eqb3n, neb3n, eqb3nn, neb3nn, eqk1, eqb_agg, neb_agg, eqks_nil, eqks_cons, bin_add, bin_sub, bin_mul, bin_lss, bin_leq, bin_gtr, bin_geq, un_notd, un_not, cvi_int, cvs_str, mn2_int, mx2_int, lenS_str, lenL_slc, bx_int, bx_bool, bx_str, bx_ptr, bx_slc, bx_agg, lcl_eq, xtr_eq, cellsA_agg, spl_z, spl_c, spl_s, bld_nil, bld_cons, bls_nil, bls_cons, prt_t, prt_f, nck_ptr, fld_ptr, lal, stl, decide_true, decide_false, decide_eq_true_eq, Bool.false_eq_true, Bool.not_true, Bool.not_false, Bool.and_true, Bool.and_false, Bool.true_and, Bool.false_and, Option.map_some, Option.map_none, if_true, if_false, ite_true, ite_false, reduceIte, and_self, and_true, true_and, false_and, and_false, eq_self, ne_eq, not_true_eq_false, not_false_eq_true, Nat.zero_add, Nat.reduceAdd, Nat.reduceLeDiff, Nat.reduceLT, Nat.reduceEqDiff, Nat.le_refl, Nat.add_zero, Option.some.injEq, Prod.mk.injEq, Value.agg.injEq, Value.bool.injEq, Value.int.injEq, Value.tuple.injEq, Array.mk.injEq, List.cons.injEq, and_self, a6]
  have q6 : eqb [6] false false (.func (.func 48) ⟨[]⟩ ⟨[.pointer (some ⟨s5.n, 0, some 0⟩)]⟩) .nilFunc = some (.bool false) := rfl
  refine ⟨s11, ?_⟩
  unfold leapfroglaw01x_VecDraws.t.p1
  simp only [std_bd, std_gd, std_gdS, std_gdU, std_cnd, std_it, bds, bdn, cndt, cndf, cndd, cndb, gdtt, gdff, gdtf, gdft, gdun, gdSun, gdSt, gdSf, gdStf, gdSft, gdUt, gdUf, gdUtf, gdUft, pikt, pikf, eqb1, neb1, eqb0, neb0, eqb2, neb2, eqb3n, neb3n, eqb3nn, neb3nn, eqk1, eqb_agg, neb_agg, eqks_nil, eqks_cons, bin_add, bin_sub, bin_mul, bin_lss, bin_leq, bin_gtr, bin_geq, un_notd, un_not, cvi_int, cvs_str, mn2_int, mx2_int, lenS_str, lenL_slc, bx_int, bx_bool, bx_str, bx_ptr, bx_slc, bx_agg, lcl_eq, xtr_eq, cellsA_agg, spl_z, spl_c, spl_s, bld_nil, bld_cons, bls_nil, bls_cons, prt_t, prt_f, nck_ptr, fld_ptr, lal, stl, decide_true, decide_false, decide_eq_true_eq, Bool.false_eq_true, Bool.not_true, Bool.not_false, Bool.and_true, Bool.and_false, Bool.true_and, Bool.false_and, Option.map_some, Option.map_none, if_true, if_false, ite_true, ite_false, reduceIte, and_self, and_true, true_and, false_and, and_false, eq_self, ne_eq, not_true_eq_false, not_false_eq_true, Nat.zero_add, Nat.reduceAdd, Nat.reduceLeDiff, Nat.reduceLT, Nat.reduceEqDiff, Nat.le_refl, Nat.add_zero, Option.some.injEq, Prod.mk.injEq, Value.agg.injEq, Value.bool.injEq, Value.int.injEq, Value.tuple.injEq, Array.mk.injEq, List.cons.injEq, and_self, List.length_cons, List.length_nil, List.getElem?_cons_zero, List.getElem?_cons_succ, List.getElem?_nil, List.drop_succ_cons, List.drop_zero, List.take_succ_cons, List.take_zero, List.take_nil, List.drop_nil, List.getD_cons_zero, List.getD_cons_succ, rep1, rep2, rep3, rep4, List.set_cons_zero, List.set_cons_succ, List.cons_append, List.nil_append, ep, a3, a4]
  rw [e5]
  simp only [std_bd, std_gd, std_gdS, std_gdU, std_cnd, std_it, bds, bdn, cndt, cndf, cndd, cndb, gdtt, gdff, gdtf, gdft, gdun, gdSun, gdSt, gdSf, gdStf, gdSft, gdUt, gdUf, gdUtf, gdUft, pikt, pikf, eqb1, neb1, eqb0, neb0, eqb2, neb2, eqb3n, neb3n, eqb3nn, neb3nn, eqk1, eqb_agg, neb_agg, eqks_nil, eqks_cons, bin_add, bin_sub, bin_mul, bin_lss, bin_leq, bin_gtr, bin_geq, un_notd, un_not, cvi_int, cvs_str, mn2_int, mx2_int, lenS_str, lenL_slc, bx_int, bx_bool, bx_str, bx_ptr, bx_slc, bx_agg, lcl_eq, xtr_eq, cellsA_agg, spl_z, spl_c, spl_s, bld_nil, bld_cons, bls_nil, bls_cons, prt_t, prt_f, nck_ptr, fld_ptr, lal, stl, decide_true, decide_false, decide_eq_true_eq, Bool.false_eq_true, Bool.not_true, Bool.not_false, Bool.and_true, Bool.and_false, Bool.true_and, Bool.false_and, Option.map_some, Option.map_none, if_true, if_false, ite_true, ite_false, reduceIte, and_self, and_true, true_and, false_and, and_false, eq_self, ne_eq, not_true_eq_false, not_false_eq_true, Nat.zero_add, Nat.reduceAdd, Nat.reduceLeDiff, Nat.reduceLT, Nat.reduceEqDiff, Nat.le_refl, Nat.add_zero, Option.some.injEq, Prod.mk.injEq, Value.agg.injEq, Value.bool.injEq, Value.int.injEq, Value.tuple.injEq, Array.mk.injEq, List.cons.injEq, and_self, List.length_cons, List.length_nil, List.getElem?_cons_zero, List.getElem?_cons_succ, List.getElem?_nil, List.drop_succ_cons, List.drop_zero, List.take_succ_cons, List.take_zero, List.take_nil, List.drop_nil, List.getD_cons_zero, List.getD_cons_succ, rep1, rep2, rep3, rep4, List.set_cons_zero, List.set_cons_succ, List.cons_append, List.nil_append, vp, q6, a7, a8, a9, a10, ec, ldc_row R11, ldc_row K11, ldc_row W11, ldc_row M11, iv.len, hk, alive_r]

theorem law (s : St) (us : List Value) (ha : AllRo s) (hf : ∀ b, s.n ≤ b → s.get b = none) (h : Args s [(false, [.i .i64]), (false, [.i .u64]), (true, [.i .i64, .i .u64]), (false, [.i .i64])] us) : ∃ s', leapfroglaw01x_VecDraws.w us s = some (.bool true, s') := by
  simp only [Args, Arg, Leaf.Are, Leaf.Is] at h
  obtain ⟨_, _, rfl, ⟨_, _, h1, ⟨n, rfl, hn⟩, rfl⟩, _, _, rfl, ⟨_, _, h2, ⟨x, rfl, hx⟩, rfl⟩, _, _, rfl, ⟨_, rfl, _, _, rfl, ⟨L, rfl, hL⟩, _, _, rfl, ⟨B, rfl, hB⟩, rfl⟩, _, _, rfl, ⟨_, _, h3, ⟨m, rfl, hm⟩, rfl⟩, rfl⟩ := h
  cases h1; cases h2; cases h3
  have hB0 := (wf_u64 hB).1
  have hx0 := (wf_u64 hx).1
  obtain ⟨y, rfl⟩ : ∃ y : Nat, x = y := ⟨x.toNat, by omega⟩
  show ∃ s', leapfroglaw01x_VecDraws.v (.int .i64 n) (.int .u64 y) (VI L B) (.int .i64 m) s = some (.bool true, s')
  obtain ⟨s1, a1, g1, m1, n1⟩ := alv_spec (s := s) (v := .int .i64 m) (cs := [.int .i64 m]) rfl
  have f1 := m1.fresh hf
  obtain ⟨s', e⟩ := half (L := L) (B := B) f1 hB0 g1
  refine ⟨s', ?_⟩
  obtain ⟨o, er, d1, d2⟩ : ∃ (o : Int × Int) (er : Int), vec_Draw.r (.int .i64 n) (.int .u64 y) s1 = some (T2 (VI o.1 o.2) er) ∧ leapfrogref01x_DrawQ.r (.int .i64 n) (.int .u64 y) s1 = some (T2 (VI o.1 o.2) er) := by
    by_cases hk : 0 ≤ n ∧ n ≤ 32
    · obtain ⟨k, rfl⟩ : ∃ k : Nat, n = k := ⟨n.toNat, by omega⟩
      exact ⟨((k : Int), ((mixN y / 2 ^ (64 - k) : Nat) : Int)), 0, draw_ok k y s1 (by omega), rdraw_ok k y s1 f1 (by omega)⟩
    · exact ⟨(0, 0), 5, draw_no n y s1 hk, rdraw_no n y s1 hk⟩
  simp only [leapfroglaw01x_VecDraws.v, leapfroglaw01x_VecDraws.t, std_bd, std_gd, std_gdS, std_gdU, std_cnd, std_it, bds, bdn, cndt, cndf, cndd, cndb, gdtt, gdff, gdtf, gdft, gdun, gdSun, gdSt, gdSf, gdStf, gdSft, gdUt, gdUf, gdUtf, gdUft, pikt, pikf, eqb1, neb1, eqb0, neb0, eqb2, neb2, eqb3n, neb3n, eqb3nn, neb3nn, eqk1, eqb_agg, neb_agg, eqks_nil, eqks_cons, bin_add, bin_sub, bin_mul, bin_lss, bin_leq, bin_gtr, bin_geq, un_notd, un_not, cvi_int, cvs_str, mn2_int, mx2_int, lenS_str, lenL_slc, bx_int, bx_bool, bx_str, bx_ptr, bx_slc, bx_agg, lcl_eq, xtr_eq, cellsA_agg, spl_z, spl_c, spl_s, bld_nil, bld_cons, bls_nil, bls_cons, prt_t, prt_f, nck_ptr, fld_ptr, lal, stl, decide_true, decide_false, decide_eq_true_eq, Bool.false_eq_true, Bool.not_true, Bool.not_false, Bool.and_true, Bool.and_false, Bool.true_and, Bool.false_and, Option.map_some, Option.map_none, if_true, if_false, ite_true, ite_false, reduceIte, and_self, and_true, true_and, false_and, and_false, eq_self, ne_eq, not_true_eq_false, not_false_eq_true, Nat.zero_add, Nat.reduceAdd, Nat.reduceLeDiff, Nat.reduceLT, Nat.reduceEqDiff, Nat.le_refl, Nat.add_zero, Option.some.injEq, Prod.mk.injEq, Value.agg.injEq, Value.bool.injEq, Value.int.injEq, Value.tuple.injEq, Array.mk.injEq, List.cons.injEq, and_self, List.length_cons, List.length_nil, List.getElem?_cons_zero, List.getElem?_cons_succ, List.getElem?_nil, List.drop_succ_cons, List.drop_zero, List.take_succ_cons, List.take_zero, List.take_nil, List.drop_nil, List.getD_cons_zero, List.getD_cons_succ, rep1, rep2, rep3, rep4, List.set_cons_zero, List.set_cons_succ, List.cons_append, List.nil_append, a1, d1, d2, mix_r, rmix_r, e]
end VecDraws
end Go.Proofs.Ytgdloihagiddhaa
