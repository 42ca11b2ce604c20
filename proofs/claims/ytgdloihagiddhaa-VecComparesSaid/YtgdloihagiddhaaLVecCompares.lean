/-
  VecCompares, over abstract values.
-/
import Derived.Test.YtgdloihagiddhaaVecE
import Derived.Test.YtgdloihagiddhaaGS0
set_option linter.unusedSimpArgs false
set_option linter.unusedVariables false
set_option maxRecDepth 100000
namespace Go.Proofs.Ytgdloihagiddhaa
open Go.Sim Go.Sim.Bt
attribute [local congr] bdc cndc itec gdc gdSc gdUc
namespace VecCompares

theorem alive_r (s : St) : leapfroglaw01x_aliveC.r s = some (.bool true) := rfl
theorem law (s : St) (us : List Value) (ha : AllRo s) (hf : ∀ b, s.n ≤ b → s.get b = none) (h : Args s [(true, [.i .i64, .i .u64]), (true, [.i .i64, .i .u64])] us) : ∃ s', asSt leapfroglaw01x_VecCompares.w us s = some (.bool true, s') := by
  simp only [Args, Arg, Leaf.Are, Leaf.Is] at h
  obtain ⟨_, _, rfl, ⟨_, rfl, _, _, rfl, ⟨L, rfl, hL⟩, _, _, rfl, ⟨B, rfl, hB⟩, rfl⟩, _, _, rfl, ⟨_, rfl, _, _, rfl, ⟨M, rfl, hM⟩, _, _, rfl, ⟨C, rfl, hC⟩, rfl⟩, rfl⟩ := h
  have hB0 := (wf_u64 hB).1
  have hC0 := (wf_u64 hC).1
  refine asSt_of (?_ : leapfroglaw01x_VecCompares.r (VI L B) (VI M C) s = some (.bool true))
  by_cases hk : okV L B ∧ okV M C
  · obtain ⟨⟨n, b, rfl, rfl, h1, h2⟩, ⟨m, c, rfl, rfl, h3, h4⟩⟩ := hk
    simp only [leapfroglaw01x_VecCompares.r, leapfroglaw01x_VecCompares.t, std_bd, std_gd, std_gdS, std_gdU, std_cnd, std_it, bds, bdn, cndt, cndf, cndd, cndb, gdtt, gdff, gdtf, gdft, gdSt, gdSf, gdStf, gdSft, gdUt, gdUf, gdUtf, gdUft, pikt, pikf, eqb1, neb1, eqb0, neb0, eqb2, neb2, eqb3n, neb3n, eqb3nn, neb3nn, eqk1, eqb_agg, neb_agg, eqks_nil, eqks_cons, bin_add, bin_sub, bin_mul, bin_lss, bin_leq, bin_gtr, bin_geq, un_notd, un_not, cvi_int, cvs_str, mn2_int, mx2_int, lenS_str, lenL_slc, bx_int, bx_bool, bx_str, bx_ptr, bx_slc, bx_agg, lcl_eq, xtr_eq, cellsA_agg, spl_z, spl_c, spl_s, bld_nil, bld_cons, bls_nil, bls_cons, prt_t, prt_f, nck_ptr, fld_ptr, lal, stl, decide_true, decide_false, decide_eq_true_eq, Bool.false_eq_true, Bool.not_true, Bool.not_false, Bool.and_true, Bool.and_false, Bool.true_and, Bool.false_and, Option.map_some, Option.map_none, if_true, if_false, ite_true, ite_false, reduceIte, and_self, and_true, true_and, false_and, and_false, eq_self, ne_eq, not_true_eq_false, not_false_eq_true, Nat.zero_add, Nat.reduceAdd, Nat.reduceLeDiff, Nat.reduceLT, Nat.reduceEqDiff, Nat.le_refl, Nat.add_zero, Option.some.injEq, Prod.mk.injEq, Value.agg.injEq, Value.bool.injEq, Value.int.injEq, Value.tuple.injEq, Array.mk.injEq, List.cons.injEq, and_self, List.length_cons, List.length_nil, List.getElem?_cons_zero, List.getElem?_cons_succ, List.getElem?_nil, List.drop_succ_cons, List.drop_zero, List.take_succ_cons, List.take_zero, List.take_nil, List.drop_nil, List.getD_cons_zero, List.getD_cons_succ, rep1, rep2, rep3, rep4, List.set_cons_zero, List.set_cons_succ, List.cons_append, List.nil_append, Common_ok s h1 h2 h3 h4, rCommon_ok s hf h1 h2 h3 h4, Compare_ok s h1 h2 h3 h4, rCompare_ok s hf h1 h2 h3 h4, begins_r s h1 h2 h3 h4, rBegins_ok s hf h1 h2 h3 h4, alive_r]
  · simp only [leapfroglaw01x_VecCompares.r, leapfroglaw01x_VecCompares.t, std_bd, std_gd, std_gdS, std_gdU, std_cnd, std_it, bds, bdn, cndt, cndf, cndd, cndb, gdtt, gdff, gdtf, gdft, gdSt, gdSf, gdStf, gdSft, gdUt, gdUf, gdUtf, gdUft, pikt, pikf, eqb1, neb1, eqb0, neb0, eqb2, neb2, eqb3n, neb3n, eqb3nn, neb3nn, eqk1, eqb_agg, neb_agg, eqks_nil, eqks_cons, bin_add, bin_sub, bin_mul, bin_lss, bin_leq, bin_gtr, bin_geq, un_notd, un_not, cvi_int, cvs_str, mn2_int, mx2_int, lenS_str, lenL_slc, bx_int, bx_bool, bx_str, bx_ptr, bx_slc, bx_agg, lcl_eq, xtr_eq, cellsA_agg, spl_z, spl_c, spl_s, bld_nil, bld_cons, bls_nil, bls_cons, prt_t, prt_f, nck_ptr, fld_ptr, lal, stl, decide_true, decide_false, decide_eq_true_eq, Bool.false_eq_true, Bool.not_true, Bool.not_false, Bool.and_true, Bool.and_false, Bool.true_and, Bool.false_and, Option.map_some, Option.map_none, if_true, if_false, ite_true, ite_false, reduceIte, and_self, and_true, true_and, false_and, and_false, eq_self, ne_eq, not_true_eq_false, not_false_eq_true, Nat.zero_add, Nat.reduceAdd, Nat.reduceLeDiff, Nat.reduceLT, Nat.reduceEqDiff, Nat.le_refl, Nat.add_zero, Option.some.injEq, Prod.mk.injEq, Value.agg.injEq, Value.bool.injEq, Value.int.injEq, Value.tuple.injEq, Array.mk.injEq, List.cons.injEq, and_self, List.length_cons, List.length_nil, List.getElem?_cons_zero, List.getElem?_cons_succ, List.getElem?_nil, List.drop_succ_cons, List.drop_zero, List.take_succ_cons, List.take_zero, List.take_nil, List.drop_nil, List.getD_cons_zero, List.getD_cons_succ, rep1, rep2, rep3, rep4, List.set_cons_zero, List.set_cons_succ, List.cons_append, List.nil_append, Common_no s hk hB0 hC0, rCommon_no s hk hB0 hC0, Compare_no s hk hB0 hC0, rCompare_no s hk hB0 hC0, begins_no s hk hB0 hC0, rBegins_no s hk hB0 hC0, alive_r]
end VecCompares
end Go.Proofs.Ytgdloihagiddhaa
