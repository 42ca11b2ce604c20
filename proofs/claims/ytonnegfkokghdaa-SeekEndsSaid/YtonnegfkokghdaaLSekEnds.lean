/-
  SeekEnds, over abstract values.
-/
import Derived.Test.YtonnegfkokghdaaSekA
set_option linter.unusedSimpArgs false
set_option linter.unusedVariables false
set_option maxRecDepth 100000
set_option maxHeartbeats 2000000
namespace Go.Proofs.Ytonnegfkokghdaa
open Go.Sim Go.Sim.Bt
attribute [local congr] bdc cndc itec gdc gdSc gdUc
namespace SeekEnds

theorem awake_r (s : St) : leapfroglaw12x_awakeC.r s = some (.bool true) := rfl

theorem tell_r {c : Cf} {m : Mm} {s : St} {b q : Nat} (h : At c m s b q) (hn : 0 ≤ m.n) (ho : m.ov = false) (hk : m.lk = false) (a : Ans) (k1 : a.k ≠ 1) :
    ∃ s' m', seek_Seek_Tell.v (P b) (.agg ⟨a.cs⟩) s = some (unit', s') ∧ At c (againC c m') s' b q ∧ m'.n = m.n ∧ m'.ov = false := by
  have i := is_r h
  have hr := h.row
  by_cases k3 : a.k = 3
  · obtain ⟨s1, e1, h1, _⟩ := keep_r h m.ap a
    obtain ⟨s2, e2, h2, _⟩ := again_r h1 hn
    refine ⟨s2, _, ?_, h2, rfl, ho⟩
    have k3' : (a.k = 3) = True := eq_true k3
    have k1' : (a.k = 1) = False := eq_false k1
    simp only [seek_Seek_Tell.v, seek_Seek_Tell.t, seek_Seek_stood.v, seek_Seek_stood.t, std_bd, std_gd, std_gdS, std_gdU, std_cnd, std_it, bds, bdn, cndt, cndf, cndd, cndb, gdtt, gdff, gdtf, gdft, gdun, gdSun, gdSt, gdSf, gdStf, gdSft, gdUt, gdUf, gdUtf, gdUft, pikt, pikf, eqb1, neb1, eqb0, neb0, eqb2, neb2, eqb3n, neb3n, eqb3nn, neb3nn, eqk1, eqb_agg, neb_agg, eqks_nil, eqks_cons, bin_add, bin_sub, bin_mul, bin_lss, bin_leq, bin_gtr, bin_geq, un_notd, un_not, cvi_int, cvs_str, mn2_int, mx2_int, lenS_str, lenL_slc, bx_int, bx_bool, bx_str, bx_ptr, bx_slc, bx_agg, lcl_eq, xtr_eq, cellsA_agg, spl_z, spl_c, spl_s, bld_nil, bld_cons, bls_nil, bls_cons, prt_t, prt_f, nck_ptr, fld_ptr, lal, stl, decide_true, decide_false, decide_eq_true_eq, Bool.false_eq_true, Bool.not_true, Bool.not_false, Bool.and_true, Bool.and_false, Bool.true_and, Bool.false_and, Option.map_some, Option.map_none, if_true, if_false, ite_true, ite_false, reduceIte, and_self, and_true, true_and, false_and, and_false, true_or, or_true, false_or, or_false, eq_self, ne_eq, not_true_eq_false, not_false_eq_true, Nat.zero_add, Nat.reduceAdd, Nat.reduceLeDiff, Nat.reduceLT, Nat.reduceEqDiff, Int.reduceEq, Int.reduceLT, Int.reduceLE, Int.reduceNe, Nat.le_refl, Nat.add_zero, Option.some.injEq, Prod.mk.injEq, Value.agg.injEq, Value.bool.injEq, Value.int.injEq, Value.tuple.injEq, Array.mk.injEq, List.cons.injEq, and_self, List.length_cons, List.length_nil, List.getElem?_cons_zero, List.getElem?_cons_succ, List.getElem?_nil, List.drop_succ_cons, List.drop_zero, List.take_succ_cons, List.take_zero, List.take_nil, List.drop_nil, List.getD_cons_zero, List.getD_cons_succ, rep1, rep2, rep3, rep4, List.set_cons_zero, List.set_cons_succ, List.cons_append, List.nil_append, ldc_row hr, lda_row hr, i, ho, hk, k1', k3', e1, e2]
  · obtain ⟨s2, e2, h2, _⟩ := again_r h hn
    refine ⟨s2, _, ?_, h2, rfl, ho⟩
    simp only [seek_Seek_Tell.v, seek_Seek_Tell.t, seek_Seek_stood.v, seek_Seek_stood.t, std_bd, std_gd, std_gdS, std_gdU, std_cnd, std_it, bds, bdn, cndt, cndf, cndd, cndb, gdtt, gdff, gdtf, gdft, gdun, gdSun, gdSt, gdSf, gdStf, gdSft, gdUt, gdUf, gdUtf, gdUft, pikt, pikf, eqb1, neb1, eqb0, neb0, eqb2, neb2, eqb3n, neb3n, eqb3nn, neb3nn, eqk1, eqb_agg, neb_agg, eqks_nil, eqks_cons, bin_add, bin_sub, bin_mul, bin_lss, bin_leq, bin_gtr, bin_geq, un_notd, un_not, cvi_int, cvs_str, mn2_int, mx2_int, lenS_str, lenL_slc, bx_int, bx_bool, bx_str, bx_ptr, bx_slc, bx_agg, lcl_eq, xtr_eq, cellsA_agg, spl_z, spl_c, spl_s, bld_nil, bld_cons, bls_nil, bls_cons, prt_t, prt_f, nck_ptr, fld_ptr, lal, stl, decide_true, decide_false, decide_eq_true_eq, Bool.false_eq_true, Bool.not_true, Bool.not_false, Bool.and_true, Bool.and_false, Bool.true_and, Bool.false_and, Option.map_some, Option.map_none, if_true, if_false, ite_true, ite_false, reduceIte, and_self, and_true, true_and, false_and, and_false, true_or, or_true, false_or, or_false, eq_self, ne_eq, not_true_eq_false, not_false_eq_true, Nat.zero_add, Nat.reduceAdd, Nat.reduceLeDiff, Nat.reduceLT, Nat.reduceEqDiff, Int.reduceEq, Int.reduceLT, Int.reduceLE, Int.reduceNe, Nat.le_refl, Nat.add_zero, Option.some.injEq, Prod.mk.injEq, Value.agg.injEq, Value.bool.injEq, Value.int.injEq, Value.tuple.injEq, Array.mk.injEq, List.cons.injEq, and_self, List.length_cons, List.length_nil, List.getElem?_cons_zero, List.getElem?_cons_succ, List.getElem?_nil, List.drop_succ_cons, List.drop_zero, List.take_succ_cons, List.take_zero, List.take_nil, List.drop_nil, List.getD_cons_zero, List.getD_cons_succ, rep1, rep2, rep3, rep4, List.set_cons_zero, List.set_cons_succ, List.cons_append, List.nil_append, ldc_row hr, lda_row hr, i, ho, hk, k1, k3, e2]

def ansE (d : Int) : Ans := ⟨2 + d % 4, false, zR, zR, .slice none 0 0⟩
theorem args_r {d : Int} (h1 : 0 ≤ d) (h2 : d ≤ 255) : cvi .i64 (.int .u8 d) = some (.int .i64 d) ∧ bin .rem (.int .i64 d) (.int .i64 4) = some (.int .i64 (d % 4)) ∧ IntKind.i64.wrap (2 + d % 4) = 2 + d % 4 := by
  refine ⟨?_, ?_, wrap64 (by omega) (by omega)⟩
  · rw [cvi_int, wrap64 (by omega) (by omega)]
  · rw [bin_rem (by omega), Int.tmod_eq_emod_of_nonneg h1]

theorem loop {c : Cf} {d : Int} {b q : Nat} {m : Mm} {s : St} (h1 : 0 ≤ d) (h2 : d ≤ 255) (h : At c m s b q) (h0 : m.n = 0) (ho : m.ov = false) (hk : m.lk = false) :
    ∃ m' s', iter (leapfroglaw12x_SeekEnds.l7 std) BIG [.int .u8 d, P b, Value.int .i64 ((0 : Nat) : Int)] s = some ((0, [.int .u8 d, P b], s') : Cut) ∧ At c m' s' b q ∧ m'.n = 64 ∧ m'.ov = false ∧ m'.lk = false := by
  obtain ⟨a1, a2, a3⟩ := args_r h1 h2
  refine iter_rel (fun k xs s' => ∃ (m : Mm) (j : Nat), At c m s' b q ∧ m.n = (j : Int) ∧ m.ov = false ∧ m.lk = false ∧ j + k = 64 ∧ xs = [.int .u8 d, P b, Value.int .i64 (j : Int)])
    (fun y : Option Cut => ∃ m' s', y = some ((0, [.int .u8 d, P b], s') : Cut) ∧ At c m' s' b q ∧ m'.n = 64 ∧ m'.ov = false ∧ m'.lk = false) ?_ BIG 64 _ s (by unfold BIG; omega) ⟨m, 0, h, by rw [h0]; rfl, ho, hk, by omega, rfl⟩
  rintro k xs s rec ⟨m, j, h, hn, ho, hk, hj, rfl⟩ ih
  cases k with
  | zero =>
    have e1 : ¬ ((j : Int) < 64) := by omega
    exact ⟨m, s, by simp only [leapfroglaw12x_SeekEnds.l7, std_bd, std_gd, std_gdS, std_gdU, std_cnd, std_it, bds, bdn, cndt, cndf, cndd, cndb, gdtt, gdff, gdtf, gdft, gdun, gdSun, gdSt, gdSf, gdStf, gdSft, gdUt, gdUf, gdUtf, gdUft, pikt, pikf, eqb1, neb1, eqb0, neb0, eqb2, neb2, eqb3n, neb3n, eqb3nn, neb3nn, eqk1, eqb_agg, neb_agg, eqks_nil, eqks_cons, bin_add, bin_sub, bin_mul, bin_lss, bin_leq, bin_gtr, bin_geq, un_notd, un_not, cvi_int, cvs_str, mn2_int, mx2_int, lenS_str, lenL_slc, bx_int, bx_bool, bx_str, bx_ptr, bx_slc, bx_agg, lcl_eq, xtr_eq, cellsA_agg, spl_z, spl_c, spl_s, bld_nil, bld_cons, bls_nil, bls_cons, prt_t, prt_f, nck_ptr, fld_ptr, lal, stl, decide_true, decide_false, decide_eq_true_eq, Bool.false_eq_true, Bool.not_true, Bool.not_false, Bool.and_true, Bool.and_false, Bool.true_and, Bool.false_and, Option.map_some, Option.map_none, if_true, if_false, ite_true, ite_false, reduceIte, and_self, and_true, true_and, false_and, and_false, true_or, or_true, false_or, or_false, eq_self, ne_eq, not_true_eq_false, not_false_eq_true, Nat.zero_add, Nat.reduceAdd, Nat.reduceLeDiff, Nat.reduceLT, Nat.reduceEqDiff, Int.reduceEq, Int.reduceLT, Int.reduceLE, Int.reduceNe, Nat.le_refl, Nat.add_zero, Option.some.injEq, Prod.mk.injEq, Value.agg.injEq, Value.bool.injEq, Value.int.injEq, Value.tuple.injEq, Array.mk.injEq, List.cons.injEq, and_self, List.length_cons, List.length_nil, List.getElem?_cons_zero, List.getElem?_cons_succ, List.getElem?_nil, List.drop_succ_cons, List.drop_zero, List.take_succ_cons, List.take_zero, List.take_nil, List.drop_nil, List.getD_cons_zero, List.getD_cons_succ, rep1, rep2, rep3, rep4, List.set_cons_zero, List.set_cons_succ, List.cons_append, List.nil_append, e1], h, by omega, ho, hk⟩
  | succ k =>
    have e1 : (j : Int) < 64 := by omega
    have e5 : IntKind.i64.wrap ((j : Int) + 1) = ((j + 1 : Nat) : Int) := by rw [wrap64 (by omega) (by omega)]; omega
    obtain ⟨s', m', t1, t2, t3, t4⟩ := tell_r h (by omega) ho hk (ansE d) (by show 2 + d % 4 ≠ 1; omega)
    have hm : againC c m' = { m' with n := m'.n + 1, ap := headR c.h, wl := c.h, wb := 0, lk := false } := by unfold againC; rw [if_neg (by omega)]
    rw [hm] at t2
    have n1 := next_r t2
    have n2 := tries_r t2
    rw [show nextC { m' with n := m'.n + 1, ap := headR c.h, wl := c.h, wb := 0, lk := false } = stepC 1 (headR c.h) ⟨1, c.h, 0, zR, zR, 0, 0⟩ zRes by simp [nextC, t4]] at n1
    have e6 : m'.n + 1 = ((j + 1 : Nat) : Int) := by omega
    simp only [e6] at n2
    simp only [ansE] at t1
    have fin : leapfroglaw12x_SeekEnds.l7 std rec [.int .u8 d, P b, Value.int .i64 (j : Int)] s = rec [.int .u8 d, P b, Value.int .i64 ((j + 1 : Nat) : Int)] s' := by
      simp only [leapfroglaw12x_SeekEnds.l7, std_bd, std_gd, std_gdS, std_gdU, std_cnd, std_it, bds, bdn, cndt, cndf, cndd, cndb, gdtt, gdff, gdtf, gdft, gdun, gdSun, gdSt, gdSf, gdStf, gdSft, gdUt, gdUf, gdUtf, gdUft, pikt, pikf, eqb1, neb1, eqb0, neb0, eqb2, neb2, eqb3n, neb3n, eqb3nn, neb3nn, eqk1, eqb_agg, neb_agg, eqks_nil, eqks_cons, bin_add, bin_sub, bin_mul, bin_lss, bin_leq, bin_gtr, bin_geq, un_notd, un_not, cvi_int, cvs_str, mn2_int, mx2_int, lenS_str, lenL_slc, bx_int, bx_bool, bx_str, bx_ptr, bx_slc, bx_agg, lcl_eq, xtr_eq, cellsA_agg, spl_z, spl_c, spl_s, bld_nil, bld_cons, bls_nil, bls_cons, prt_t, prt_f, nck_ptr, fld_ptr, lal, stl, decide_true, decide_false, decide_eq_true_eq, Bool.false_eq_true, Bool.not_true, Bool.not_false, Bool.and_true, Bool.and_false, Bool.true_and, Bool.false_and, Option.map_some, Option.map_none, if_true, if_false, ite_true, ite_false, reduceIte, and_self, and_true, true_and, false_and, and_false, true_or, or_true, false_or, or_false, eq_self, ne_eq, not_true_eq_false, not_false_eq_true, Nat.zero_add, Nat.reduceAdd, Nat.reduceLeDiff, Nat.reduceLT, Nat.reduceEqDiff, Int.reduceEq, Int.reduceLT, Int.reduceLE, Int.reduceNe, Nat.le_refl, Nat.add_zero, Option.some.injEq, Prod.mk.injEq, Value.agg.injEq, Value.bool.injEq, Value.int.injEq, Value.tuple.injEq, Array.mk.injEq, List.cons.injEq, and_self, List.length_cons, List.length_nil, List.getElem?_cons_zero, List.getElem?_cons_succ, List.getElem?_nil, List.drop_succ_cons, List.drop_zero, List.take_succ_cons, List.take_zero, List.take_nil, List.drop_nil, List.getD_cons_zero, List.getD_cons_succ, rep1, rep2, rep3, rep4, List.set_cons_zero, List.set_cons_succ, List.cons_append, List.nil_append, e1, a1, a2, a3, t1, n1, stepC, n2, e5]
    rw [fin]
    exact ih k _ _ (by omega) ⟨_, j + 1, t2, e6, t4, rfl, by omega, rfl⟩

theorem law (s : St) (us : List Value) (ha : AllRo s) (hf : ∀ b, s.n ≤ b → s.get b = none) (h : Args s [(true, [.i .i64, .i .i64, .i .i64, .i .u64, .i .i64, .i .u64, .i .i64, .i .u64]), (false, [.i .u8])] us) :
    ∃ s', leapfroglaw12x_SeekEnds.w us s = some (.bool true, s') := by
  simp only [Args, Arg] at h
  obtain ⟨_, _, rfl, ⟨_, rfl, h1⟩, v, _, rfl, h2, rfl⟩ := h
  unfold Leaf.Are Leaf.Are at h2
  obtain ⟨v', _, g1, h2, rfl⟩ := h2
  obtain rfl : v = v' := (List.cons.inj g1).1
  simp only [Leaf.Are, Leaf.Is] at h1 h2
  obtain ⟨_, _, rfl, ⟨hh, rfl, _⟩, _, _, rfl, ⟨i1, rfl, _⟩, _, _, rfl, ⟨i2, rfl, _⟩, _, _, rfl, ⟨i3, rfl, _⟩, _, _, rfl, ⟨i4, rfl, _⟩, _, _, rfl, ⟨i5, rfl, hi5⟩, _, _, rfl, ⟨tr, rfl, _⟩, _, _, rfl, ⟨tn, rfl, _⟩, rfl⟩ := h1
  obtain ⟨d, rfl, hd⟩ := h2
  have hm0 := (wf_u64 hi5).1
  obtain ⟨d1, d2⟩ := wf_u8 hd
  show ∃ s', leapfroglaw12x_SeekEnds.v (.agg ⟨(⟨hh, ⟨i1, i2, i3, i4, i5⟩, tr, tn⟩ : Cf).cs⟩) (.int .u8 d) s = some (.bool true, s')
  generalize hc : (⟨hh, ⟨i1, i2, i3, i4, i5⟩, tr, tn⟩ : Cf) = c
  have hm0 : 0 ≤ c.st.bt := by rw [← hc]; exact hm0
  rcases new_r hf c hm0 with ⟨_, q1⟩ | ⟨_, q1⟩
  · exact ⟨s, by simp only [leapfroglaw12x_SeekEnds.v, leapfroglaw12x_SeekEnds.t, std_bd, std_gd, std_gdS, std_gdU, std_cnd, std_it, bds, bdn, cndt, cndf, cndd, cndb, gdtt, gdff, gdtf, gdft, gdun, gdSun, gdSt, gdSf, gdStf, gdSft, gdUt, gdUf, gdUtf, gdUft, pikt, pikf, eqb1, neb1, eqb0, neb0, eqb2, neb2, eqb3n, neb3n, eqb3nn, neb3nn, eqk1, eqb_agg, neb_agg, eqks_nil, eqks_cons, bin_add, bin_sub, bin_mul, bin_lss, bin_leq, bin_gtr, bin_geq, un_notd, un_not, cvi_int, cvs_str, mn2_int, mx2_int, lenS_str, lenL_slc, bx_int, bx_bool, bx_str, bx_ptr, bx_slc, bx_agg, lcl_eq, xtr_eq, cellsA_agg, spl_z, spl_c, spl_s, bld_nil, bld_cons, bls_nil, bls_cons, prt_t, prt_f, nck_ptr, fld_ptr, lal, stl, decide_true, decide_false, decide_eq_true_eq, Bool.false_eq_true, Bool.not_true, Bool.not_false, Bool.and_true, Bool.and_false, Bool.true_and, Bool.false_and, Option.map_some, Option.map_none, if_true, if_false, ite_true, ite_false, reduceIte, and_self, and_true, true_and, false_and, and_false, true_or, or_true, false_or, or_false, eq_self, ne_eq, not_true_eq_false, not_false_eq_true, Nat.zero_add, Nat.reduceAdd, Nat.reduceLeDiff, Nat.reduceLT, Nat.reduceEqDiff, Int.reduceEq, Int.reduceLT, Int.reduceLE, Int.reduceNe, Nat.le_refl, Nat.add_zero, Option.some.injEq, Prod.mk.injEq, Value.agg.injEq, Value.bool.injEq, Value.int.injEq, Value.tuple.injEq, Array.mk.injEq, List.cons.injEq, and_self, List.length_cons, List.length_nil, List.getElem?_cons_zero, List.getElem?_cons_succ, List.getElem?_nil, List.drop_succ_cons, List.drop_zero, List.take_succ_cons, List.take_zero, List.take_nil, List.drop_nil, List.getD_cons_zero, List.getD_cons_succ, rep1, rep2, rep3, rep4, List.set_cons_zero, List.set_cons_succ, List.cons_append, List.nil_append, awake_r, q1]⟩
  · obtain ⟨m', s', e, h', hn, ho, hk⟩ := loop d1 d2 (at_new hf c) rfl rfl rfl
    rw [show ((0 : Nat) : Int) = 0 from rfl] at e
    obtain ⟨a1, a2, a3⟩ := args_r d1 d2
    obtain ⟨s2, m2, t1, t2, t3, t4⟩ := tell_r h' (by omega) ho hk (ansE d) (by show 2 + d % 4 ≠ 1; omega)
    have hm : againC c m2 = busy m2 := by unfold againC; rw [if_pos (by omega)]
    rw [hm] at t2
    have n1 := next_r t2
    rw [show nextC (busy m2) = stepC 3 zR zAsk ⟨121, 0, zR, zR, false⟩ by simp [nextC, busy]] at n1
    simp only [ansE] at t1
    generalize N2 s c = s3 at *
    exact ⟨s2, by simp only [leapfroglaw12x_SeekEnds.v, leapfroglaw12x_SeekEnds.t, leapfroglaw12x_SeekEnds.t.p1, std_bd, std_gd, std_gdS, std_gdU, std_cnd, std_it, bds, bdn, cndt, cndf, cndd, cndb, gdtt, gdff, gdtf, gdft, gdun, gdSun, gdSt, gdSf, gdStf, gdSft, gdUt, gdUf, gdUtf, gdUft, pikt, pikf, eqb1, neb1, eqb0, neb0, eqb2, neb2, eqb3n, neb3n, eqb3nn, neb3nn, eqk1, eqb_agg, neb_agg, eqks_nil, eqks_cons, bin_add, bin_sub, bin_mul, bin_lss, bin_leq, bin_gtr, bin_geq, un_notd, un_not, cvi_int, cvs_str, mn2_int, mx2_int, lenS_str, lenL_slc, bx_int, bx_bool, bx_str, bx_ptr, bx_slc, bx_agg, lcl_eq, xtr_eq, cellsA_agg, spl_z, spl_c, spl_s, bld_nil, bld_cons, bls_nil, bls_cons, prt_t, prt_f, nck_ptr, fld_ptr, lal, stl, decide_true, decide_false, decide_eq_true_eq, Bool.false_eq_true, Bool.not_true, Bool.not_false, Bool.and_true, Bool.and_false, Bool.true_and, Bool.false_and, Option.map_some, Option.map_none, if_true, if_false, ite_true, ite_false, reduceIte, and_self, and_true, true_and, false_and, and_false, true_or, or_true, false_or, or_false, eq_self, ne_eq, not_true_eq_false, not_false_eq_true, Nat.zero_add, Nat.reduceAdd, Nat.reduceLeDiff, Nat.reduceLT, Nat.reduceEqDiff, Int.reduceEq, Int.reduceLT, Int.reduceLE, Int.reduceNe, Nat.le_refl, Nat.add_zero, Option.some.injEq, Prod.mk.injEq, Value.agg.injEq, Value.bool.injEq, Value.int.injEq, Value.tuple.injEq, Array.mk.injEq, List.cons.injEq, and_self, List.length_cons, List.length_nil, List.getElem?_cons_zero, List.getElem?_cons_succ, List.getElem?_nil, List.drop_succ_cons, List.drop_zero, List.take_succ_cons, List.take_zero, List.take_nil, List.drop_nil, List.getD_cons_zero, List.getD_cons_succ, rep1, rep2, rep3, rep4, List.set_cons_zero, List.set_cons_succ, List.cons_append, List.nil_append, awake_r, q1, e, a1, a2, a3, t1, n1, stepC]⟩
end SeekEnds
end Go.Proofs.Ytonnegfkokghdaa
