/-
  UnspliceRuns, over abstract values.
-/
import Derived.Test.YtkkgegocliobpaaUnsE
import Derived.Test.YtkkgegocliobpaaMachB
set_option linter.unusedSimpArgs false
set_option linter.unusedVariables false
set_option maxRecDepth 100000
set_option maxHeartbeats 2000000
namespace Go.Proofs.Ytkkgegocliobpaa
open Go.Sim Go.Sim.Bt
attribute [local congr] bdc cndc itec gdc gdSc gdUc

theorem alive_rr (s : St) : leapfroglaw14x_awakeC.r s = some (.bool true) := rfl

namespace UnspliceRuns

/-- The two machines stand side by side. -/
structure Two (c : Cf) (v : Value) (l : List Ans) (U R : Nat) (m r : Mm) (s : St) : Prop where
  hu : Row s U (urow c m)
  hr : Row s R (rrow c r)
  ne : U ≠ R
  inv : InvM m
  rel : RelM m r
  ha : IsA s v l
  fr : Fresh s

theorem wakes_some (W : Nat) (j : Nat) (s : St) (hj : j ≤ 1000) (hW : W < 2 ^ 64) : ∃ b : Bool, ((bin .rem (.int .i64 (j : Int)) (.int .i64 64)).bind fun x67 => (cvi .u64 x67).bind fun x68 => (bin .shr (.int .u64 (W : Int)) x68).bind fun x69 => (bin .and x69 (.int .u64 1)).bind fun x70 => eqb [1] false false x70 (.int .u64 1)) = some (.bool b) := by
  have e1 : bin .rem (.int .i64 (j : Int)) (.int .i64 64) = some (.int .i64 ((j % 64 : Nat) : Int)) := by rw [bin_rem (by omega)]; rfl
  have e2 : IntKind.u64.wrap ((j % 64 : Nat) : Int) = ((j % 64 : Nat) : Int) := wrapu64 (by omega) (by omega)
  have e3 := @shr_u64 W (j % 64) .u64 (by omega)
  have e4 : bin .and (.int .u64 ((W / 2 ^ (j % 64) : Nat) : Int)) (.int .u64 1) = some (.int .u64 ((W / 2 ^ (j % 64) &&& 1 : Nat) : Int)) := @and_u64 _ 1 (Nat.lt_of_le_of_lt (Nat.div_le_self _ _) hW) (by omega)
  exact ⟨_, by simp only [std_bd, std_gd, std_gdS, std_gdU, std_cnd, std_it, bds, bdn, cndt, cndf, cndd, cndb, gdtt, gdff, gdtf, gdft, gdun, gdSun, gdSt, gdSf, gdStf, gdSft, gdUt, gdUf, gdUtf, gdUft, pikt, pikf, eqb1, neb1, eqb0, neb0, eqb2, neb2, eqb3n, neb3n, eqb3nn, neb3nn, eqk1, eqb_agg, neb_agg, eqks_nil, eqks_cons, bin_add, bin_sub, bin_mul, bin_lss, bin_leq, bin_gtr, bin_geq, un_notd, un_not, cvi_int, cvs_str, mn2_int, mx2_int, lenS_str, lenL_slc, bx_int, bx_bool, bx_str, bx_ptr, bx_slc, bx_agg, lcl_eq, xtr_eq, cellsA_agg, spl_z, spl_c, spl_s, bld_nil, bld_cons, bls_nil, bls_cons, prt_t, prt_f, nck_ptr, fld_ptr, lal, stl, decide_true, decide_false, decide_eq_true_eq, Bool.false_eq_true, Bool.not_true, Bool.not_false, Bool.and_true, Bool.and_false, Bool.true_and, Bool.false_and, Option.map_some, Option.map_none, if_true, if_false, ite_true, ite_false, reduceIte, and_self, and_true, true_and, false_and, and_false, true_or, or_true, false_or, or_false, eq_self, ne_eq, not_true_eq_false, not_false_eq_true, Nat.zero_add, Nat.reduceAdd, Nat.reduceLeDiff, Nat.reduceLT, Nat.reduceEqDiff, Int.reduceEq, Int.reduceLT, Int.reduceLE, Int.reduceNe, Nat.le_refl, Nat.add_zero, Option.some.injEq, Prod.mk.injEq, Value.agg.injEq, Value.bool.injEq, Value.int.injEq, Value.tuple.injEq, Array.mk.injEq, List.cons.injEq, and_self, e1, e2, e3, e4]; rfl⟩

theorem loop {c : Cf} {v : Value} {l : List Ans} {U R : Nat} {m r : Mm} {s : St} (h : Two c v l U R m r s) {W : Nat} (hW : W < 2 ^ 64) (hl : l.length ≤ 9223372036854775807) :
    ∃ m' r' s', Two c v l U R m' r' s' ∧ iter (leapfroglaw14x_UnspliceRuns.l8 std) BIG [v, .int .u64 (W : Int), P U, P R, Value.int .i64 ((0 : Nat) : Int)] s = some (0, [P U, P R], s') := by
  refine iter_rel (fun d xs s' => ∃ m r j, Two c v l U R m r s' ∧ j + d = 200 ∧ xs = [v, .int .u64 (W : Int), P U, P R, Value.int .i64 (j : Int)])
    (fun x : Option Cut => ∃ m' r' s', Two c v l U R m' r' s' ∧ x = some (0, [P U, P R], s')) ?_ BIG 200 _ s (by unfold BIG; omega) ⟨m, r, 0, h, by omega, rfl⟩
  rintro d xs s rec ⟨m, r, j, h, hj, rfl⟩ ih
  by_cases h1 : j < l.length
  · have e1 : (j : Int) < l.length := by omega
    cases d with
    | zero =>
      have e2 : ¬ ((j : Int) < 200) := by omega
      exact ⟨m, r, s, h, by simp only [leapfroglaw14x_UnspliceRuns.l8, std_bd, std_gd, std_gdS, std_gdU, std_cnd, std_it, bds, bdn, cndt, cndf, cndd, cndb, gdtt, gdff, gdtf, gdft, gdun, gdSun, gdSt, gdSf, gdStf, gdSft, gdUt, gdUf, gdUtf, gdUft, pikt, pikf, eqb1, neb1, eqb0, neb0, eqb2, neb2, eqb3n, neb3n, eqb3nn, neb3nn, eqk1, eqb_agg, neb_agg, eqks_nil, eqks_cons, bin_add, bin_sub, bin_mul, bin_lss, bin_leq, bin_gtr, bin_geq, un_notd, un_not, cvi_int, cvs_str, mn2_int, mx2_int, lenS_str, lenL_slc, bx_int, bx_bool, bx_str, bx_ptr, bx_slc, bx_agg, lcl_eq, xtr_eq, cellsA_agg, spl_z, spl_c, spl_s, bld_nil, bld_cons, bls_nil, bls_cons, prt_t, prt_f, nck_ptr, fld_ptr, lal, stl, decide_true, decide_false, decide_eq_true_eq, Bool.false_eq_true, Bool.not_true, Bool.not_false, Bool.and_true, Bool.and_false, Bool.true_and, Bool.false_and, Option.map_some, Option.map_none, if_true, if_false, ite_true, ite_false, reduceIte, and_self, and_true, true_and, false_and, and_false, true_or, or_true, false_or, or_false, eq_self, ne_eq, not_true_eq_false, not_false_eq_true, Nat.zero_add, Nat.reduceAdd, Nat.reduceLeDiff, Nat.reduceLT, Nat.reduceEqDiff, Int.reduceEq, Int.reduceLT, Int.reduceLE, Int.reduceNe, Nat.le_refl, Nat.add_zero, Option.some.injEq, Prod.mk.injEq, Value.agg.injEq, Value.bool.injEq, Value.int.injEq, Value.tuple.injEq, Array.mk.injEq, List.cons.injEq, and_self, List.length_cons, List.length_nil, List.getElem?_cons_zero, List.getElem?_cons_succ, List.getElem?_nil, List.drop_succ_cons, List.drop_zero, List.take_succ_cons, List.take_zero, List.take_nil, List.drop_nil, List.getD_cons_zero, List.getD_cons_succ, rep1, rep2, rep3, rep4, List.set_cons_zero, List.set_cons_succ, List.cons_append, List.nil_append, h.ha.len, e1, e2]⟩
    | succ d =>
      have e2 : (j : Int) < 200 := by omega
      have hi1 : 1 ≤ m.at' := h.inv.1
      have hi2 : m.at' ≤ 10 := h.inv.2.1
      have n1 := next_r h.hu hi1 hi2
      have n2 := rnext_r h.hr (by rw [h.rel.1]; exact hi1) (by rw [h.rel.1]; exact hi2)
      rw [rel_next h.inv h.rel] at n2
      have ss : leapfrogref12x_SameStep.r (.agg ⟨nextC c m⟩) (.agg ⟨nextC c m⟩) s = some (.bool true) := by
        unfold nextC askC
        repeat' split
        all_goals exact sameStep_r _ _ _ _ s
      obtain ⟨a, ha⟩ := get_some h1
      obtain ⟨p, p1, p2⟩ := h.ha.load ha
      obtain ⟨s1, t1, t2, t3⟩ := tell_r h.hu h.inv a
      have as1 := h.ha.but t3 h.hu (by omega)
      obtain ⟨q, q1, q2⟩ := as1.load ha
      have r1 : Row s1 R (rrow c r) := by have := t3.1 R (Ne.symm h.ne); unfold Row; rw [this]; exact h.hr
      obtain ⟨s2, w1, w2, w3⟩ := rtell_r r1 (by rw [h.rel.1]; exact hi1) (by rw [h.rel.1]; exact hi2) a
      have as2 := as1.but w3 r1 (by omega)
      have u2 : Row s2 U (urow c (tellC c m a)) := by have := w3.1 U h.ne; unfold Row; rw [this]; exact t2
      have T2 : Two c v l U R (tellC c m a) (tellR c r a) s2 := ⟨u2, w2, h.ne, inv_tell h.inv a, rel_tell h.inv h.rel a, as2, w3.2.2 (t3.2.2 h.fr)⟩
      obtain ⟨wb, wk⟩ := wakes_some W j s2 (by omega) hW
      have e5 : IntKind.i64.wrap ((j : Int) + 1) = ((j + 1 : Nat) : Int) := by rw [wrap64 (by omega) (by omega)]; omega
      have hnil : eqb [3] false true (P R) (.pointer none) = some (.bool true) := rfl
      have step : leapfroglaw14x_UnspliceRuns.l8 std rec [v, .int .u64 (W : Int), P U, P R, Value.int .i64 (j : Int)] s =
          ((bin .rem (.int .i64 (j : Int)) (.int .i64 64)).bind fun x67 => (cvi .u64 x67).bind fun x68 => (bin .shr (.int .u64 (W : Int)) x68).bind fun x69 => (bin .and x69 (.int .u64 1)).bind fun x70 => eqb [1] false false x70 (.int .u64 1)).bind fun x71 =>
            cnd x71 ((unsplice_Unsplice_Wake.v (P U) s2).bind fun r72 => (leapfrogref14x_Unsplice_Wake.v (P R) r72.2).bind fun r73 => rec [v, .int .u64 (W : Int), P U, P R, Value.int .i64 ((j + 1 : Nat) : Int)] r73.2) (rec [v, .int .u64 (W : Int), P U, P R, Value.int .i64 ((j + 1 : Nat) : Int)] s2) := by
        simp only [leapfroglaw14x_UnspliceRuns.l8, std_bd, std_gd, std_gdS, std_gdU, std_cnd, std_it, bds, bdn, cndt, cndf, cndd, cndb, gdtt, gdff, gdtf, gdft, gdun, gdSun, gdSt, gdSf, gdStf, gdSft, gdUt, gdUf, gdUtf, gdUft, pikt, pikf, eqb1, neb1, eqb0, neb0, eqb2, neb2, eqb3n, neb3n, eqb3nn, neb3nn, eqk1, eqb_agg, neb_agg, eqks_nil, eqks_cons, bin_add, bin_sub, bin_mul, bin_lss, bin_leq, bin_gtr, bin_geq, un_notd, un_not, cvi_int, cvs_str, mn2_int, mx2_int, lenS_str, lenL_slc, bx_int, bx_bool, bx_str, bx_ptr, bx_slc, bx_agg, lcl_eq, xtr_eq, cellsA_agg, spl_z, spl_c, spl_s, bld_nil, bld_cons, bls_nil, bls_cons, prt_t, prt_f, nck_ptr, fld_ptr, lal, stl, decide_true, decide_false, decide_eq_true_eq, Bool.false_eq_true, Bool.not_true, Bool.not_false, Bool.and_true, Bool.and_false, Bool.true_and, Bool.false_and, Option.map_some, Option.map_none, if_true, if_false, ite_true, ite_false, reduceIte, and_self, and_true, true_and, false_and, and_false, true_or, or_true, false_or, or_false, eq_self, ne_eq, not_true_eq_false, not_false_eq_true, Nat.zero_add, Nat.reduceAdd, Nat.reduceLeDiff, Nat.reduceLT, Nat.reduceEqDiff, Int.reduceEq, Int.reduceLT, Int.reduceLE, Int.reduceNe, Nat.le_refl, Nat.add_zero, Option.some.injEq, Prod.mk.injEq, Value.agg.injEq, Value.bool.injEq, Value.int.injEq, Value.tuple.injEq, Array.mk.injEq, List.cons.injEq, and_self, List.length_cons, List.length_nil, List.getElem?_cons_zero, List.getElem?_cons_succ, List.getElem?_nil, List.drop_succ_cons, List.drop_zero, List.take_succ_cons, List.take_zero, List.take_nil, List.drop_nil, List.getD_cons_zero, List.getD_cons_succ, rep1, rep2, rep3, rep4, List.set_cons_zero, List.set_cons_succ, List.cons_append, List.nil_append, h.ha.len, e1, e2, hnil, n1, n2, ss, p1, p2, t1, q1, q2, w1, e5]
        cases (bin .rem (.int .i64 (j : Int)) (.int .i64 64)) with
        | none => rfl
        | some x67 =>
          simp only [bds]
          cases (cvi .u64 x67) with
          | none => rfl
          | some x68 =>
            simp only [bds]
            cases (bin .shr (.int .u64 (W : Int)) x68) with
            | none => rfl
            | some x69 =>
              simp only [bds]
              cases (bin .and x69 (.int .u64 1)) <;> rfl
      rw [step, wk]
      cases wb with
      | false =>
        simp only [std_bd, std_gd, std_gdS, std_gdU, std_cnd, std_it, bds, bdn, cndt, cndf, cndd, cndb, gdtt, gdff, gdtf, gdft, gdun, gdSun, gdSt, gdSf, gdStf, gdSft, gdUt, gdUf, gdUtf, gdUft, pikt, pikf, eqb1, neb1, eqb0, neb0, eqb2, neb2, eqb3n, neb3n, eqb3nn, neb3nn, eqk1, eqb_agg, neb_agg, eqks_nil, eqks_cons, bin_add, bin_sub, bin_mul, bin_lss, bin_leq, bin_gtr, bin_geq, un_notd, un_not, cvi_int, cvs_str, mn2_int, mx2_int, lenS_str, lenL_slc, bx_int, bx_bool, bx_str, bx_ptr, bx_slc, bx_agg, lcl_eq, xtr_eq, cellsA_agg, spl_z, spl_c, spl_s, bld_nil, bld_cons, bls_nil, bls_cons, prt_t, prt_f, nck_ptr, fld_ptr, lal, stl, decide_true, decide_false, decide_eq_true_eq, Bool.false_eq_true, Bool.not_true, Bool.not_false, Bool.and_true, Bool.and_false, Bool.true_and, Bool.false_and, Option.map_some, Option.map_none, if_true, if_false, ite_true, ite_false, reduceIte, and_self, and_true, true_and, false_and, and_false, true_or, or_true, false_or, or_false, eq_self, ne_eq, not_true_eq_false, not_false_eq_true, Nat.zero_add, Nat.reduceAdd, Nat.reduceLeDiff, Nat.reduceLT, Nat.reduceEqDiff, Int.reduceEq, Int.reduceLT, Int.reduceLE, Int.reduceNe, Nat.le_refl, Nat.add_zero, Option.some.injEq, Prod.mk.injEq, Value.agg.injEq, Value.bool.injEq, Value.int.injEq, Value.tuple.injEq, Array.mk.injEq, List.cons.injEq, and_self]
        exact ih d _ _ (by omega) ⟨_, _, j + 1, T2, by omega, rfl⟩
      | true =>
        obtain ⟨s3, x1, x2, x3⟩ := wake_r T2.hu T2.inv
        have r3 : Row s3 R (rrow c (tellR c r a)) := by have := x3.1 R (Ne.symm h.ne); unfold Row; rw [this]; exact T2.hr
        obtain ⟨s4, y1, y2, y3⟩ := rwake_r r3
        have u4 : Row s4 U (urow c (wakeC (tellC c m a))) := by have := y3.1 U h.ne; unfold Row; rw [this]; exact x2
        have as3 := as2.but x3 T2.hu (by omega)
        have as4 := as3.but y3 r3 (by omega)
        simp only [std_bd, std_gd, std_gdS, std_gdU, std_cnd, std_it, bds, bdn, cndt, cndf, cndd, cndb, gdtt, gdff, gdtf, gdft, gdun, gdSun, gdSt, gdSf, gdStf, gdSft, gdUt, gdUf, gdUtf, gdUft, pikt, pikf, eqb1, neb1, eqb0, neb0, eqb2, neb2, eqb3n, neb3n, eqb3nn, neb3nn, eqk1, eqb_agg, neb_agg, eqks_nil, eqks_cons, bin_add, bin_sub, bin_mul, bin_lss, bin_leq, bin_gtr, bin_geq, un_notd, un_not, cvi_int, cvs_str, mn2_int, mx2_int, lenS_str, lenL_slc, bx_int, bx_bool, bx_str, bx_ptr, bx_slc, bx_agg, lcl_eq, xtr_eq, cellsA_agg, spl_z, spl_c, spl_s, bld_nil, bld_cons, bls_nil, bls_cons, prt_t, prt_f, nck_ptr, fld_ptr, lal, stl, decide_true, decide_false, decide_eq_true_eq, Bool.false_eq_true, Bool.not_true, Bool.not_false, Bool.and_true, Bool.and_false, Bool.true_and, Bool.false_and, Option.map_some, Option.map_none, if_true, if_false, ite_true, ite_false, reduceIte, and_self, and_true, true_and, false_and, and_false, true_or, or_true, false_or, or_false, eq_self, ne_eq, not_true_eq_false, not_false_eq_true, Nat.zero_add, Nat.reduceAdd, Nat.reduceLeDiff, Nat.reduceLT, Nat.reduceEqDiff, Int.reduceEq, Int.reduceLT, Int.reduceLE, Int.reduceNe, Nat.le_refl, Nat.add_zero, Option.some.injEq, Prod.mk.injEq, Value.agg.injEq, Value.bool.injEq, Value.int.injEq, Value.tuple.injEq, Array.mk.injEq, List.cons.injEq, and_self, x1, y1]
        exact ih d _ _ (by omega) ⟨_, _, j + 1, ⟨u4, y2, h.ne, inv_wake T2.inv, rel_wake T2.rel, as4, y3.2.2 (x3.2.2 T2.fr)⟩, by omega, rfl⟩
  · have e1 : ¬ ((j : Int) < l.length) := by omega
    exact ⟨m, r, s, h, by simp only [leapfroglaw14x_UnspliceRuns.l8, std_bd, std_gd, std_gdS, std_gdU, std_cnd, std_it, bds, bdn, cndt, cndf, cndd, cndb, gdtt, gdff, gdtf, gdft, gdun, gdSun, gdSt, gdSf, gdStf, gdSft, gdUt, gdUf, gdUtf, gdUft, pikt, pikf, eqb1, neb1, eqb0, neb0, eqb2, neb2, eqb3n, neb3n, eqb3nn, neb3nn, eqk1, eqb_agg, neb_agg, eqks_nil, eqks_cons, bin_add, bin_sub, bin_mul, bin_lss, bin_leq, bin_gtr, bin_geq, un_notd, un_not, cvi_int, cvs_str, mn2_int, mx2_int, lenS_str, lenL_slc, bx_int, bx_bool, bx_str, bx_ptr, bx_slc, bx_agg, lcl_eq, xtr_eq, cellsA_agg, spl_z, spl_c, spl_s, bld_nil, bld_cons, bls_nil, bls_cons, prt_t, prt_f, nck_ptr, fld_ptr, lal, stl, decide_true, decide_false, decide_eq_true_eq, Bool.false_eq_true, Bool.not_true, Bool.not_false, Bool.and_true, Bool.and_false, Bool.true_and, Bool.false_and, Option.map_some, Option.map_none, if_true, if_false, ite_true, ite_false, reduceIte, and_self, and_true, true_and, false_and, and_false, true_or, or_true, false_or, or_false, eq_self, ne_eq, not_true_eq_false, not_false_eq_true, Nat.zero_add, Nat.reduceAdd, Nat.reduceLeDiff, Nat.reduceLT, Nat.reduceEqDiff, Int.reduceEq, Int.reduceLT, Int.reduceLE, Int.reduceNe, Nat.le_refl, Nat.add_zero, Option.some.injEq, Prod.mk.injEq, Value.agg.injEq, Value.bool.injEq, Value.int.injEq, Value.tuple.injEq, Array.mk.injEq, List.cons.injEq, and_self, List.length_cons, List.length_nil, List.getElem?_cons_zero, List.getElem?_cons_succ, List.getElem?_nil, List.drop_succ_cons, List.drop_zero, List.take_succ_cons, List.take_zero, List.take_nil, List.drop_nil, List.getD_cons_zero, List.getD_cons_succ, rep1, rep2, rep3, rep4, List.set_cons_zero, List.set_cons_succ, List.cons_append, List.nil_append, h.ha.len, e1]⟩

theorem law (s : St) (us : List Value) (ha : AllRo s) (hf : ∀ b, s.n ≤ b → s.get b = none) (h : Args s [(true, [.i .i64, .i .u64, .i .i64, .i .i64, .i .u64, .i .i64, .i .u64, .i .i64, .i .i64]), (false, [.sl [.i .i64, .b, .i .i64, .i .i64, .i .u64, .i .i64, .i .u64, .i .i64, .i .i64, .i .u64, .i .i64, .i .u64, .sl [.i .u8]]]), (false, [.i .u64])] us) :
    ∃ s', leapfroglaw14x_UnspliceRuns.w us s = some (.bool true, s') := by
  simp only [Args, Arg] at h
  obtain ⟨_, _, rfl, ⟨_, rfl, h1⟩, v, _, rfl, h2, w, _, rfl, h3, rfl⟩ := h
  unfold Leaf.Are Leaf.Are at h2 h3
  obtain ⟨v', _, g1, h2, rfl⟩ := h2
  obtain rfl : v = v' := (List.cons.inj g1).1
  obtain ⟨w', _, g2, h3, rfl⟩ := h3
  obtain rfl : w = w' := (List.cons.inj g2).1
  simp only [Leaf.Are, Leaf.Is] at h1
  unfold Leaf.Is at h3
  obtain ⟨_, _, rfl, ⟨wl, rfl, _⟩, _, _, rfl, ⟨wb, rfl, hwb⟩, _, _, rfl, ⟨i1, rfl, _⟩, _, _, rfl, ⟨i2, rfl, _⟩, _, _, rfl, ⟨i3, rfl, _⟩, _, _, rfl, ⟨i4, rfl, _⟩, _, _, rfl, ⟨i5, rfl, hi5⟩, _, _, rfl, ⟨oa, rfl, _⟩, _, _, rfl, ⟨oo, rfl, _⟩, rfl⟩ := h1
  obtain ⟨W, rfl, hW⟩ := h3
  obtain ⟨W, rfl⟩ : ∃ w : Nat, W = w := ⟨W.toNat, by have := (wf_u64 hW).1; omega⟩
  have hW := (wf_u64 hW).2
  obtain ⟨l, hl⟩ := isA_of h2
  have hw0 := (wf_u64 hwb).1
  have hm0 := (wf_u64 hi5).1
  have hlen : l.length ≤ 9223372036854775807 := by
    unfold Leaf.Is at h2
    rcases hl with ⟨_, rfl⟩ | ⟨b, i, e, rows, ro, rfl, _⟩
    · simp
    · rcases h2 with h2 | ⟨b', len, cap, rows', h2, g2, g3, _⟩
      · cases h2
      · cases h2
        unfold maxLen at g3
        omega
  show ∃ s', leapfroglaw14x_UnspliceRuns.v (.agg ⟨(⟨wl, wb, ⟨i1, i2, i3, i4, i5⟩, oa, oo⟩ : Cf).cs⟩) v (.int .u64 (W : Int)) s = some (.bool true, s')
  generalize hc : (⟨wl, wb, ⟨i1, i2, i3, i4, i5⟩, oa, oo⟩ : Cf) = c
  have hm0 : 0 ≤ c.me.bt := by rw [← hc]; exact hm0
  have hw0 : 0 ≤ c.wb := by rw [← hc]; exact hw0
  rcases new_r (s := s) hf c hm0 hw0 with ⟨q1, q2, _⟩ | ⟨q1, q2, _⟩
  · have hlp : iter (leapfroglaw14x_UnspliceRuns.l8 std) BIG [v, .int .u64 (W : Int), .pointer none, .pointer none, Value.int .i64 0] s = some (0, [.pointer none, .pointer none], s) := by
      rw [show BIG = 4611686018427387903 + 1 from rfl, iter_succ]
      have hnil : eqb [3] false true (.pointer none) (.pointer none) = some (.bool false) := rfl
      have e2 : (0 : Int) < 200 := by omega
      by_cases e1 : (0 : Int) < l.length
      · simp only [leapfroglaw14x_UnspliceRuns.l8, std_bd, std_gd, std_gdS, std_gdU, std_cnd, std_it, bds, bdn, cndt, cndf, cndd, cndb, gdtt, gdff, gdtf, gdft, gdun, gdSun, gdSt, gdSf, gdStf, gdSft, gdUt, gdUf, gdUtf, gdUft, pikt, pikf, eqb1, neb1, eqb0, neb0, eqb2, neb2, eqb3n, neb3n, eqb3nn, neb3nn, eqk1, eqb_agg, neb_agg, eqks_nil, eqks_cons, bin_add, bin_sub, bin_mul, bin_lss, bin_leq, bin_gtr, bin_geq, un_notd, un_not, cvi_int, cvs_str, mn2_int, mx2_int, lenS_str, lenL_slc, bx_int, bx_bool, bx_str, bx_ptr, bx_slc, bx_agg, lcl_eq, xtr_eq, cellsA_agg, spl_z, spl_c, spl_s, bld_nil, bld_cons, bls_nil, bls_cons, prt_t, prt_f, nck_ptr, fld_ptr, lal, stl, decide_true, decide_false, decide_eq_true_eq, Bool.false_eq_true, Bool.not_true, Bool.not_false, Bool.and_true, Bool.and_false, Bool.true_and, Bool.false_and, Option.map_some, Option.map_none, if_true, if_false, ite_true, ite_false, reduceIte, and_self, and_true, true_and, false_and, and_false, true_or, or_true, false_or, or_false, eq_self, ne_eq, not_true_eq_false, not_false_eq_true, Nat.zero_add, Nat.reduceAdd, Nat.reduceLeDiff, Nat.reduceLT, Nat.reduceEqDiff, Int.reduceEq, Int.reduceLT, Int.reduceLE, Int.reduceNe, Nat.le_refl, Nat.add_zero, Option.some.injEq, Prod.mk.injEq, Value.agg.injEq, Value.bool.injEq, Value.int.injEq, Value.tuple.injEq, Array.mk.injEq, List.cons.injEq, and_self, List.length_cons, List.length_nil, List.getElem?_cons_zero, List.getElem?_cons_succ, List.getElem?_nil, List.drop_succ_cons, List.drop_zero, List.take_succ_cons, List.take_zero, List.take_nil, List.drop_nil, List.getD_cons_zero, List.getD_cons_succ, rep1, rep2, rep3, rep4, List.set_cons_zero, List.set_cons_succ, List.cons_append, List.nil_append, hl.len, e1, e2, hnil]
      · simp only [leapfroglaw14x_UnspliceRuns.l8, std_bd, std_gd, std_gdS, std_gdU, std_cnd, std_it, bds, bdn, cndt, cndf, cndd, cndb, gdtt, gdff, gdtf, gdft, gdun, gdSun, gdSt, gdSf, gdStf, gdSft, gdUt, gdUf, gdUtf, gdUft, pikt, pikf, eqb1, neb1, eqb0, neb0, eqb2, neb2, eqb3n, neb3n, eqb3nn, neb3nn, eqk1, eqb_agg, neb_agg, eqks_nil, eqks_cons, bin_add, bin_sub, bin_mul, bin_lss, bin_leq, bin_gtr, bin_geq, un_notd, un_not, cvi_int, cvs_str, mn2_int, mx2_int, lenS_str, lenL_slc, bx_int, bx_bool, bx_str, bx_ptr, bx_slc, bx_agg, lcl_eq, xtr_eq, cellsA_agg, spl_z, spl_c, spl_s, bld_nil, bld_cons, bls_nil, bls_cons, prt_t, prt_f, nck_ptr, fld_ptr, lal, stl, decide_true, decide_false, decide_eq_true_eq, Bool.false_eq_true, Bool.not_true, Bool.not_false, Bool.and_true, Bool.and_false, Bool.true_and, Bool.false_and, Option.map_some, Option.map_none, if_true, if_false, ite_true, ite_false, reduceIte, and_self, and_true, true_and, false_and, and_false, true_or, or_true, false_or, or_false, eq_self, ne_eq, not_true_eq_false, not_false_eq_true, Nat.zero_add, Nat.reduceAdd, Nat.reduceLeDiff, Nat.reduceLT, Nat.reduceEqDiff, Int.reduceEq, Int.reduceLT, Int.reduceLE, Int.reduceNe, Nat.le_refl, Nat.add_zero, Option.some.injEq, Prod.mk.injEq, Value.agg.injEq, Value.bool.injEq, Value.int.injEq, Value.tuple.injEq, Array.mk.injEq, List.cons.injEq, and_self, List.length_cons, List.length_nil, List.getElem?_cons_zero, List.getElem?_cons_succ, List.getElem?_nil, List.drop_succ_cons, List.drop_zero, List.take_succ_cons, List.take_zero, List.take_nil, List.drop_nil, List.getD_cons_zero, List.getD_cons_succ, rep1, rep2, rep3, rep4, List.set_cons_zero, List.set_cons_succ, List.cons_append, List.nil_append, hl.len, e1]
    exact ⟨s, by simp only [leapfroglaw14x_UnspliceRuns.v, leapfroglaw14x_UnspliceRuns.t, std_bd, std_gd, std_gdS, std_gdU, std_cnd, std_it, bds, bdn, cndt, cndf, cndd, cndb, gdtt, gdff, gdtf, gdft, gdun, gdSun, gdSt, gdSf, gdStf, gdSft, gdUt, gdUf, gdUtf, gdUft, pikt, pikf, eqb1, neb1, eqb0, neb0, eqb2, neb2, eqb3n, neb3n, eqb3nn, neb3nn, eqk1, eqb_agg, neb_agg, eqks_nil, eqks_cons, bin_add, bin_sub, bin_mul, bin_lss, bin_leq, bin_gtr, bin_geq, un_notd, un_not, cvi_int, cvs_str, mn2_int, mx2_int, lenS_str, lenL_slc, bx_int, bx_bool, bx_str, bx_ptr, bx_slc, bx_agg, lcl_eq, xtr_eq, cellsA_agg, spl_z, spl_c, spl_s, bld_nil, bld_cons, bls_nil, bls_cons, prt_t, prt_f, nck_ptr, fld_ptr, lal, stl, decide_true, decide_false, decide_eq_true_eq, Bool.false_eq_true, Bool.not_true, Bool.not_false, Bool.and_true, Bool.and_false, Bool.true_and, Bool.false_and, Option.map_some, Option.map_none, if_true, if_false, ite_true, ite_false, reduceIte, and_self, and_true, true_and, false_and, and_false, true_or, or_true, false_or, or_false, eq_self, ne_eq, not_true_eq_false, not_false_eq_true, Nat.zero_add, Nat.reduceAdd, Nat.reduceLeDiff, Nat.reduceLT, Nat.reduceEqDiff, Int.reduceEq, Int.reduceLT, Int.reduceLE, Int.reduceNe, Nat.le_refl, Nat.add_zero, Option.some.injEq, Prod.mk.injEq, Value.agg.injEq, Value.bool.injEq, Value.int.injEq, Value.tuple.injEq, Array.mk.injEq, List.cons.injEq, and_self, List.length_cons, List.length_nil, List.getElem?_cons_zero, List.getElem?_cons_succ, List.getElem?_nil, List.drop_succ_cons, List.drop_zero, List.take_succ_cons, List.take_zero, List.take_nil, List.drop_nil, List.getD_cons_zero, List.getD_cons_succ, rep1, rep2, rep3, rep4, List.set_cons_zero, List.set_cons_succ, List.cons_append, List.nil_append, alive_rr, q1, q2, hlp]⟩
  · have f1 : Fresh (s.new (.row 22 [urow c m0] false)) := Fresh.new hf
    have q2 := q2 _ f1
    have T0 : Two c v l s.n (s.n + 1) m0 m0 ((s.new (.row 22 [urow c m0] false)).new (.row 22 [rrow c m0] false)) := by
      refine ⟨?_, ?_, by omega, ?_, ?_, ?_, Fresh.new f1⟩
      · unfold Row; rw [get_new_ne (by rw [new_n]; omega)]; exact get_new_same
      · have := @get_new_same (s.new (.row 22 [urow c m0] false)) (.row 22 [rrow c m0] false); exact this
      · unfold InvM m0; simp
      · unfold RelM m0; simp
      · exact (hl.more .new hf).more .new f1
    obtain ⟨m', r', s', T1, e⟩ := loop T0 (W := W) (by omega) hlen
    rw [show ((0 : Nat) : Int) = 0 from rfl] at e
    have hi1 : 1 ≤ m'.at' := T1.inv.1
    have hi2 : m'.at' ≤ 10 := T1.inv.2.1
    have n1 := next_r T1.hu hi1 hi2
    have n2 := rnext_r T1.hr (by rw [T1.rel.1]; exact hi1) (by rw [T1.rel.1]; exact hi2)
    rw [rel_next T1.inv T1.rel] at n2
    have ss : leapfrogref12x_SameStep.r (.agg ⟨nextC c m'⟩) (.agg ⟨nextC c m'⟩) s' = some (.bool true) := by
      unfold nextC askC
      repeat' split
      all_goals exact sameStep_r _ _ _ _ s'
    have hnil : eqb [3] false false (P (s.n + 1)) (.pointer none) = some (.bool false) := rfl
    have hnil2 : eqb [3] false false (P s.n) (.pointer none) = some (.bool false) := rfl
    rw [new_n] at q2
    exact ⟨s', by simp only [leapfroglaw14x_UnspliceRuns.v, leapfroglaw14x_UnspliceRuns.t, std_bd, std_gd, std_gdS, std_gdU, std_cnd, std_it, bds, bdn, cndt, cndf, cndd, cndb, gdtt, gdff, gdtf, gdft, gdun, gdSun, gdSt, gdSf, gdStf, gdSft, gdUt, gdUf, gdUtf, gdUft, pikt, pikf, eqb1, neb1, eqb0, neb0, eqb2, neb2, eqb3n, neb3n, eqb3nn, neb3nn, eqk1, eqb_agg, neb_agg, eqks_nil, eqks_cons, bin_add, bin_sub, bin_mul, bin_lss, bin_leq, bin_gtr, bin_geq, un_notd, un_not, cvi_int, cvs_str, mn2_int, mx2_int, lenS_str, lenL_slc, bx_int, bx_bool, bx_str, bx_ptr, bx_slc, bx_agg, lcl_eq, xtr_eq, cellsA_agg, spl_z, spl_c, spl_s, bld_nil, bld_cons, bls_nil, bls_cons, prt_t, prt_f, nck_ptr, fld_ptr, lal, stl, decide_true, decide_false, decide_eq_true_eq, Bool.false_eq_true, Bool.not_true, Bool.not_false, Bool.and_true, Bool.and_false, Bool.true_and, Bool.false_and, Option.map_some, Option.map_none, if_true, if_false, ite_true, ite_false, reduceIte, and_self, and_true, true_and, false_and, and_false, true_or, or_true, false_or, or_false, eq_self, ne_eq, not_true_eq_false, not_false_eq_true, Nat.zero_add, Nat.reduceAdd, Nat.reduceLeDiff, Nat.reduceLT, Nat.reduceEqDiff, Int.reduceEq, Int.reduceLT, Int.reduceLE, Int.reduceNe, Nat.le_refl, Nat.add_zero, Option.some.injEq, Prod.mk.injEq, Value.agg.injEq, Value.bool.injEq, Value.int.injEq, Value.tuple.injEq, Array.mk.injEq, List.cons.injEq, and_self, List.length_cons, List.length_nil, List.getElem?_cons_zero, List.getElem?_cons_succ, List.getElem?_nil, List.drop_succ_cons, List.drop_zero, List.take_succ_cons, List.take_zero, List.take_nil, List.drop_nil, List.getD_cons_zero, List.getD_cons_succ, rep1, rep2, rep3, rep4, List.set_cons_zero, List.set_cons_succ, List.cons_append, List.nil_append, alive_rr, q1, q2, e, hnil, hnil2, n1, n2, ss]⟩
end UnspliceRuns
end Go.Proofs.Ytkkgegocliobpaa
