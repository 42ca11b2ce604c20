/-
  SpliceFrees, over abstract values.
-/
import Derived.Test.YteiagjbjokldgaaSplD
import Derived.Test.YteiagjbjokldgaaSplB
import Derived.Test.YteiagjbjokldgaaMachD
set_option linter.unusedSimpArgs false
set_option linter.unusedVariables false
set_option maxRecDepth 100000
set_option maxHeartbeats 2000000
namespace Go.Proofs.Yteiagjbjokldgaa
open Go.Sim Go.Sim.Bt
attribute [local congr] bdc cndc itec gdc gdSc gdUc
namespace SpliceFrees

theorem alive_r (s : St) : leapfroglaw13x_aliveC.r s = some (.bool true) := rfl
def rowsZ (l : List Int) : List (List Value) := l.map fun x => [.int .i64 x]
theorem rowsZ_length (l : List Int) : (rowsZ l).length = l.length := by simp [rowsZ]
theorem rowsZ_get {l : List Int} {j : Nat} {r : Int} (h : l[j]? = some r) : (rowsZ l)[j]? = some [.int .i64 r] := by simp [rowsZ, h]
def keepB (t k ak y : Int) : Bool := decide (y ≠ t ∨ (ak ≠ 3 ∧ k ≠ 4 ∧ k ≠ 8))

theorem held_r {n0 : Nat} {s : St} {v : Value} {l : List Int} (hf : Fresh s) (h : Own n0 s 1 v (rowsZ l)) (t : Rf) (ak : AskP) (a : Ans) (hl : l.length ≤ 1000) :
    ∃ u s', leapfroglaw13x_held.v v (.agg ⟨stepC 1 t ak zRes⟩) (.agg ⟨a.cs⟩) s = some (u, s') ∧ Keep s.n s s' ∧ Own s.n s' 1 u (rowsZ (heldL l t.id ak.k a.k)) := by
  have hloop : ∃ u s', iter (leapfroglaw13x_held.l3 std) BIG [v, .slice none 0 0, Value.int .i64 ((0 : Nat) : Int), .agg ⟨stepC 1 t ak zRes⟩, .agg ⟨a.cs⟩] s = some ((0, [u, .agg ⟨stepC 1 t ak zRes⟩, .agg ⟨a.cs⟩], s') : Cut) ∧ Keep s.n s s' ∧ Own s.n s' 1 u (rowsZ (l.filter (keepB t.id ak.k a.k))) := by
    refine iter_rel (fun d xs s' => ∃ j u, j + d = l.length ∧ Keep s.n s s' ∧ Own s.n s' 1 u (rowsZ ((l.take j).filter (keepB t.id ak.k a.k))) ∧ xs = [v, u, Value.int .i64 (j : Int), .agg ⟨stepC 1 t ak zRes⟩, .agg ⟨a.cs⟩])
      (fun x : Option Cut => ∃ u s', x = some ((0, [u, .agg ⟨stepC 1 t ak zRes⟩, .agg ⟨a.cs⟩], s') : Cut) ∧ Keep s.n s s' ∧ Own s.n s' 1 u (rowsZ (l.filter (keepB t.id ak.k a.k)))) ?_ BIG l.length _ s (by unfold BIG; omega) ⟨0, _, by omega, .refl _ _, .inl ⟨rfl, rfl⟩, rfl⟩
    rintro d xs s' rec ⟨j, u, hj, hk, ho, rfl⟩ ih
    have hlen := h.len
    rw [rowsZ_length] at hlen
    cases d with
    | zero =>
      have e1 : ¬ ((j : Int) < l.length) := by omega
      rw [List.take_of_length_le (by omega)] at ho
      exact ⟨u, s', by simp only [leapfroglaw13x_held.l3, std_bd, std_gd, std_gdS, std_gdU, std_cnd, std_it, bds, bdn, cndt, cndf, cndd, cndb, gdtt, gdff, gdtf, gdft, gdun, gdSun, gdSt, gdSf, gdStf, gdSft, gdUt, gdUf, gdUtf, gdUft, pikt, pikf, eqb1, neb1, eqb0, neb0, eqb2, neb2, eqb3n, neb3n, eqb3nn, neb3nn, eqk1, eqb_agg, neb_agg, eqks_nil, eqks_cons, bin_add, bin_sub, bin_mul, bin_lss, bin_leq, bin_gtr, bin_geq, un_notd, un_not, cvi_int, cvs_str, mn2_int, mx2_int, lenS_str, lenL_slc, bx_int, bx_bool, bx_str, bx_ptr, bx_slc, bx_agg, lcl_eq, xtr_eq, cellsA_agg, spl_z, spl_c, spl_s, bld_nil, bld_cons, bls_nil, bls_cons, prt_t, prt_f, nck_ptr, fld_ptr, lal, stl, decide_true, decide_false, decide_eq_true_eq, Bool.false_eq_true, Bool.not_true, Bool.not_false, Bool.and_true, Bool.and_false, Bool.true_and, Bool.false_and, Option.map_some, Option.map_none, if_true, if_false, ite_true, ite_false, reduceIte, and_self, and_true, true_and, false_and, and_false, true_or, or_true, false_or, or_false, eq_self, ne_eq, not_true_eq_false, not_false_eq_true, Nat.zero_add, Nat.reduceAdd, Nat.reduceLeDiff, Nat.reduceLT, Nat.reduceEqDiff, Int.reduceEq, Int.reduceLT, Int.reduceLE, Int.reduceNe, Nat.le_refl, Nat.add_zero, Option.some.injEq, Prod.mk.injEq, Value.agg.injEq, Value.bool.injEq, Value.int.injEq, Value.tuple.injEq, Array.mk.injEq, List.cons.injEq, and_self, List.length_cons, List.length_nil, List.getElem?_cons_zero, List.getElem?_cons_succ, List.getElem?_nil, List.drop_succ_cons, List.drop_zero, List.take_succ_cons, List.take_zero, List.take_nil, List.drop_nil, List.getD_cons_zero, List.getD_cons_succ, rep1, rep2, rep3, rep4, List.set_cons_zero, List.set_cons_succ, List.cons_append, List.nil_append, hlen, e1], hk, ho⟩
    | succ d =>
      have e1 : (j : Int) < l.length := by omega
      obtain ⟨x, hx⟩ := get_some (show j < l.length by omega)
      obtain ⟨b, ro, h1, h2⟩ := h.idx (rowsZ_get hx)
      have h2' : s'.get b = some (.row 1 (rowsZ l) ro) := by rw [hk.old b (hf.lt h2)]; exact h2
      have h1' : idx s' 1 v (.int .i64 (j : Int)) = some (.pointer (some ⟨b, j, some 0⟩)) := by
        rcases h with ⟨rfl, h0⟩ | ⟨q, hq, rfl, hg⟩
        · have := congrArg List.length h0
          rw [rowsZ_length] at this
          simp only [List.length_nil] at this
          omega
        · have hg' : s'.get q = some (.row 1 (rowsZ l) false) := by rw [hk.old q (hf.lt hg)]; exact hg
          have := idx_row (k := .i64) (i := 0) (n := (j : Int)) (len := (rowsZ l).length) (e := 1) hg' (by omega) (by rw [rowsZ_length]; omega)
          rw [Int.toNat_natCast, Nat.zero_add] at this
          rw [this]
          rw [idx_row (k := .i64) (i := 0) (n := (j : Int)) (len := (rowsZ l).length) (e := 1) hg (by omega) (by rw [rowsZ_length]; omega)] at h1
          rw [Int.toNat_natCast, Nat.zero_add] at h1
          exact h1
      have hx' := rowsZ_get hx
      have e5 : IntKind.i64.wrap ((j : Int) + 1) = ((j + 1 : Nat) : Int) := by rw [wrap64 (by omega) (by omega)]; omega
      have htk : l.take (j + 1) = l.take j ++ [x] := by rw [List.take_add_one, hx]; rfl
      have yes : keepB t.id ak.k a.k x = true → ∃ u' s2, app (s'.new (.row 1 [[.int .i64 x]] false)) 1 8 u (.slice (some ⟨s'.n, 0, some 0⟩) 1 2) = some (u', s2) ∧ Keep s.n s s2 ∧ Own s.n s2 1 u' (rowsZ ((l.take (j + 1)).filter (keepB t.id ak.k a.k))) := by
        intro hq
        have e6 : ((l.take (j + 1)).filter (keepB t.id ak.k a.k)) = ((l.take j).filter (keepB t.id ak.k a.k)) ++ [x] := by rw [htk]; simp [hq]
        have hfl : ((l.take j).filter (keepB t.id ak.k a.k)).length ≤ 1000 := by
          have := List.length_filter_le (keepB t.id ak.k a.k) (l.take j)
          rw [List.length_take] at this
          omega
        obtain ⟨u', s2, g1, g2, g3⟩ := (ho.new (x := .row 1 [[.int .i64 x]] false) (hk.fresh hf)).app2 (by_ := 8) (news := [[.int .i64 x]]) (x := .slice (some ⟨s'.n, 0, some 0⟩) 1 2) (by rw [new_n]; have := hk.n; omega) rfl rowsOf_one (by rw [rowsZ_length]; simp; omega) (by rw [rowsZ_length]; simp; omega)
        have e7 : rowsZ ((l.take j).filter (keepB t.id ak.k a.k)) ++ [[.int .i64 x]] = rowsZ ((l.take (j + 1)).filter (keepB t.id ak.k a.k)) := by rw [e6]; simp [rowsZ]
        rw [e7] at g3
        exact ⟨u', s2, g1, hk.trans ((Keep.new hk.n).trans g2), g3⟩
      rcases Classical.propComplete (x = t.id) with q1 | q1
      · by_cases q2 : a.k ≠ 3 ∧ ak.k ≠ 4 ∧ ak.k ≠ 8
        · have q2a : (a.k = 3) = False := eq_false q2.1
          have q2b : (ak.k = 4) = False := eq_false q2.2.1
          have q2c : (ak.k = 8) = False := eq_false q2.2.2
          obtain ⟨u', s2, g1, g2, g3⟩ := yes (decide_eq_true (.inr q2))
          simp only [leapfroglaw13x_held.l3, std_bd, std_gd, std_gdS, std_gdU, std_cnd, std_it, bds, bdn, cndt, cndf, cndd, cndb, gdtt, gdff, gdtf, gdft, gdun, gdSun, gdSt, gdSf, gdStf, gdSft, gdUt, gdUf, gdUtf, gdUft, pikt, pikf, eqb1, neb1, eqb0, neb0, eqb2, neb2, eqb3n, neb3n, eqb3nn, neb3nn, eqk1, eqb_agg, neb_agg, eqks_nil, eqks_cons, bin_add, bin_sub, bin_mul, bin_lss, bin_leq, bin_gtr, bin_geq, un_notd, un_not, cvi_int, cvs_str, mn2_int, mx2_int, lenS_str, lenL_slc, bx_int, bx_bool, bx_str, bx_ptr, bx_slc, bx_agg, lcl_eq, xtr_eq, cellsA_agg, spl_z, spl_c, spl_s, bld_nil, bld_cons, bls_nil, bls_cons, prt_t, prt_f, nck_ptr, fld_ptr, lal, stl, decide_true, decide_false, decide_eq_true_eq, Bool.false_eq_true, Bool.not_true, Bool.not_false, Bool.and_true, Bool.and_false, Bool.true_and, Bool.false_and, Option.map_some, Option.map_none, if_true, if_false, ite_true, ite_false, reduceIte, and_self, and_true, true_and, false_and, and_false, true_or, or_true, false_or, or_false, eq_self, ne_eq, not_true_eq_false, not_false_eq_true, Nat.zero_add, Nat.reduceAdd, Nat.reduceLeDiff, Nat.reduceLT, Nat.reduceEqDiff, Int.reduceEq, Int.reduceLT, Int.reduceLE, Int.reduceNe, Nat.le_refl, Nat.add_zero, Option.some.injEq, Prod.mk.injEq, Value.agg.injEq, Value.bool.injEq, Value.int.injEq, Value.tuple.injEq, Array.mk.injEq, List.cons.injEq, and_self, List.length_cons, List.length_nil, List.getElem?_cons_zero, List.getElem?_cons_succ, List.getElem?_nil, List.drop_succ_cons, List.drop_zero, List.take_succ_cons, List.take_zero, List.take_nil, List.drop_nil, List.getD_cons_zero, List.getD_cons_succ, rep1, rep2, rep3, rep4, List.set_cons_zero, List.set_cons_succ, List.cons_append, List.nil_append, hlen, e1, h1', ldc_row h2', hx', q1, q2a, q2b, q2c, e5, als_eq, Nat.zero_lt_succ, Nat.reduceMul, g1]
          exact ih d _ _ (by omega) ⟨j + 1, u', by omega, g2, g3, rfl⟩
        · have hq : keepB t.id ak.k a.k x = false := decide_eq_false fun g => g.elim (fun g => g (of_eq_true q1)) q2
          have e6 : ((l.take (j + 1)).filter (keepB t.id ak.k a.k)) = ((l.take j).filter (keepB t.id ak.k a.k)) := by rw [htk]; simp [hq]
          have fin : leapfroglaw13x_held.l3 std rec [v, u, Value.int .i64 (j : Int), .agg ⟨stepC 1 t ak zRes⟩, .agg ⟨a.cs⟩] s' = rec [v, u, Value.int .i64 ((j + 1 : Nat) : Int), .agg ⟨stepC 1 t ak zRes⟩, .agg ⟨a.cs⟩] s' := by
            rcases Classical.propComplete (a.k = 3) with q3 | q3
            · simp only [leapfroglaw13x_held.l3, std_bd, std_gd, std_gdS, std_gdU, std_cnd, std_it, bds, bdn, cndt, cndf, cndd, cndb, gdtt, gdff, gdtf, gdft, gdun, gdSun, gdSt, gdSf, gdStf, gdSft, gdUt, gdUf, gdUtf, gdUft, pikt, pikf, eqb1, neb1, eqb0, neb0, eqb2, neb2, eqb3n, neb3n, eqb3nn, neb3nn, eqk1, eqb_agg, neb_agg, eqks_nil, eqks_cons, bin_add, bin_sub, bin_mul, bin_lss, bin_leq, bin_gtr, bin_geq, un_notd, un_not, cvi_int, cvs_str, mn2_int, mx2_int, lenS_str, lenL_slc, bx_int, bx_bool, bx_str, bx_ptr, bx_slc, bx_agg, lcl_eq, xtr_eq, cellsA_agg, spl_z, spl_c, spl_s, bld_nil, bld_cons, bls_nil, bls_cons, prt_t, prt_f, nck_ptr, fld_ptr, lal, stl, decide_true, decide_false, decide_eq_true_eq, Bool.false_eq_true, Bool.not_true, Bool.not_false, Bool.and_true, Bool.and_false, Bool.true_and, Bool.false_and, Option.map_some, Option.map_none, if_true, if_false, ite_true, ite_false, reduceIte, and_self, and_true, true_and, false_and, and_false, true_or, or_true, false_or, or_false, eq_self, ne_eq, not_true_eq_false, not_false_eq_true, Nat.zero_add, Nat.reduceAdd, Nat.reduceLeDiff, Nat.reduceLT, Nat.reduceEqDiff, Int.reduceEq, Int.reduceLT, Int.reduceLE, Int.reduceNe, Nat.le_refl, Nat.add_zero, Option.some.injEq, Prod.mk.injEq, Value.agg.injEq, Value.bool.injEq, Value.int.injEq, Value.tuple.injEq, Array.mk.injEq, List.cons.injEq, and_self, List.length_cons, List.length_nil, List.getElem?_cons_zero, List.getElem?_cons_succ, List.getElem?_nil, List.drop_succ_cons, List.drop_zero, List.take_succ_cons, List.take_zero, List.take_nil, List.drop_nil, List.getD_cons_zero, List.getD_cons_succ, rep1, rep2, rep3, rep4, List.set_cons_zero, List.set_cons_succ, List.cons_append, List.nil_append, hlen, e1, h1', ldc_row h2', hx', q1, q3, e5]
            · rcases Classical.propComplete (ak.k = 4) with q4 | q4
              · simp only [leapfroglaw13x_held.l3, std_bd, std_gd, std_gdS, std_gdU, std_cnd, std_it, bds, bdn, cndt, cndf, cndd, cndb, gdtt, gdff, gdtf, gdft, gdun, gdSun, gdSt, gdSf, gdStf, gdSft, gdUt, gdUf, gdUtf, gdUft, pikt, pikf, eqb1, neb1, eqb0, neb0, eqb2, neb2, eqb3n, neb3n, eqb3nn, neb3nn, eqk1, eqb_agg, neb_agg, eqks_nil, eqks_cons, bin_add, bin_sub, bin_mul, bin_lss, bin_leq, bin_gtr, bin_geq, un_notd, un_not, cvi_int, cvs_str, mn2_int, mx2_int, lenS_str, lenL_slc, bx_int, bx_bool, bx_str, bx_ptr, bx_slc, bx_agg, lcl_eq, xtr_eq, cellsA_agg, spl_z, spl_c, spl_s, bld_nil, bld_cons, bls_nil, bls_cons, prt_t, prt_f, nck_ptr, fld_ptr, lal, stl, decide_true, decide_false, decide_eq_true_eq, Bool.false_eq_true, Bool.not_true, Bool.not_false, Bool.and_true, Bool.and_false, Bool.true_and, Bool.false_and, Option.map_some, Option.map_none, if_true, if_false, ite_true, ite_false, reduceIte, and_self, and_true, true_and, false_and, and_false, true_or, or_true, false_or, or_false, eq_self, ne_eq, not_true_eq_false, not_false_eq_true, Nat.zero_add, Nat.reduceAdd, Nat.reduceLeDiff, Nat.reduceLT, Nat.reduceEqDiff, Int.reduceEq, Int.reduceLT, Int.reduceLE, Int.reduceNe, Nat.le_refl, Nat.add_zero, Option.some.injEq, Prod.mk.injEq, Value.agg.injEq, Value.bool.injEq, Value.int.injEq, Value.tuple.injEq, Array.mk.injEq, List.cons.injEq, and_self, List.length_cons, List.length_nil, List.getElem?_cons_zero, List.getElem?_cons_succ, List.getElem?_nil, List.drop_succ_cons, List.drop_zero, List.take_succ_cons, List.take_zero, List.take_nil, List.drop_nil, List.getD_cons_zero, List.getD_cons_succ, rep1, rep2, rep3, rep4, List.set_cons_zero, List.set_cons_succ, List.cons_append, List.nil_append, hlen, e1, h1', ldc_row h2', hx', q1, q3, q4, e5]
              · have q5 : (ak.k = 8) = True := eq_true (Classical.not_not.1 fun g => q2 ⟨of_eq_false q3, of_eq_false q4, g⟩)
                simp only [leapfroglaw13x_held.l3, std_bd, std_gd, std_gdS, std_gdU, std_cnd, std_it, bds, bdn, cndt, cndf, cndd, cndb, gdtt, gdff, gdtf, gdft, gdun, gdSun, gdSt, gdSf, gdStf, gdSft, gdUt, gdUf, gdUtf, gdUft, pikt, pikf, eqb1, neb1, eqb0, neb0, eqb2, neb2, eqb3n, neb3n, eqb3nn, neb3nn, eqk1, eqb_agg, neb_agg, eqks_nil, eqks_cons, bin_add, bin_sub, bin_mul, bin_lss, bin_leq, bin_gtr, bin_geq, un_notd, un_not, cvi_int, cvs_str, mn2_int, mx2_int, lenS_str, lenL_slc, bx_int, bx_bool, bx_str, bx_ptr, bx_slc, bx_agg, lcl_eq, xtr_eq, cellsA_agg, spl_z, spl_c, spl_s, bld_nil, bld_cons, bls_nil, bls_cons, prt_t, prt_f, nck_ptr, fld_ptr, lal, stl, decide_true, decide_false, decide_eq_true_eq, Bool.false_eq_true, Bool.not_true, Bool.not_false, Bool.and_true, Bool.and_false, Bool.true_and, Bool.false_and, Option.map_some, Option.map_none, if_true, if_false, ite_true, ite_false, reduceIte, and_self, and_true, true_and, false_and, and_false, true_or, or_true, false_or, or_false, eq_self, ne_eq, not_true_eq_false, not_false_eq_true, Nat.zero_add, Nat.reduceAdd, Nat.reduceLeDiff, Nat.reduceLT, Nat.reduceEqDiff, Int.reduceEq, Int.reduceLT, Int.reduceLE, Int.reduceNe, Nat.le_refl, Nat.add_zero, Option.some.injEq, Prod.mk.injEq, Value.agg.injEq, Value.bool.injEq, Value.int.injEq, Value.tuple.injEq, Array.mk.injEq, List.cons.injEq, and_self, List.length_cons, List.length_nil, List.getElem?_cons_zero, List.getElem?_cons_succ, List.getElem?_nil, List.drop_succ_cons, List.drop_zero, List.take_succ_cons, List.take_zero, List.take_nil, List.drop_nil, List.getD_cons_zero, List.getD_cons_succ, rep1, rep2, rep3, rep4, List.set_cons_zero, List.set_cons_succ, List.cons_append, List.nil_append, hlen, e1, h1', ldc_row h2', hx', q1, q3, q4, q5, e5]
          rw [fin]
          exact ih d _ _ (by omega) ⟨j + 1, u, by omega, hk, by rw [e6]; exact ho, rfl⟩
      · obtain ⟨u', s2, g1, g2, g3⟩ := yes (decide_eq_true (.inl (of_eq_false q1)))
        simp only [leapfroglaw13x_held.l3, std_bd, std_gd, std_gdS, std_gdU, std_cnd, std_it, bds, bdn, cndt, cndf, cndd, cndb, gdtt, gdff, gdtf, gdft, gdun, gdSun, gdSt, gdSf, gdStf, gdSft, gdUt, gdUf, gdUtf, gdUft, pikt, pikf, eqb1, neb1, eqb0, neb0, eqb2, neb2, eqb3n, neb3n, eqb3nn, neb3nn, eqk1, eqb_agg, neb_agg, eqks_nil, eqks_cons, bin_add, bin_sub, bin_mul, bin_lss, bin_leq, bin_gtr, bin_geq, un_notd, un_not, cvi_int, cvs_str, mn2_int, mx2_int, lenS_str, lenL_slc, bx_int, bx_bool, bx_str, bx_ptr, bx_slc, bx_agg, lcl_eq, xtr_eq, cellsA_agg, spl_z, spl_c, spl_s, bld_nil, bld_cons, bls_nil, bls_cons, prt_t, prt_f, nck_ptr, fld_ptr, lal, stl, decide_true, decide_false, decide_eq_true_eq, Bool.false_eq_true, Bool.not_true, Bool.not_false, Bool.and_true, Bool.and_false, Bool.true_and, Bool.false_and, Option.map_some, Option.map_none, if_true, if_false, ite_true, ite_false, reduceIte, and_self, and_true, true_and, false_and, and_false, true_or, or_true, false_or, or_false, eq_self, ne_eq, not_true_eq_false, not_false_eq_true, Nat.zero_add, Nat.reduceAdd, Nat.reduceLeDiff, Nat.reduceLT, Nat.reduceEqDiff, Int.reduceEq, Int.reduceLT, Int.reduceLE, Int.reduceNe, Nat.le_refl, Nat.add_zero, Option.some.injEq, Prod.mk.injEq, Value.agg.injEq, Value.bool.injEq, Value.int.injEq, Value.tuple.injEq, Array.mk.injEq, List.cons.injEq, and_self, List.length_cons, List.length_nil, List.getElem?_cons_zero, List.getElem?_cons_succ, List.getElem?_nil, List.drop_succ_cons, List.drop_zero, List.take_succ_cons, List.take_zero, List.take_nil, List.drop_nil, List.getD_cons_zero, List.getD_cons_succ, rep1, rep2, rep3, rep4, List.set_cons_zero, List.set_cons_succ, List.cons_append, List.nil_append, hlen, e1, h1', ldc_row h2', hx', q1, e5, als_eq, Nat.zero_lt_succ, Nat.reduceMul, g1]
        exact ih d _ _ (by omega) ⟨j + 1, u', by omega, g2, g3, rfl⟩
  obtain ⟨u, s', g1, g2, g3⟩ := hloop
  rw [show ((0 : Nat) : Int) = 0 from rfl] at g1
  have hfl : (l.filter (keepB t.id ak.k a.k)).length ≤ 1000 := by
    have := List.length_filter_le (keepB t.id ak.k a.k) l
    omega
  unfold heldL
  by_cases hc : a.k = 1 ∧ (ak.k = 3 ∨ ak.k = 7)
  · rw [if_pos hc]
    obtain ⟨u', s2, a1, a2, a3⟩ := (g3.new (x := .row 1 [[.int .i64 t.id]] false) (g2.fresh hf)).app2 (by_ := 8) (news := [[.int .i64 t.id]]) (x := .slice (some ⟨s'.n, 0, some 0⟩) 1 2) (by rw [new_n]; have := g2.n; omega) rfl rowsOf_one (by rw [rowsZ_length]; simp; omega) (by rw [rowsZ_length]; simp; omega)
    have e7 : rowsZ (l.filter (keepB t.id ak.k a.k)) ++ [[.int .i64 t.id]] = rowsZ ((l.filter fun y => decide (y ≠ t.id ∨ (a.k ≠ 3 ∧ ak.k ≠ 4 ∧ ak.k ≠ 8))) ++ [t.id]) := by
      show _ = rowsZ (l.filter (keepB t.id ak.k a.k) ++ [t.id])
      simp [rowsZ]
    rw [e7] at a3
    have hc1 : (a.k = 1) = True := eq_true hc.1
    refine ⟨u', s2, ?_, g2.trans ((Keep.new g2.n).trans a2), a3⟩
    rcases hc.2 with k | k
    · have k' : (ak.k = 3) = True := eq_true k
      simp only [leapfroglaw13x_held.v, leapfroglaw13x_held.t, std_bd, std_gd, std_gdS, std_gdU, std_cnd, std_it, bds, bdn, cndt, cndf, cndd, cndb, gdtt, gdff, gdtf, gdft, gdun, gdSun, gdSt, gdSf, gdStf, gdSft, gdUt, gdUf, gdUtf, gdUft, pikt, pikf, eqb1, neb1, eqb0, neb0, eqb2, neb2, eqb3n, neb3n, eqb3nn, neb3nn, eqk1, eqb_agg, neb_agg, eqks_nil, eqks_cons, bin_add, bin_sub, bin_mul, bin_lss, bin_leq, bin_gtr, bin_geq, un_notd, un_not, cvi_int, cvs_str, mn2_int, mx2_int, lenS_str, lenL_slc, bx_int, bx_bool, bx_str, bx_ptr, bx_slc, bx_agg, lcl_eq, xtr_eq, cellsA_agg, spl_z, spl_c, spl_s, bld_nil, bld_cons, bls_nil, bls_cons, prt_t, prt_f, nck_ptr, fld_ptr, lal, stl, decide_true, decide_false, decide_eq_true_eq, Bool.false_eq_true, Bool.not_true, Bool.not_false, Bool.and_true, Bool.and_false, Bool.true_and, Bool.false_and, Option.map_some, Option.map_none, if_true, if_false, ite_true, ite_false, reduceIte, and_self, and_true, true_and, false_and, and_false, true_or, or_true, false_or, or_false, eq_self, ne_eq, not_true_eq_false, not_false_eq_true, Nat.zero_add, Nat.reduceAdd, Nat.reduceLeDiff, Nat.reduceLT, Nat.reduceEqDiff, Int.reduceEq, Int.reduceLT, Int.reduceLE, Int.reduceNe, Nat.le_refl, Nat.add_zero, Option.some.injEq, Prod.mk.injEq, Value.agg.injEq, Value.bool.injEq, Value.int.injEq, Value.tuple.injEq, Array.mk.injEq, List.cons.injEq, and_self, List.length_cons, List.length_nil, List.getElem?_cons_zero, List.getElem?_cons_succ, List.getElem?_nil, List.drop_succ_cons, List.drop_zero, List.take_succ_cons, List.take_zero, List.take_nil, List.drop_nil, List.getD_cons_zero, List.getD_cons_succ, rep1, rep2, rep3, rep4, List.set_cons_zero, List.set_cons_succ, List.cons_append, List.nil_append, g1, hc1, k', als_eq, Nat.zero_lt_succ, Nat.reduceMul, a1]
    · have k' : (ak.k = 7) = True := eq_true k
      have k'' : (ak.k = 3) = False := eq_false (by omega)
      simp only [leapfroglaw13x_held.v, leapfroglaw13x_held.t, std_bd, std_gd, std_gdS, std_gdU, std_cnd, std_it, bds, bdn, cndt, cndf, cndd, cndb, gdtt, gdff, gdtf, gdft, gdun, gdSun, gdSt, gdSf, gdStf, gdSft, gdUt, gdUf, gdUtf, gdUft, pikt, pikf, eqb1, neb1, eqb0, neb0, eqb2, neb2, eqb3n, neb3n, eqb3nn, neb3nn, eqk1, eqb_agg, neb_agg, eqks_nil, eqks_cons, bin_add, bin_sub, bin_mul, bin_lss, bin_leq, bin_gtr, bin_geq, un_notd, un_not, cvi_int, cvs_str, mn2_int, mx2_int, lenS_str, lenL_slc, bx_int, bx_bool, bx_str, bx_ptr, bx_slc, bx_agg, lcl_eq, xtr_eq, cellsA_agg, spl_z, spl_c, spl_s, bld_nil, bld_cons, bls_nil, bls_cons, prt_t, prt_f, nck_ptr, fld_ptr, lal, stl, decide_true, decide_false, decide_eq_true_eq, Bool.false_eq_true, Bool.not_true, Bool.not_false, Bool.and_true, Bool.and_false, Bool.true_and, Bool.false_and, Option.map_some, Option.map_none, if_true, if_false, ite_true, ite_false, reduceIte, and_self, and_true, true_and, false_and, and_false, true_or, or_true, false_or, or_false, eq_self, ne_eq, not_true_eq_false, not_false_eq_true, Nat.zero_add, Nat.reduceAdd, Nat.reduceLeDiff, Nat.reduceLT, Nat.reduceEqDiff, Int.reduceEq, Int.reduceLT, Int.reduceLE, Int.reduceNe, Nat.le_refl, Nat.add_zero, Option.some.injEq, Prod.mk.injEq, Value.agg.injEq, Value.bool.injEq, Value.int.injEq, Value.tuple.injEq, Array.mk.injEq, List.cons.injEq, and_self, List.length_cons, List.length_nil, List.getElem?_cons_zero, List.getElem?_cons_succ, List.getElem?_nil, List.drop_succ_cons, List.drop_zero, List.take_succ_cons, List.take_zero, List.take_nil, List.drop_nil, List.getD_cons_zero, List.getD_cons_succ, rep1, rep2, rep3, rep4, List.set_cons_zero, List.set_cons_succ, List.cons_append, List.nil_append, g1, hc1, k', k'', als_eq, Nat.zero_lt_succ, Nat.reduceMul, a1]
  · rw [if_neg hc, List.append_nil]
    refine ⟨u, s', ?_, g2, g3⟩
    rcases Classical.propComplete (a.k = 1) with q1 | q1
    · have k' : (ak.k = 3) = False := eq_false fun g => hc ⟨of_eq_true q1, .inl g⟩
      have k'' : (ak.k = 7) = False := eq_false fun g => hc ⟨of_eq_true q1, .inr g⟩
      simp only [leapfroglaw13x_held.v, leapfroglaw13x_held.t, std_bd, std_gd, std_gdS, std_gdU, std_cnd, std_it, bds, bdn, cndt, cndf, cndd, cndb, gdtt, gdff, gdtf, gdft, gdun, gdSun, gdSt, gdSf, gdStf, gdSft, gdUt, gdUf, gdUtf, gdUft, pikt, pikf, eqb1, neb1, eqb0, neb0, eqb2, neb2, eqb3n, neb3n, eqb3nn, neb3nn, eqk1, eqb_agg, neb_agg, eqks_nil, eqks_cons, bin_add, bin_sub, bin_mul, bin_lss, bin_leq, bin_gtr, bin_geq, un_notd, un_not, cvi_int, cvs_str, mn2_int, mx2_int, lenS_str, lenL_slc, bx_int, bx_bool, bx_str, bx_ptr, bx_slc, bx_agg, lcl_eq, xtr_eq, cellsA_agg, spl_z, spl_c, spl_s, bld_nil, bld_cons, bls_nil, bls_cons, prt_t, prt_f, nck_ptr, fld_ptr, lal, stl, decide_true, decide_false, decide_eq_true_eq, Bool.false_eq_true, Bool.not_true, Bool.not_false, Bool.and_true, Bool.and_false, Bool.true_and, Bool.false_and, Option.map_some, Option.map_none, if_true, if_false, ite_true, ite_false, reduceIte, and_self, and_true, true_and, false_and, and_false, true_or, or_true, false_or, or_false, eq_self, ne_eq, not_true_eq_false, not_false_eq_true, Nat.zero_add, Nat.reduceAdd, Nat.reduceLeDiff, Nat.reduceLT, Nat.reduceEqDiff, Int.reduceEq, Int.reduceLT, Int.reduceLE, Int.reduceNe, Nat.le_refl, Nat.add_zero, Option.some.injEq, Prod.mk.injEq, Value.agg.injEq, Value.bool.injEq, Value.int.injEq, Value.tuple.injEq, Array.mk.injEq, List.cons.injEq, and_self, List.length_cons, List.length_nil, List.getElem?_cons_zero, List.getElem?_cons_succ, List.getElem?_nil, List.drop_succ_cons, List.drop_zero, List.take_succ_cons, List.take_zero, List.take_nil, List.drop_nil, List.getD_cons_zero, List.getD_cons_succ, rep1, rep2, rep3, rep4, List.set_cons_zero, List.set_cons_succ, List.cons_append, List.nil_append, g1, q1, k', k'']
    · simp only [leapfroglaw13x_held.v, leapfroglaw13x_held.t, std_bd, std_gd, std_gdS, std_gdU, std_cnd, std_it, bds, bdn, cndt, cndf, cndd, cndb, gdtt, gdff, gdtf, gdft, gdun, gdSun, gdSt, gdSf, gdStf, gdSft, gdUt, gdUf, gdUtf, gdUft, pikt, pikf, eqb1, neb1, eqb0, neb0, eqb2, neb2, eqb3n, neb3n, eqb3nn, neb3nn, eqk1, eqb_agg, neb_agg, eqks_nil, eqks_cons, bin_add, bin_sub, bin_mul, bin_lss, bin_leq, bin_gtr, bin_geq, un_notd, un_not, cvi_int, cvs_str, mn2_int, mx2_int, lenS_str, lenL_slc, bx_int, bx_bool, bx_str, bx_ptr, bx_slc, bx_agg, lcl_eq, xtr_eq, cellsA_agg, spl_z, spl_c, spl_s, bld_nil, bld_cons, bls_nil, bls_cons, prt_t, prt_f, nck_ptr, fld_ptr, lal, stl, decide_true, decide_false, decide_eq_true_eq, Bool.false_eq_true, Bool.not_true, Bool.not_false, Bool.and_true, Bool.and_false, Bool.true_and, Bool.false_and, Option.map_some, Option.map_none, if_true, if_false, ite_true, ite_false, reduceIte, and_self, and_true, true_and, false_and, and_false, true_or, or_true, false_or, or_false, eq_self, ne_eq, not_true_eq_false, not_false_eq_true, Nat.zero_add, Nat.reduceAdd, Nat.reduceLeDiff, Nat.reduceLT, Nat.reduceEqDiff, Int.reduceEq, Int.reduceLT, Int.reduceLE, Int.reduceNe, Nat.le_refl, Nat.add_zero, Option.some.injEq, Prod.mk.injEq, Value.agg.injEq, Value.bool.injEq, Value.int.injEq, Value.tuple.injEq, Array.mk.injEq, List.cons.injEq, and_self, List.length_cons, List.length_nil, List.getElem?_cons_zero, List.getElem?_cons_succ, List.getElem?_nil, List.drop_succ_cons, List.drop_zero, List.take_succ_cons, List.take_zero, List.take_nil, List.drop_nil, List.getD_cons_zero, List.getD_cons_succ, rep1, rep2, rep3, rep4, List.set_cons_zero, List.set_cons_succ, List.cons_append, List.nil_append, g1, q1]

theorem own_stp {b n0 : Nat} {s s' : St} {v : Value} {rows : List (List Value)} {cs : List Value} (h : Own n0 s 1 v rows) (hr : Row s b cs) (hf : Fresh s) (k : Stp b s s') : Own n0 s' 1 v rows := by
  rcases h with ⟨h1, h2⟩ | ⟨q, h1, h2, h3⟩
  · exact .inl ⟨h1, h2⟩
  · exact .inr ⟨q, h1, h2, k.get hf h3 (ne_row hr h3 (by omega))⟩
theorem sameQ {b i : Nat} : sameV (.pointer (some ⟨b, i, some 0⟩)) (.pointer (some ⟨b, i, some 0⟩)) = true := by simp [sameV]

structure Here (c : Cf) (v : Value) (l : List OpA) (b : Nat) (m : Mm) (lv : Value) (H : List Int) (s : St) : Prop where
  hA : At c m s b
  inv : InvM m
  ho : IsO s v l
  fr : Fresh s
  hH : Own 0 s 1 lv (rowsZ H)
  al : ∀ x ∈ H, allow c m x

theorem isO_stp {c : Cf} {m : Mm} {b : Nat} {s s' : St} {v : Value} {l : List OpA} (h : IsO s v l) (hA : At c m s b) (hf : Fresh s) (k : Stp b s s') : IsO s' v l ∧ ∀ j : Nat, j < l.length → idx s' 14 v (.int .i64 (j : Int)) = idx s 14 v (.int .i64 (j : Int)) := by
  obtain ⟨lp, fv, hr, _, _⟩ := hA
  exact h.keep fun q rows ro hq => k.get hf hq (ne_row hr hq (by omega))

/-- A tick. -/
theorem wakes {c : Cf} {v : Value} {l : List OpA} {b j : Nat} {m : Mm} {lv : Value} {H : List Int} {s : St} (h : Here c v l b m lv H s) : ∃ s', splice_Splice_Wake.v (P b) s = some (unit', s') ∧ Here c v l b (wakeC m) lv H s' := by
  obtain ⟨s', w1, w2, w3⟩ := wake_r h.fr h.hA
  have hA := h.hA
  obtain ⟨lp, fv, hr, _, _⟩ := hA
  exact ⟨s', w1, w2, inv_wake h.inv, (isO_stp h.ho h.hA h.fr w3).1, w3.2.2 h.fr, own_stp h.hH hr h.fr w3, fun x hx => allow_wake (h.al x hx)⟩

theorem step {c : Cf} {v : Value} {l : List OpA} {b j : Nat} {m : Mm} {lv : Value} {H : List Int} {s : St} (h : Here c v l b m lv H s) (hH : H.length ≤ j) {K : Int} {T r r2 : Rf} {o : Bool} (hnx : nextC c m = askC c K T r r2 o) (h8 : m.at' ≤ 8)
    (hT : T = askT c m) (hK : K = askK m) (h3 : K = 3 → H = []) (hj : j < 80) {a : OpA} (ha : l[j]? = some a) (rec : List Value → St → Option Cut) :
    ∃ m' lv' H' s', leapfroglaw13x_SpliceFrees.l7 std rec [v, P b, lv, Value.int .i64 (j : Int)] s = rec [v, P b, lv', Value.int .i64 ((j + 1 : Nat) : Int)] s' ∧ Here c v l b m' lv' H' s' ∧ H'.length ≤ j + 1 := by
  have n1 := next_r h.hA h.inv
  rw [hnx] at n1
  unfold askC at n1
  have hjl : j < l.length := (List.getElem?_eq_some_iff.1 ha).1
  have e1 : (j : Int) < l.length := by omega
  have e2 : (j : Int) < 80 := by omega
  have e5 : IntKind.i64.wrap ((j : Int) + 1) = ((j + 1 : Nat) : Int) := by rw [wrap64 (by omega) (by omega)]; omega
  have hlen := h.hH.len
  rw [rowsZ_length] at hlen
  obtain ⟨b1, k1, rows1, ro1, a1, a2, a3⟩ := h.ho.at ha
  have hz : (0 < (H.length : Int)) = True ∨ ((0 < (H.length : Int)) = False) := Classical.propComplete _
  have hz3 : (0 < (H.length : Int)) = True → (K = 3) = False := fun g => eq_false fun e => by have := of_eq_true g; rw [h3 e] at this; simp at this
  cases hw : a.wake with
  | true =>
    obtain ⟨s', w1, w2⟩ := wakes (j := j) h
    refine ⟨_, lv, H, s', ?_, w2, by omega⟩
    rcases hz with hz | hz
    · have h3' := hz3 hz
      simp only [leapfroglaw13x_SpliceFrees.l7, leapfroglaw13x_SpliceFrees.l7.p1, std_bd, std_gd, std_gdS, std_gdU, std_cnd, std_it, bds, bdn, cndt, cndf, cndd, cndb, gdtt, gdff, gdtf, gdft, gdun, gdSun, gdSt, gdSf, gdStf, gdSft, gdUt, gdUf, gdUtf, gdUft, pikt, pikf, eqb1, neb1, eqb0, neb0, eqb2, neb2, eqb3n, neb3n, eqb3nn, neb3nn, eqk1, eqb_agg, neb_agg, eqks_nil, eqks_cons, bin_add, bin_sub, bin_mul, bin_lss, bin_leq, bin_gtr, bin_geq, un_notd, un_not, cvi_int, cvs_str, mn2_int, mx2_int, lenS_str, lenL_slc, bx_int, bx_bool, bx_str, bx_ptr, bx_slc, bx_agg, lcl_eq, xtr_eq, cellsA_agg, spl_z, spl_c, spl_s, bld_nil, bld_cons, bls_nil, bls_cons, prt_t, prt_f, nck_ptr, fld_ptr, lal, stl, decide_true, decide_false, decide_eq_true_eq, Bool.false_eq_true, Bool.not_true, Bool.not_false, Bool.and_true, Bool.and_false, Bool.true_and, Bool.false_and, Option.map_some, Option.map_none, if_true, if_false, ite_true, ite_false, reduceIte, and_self, and_true, true_and, false_and, and_false, true_or, or_true, false_or, or_false, eq_self, ne_eq, not_true_eq_false, not_false_eq_true, Nat.zero_add, Nat.reduceAdd, Nat.reduceLeDiff, Nat.reduceLT, Nat.reduceEqDiff, Int.reduceEq, Int.reduceLT, Int.reduceLE, Int.reduceNe, Nat.le_refl, Nat.add_zero, Option.some.injEq, Prod.mk.injEq, Value.agg.injEq, Value.bool.injEq, Value.int.injEq, Value.tuple.injEq, Array.mk.injEq, List.cons.injEq, and_self, List.length_cons, List.length_nil, List.getElem?_cons_zero, List.getElem?_cons_succ, List.getElem?_nil, List.drop_succ_cons, List.drop_zero, List.take_succ_cons, List.take_zero, List.take_nil, List.drop_nil, List.getD_cons_zero, List.getD_cons_succ, rep1, rep2, rep3, rep4, List.set_cons_zero, List.set_cons_succ, List.cons_append, List.nil_append, h.ho.len, e1, e2, n1, stepC, hlen, hz, h3', a1, ldc_row a2, a3, hw, w1, e5]
    · simp only [leapfroglaw13x_SpliceFrees.l7, leapfroglaw13x_SpliceFrees.l7.p1, std_bd, std_gd, std_gdS, std_gdU, std_cnd, std_it, bds, bdn, cndt, cndf, cndd, cndb, gdtt, gdff, gdtf, gdft, gdun, gdSun, gdSt, gdSf, gdStf, gdSft, gdUt, gdUf, gdUtf, gdUft, pikt, pikf, eqb1, neb1, eqb0, neb0, eqb2, neb2, eqb3n, neb3n, eqb3nn, neb3nn, eqk1, eqb_agg, neb_agg, eqks_nil, eqks_cons, bin_add, bin_sub, bin_mul, bin_lss, bin_leq, bin_gtr, bin_geq, un_notd, un_not, cvi_int, cvs_str, mn2_int, mx2_int, lenS_str, lenL_slc, bx_int, bx_bool, bx_str, bx_ptr, bx_slc, bx_agg, lcl_eq, xtr_eq, cellsA_agg, spl_z, spl_c, spl_s, bld_nil, bld_cons, bls_nil, bls_cons, prt_t, prt_f, nck_ptr, fld_ptr, lal, stl, decide_true, decide_false, decide_eq_true_eq, Bool.false_eq_true, Bool.not_true, Bool.not_false, Bool.and_true, Bool.and_false, Bool.true_and, Bool.false_and, Option.map_some, Option.map_none, if_true, if_false, ite_true, ite_false, reduceIte, and_self, and_true, true_and, false_and, and_false, true_or, or_true, false_or, or_false, eq_self, ne_eq, not_true_eq_false, not_false_eq_true, Nat.zero_add, Nat.reduceAdd, Nat.reduceLeDiff, Nat.reduceLT, Nat.reduceEqDiff, Int.reduceEq, Int.reduceLT, Int.reduceLE, Int.reduceNe, Nat.le_refl, Nat.add_zero, Option.some.injEq, Prod.mk.injEq, Value.agg.injEq, Value.bool.injEq, Value.int.injEq, Value.tuple.injEq, Array.mk.injEq, List.cons.injEq, and_self, List.length_cons, List.length_nil, List.getElem?_cons_zero, List.getElem?_cons_succ, List.getElem?_nil, List.drop_succ_cons, List.drop_zero, List.take_succ_cons, List.take_zero, List.take_nil, List.drop_nil, List.getD_cons_zero, List.getD_cons_succ, rep1, rep2, rep3, rep4, List.set_cons_zero, List.set_cons_succ, List.cons_append, List.nil_append, h.ho.len, e1, e2, n1, stepC, hlen, hz, a1, ldc_row a2, a3, hw, w1, e5]
  | false =>
    obtain ⟨s1, t1, t2, t3⟩ := tell_r h.fr h.hA h.inv a.a
    have fr1 := t3.2.2 h.fr
    obtain ⟨ho1, hi1⟩ := isO_stp h.ho h.hA h.fr t3
    have hA := h.hA
    obtain ⟨lp, fv, hr, _, _⟩ := hA
    have hH1 : Own 0 s1 1 lv (rowsZ H) := own_stp h.hH hr h.fr t3
    obtain ⟨u, s2, g1, g2, g3⟩ := held_r fr1 hH1 T ⟨K, c.wl, c.wb, r, r2, if o then c.oa else 0, if o then c.oo else 0⟩ a.a (by omega)
    have mm : More s1 s2 := ⟨g2.n, g2.old, g2.fresh⟩
    obtain ⟨ho2, hi2⟩ := isO_stp ho1 t2 fr1 (.more mm)
    obtain ⟨b2, k2, rows2, ro2, c1, c2, c3⟩ := ho1.at ha
    have c1' := c1
    rw [← hi2 j hjl] at c1'
    have hH2 : Own 0 s2 1 u (rowsZ (heldL H (askT c m).id (askK m) a.a.k)) := by
      rw [← hT, ← hK]
      rcases g3 with g | ⟨q, q1, q2, q3⟩
      · exact .inl g
      · exact .inr ⟨q, Nat.zero_le _, q2, q3⟩
    refine ⟨_, u, _, s2, ?_, ⟨t2.stp fr1 mm, inv_tell h.inv a.a, ho2, mm.fresh fr1, hH2, allow_tell h.inv h.al a.a h8⟩, by have := heldL_length H (askT c m).id (askK m) a.a.k; omega⟩
    simp only [stepC] at g1
    rcases hz with hz | hz
    · have h3' := hz3 hz
      simp only [leapfroglaw13x_SpliceFrees.l7, leapfroglaw13x_SpliceFrees.l7.p1, std_bd, std_gd, std_gdS, std_gdU, std_cnd, std_it, bds, bdn, cndt, cndf, cndd, cndb, gdtt, gdff, gdtf, gdft, gdun, gdSun, gdSt, gdSf, gdStf, gdSft, gdUt, gdUf, gdUtf, gdUft, pikt, pikf, eqb1, neb1, eqb0, neb0, eqb2, neb2, eqb3n, neb3n, eqb3nn, neb3nn, eqk1, eqb_agg, neb_agg, eqks_nil, eqks_cons, bin_add, bin_sub, bin_mul, bin_lss, bin_leq, bin_gtr, bin_geq, un_notd, un_not, cvi_int, cvs_str, mn2_int, mx2_int, lenS_str, lenL_slc, bx_int, bx_bool, bx_str, bx_ptr, bx_slc, bx_agg, lcl_eq, xtr_eq, cellsA_agg, spl_z, spl_c, spl_s, bld_nil, bld_cons, bls_nil, bls_cons, prt_t, prt_f, nck_ptr, fld_ptr, lal, stl, decide_true, decide_false, decide_eq_true_eq, Bool.false_eq_true, Bool.not_true, Bool.not_false, Bool.and_true, Bool.and_false, Bool.true_and, Bool.false_and, Option.map_some, Option.map_none, if_true, if_false, ite_true, ite_false, reduceIte, and_self, and_true, true_and, false_and, and_false, true_or, or_true, false_or, or_false, eq_self, ne_eq, not_true_eq_false, not_false_eq_true, Nat.zero_add, Nat.reduceAdd, Nat.reduceLeDiff, Nat.reduceLT, Nat.reduceEqDiff, Int.reduceEq, Int.reduceLT, Int.reduceLE, Int.reduceNe, Nat.le_refl, Nat.add_zero, Option.some.injEq, Prod.mk.injEq, Value.agg.injEq, Value.bool.injEq, Value.int.injEq, Value.tuple.injEq, Array.mk.injEq, List.cons.injEq, and_self, List.length_cons, List.length_nil, List.getElem?_cons_zero, List.getElem?_cons_succ, List.getElem?_nil, List.drop_succ_cons, List.drop_zero, List.take_succ_cons, List.take_zero, List.take_nil, List.drop_nil, List.getD_cons_zero, List.getD_cons_succ, rep1, rep2, rep3, rep4, List.set_cons_zero, List.set_cons_succ, List.cons_append, List.nil_append, h.ho.len, e1, e2, n1, stepC, hlen, hz, h3', a1, ldc_row a2, lda_row a2, a3, hw, t1, c1, lda_row c2, c3, g1, c1', sameQ, e5]
    · simp only [leapfroglaw13x_SpliceFrees.l7, leapfroglaw13x_SpliceFrees.l7.p1, std_bd, std_gd, std_gdS, std_gdU, std_cnd, std_it, bds, bdn, cndt, cndf, cndd, cndb, gdtt, gdff, gdtf, gdft, gdun, gdSun, gdSt, gdSf, gdStf, gdSft, gdUt, gdUf, gdUtf, gdUft, pikt, pikf, eqb1, neb1, eqb0, neb0, eqb2, neb2, eqb3n, neb3n, eqb3nn, neb3nn, eqk1, eqb_agg, neb_agg, eqks_nil, eqks_cons, bin_add, bin_sub, bin_mul, bin_lss, bin_leq, bin_gtr, bin_geq, un_notd, un_not, cvi_int, cvs_str, mn2_int, mx2_int, lenS_str, lenL_slc, bx_int, bx_bool, bx_str, bx_ptr, bx_slc, bx_agg, lcl_eq, xtr_eq, cellsA_agg, spl_z, spl_c, spl_s, bld_nil, bld_cons, bls_nil, bls_cons, prt_t, prt_f, nck_ptr, fld_ptr, lal, stl, decide_true, decide_false, decide_eq_true_eq, Bool.false_eq_true, Bool.not_true, Bool.not_false, Bool.and_true, Bool.and_false, Bool.true_and, Bool.false_and, Option.map_some, Option.map_none, if_true, if_false, ite_true, ite_false, reduceIte, and_self, and_true, true_and, false_and, and_false, true_or, or_true, false_or, or_false, eq_self, ne_eq, not_true_eq_false, not_false_eq_true, Nat.zero_add, Nat.reduceAdd, Nat.reduceLeDiff, Nat.reduceLT, Nat.reduceEqDiff, Int.reduceEq, Int.reduceLT, Int.reduceLE, Int.reduceNe, Nat.le_refl, Nat.add_zero, Option.some.injEq, Prod.mk.injEq, Value.agg.injEq, Value.bool.injEq, Value.int.injEq, Value.tuple.injEq, Array.mk.injEq, List.cons.injEq, and_self, List.length_cons, List.length_nil, List.getElem?_cons_zero, List.getElem?_cons_succ, List.getElem?_nil, List.drop_succ_cons, List.drop_zero, List.take_succ_cons, List.take_zero, List.take_nil, List.drop_nil, List.getD_cons_zero, List.getD_cons_succ, rep1, rep2, rep3, rep4, List.set_cons_zero, List.set_cons_succ, List.cons_append, List.nil_append, h.ho.len, e1, e2, n1, stepC, hlen, hz, a1, ldc_row a2, lda_row a2, a3, hw, t1, c1, lda_row c2, c3, g1, c1', sameQ, e5]

/-- Where nothing is asked. -/
theorem stepN {c : Cf} {v : Value} {l : List OpA} {b j : Nat} {m : Mm} {lv : Value} {H : List Int} {s : St} (h : Here c v l b m lv H s) {K : Int} {R : Res} (hK : K = 2 ∨ K = 3) (hnx : nextC c m = stepC K zR zAsk R) (h9 : 9 ≤ m.at')
    (hj : j < 80) {a : OpA} (ha : l[j]? = some a) (rec : List Value → St → Option Cut) :
    ∃ m' s', leapfroglaw13x_SpliceFrees.l7 std rec [v, P b, lv, Value.int .i64 (j : Int)] s = rec [v, P b, lv, Value.int .i64 ((j + 1 : Nat) : Int)] s' ∧ Here c v l b m' lv [] s' := by
  have n1 := next_r h.hA h.inv
  rw [hnx] at n1
  have hE : H = [] := by
    cases H with
    | nil => rfl
    | cons x H => exact (show False by have := h.al x (List.mem_cons_self ..); unfold allow at this; rw [if_neg (by omega), if_neg (by omega), if_neg (by omega)] at this; exact this).elim
  subst hE
  have hjl : j < l.length := (List.getElem?_eq_some_iff.1 ha).1
  have e1 : (j : Int) < l.length := by omega
  have e2 : (j : Int) < 80 := by omega
  have e5 : IntKind.i64.wrap ((j : Int) + 1) = ((j + 1 : Nat) : Int) := by rw [wrap64 (by omega) (by omega)]; omega
  have hlen : lenL lv = some (.int .i64 0) := h.hH.len
  obtain ⟨b1, k1, rows1, ro1, a1, a2, a3⟩ := h.ho.at ha
  cases hw : a.wake with
  | true =>
    obtain ⟨s', w1, w2⟩ := wakes (j := j) h
    refine ⟨_, s', ?_, w2⟩
    simp only [leapfroglaw13x_SpliceFrees.l7, leapfroglaw13x_SpliceFrees.l7.p1, std_bd, std_gd, std_gdS, std_gdU, std_cnd, std_it, bds, bdn, cndt, cndf, cndd, cndb, gdtt, gdff, gdtf, gdft, gdun, gdSun, gdSt, gdSf, gdStf, gdSft, gdUt, gdUf, gdUtf, gdUft, pikt, pikf, eqb1, neb1, eqb0, neb0, eqb2, neb2, eqb3n, neb3n, eqb3nn, neb3nn, eqk1, eqb_agg, neb_agg, eqks_nil, eqks_cons, bin_add, bin_sub, bin_mul, bin_lss, bin_leq, bin_gtr, bin_geq, un_notd, un_not, cvi_int, cvs_str, mn2_int, mx2_int, lenS_str, lenL_slc, bx_int, bx_bool, bx_str, bx_ptr, bx_slc, bx_agg, lcl_eq, xtr_eq, cellsA_agg, spl_z, spl_c, spl_s, bld_nil, bld_cons, bls_nil, bls_cons, prt_t, prt_f, nck_ptr, fld_ptr, lal, stl, decide_true, decide_false, decide_eq_true_eq, Bool.false_eq_true, Bool.not_true, Bool.not_false, Bool.and_true, Bool.and_false, Bool.true_and, Bool.false_and, Option.map_some, Option.map_none, if_true, if_false, ite_true, ite_false, reduceIte, and_self, and_true, true_and, false_and, and_false, true_or, or_true, false_or, or_false, eq_self, ne_eq, not_true_eq_false, not_false_eq_true, Nat.zero_add, Nat.reduceAdd, Nat.reduceLeDiff, Nat.reduceLT, Nat.reduceEqDiff, Int.reduceEq, Int.reduceLT, Int.reduceLE, Int.reduceNe, Nat.le_refl, Nat.add_zero, Option.some.injEq, Prod.mk.injEq, Value.agg.injEq, Value.bool.injEq, Value.int.injEq, Value.tuple.injEq, Array.mk.injEq, List.cons.injEq, and_self, List.length_cons, List.length_nil, List.getElem?_cons_zero, List.getElem?_cons_succ, List.getElem?_nil, List.drop_succ_cons, List.drop_zero, List.take_succ_cons, List.take_zero, List.take_nil, List.drop_nil, List.getD_cons_zero, List.getD_cons_succ, rep1, rep2, rep3, rep4, List.set_cons_zero, List.set_cons_succ, List.cons_append, List.nil_append, h.ho.len, e1, e2, n1, stepC, hlen, a1, ldc_row a2, a3, hw, w1, e5]
  | false =>
    obtain ⟨s1, t1, t2, t3⟩ := tell_r h.fr h.hA h.inv a.a
    have hA := h.hA
    obtain ⟨lp, fv, hr, _, _⟩ := hA
    have ht : tellC c m a.a = m := by
      unfold tellC
      rw [if_neg (by omega), if_neg (by omega), if_neg (by omega), if_neg (by omega), if_neg (by omega), if_neg (by omega), if_neg (by omega), if_neg (by omega)]
    refine ⟨_, s1, ?_, ⟨t2, inv_tell h.inv a.a, (isO_stp h.ho h.hA h.fr t3).1, t3.2.2 h.fr, own_stp h.hH hr h.fr t3, fun x hx => by cases hx⟩⟩
    rcases hK with rfl | rfl
    · simp only [leapfroglaw13x_SpliceFrees.l7, leapfroglaw13x_SpliceFrees.l7.p1, std_bd, std_gd, std_gdS, std_gdU, std_cnd, std_it, bds, bdn, cndt, cndf, cndd, cndb, gdtt, gdff, gdtf, gdft, gdun, gdSun, gdSt, gdSf, gdStf, gdSft, gdUt, gdUf, gdUtf, gdUft, pikt, pikf, eqb1, neb1, eqb0, neb0, eqb2, neb2, eqb3n, neb3n, eqb3nn, neb3nn, eqk1, eqb_agg, neb_agg, eqks_nil, eqks_cons, bin_add, bin_sub, bin_mul, bin_lss, bin_leq, bin_gtr, bin_geq, un_notd, un_not, cvi_int, cvs_str, mn2_int, mx2_int, lenS_str, lenL_slc, bx_int, bx_bool, bx_str, bx_ptr, bx_slc, bx_agg, lcl_eq, xtr_eq, cellsA_agg, spl_z, spl_c, spl_s, bld_nil, bld_cons, bls_nil, bls_cons, prt_t, prt_f, nck_ptr, fld_ptr, lal, stl, decide_true, decide_false, decide_eq_true_eq, Bool.false_eq_true, Bool.not_true, Bool.not_false, Bool.and_true, Bool.and_false, Bool.true_and, Bool.false_and, Option.map_some, Option.map_none, if_true, if_false, ite_true, ite_false, reduceIte, and_self, and_true, true_and, false_and, and_false, true_or, or_true, false_or, or_false, eq_self, ne_eq, not_true_eq_false, not_false_eq_true, Nat.zero_add, Nat.reduceAdd, Nat.reduceLeDiff, Nat.reduceLT, Nat.reduceEqDiff, Int.reduceEq, Int.reduceLT, Int.reduceLE, Int.reduceNe, Nat.le_refl, Nat.add_zero, Option.some.injEq, Prod.mk.injEq, Value.agg.injEq, Value.bool.injEq, Value.int.injEq, Value.tuple.injEq, Array.mk.injEq, List.cons.injEq, and_self, List.length_cons, List.length_nil, List.getElem?_cons_zero, List.getElem?_cons_succ, List.getElem?_nil, List.drop_succ_cons, List.drop_zero, List.take_succ_cons, List.take_zero, List.take_nil, List.drop_nil, List.getD_cons_zero, List.getD_cons_succ, rep1, rep2, rep3, rep4, List.set_cons_zero, List.set_cons_succ, List.cons_append, List.nil_append, h.ho.len, e1, e2, n1, stepC, hlen, a1, ldc_row a2, lda_row a2, a3, hw, t1, e5]
    · simp only [leapfroglaw13x_SpliceFrees.l7, leapfroglaw13x_SpliceFrees.l7.p1, std_bd, std_gd, std_gdS, std_gdU, std_cnd, std_it, bds, bdn, cndt, cndf, cndd, cndb, gdtt, gdff, gdtf, gdft, gdun, gdSun, gdSt, gdSf, gdStf, gdSft, gdUt, gdUf, gdUtf, gdUft, pikt, pikf, eqb1, neb1, eqb0, neb0, eqb2, neb2, eqb3n, neb3n, eqb3nn, neb3nn, eqk1, eqb_agg, neb_agg, eqks_nil, eqks_cons, bin_add, bin_sub, bin_mul, bin_lss, bin_leq, bin_gtr, bin_geq, un_notd, un_not, cvi_int, cvs_str, mn2_int, mx2_int, lenS_str, lenL_slc, bx_int, bx_bool, bx_str, bx_ptr, bx_slc, bx_agg, lcl_eq, xtr_eq, cellsA_agg, spl_z, spl_c, spl_s, bld_nil, bld_cons, bls_nil, bls_cons, prt_t, prt_f, nck_ptr, fld_ptr, lal, stl, decide_true, decide_false, decide_eq_true_eq, Bool.false_eq_true, Bool.not_true, Bool.not_false, Bool.and_true, Bool.and_false, Bool.true_and, Bool.false_and, Option.map_some, Option.map_none, if_true, if_false, ite_true, ite_false, reduceIte, and_self, and_true, true_and, false_and, and_false, true_or, or_true, false_or, or_false, eq_self, ne_eq, not_true_eq_false, not_false_eq_true, Nat.zero_add, Nat.reduceAdd, Nat.reduceLeDiff, Nat.reduceLT, Nat.reduceEqDiff, Int.reduceEq, Int.reduceLT, Int.reduceLE, Int.reduceNe, Nat.le_refl, Nat.add_zero, Option.some.injEq, Prod.mk.injEq, Value.agg.injEq, Value.bool.injEq, Value.int.injEq, Value.tuple.injEq, Array.mk.injEq, List.cons.injEq, and_self, List.length_cons, List.length_nil, List.getElem?_cons_zero, List.getElem?_cons_succ, List.getElem?_nil, List.drop_succ_cons, List.drop_zero, List.take_succ_cons, List.take_zero, List.take_nil, List.drop_nil, List.getD_cons_zero, List.getD_cons_succ, rep1, rep2, rep3, rep4, List.set_cons_zero, List.set_cons_succ, List.cons_append, List.nil_append, h.ho.len, e1, e2, n1, stepC, hlen, a1, ldc_row a2, lda_row a2, a3, hw, t1, e5]

theorem loop {c : Cf} {v : Value} {l : List OpA} {b : Nat} {m : Mm} {lv : Value} {s : St} (h : Here c v l b m lv [] s) :
    ∃ s', iter (leapfroglaw13x_SpliceFrees.l7 std) BIG [v, P b, lv, Value.int .i64 ((0 : Nat) : Int)] s = some ((0, [], s') : Cut) := by
  refine iter_rel (fun d xs s' => ∃ m lv H j, Here c v l b m lv H s' ∧ H.length ≤ j ∧ j + d = 80 ∧ xs = [v, P b, lv, Value.int .i64 (j : Int)])
    (fun y : Option Cut => ∃ s', y = some ((0, [], s') : Cut)) ?_ BIG 80 _ s (by unfold BIG; omega) ⟨m, lv, [], 0, h, Nat.le_refl _, by omega, rfl⟩
  rintro d xs s rec ⟨m, lv, H, j, h, hH, hj, rfl⟩ ih
  by_cases h1 : j < l.length
  · have e1 : (j : Int) < l.length := by omega
    cases d with
    | zero =>
      have e2 : ¬ ((j : Int) < 80) := by omega
      exact ⟨s, by simp only [leapfroglaw13x_SpliceFrees.l7, std_bd, std_gd, std_gdS, std_gdU, std_cnd, std_it, bds, bdn, cndt, cndf, cndd, cndb, gdtt, gdff, gdtf, gdft, gdun, gdSun, gdSt, gdSf, gdStf, gdSft, gdUt, gdUf, gdUtf, gdUft, pikt, pikf, eqb1, neb1, eqb0, neb0, eqb2, neb2, eqb3n, neb3n, eqb3nn, neb3nn, eqk1, eqb_agg, neb_agg, eqks_nil, eqks_cons, bin_add, bin_sub, bin_mul, bin_lss, bin_leq, bin_gtr, bin_geq, un_notd, un_not, cvi_int, cvs_str, mn2_int, mx2_int, lenS_str, lenL_slc, bx_int, bx_bool, bx_str, bx_ptr, bx_slc, bx_agg, lcl_eq, xtr_eq, cellsA_agg, spl_z, spl_c, spl_s, bld_nil, bld_cons, bls_nil, bls_cons, prt_t, prt_f, nck_ptr, fld_ptr, lal, stl, decide_true, decide_false, decide_eq_true_eq, Bool.false_eq_true, Bool.not_true, Bool.not_false, Bool.and_true, Bool.and_false, Bool.true_and, Bool.false_and, Option.map_some, Option.map_none, if_true, if_false, ite_true, ite_false, reduceIte, and_self, and_true, true_and, false_and, and_false, true_or, or_true, false_or, or_false, eq_self, ne_eq, not_true_eq_false, not_false_eq_true, Nat.zero_add, Nat.reduceAdd, Nat.reduceLeDiff, Nat.reduceLT, Nat.reduceEqDiff, Int.reduceEq, Int.reduceLT, Int.reduceLE, Int.reduceNe, Nat.le_refl, Nat.add_zero, Option.some.injEq, Prod.mk.injEq, Value.agg.injEq, Value.bool.injEq, Value.int.injEq, Value.tuple.injEq, Array.mk.injEq, List.cons.injEq, and_self, List.length_cons, List.length_nil, List.getElem?_cons_zero, List.getElem?_cons_succ, List.getElem?_nil, List.drop_succ_cons, List.drop_zero, List.take_succ_cons, List.take_zero, List.take_nil, List.drop_nil, List.getD_cons_zero, List.getD_cons_succ, rep1, rep2, rep3, rep4, List.set_cons_zero, List.set_cons_succ, List.cons_append, List.nil_append, h.ho.len, e1, e2]⟩
    | succ d =>
      obtain ⟨a, ha⟩ := get_some h1
      have hi := h.inv
      have go : ∀ {K : Int} {T r r2 : Rf} {o : Bool}, m.at' ≤ 8 → nextC c m = askC c K T r r2 o → T = askT c m → K = askK m → (K = 3 → H = []) → ∃ s', leapfroglaw13x_SpliceFrees.l7 std rec [v, P b, lv, Value.int .i64 (j : Int)] s = some ((0, [], s') : Cut) := by
        intro K T r r2 o h8 hnx hT hK h3
        obtain ⟨m', lv', H', s', g1, g2, g3⟩ := step h hH hnx h8 hT hK h3 (by omega) ha rec
        rw [g1]
        exact ih d _ _ (by omega) ⟨m', lv', H', j + 1, g2, g3, by omega, rfl⟩
      have goN : ∀ {K : Int} {R : Res}, (K = 2 ∨ K = 3) → nextC c m = stepC K zR zAsk R → 9 ≤ m.at' → ∃ s', leapfroglaw13x_SpliceFrees.l7 std rec [v, P b, lv, Value.int .i64 (j : Int)] s = some ((0, [], s') : Cut) := by
        intro K R hK hnx h9
        obtain ⟨m', s', g1, g2⟩ := stepN h hK hnx h9 (by omega) ha rec
        rw [g1]
        exact ih d _ _ (by omega) ⟨m', lv, [], j + 1, g2, Nat.zero_le _, by omega, rfl⟩
      have hp : m.at' = 1 ∨ m.at' = 2 ∨ m.at' = 3 ∨ m.at' = 4 ∨ m.at' = 5 ∨ m.at' = 6 ∨ m.at' = 7 ∨ m.at' = 8 ∨ m.at' = 9 ∨ m.at' = 10 := by have := hi.1; have := hi.2.1; omega
      rcases hp with hp | hp | hp | hp | hp | hp | hp | hp | hp | hp
      · refine go (K := 3) (T := m.p) (by omega) (by simp [nextC, hp]; rfl) (by simp [askT, hp]) (by simp [askK, hp]) fun _ => ?_
        cases hE : H with
        | nil => rfl
        | cons x H' => exact (show False by have := h.al x (by rw [hE]; exact List.mem_cons_self ..); unfold allow at this; rw [if_neg (by omega), if_neg (by omega), if_neg (by omega)] at this; exact this).elim
      · exact go (K := 1) (T := m.r) (by omega) (by simp [nextC, hp]; rfl) (by simp [askT, hp]) (by simp [askK, hp]) (by omega)
      · exact go (K := 7) (T := c.me) (by omega) (by simp [nextC, hp]; rfl) (by simp [askT, hp]) (by simp [askK, hp]) (by omega)
      · exact go (K := 5) (T := m.p) (by omega) (by simp [nextC, hp]; rfl) (by simp [askT, hp]) (by simp [askK, hp]) (by omega)
      · exact go (K := 6) (T := m.r) (by omega) (by simp [nextC, hp]; rfl) (by simp [askT, hp]) (by simp [askK, hp]) (by omega)
      · exact go (K := 4) (T := c.me) (by omega) (by simp [nextC, hp]; rfl) (by simp [askT, hp]) (by simp [askK, hp]) (by omega)
      · exact go (K := 8) (T := c.me) (by omega) (by simp [nextC, hp]; rfl) (by simp [askT, hp]) (by simp [askK, hp]) (by omega)
      · exact go (K := 4) (T := m.p) (by omega) (by simp [nextC, hp]; rfl) (by simp [askT, hp]) (by simp [askK, hp]) (by omega)
      · exact goN (K := 2) (R := zRes) (.inl rfl) (by simp [nextC, hp]) (by omega)
      · exact goN (K := 3) (R := m.res) (.inr rfl) (by simp [nextC, hp]) (by omega)
  · have e1 : ¬ ((j : Int) < l.length) := by omega
    exact ⟨s, by simp only [leapfroglaw13x_SpliceFrees.l7, std_bd, std_gd, std_gdS, std_gdU, std_cnd, std_it, bds, bdn, cndt, cndf, cndd, cndb, gdtt, gdff, gdtf, gdft, gdun, gdSun, gdSt, gdSf, gdStf, gdSft, gdUt, gdUf, gdUtf, gdUft, pikt, pikf, eqb1, neb1, eqb0, neb0, eqb2, neb2, eqb3n, neb3n, eqb3nn, neb3nn, eqk1, eqb_agg, neb_agg, eqks_nil, eqks_cons, bin_add, bin_sub, bin_mul, bin_lss, bin_leq, bin_gtr, bin_geq, un_notd, un_not, cvi_int, cvs_str, mn2_int, mx2_int, lenS_str, lenL_slc, bx_int, bx_bool, bx_str, bx_ptr, bx_slc, bx_agg, lcl_eq, xtr_eq, cellsA_agg, spl_z, spl_c, spl_s, bld_nil, bld_cons, bls_nil, bls_cons, prt_t, prt_f, nck_ptr, fld_ptr, lal, stl, decide_true, decide_false, decide_eq_true_eq, Bool.false_eq_true, Bool.not_true, Bool.not_false, Bool.and_true, Bool.and_false, Bool.true_and, Bool.false_and, Option.map_some, Option.map_none, if_true, if_false, ite_true, ite_false, reduceIte, and_self, and_true, true_and, false_and, and_false, true_or, or_true, false_or, or_false, eq_self, ne_eq, not_true_eq_false, not_false_eq_true, Nat.zero_add, Nat.reduceAdd, Nat.reduceLeDiff, Nat.reduceLT, Nat.reduceEqDiff, Int.reduceEq, Int.reduceLT, Int.reduceLE, Int.reduceNe, Nat.le_refl, Nat.add_zero, Option.some.injEq, Prod.mk.injEq, Value.agg.injEq, Value.bool.injEq, Value.int.injEq, Value.tuple.injEq, Array.mk.injEq, List.cons.injEq, and_self, List.length_cons, List.length_nil, List.getElem?_cons_zero, List.getElem?_cons_succ, List.getElem?_nil, List.drop_succ_cons, List.drop_zero, List.take_succ_cons, List.take_zero, List.take_nil, List.drop_nil, List.getD_cons_zero, List.getD_cons_succ, rep1, rep2, rep3, rep4, List.set_cons_zero, List.set_cons_succ, List.cons_append, List.nil_append, h.ho.len, e1]⟩

theorem law (s : St) (us : List Value) (ha : AllRo s) (hf : ∀ b, s.n ≤ b → s.get b = none) (h : Args s [(true, [.i .i64, .i .u64, .i .i64, .i .i64, .i .u64, .i .i64, .i .u64, .i .i64, .i .i64, .i .u64, .i .i64, .i .u64, .i .i64, .i .i64]), (false, [.sl [.b, .i .i64, .b, .i .i64, .i .i64, .i .u64, .i .i64, .i .u64, .i .i64, .i .i64, .i .u64, .i .i64, .i .u64, .sl [.i .u8]]])] us) :
    ∃ s', leapfroglaw13x_SpliceFrees.w us s = some (.bool true, s') := by
  simp only [Args, Arg] at h
  obtain ⟨_, _, rfl, ⟨_, rfl, h1⟩, v, _, rfl, h2, rfl⟩ := h
  unfold Leaf.Are Leaf.Are at h2
  obtain ⟨v', _, g1, h2, rfl⟩ := h2
  obtain rfl : v = v' := (List.cons.inj g1).1
  simp only [Leaf.Are, Leaf.Is] at h1
  obtain ⟨_, _, rfl, ⟨wl, rfl, _⟩, _, _, rfl, ⟨wb, rfl, hwb⟩, _, _, rfl, ⟨i1, rfl, _⟩, _, _, rfl, ⟨i2, rfl, _⟩, _, _, rfl, ⟨i3, rfl, _⟩, _, _, rfl, ⟨i4, rfl, _⟩, _, _, rfl, ⟨i5, rfl, hi5⟩, _, _, rfl, ⟨f1, rfl, _⟩, _, _, rfl, ⟨f2, rfl, _⟩, _, _, rfl, ⟨f3, rfl, _⟩, _, _, rfl, ⟨f4, rfl, _⟩, _, _, rfl, ⟨f5, rfl, _⟩, _, _, rfl, ⟨oa, rfl, _⟩, _, _, rfl, ⟨oo, rfl, _⟩, rfl⟩ := h1
  obtain ⟨l, hl⟩ := isO_of h2
  have hw0 := (wf_u64 hwb).1
  have hm0 := (wf_u64 hi5).1
  show ∃ s', leapfroglaw13x_SpliceFrees.v (.agg ⟨(⟨wl, wb, ⟨i1, i2, i3, i4, i5⟩, ⟨f1, f2, f3, f4, f5⟩, oa, oo⟩ : Cf).cs⟩) v s = some (.bool true, s')
  generalize hc : (⟨wl, wb, ⟨i1, i2, i3, i4, i5⟩, ⟨f1, f2, f3, f4, f5⟩, oa, oo⟩ : Cf) = c
  have hm0 : 0 ≤ c.me.bt := by rw [← hc]; exact hm0
  have hw0 : 0 ≤ c.wb := by rw [← hc]; exact hw0
  by_cases hC : okC c
  · have q1 := new_yes hf hm0 hw0 hC
    have H0 : Here c v l s.n (m0 c) (.slice none 0 0) [] (s.new (.row 44 [urow c (m0 c) (.pointer none) .nilFunc] false)) := by
      refine ⟨⟨_, _, get_new_same, rfl, fun e => by simp [m0] at e⟩, by unfold InvM m0; simp, (hl.keep fun q rows ro hq => ?_).1, Fresh.new hf, .inl ⟨rfl, rfl⟩, fun x hx => by cases hx⟩
      rw [get_new_ne (by have := Fresh.lt hf hq; omega)]; exact hq
    obtain ⟨s', e⟩ := loop H0
    rw [show ((0 : Nat) : Int) = 0 from rfl] at e
    generalize s.new (.row 44 [urow c (m0 c) (.pointer none) .nilFunc] false) = s3 at *
    exact ⟨s', by simp only [leapfroglaw13x_SpliceFrees.v, leapfroglaw13x_SpliceFrees.t, std_bd, std_gd, std_gdS, std_gdU, std_cnd, std_it, bds, bdn, cndt, cndf, cndd, cndb, gdtt, gdff, gdtf, gdft, gdun, gdSun, gdSt, gdSf, gdStf, gdSft, gdUt, gdUf, gdUtf, gdUft, pikt, pikf, eqb1, neb1, eqb0, neb0, eqb2, neb2, eqb3n, neb3n, eqb3nn, neb3nn, eqk1, eqb_agg, neb_agg, eqks_nil, eqks_cons, bin_add, bin_sub, bin_mul, bin_lss, bin_leq, bin_gtr, bin_geq, un_notd, un_not, cvi_int, cvs_str, mn2_int, mx2_int, lenS_str, lenL_slc, bx_int, bx_bool, bx_str, bx_ptr, bx_slc, bx_agg, lcl_eq, xtr_eq, cellsA_agg, spl_z, spl_c, spl_s, bld_nil, bld_cons, bls_nil, bls_cons, prt_t, prt_f, nck_ptr, fld_ptr, lal, stl, decide_true, decide_false, decide_eq_true_eq, Bool.false_eq_true, Bool.not_true, Bool.not_false, Bool.and_true, Bool.and_false, Bool.true_and, Bool.false_and, Option.map_some, Option.map_none, if_true, if_false, ite_true, ite_false, reduceIte, and_self, and_true, true_and, false_and, and_false, true_or, or_true, false_or, or_false, eq_self, ne_eq, not_true_eq_false, not_false_eq_true, Nat.zero_add, Nat.reduceAdd, Nat.reduceLeDiff, Nat.reduceLT, Nat.reduceEqDiff, Int.reduceEq, Int.reduceLT, Int.reduceLE, Int.reduceNe, Nat.le_refl, Nat.add_zero, Option.some.injEq, Prod.mk.injEq, Value.agg.injEq, Value.bool.injEq, Value.int.injEq, Value.tuple.injEq, Array.mk.injEq, List.cons.injEq, and_self, List.length_cons, List.length_nil, List.getElem?_cons_zero, List.getElem?_cons_succ, List.getElem?_nil, List.drop_succ_cons, List.drop_zero, List.take_succ_cons, List.take_zero, List.take_nil, List.drop_nil, List.getD_cons_zero, List.getD_cons_succ, rep1, rep2, rep3, rep4, List.set_cons_zero, List.set_cons_succ, List.cons_append, List.nil_append, q1, e, alive_r]⟩
  · obtain ⟨q1, q2⟩ := new_no hf hm0 hw0 hC
    exact ⟨s, by simp only [leapfroglaw13x_SpliceFrees.v, leapfroglaw13x_SpliceFrees.t, std_bd, std_gd, std_gdS, std_gdU, std_cnd, std_it, bds, bdn, cndt, cndf, cndd, cndb, gdtt, gdff, gdtf, gdft, gdun, gdSun, gdSt, gdSf, gdStf, gdSft, gdUt, gdUf, gdUtf, gdUft, pikt, pikf, eqb1, neb1, eqb0, neb0, eqb2, neb2, eqb3n, neb3n, eqb3nn, neb3nn, eqk1, eqb_agg, neb_agg, eqks_nil, eqks_cons, bin_add, bin_sub, bin_mul, bin_lss, bin_leq, bin_gtr, bin_geq, un_notd, un_not, cvi_int, cvs_str, mn2_int, mx2_int, lenS_str, lenL_slc, bx_int, bx_bool, bx_str, bx_ptr, bx_slc, bx_agg, lcl_eq, xtr_eq, cellsA_agg, spl_z, spl_c, spl_s, bld_nil, bld_cons, bls_nil, bls_cons, prt_t, prt_f, nck_ptr, fld_ptr, lal, stl, decide_true, decide_false, decide_eq_true_eq, Bool.false_eq_true, Bool.not_true, Bool.not_false, Bool.and_true, Bool.and_false, Bool.true_and, Bool.false_and, Option.map_some, Option.map_none, if_true, if_false, ite_true, ite_false, reduceIte, and_self, and_true, true_and, false_and, and_false, true_or, or_true, false_or, or_false, eq_self, ne_eq, not_true_eq_false, not_false_eq_true, Nat.zero_add, Nat.reduceAdd, Nat.reduceLeDiff, Nat.reduceLT, Nat.reduceEqDiff, Int.reduceEq, Int.reduceLT, Int.reduceLE, Int.reduceNe, Nat.le_refl, Nat.add_zero, Option.some.injEq, Prod.mk.injEq, Value.agg.injEq, Value.bool.injEq, Value.int.injEq, Value.tuple.injEq, Array.mk.injEq, List.cons.injEq, and_self, List.length_cons, List.length_nil, List.getElem?_cons_zero, List.getElem?_cons_succ, List.getElem?_nil, List.drop_succ_cons, List.drop_zero, List.take_succ_cons, List.take_zero, List.take_nil, List.drop_nil, List.getD_cons_zero, List.getD_cons_succ, rep1, rep2, rep3, rep4, List.set_cons_zero, List.set_cons_succ, List.cons_append, List.nil_append, q1, q2, alive_r]⟩
end SpliceFrees
end Go.Proofs.Yteiagjbjokldgaa
