/-
  VecJoins, VecParted and VecBack, over abstract values.
-/
import Derived.Test.YtgdloihagiddhaaVecF
import Derived.Test.YtgdloihagiddhaaGS0
set_option linter.unusedSimpArgs false
set_option linter.unusedVariables false
set_option maxRecDepth 100000
namespace Go.Proofs.Ytgdloihagiddhaa
open Go.Sim Go.Sim.Bt
attribute [local congr] bdc cndc itec gdc gdSc gdUc

theorem alive_rr (s : St) : leapfroglaw01x_aliveC.r s = some (.bool true) := rfl

def pairOf : List Value → Int × Int
  | [.int _ a, .int _ b] => (a, b)
  | _ => (0, 0)

theorem isV_of {s : St} {v : Value} (h : Leaf.Is s (.sl [.i .i64, .i .u64]) v) : ∃ l, IsV s v l ∧ (∀ p ∈ l, 0 ≤ p.2) ∧ (v = .slice none 0 0 ∨ ∃ b cap rows, v = .slice (some ⟨b, 0, some 0⟩) l.length (2 * cap) ∧ l.length ≤ cap ∧ s.get b = some (.row 2 rows true) ∧ ∀ (j : Nat) p, l[j]? = some p → rows[j]? = some [.int .i64 p.1, .int .u64 p.2]) := by
  unfold Leaf.Is at h
  rcases h with rfl | ⟨b, len, cap, rows, rfl, h1, h2, h3, h4, h5⟩
  · exact ⟨[], .inl ⟨rfl, rfl⟩, fun p hp => (by cases hp), .inl rfl⟩
  · have hrow : ∀ r ∈ rows, r = [.int .i64 (pairOf r).1, .int .u64 (pairOf r).2] ∧ 0 ≤ (pairOf r).2 := by
      intro r hr
      have := h5 r hr
      simp only [Leaf.Are, Leaf.Is] at this
      obtain ⟨_, _, rfl, ⟨a, rfl, ha⟩, _, _, rfl, ⟨c, rfl, hc⟩, rfl⟩ := this
      exact ⟨rfl, (wf_u64 hc).1⟩
    have hlen : ((rows.take len).map pairOf).length = len := by simp; omega
    have hget : ∀ (j : Nat) p, ((rows.take len).map pairOf)[j]? = some p → rows[j]? = some [.int .i64 p.1, .int .u64 p.2] := by
      intro j p hp
      rw [List.getElem?_map, Option.map_eq_some_iff] at hp
      obtain ⟨r, hr, rfl⟩ := hp
      rw [List.getElem?_take] at hr
      split at hr
      · rw [hr, ← (hrow r (List.mem_of_getElem? hr)).1]
      · cases hr
    refine ⟨(rows.take len).map pairOf, .inr ⟨b, 0, 2 * cap, rows, true, by rw [hlen], h3, fun j p hp => by rw [Nat.zero_add]; exact hget j p hp⟩, fun p hp => ?_, .inr ⟨b, cap, rows, by rw [hlen], by rw [hlen]; exact h1, h3, hget⟩⟩
    simp only [List.mem_map] at hp
    obtain ⟨r, hr, rfl⟩ := hp
    exact (hrow r (List.mem_of_mem_take hr)).2

theorem joins_body {s : St} (hf : Fresh s) {v : Value} {l : List (Int × Int)} (h : IsV s v l) (hl : l.length ≤ 12) (hw : ∀ p ∈ l, 0 ≤ p.2) :
    ∃ (s' : St) (o : Int × Int) (e : Int), vec_Join.r v s = some (T2 (VI o.1 o.2) e) ∧ leapfrogref01x_Join.v v s = some (T2 (VI o.1 o.2) e, s') := by
  by_cases hk : ∀ p ∈ l, okV p.1 p.2
  · obtain ⟨l', rfl, hok⟩ := exists_cast hk
    rw [castV_length] at hl
    obtain ⟨s', _, h2⟩ := rJoin_ok hf h (by omega) hok
    have h1 := Join_ok h (by omega) hok
    cases hj : jn l' 0 0 with
    | none => rw [hj] at h1 h2; exact ⟨s', (0, 0), 2, h1, h2⟩
    | some q => rw [hj] at h1 h2; exact ⟨s', ((q.1 : Int), (q.2 : Int)), 0, h1, h2⟩
  · exact ⟨s, (0, 0), 10, Join_no h (by omega) hw hk, rJoin_no h (by omega) hw hk⟩

namespace VecJoins
theorem law (s : St) (us : List Value) (ha : AllRo s) (hf : ∀ b, s.n ≤ b → s.get b = none) (h : Args s [(false, [.sl [.i .i64, .i .u64]])] us) : ∃ s', leapfroglaw01x_VecJoins.w us s = some (.bool true, s') := by
  unfold Args Args Arg Leaf.Are Leaf.Are at h
  obtain ⟨v, _, rfl, ⟨_, _, h1, h2, rfl⟩, rfl⟩ := h
  cases h1
  show ∃ s', leapfroglaw01x_VecJoins.v v s = some (.bool true, s')
  obtain ⟨l, hv, hw, hcap⟩ := isV_of h2
  by_cases h12 : 12 < l.length
  · rcases hcap with rfl | ⟨b, cap, rows, rfl, hc, hg, hr⟩
    · rcases hv with ⟨_, rfl⟩ | ⟨b, i, e, rows, ro, h, _⟩
      · simp at h12
      · cases h
    · have e1 : (12 : Int) < l.length := by omega
      have e2 := slc_lo (i := 0) hg (show 12 ≤ l.length by omega) hc
      have hv2 : IsV s (.slice (some ⟨b, 0, some 0⟩) 12 (2 * cap)) (l.take 12) := .inr ⟨b, 0, 2 * cap, rows, true, by rw [List.length_take]; congr 1; omega, hg, fun j p hp => by
        rw [List.getElem?_take] at hp
        split at hp
        · rw [Nat.zero_add]; exact hr j p hp
        · cases hp⟩
      obtain ⟨s', o, e, g1, g2⟩ := joins_body hf hv2 (by rw [List.length_take]; omega) (fun p hp => hw p (List.mem_of_mem_take hp))
      refine ⟨s', ?_⟩
      rw [show ((12 : Nat) : Int) = 12 from rfl] at e2
      simp only [leapfroglaw01x_VecJoins.v, leapfroglaw01x_VecJoins.t, std_bd, std_gd, std_gdS, std_gdU, std_cnd, std_it, bds, bdn, cndt, cndf, cndd, cndb, gdtt, gdff, gdtf, gdft, gdun, gdSun, gdSt, gdSf, gdStf, gdSft, gdUt, gdUf, gdUtf, gdUft, pikt, pikf, eqb1, neb1, eqb0, neb0, eqb2, neb2, eqb3n, neb3n, eqb3nn, neb3nn, eqk1, eqb_agg, neb_agg, eqks_nil, eqks_cons, bin_add, bin_sub, bin_mul, bin_lss, bin_leq, bin_gtr, bin_geq, un_notd, un_not, cvi_int, cvs_str, mn2_int, mx2_int, lenS_str, lenL_slc, bx_int, bx_bool, bx_str, bx_ptr, bx_slc, bx_agg, lcl_eq, xtr_eq, cellsA_agg, spl_z, spl_c, spl_s, bld_nil, bld_cons, bls_nil, bls_cons, prt_t, prt_f, nck_ptr, fld_ptr, lal, stl, decide_true, decide_false, decide_eq_true_eq, Bool.false_eq_true, Bool.not_true, Bool.not_false, Bool.and_true, Bool.and_false, Bool.true_and, Bool.false_and, Option.map_some, Option.map_none, if_true, if_false, ite_true, ite_false, reduceIte, and_self, and_true, true_and, false_and, and_false, eq_self, ne_eq, not_true_eq_false, not_false_eq_true, Nat.zero_add, Nat.reduceAdd, Nat.reduceLeDiff, Nat.reduceLT, Nat.reduceEqDiff, Nat.le_refl, Nat.add_zero, Option.some.injEq, Prod.mk.injEq, Value.agg.injEq, Value.bool.injEq, Value.int.injEq, Value.tuple.injEq, Array.mk.injEq, List.cons.injEq, and_self, List.length_cons, List.length_nil, List.getElem?_cons_zero, List.getElem?_cons_succ, List.getElem?_nil, List.drop_succ_cons, List.drop_zero, List.take_succ_cons, List.take_zero, List.take_nil, List.drop_nil, List.getD_cons_zero, List.getD_cons_succ, rep1, rep2, rep3, rep4, List.set_cons_zero, List.set_cons_succ, List.cons_append, List.nil_append, e1, e2, g1, g2, alive_rr]
  · have e1 : ¬ ((12 : Int) < l.length) := by omega
    obtain ⟨s', o, e, g1, g2⟩ := joins_body hf hv (by omega) hw
    refine ⟨s', ?_⟩
    simp only [leapfroglaw01x_VecJoins.v, leapfroglaw01x_VecJoins.t, std_bd, std_gd, std_gdS, std_gdU, std_cnd, std_it, bds, bdn, cndt, cndf, cndd, cndb, gdtt, gdff, gdtf, gdft, gdun, gdSun, gdSt, gdSf, gdStf, gdSft, gdUt, gdUf, gdUtf, gdUft, pikt, pikf, eqb1, neb1, eqb0, neb0, eqb2, neb2, eqb3n, neb3n, eqb3nn, neb3nn, eqk1, eqb_agg, neb_agg, eqks_nil, eqks_cons, bin_add, bin_sub, bin_mul, bin_lss, bin_leq, bin_gtr, bin_geq, un_notd, un_not, cvi_int, cvs_str, mn2_int, mx2_int, lenS_str, lenL_slc, bx_int, bx_bool, bx_str, bx_ptr, bx_slc, bx_agg, lcl_eq, xtr_eq, cellsA_agg, spl_z, spl_c, spl_s, bld_nil, bld_cons, bls_nil, bls_cons, prt_t, prt_f, nck_ptr, fld_ptr, lal, stl, decide_true, decide_false, decide_eq_true_eq, Bool.false_eq_true, Bool.not_true, Bool.not_false, Bool.and_true, Bool.and_false, Bool.true_and, Bool.false_and, Option.map_some, Option.map_none, if_true, if_false, ite_true, ite_false, reduceIte, and_self, and_true, true_and, false_and, and_false, eq_self, ne_eq, not_true_eq_false, not_false_eq_true, Nat.zero_add, Nat.reduceAdd, Nat.reduceLeDiff, Nat.reduceLT, Nat.reduceEqDiff, Nat.le_refl, Nat.add_zero, Option.some.injEq, Prod.mk.injEq, Value.agg.injEq, Value.bool.injEq, Value.int.injEq, Value.tuple.injEq, Array.mk.injEq, List.cons.injEq, and_self, List.length_cons, List.length_nil, List.getElem?_cons_zero, List.getElem?_cons_succ, List.getElem?_nil, List.drop_succ_cons, List.drop_zero, List.take_succ_cons, List.take_zero, List.take_nil, List.drop_nil, List.getD_cons_zero, List.getD_cons_succ, rep1, rep2, rep3, rep4, List.set_cons_zero, List.set_cons_succ, List.cons_append, List.nil_append, hv.len, e1, g1, g2, alive_rr]
end VecJoins

theorem isV2 {s : St} {e : Nat} (n b m c : Nat) : IsV (s.new (.row 2 [[.int .i64 n, .int .u64 b], [.int .i64 m, .int .u64 c]] false)) (.slice (some ⟨s.n, 0, some 0⟩) 2 e) (castV [(n, b), (m, c)]) :=
  .inr ⟨s.n, 0, e, _, _, rfl, get_new_same, fun j p hp => by
    match j, hp with
    | 0, hp => cases hp; rfl
    | 1, hp => cases hp; rfl⟩

namespace VecParted
theorem law (s : St) (us : List Value) (ha : AllRo s) (hf : ∀ b, s.n ≤ b → s.get b = none) (h : Args s [(true, [.i .i64, .i .u64]), (true, [.i .i64, .i .u64])] us) : ∃ s', leapfroglaw01x_VecParted.w us s = some (.bool true, s') := by
  simp only [Args, Arg, Leaf.Are, Leaf.Is] at h
  obtain ⟨_, _, rfl, ⟨_, rfl, _, _, rfl, ⟨L, rfl, hL⟩, _, _, rfl, ⟨B, rfl, hB⟩, rfl⟩, _, _, rfl, ⟨_, rfl, _, _, rfl, ⟨M, rfl, hM⟩, _, _, rfl, ⟨C, rfl, hC⟩, rfl⟩, rfl⟩ := h
  have hB0 := (wf_u64 hB).1
  have hC0 := (wf_u64 hC).1
  show ∃ s', leapfroglaw01x_VecParted.v (VI L B) (VI M C) s = some (.bool true, s')
  by_cases k1 : okV L B
  · by_cases k2 : okV M C
    · obtain ⟨n, b, rfl, rfl, h1, h2⟩ := k1
      obtain ⟨m, c, rfl, rfl, h3, h4⟩ := k2
      by_cases k3 : 32 ≤ m
      · have e1 : (32 : Int) ≤ m := by omega
        exact ⟨s, by simp only [leapfroglaw01x_VecParted.v, leapfroglaw01x_VecParted.t, std_bd, std_gd, std_gdS, std_gdU, std_cnd, std_it, bds, bdn, cndt, cndf, cndd, cndb, gdtt, gdff, gdtf, gdft, gdun, gdSun, gdSt, gdSf, gdStf, gdSft, gdUt, gdUf, gdUtf, gdUft, pikt, pikf, eqb1, neb1, eqb0, neb0, eqb2, neb2, eqb3n, neb3n, eqb3nn, neb3nn, eqk1, eqb_agg, neb_agg, eqks_nil, eqks_cons, bin_add, bin_sub, bin_mul, bin_lss, bin_leq, bin_gtr, bin_geq, un_notd, un_not, cvi_int, cvs_str, mn2_int, mx2_int, lenS_str, lenL_slc, bx_int, bx_bool, bx_str, bx_ptr, bx_slc, bx_agg, lcl_eq, xtr_eq, cellsA_agg, spl_z, spl_c, spl_s, bld_nil, bld_cons, bls_nil, bls_cons, prt_t, prt_f, nck_ptr, fld_ptr, lal, stl, decide_true, decide_false, decide_eq_true_eq, Bool.false_eq_true, Bool.not_true, Bool.not_false, Bool.and_true, Bool.and_false, Bool.true_and, Bool.false_and, Option.map_some, Option.map_none, if_true, if_false, ite_true, ite_false, reduceIte, and_self, and_true, true_and, false_and, and_false, eq_self, ne_eq, not_true_eq_false, not_false_eq_true, Nat.zero_add, Nat.reduceAdd, Nat.reduceLeDiff, Nat.reduceLT, Nat.reduceEqDiff, Nat.le_refl, Nat.add_zero, Option.some.injEq, Prod.mk.injEq, Value.agg.injEq, Value.bool.injEq, Value.int.injEq, Value.tuple.injEq, Array.mk.injEq, List.cons.injEq, and_self, List.length_cons, List.length_nil, List.getElem?_cons_zero, List.getElem?_cons_succ, List.getElem?_nil, List.drop_succ_cons, List.drop_zero, List.take_succ_cons, List.take_zero, List.take_nil, List.drop_nil, List.getD_cons_zero, List.getD_cons_succ, rep1, rep2, rep3, rep4, List.set_cons_zero, List.set_cons_succ, List.cons_append, List.nil_append, rright_ok s h1 h2, rright_ok s h3 h4, e1, alive_rr]⟩
      · have e1 : ¬ ((32 : Int) ≤ m) := by omega
        have j1 := Join_ok (l := [(m, c), (1, 0)]) (@isV2 s 4 m c 1 0) (by simp) (fun p hp => by
          simp only [List.mem_cons, List.not_mem_nil, or_false] at hp
          rcases hp with rfl | rfl
          · exact ⟨h3, h4⟩
          · exact ⟨by simp, by simp⟩)
        have j2 := Join_ok (l := [(m, c), (1, 1)]) (@isV2 (s.new (.row 2 [[.int .i64 m, .int .u64 c], [.int .i64 (1 : Nat), .int .u64 (0 : Nat)]] false)) 4 m c 1 1) (by simp) (fun p hp => by
          simp only [List.mem_cons, List.not_mem_nil, or_false] at hp
          rcases hp with rfl | rfl
          · exact ⟨h3, h4⟩
          · exact ⟨by simp, by simp⟩)
        have jn1 : jn [(m, c), (1, 0)] 0 0 = some (m + 1, c * 2) := by
          simp only [jn]; rw [if_neg (by omega), if_neg (by omega)]; simp
        have jn2 : jn [(m, c), (1, 1)] 0 0 = some (m + 1, c * 2 + 1) := by
          simp only [jn]; rw [if_neg (by omega), if_neg (by omega)]; simp
        rw [jn1] at j1
        rw [jn2] at j2
        simp only [jres, Int.natCast_zero, Int.natCast_one, new_n] at j1 j2
        have q0 : c * 2 < 2 ^ (m + 1) := by rw [Nat.pow_succ]; omega
        have q1 : c * 2 + 1 < 2 ^ (m + 1) := by rw [Nat.pow_succ]; omega
        refine ⟨(s.new (.row 2 [[.int .i64 m, .int .u64 c], [.int .i64 1, .int .u64 0]] false)).new (.row 2 [[.int .i64 m, .int .u64 c], [.int .i64 1, .int .u64 1]] false), ?_⟩
        have b1 := fun s => begins_r (n := n) (b := b) s h1 h2 (show m + 1 ≤ 32 by omega) q0
        have b2 := fun s => begins_r (n := n) (b := b) s h1 h2 (show m + 1 ≤ 32 by omega) q1
        have b3 := fun s => begins_r (n := n) (b := b) s h1 h2 h3 h4
        have f1 : ¬ (1 = 0 ∧ 1 < 2) := by omega
        simp only [leapfroglaw01x_VecParted.v, leapfroglaw01x_VecParted.t, leapfroglaw01x_VecParted.t.p1, std_bd, std_gd, std_gdS, std_gdU, std_cnd, std_it, bds, bdn, cndt, cndf, cndd, cndb, gdtt, gdff, gdtf, gdft, gdun, gdSun, gdSt, gdSf, gdStf, gdSft, gdUt, gdUf, gdUtf, gdUft, pikt, pikf, eqb1, neb1, eqb0, neb0, eqb2, neb2, eqb3n, neb3n, eqb3nn, neb3nn, eqk1, eqb_agg, neb_agg, eqks_nil, eqks_cons, bin_add, bin_sub, bin_mul, bin_lss, bin_leq, bin_gtr, bin_geq, un_notd, un_not, cvi_int, cvs_str, mn2_int, mx2_int, lenS_str, lenL_slc, bx_int, bx_bool, bx_str, bx_ptr, bx_slc, bx_agg, lcl_eq, xtr_eq, cellsA_agg, spl_z, spl_c, spl_s, bld_nil, bld_cons, bls_nil, bls_cons, prt_t, prt_f, nck_ptr, fld_ptr, lal, stl, decide_true, decide_false, decide_eq_true_eq, Bool.false_eq_true, Bool.not_true, Bool.not_false, Bool.and_true, Bool.and_false, Bool.true_and, Bool.false_and, Option.map_some, Option.map_none, if_true, if_false, ite_true, ite_false, reduceIte, and_self, and_true, true_and, false_and, and_false, eq_self, ne_eq, not_true_eq_false, not_false_eq_true, Nat.zero_add, Nat.reduceAdd, Nat.reduceLeDiff, Nat.reduceLT, Nat.reduceEqDiff, Nat.le_refl, Nat.add_zero, Option.some.injEq, Prod.mk.injEq, Value.agg.injEq, Value.bool.injEq, Value.int.injEq, Value.tuple.injEq, Array.mk.injEq, List.cons.injEq, and_self, List.length_cons, List.length_nil, List.getElem?_cons_zero, List.getElem?_cons_succ, List.getElem?_nil, List.drop_succ_cons, List.drop_zero, List.take_succ_cons, List.take_zero, List.take_nil, List.drop_nil, List.getD_cons_zero, List.getD_cons_succ, rep1, rep2, rep3, rep4, List.set_cons_zero, List.set_cons_succ, List.cons_append, List.nil_append, rright_ok s h1 h2, rright_ok s h3 h4, e1, als_eq, new_n, Nat.reduceMul, j1, j2, b1, b2, b3, alive_rr, Nat.zero_lt_succ, Nat.one_lt_two]
        have d1 : m + 1 ≤ n → b / 2 ^ (n - m) = b / 2 ^ (n - (m + 1)) / 2 := fun h => by
          rw [show n - m = n - (m + 1) + 1 by omega, Nat.pow_succ, Nat.div_div_eq_div_mul]
        have d2 : n = m → b / 2 ^ (n - m) = b := fun h => by rw [h]; simp
        generalize b / 2 ^ (n - m) = q at *
        generalize b / 2 ^ (n - (m + 1)) = q' at *
        clear j1 j2 b1 b2 b3
        generalize hE : (decide ((n : Int) = m) && decide ((b : Int) = c)) = E
        generalize hA : decide (m + 1 ≤ n ∧ q' = c * 2) = A
        generalize hB : decide (m + 1 ≤ n ∧ q' = c * 2 + 1) = Bq
        generalize hW : decide (m ≤ n ∧ q = c) = W
        cases E <;> cases A <;> cases Bq <;> cases W <;> first
          | (simp only [std_bd, std_gd, std_gdS, std_gdU, std_cnd, std_it, bds, bdn, cndt, cndf, cndd, cndb, gdtt, gdff, gdtf, gdft, gdun, gdSun, gdSt, gdSf, gdStf, gdSft, gdUt, gdUf, gdUtf, gdUft, pikt, pikf, eqb1, neb1, eqb0, neb0, eqb2, neb2, eqb3n, neb3n, eqb3nn, neb3nn, eqk1, eqb_agg, neb_agg, eqks_nil, eqks_cons, bin_add, bin_sub, bin_mul, bin_lss, bin_leq, bin_gtr, bin_geq, un_notd, un_not, cvi_int, cvs_str, mn2_int, mx2_int, lenS_str, lenL_slc, bx_int, bx_bool, bx_str, bx_ptr, bx_slc, bx_agg, lcl_eq, xtr_eq, cellsA_agg, spl_z, spl_c, spl_s, bld_nil, bld_cons, bls_nil, bls_cons, prt_t, prt_f, nck_ptr, fld_ptr, lal, stl, decide_true, decide_false, decide_eq_true_eq, Bool.false_eq_true, Bool.not_true, Bool.not_false, Bool.and_true, Bool.and_false, Bool.true_and, Bool.false_and, Option.map_some, Option.map_none, if_true, if_false, ite_true, ite_false, reduceIte, and_self, and_true, true_and, false_and, and_false, eq_self, ne_eq, not_true_eq_false, not_false_eq_true, Nat.zero_add, Nat.reduceAdd, Nat.reduceLeDiff, Nat.reduceLT, Nat.reduceEqDiff, Nat.le_refl, Nat.add_zero, Option.some.injEq, Prod.mk.injEq, Value.agg.injEq, Value.bool.injEq, Value.int.injEq, Value.tuple.injEq, Array.mk.injEq, List.cons.injEq, and_self, List.length_cons, List.length_nil, List.getElem?_cons_zero, List.getElem?_cons_succ, List.getElem?_nil, List.drop_succ_cons, List.drop_zero, List.take_succ_cons, List.take_zero, List.take_nil, List.drop_nil, List.getD_cons_zero, List.getD_cons_succ, rep1, rep2, rep3, rep4, List.set_cons_zero, List.set_cons_succ, List.cons_append, List.nil_append, hE, alive_rr]; done)
          | (exfalso
             simp only [Bool.and_eq_true, Bool.and_eq_false_iff, decide_eq_true_eq, decide_eq_false_iff_not] at hE hA hB hW
             omega)
    · obtain ⟨n, b, rfl, rfl, h1, h2⟩ := k1
      exact ⟨s, by simp only [leapfroglaw01x_VecParted.v, leapfroglaw01x_VecParted.t, std_bd, std_gd, std_gdS, std_gdU, std_cnd, std_it, bds, bdn, cndt, cndf, cndd, cndb, gdtt, gdff, gdtf, gdft, gdun, gdSun, gdSt, gdSf, gdStf, gdSft, gdUt, gdUf, gdUtf, gdUft, pikt, pikf, eqb1, neb1, eqb0, neb0, eqb2, neb2, eqb3n, neb3n, eqb3nn, neb3nn, eqk1, eqb_agg, neb_agg, eqks_nil, eqks_cons, bin_add, bin_sub, bin_mul, bin_lss, bin_leq, bin_gtr, bin_geq, un_notd, un_not, cvi_int, cvs_str, mn2_int, mx2_int, lenS_str, lenL_slc, bx_int, bx_bool, bx_str, bx_ptr, bx_slc, bx_agg, lcl_eq, xtr_eq, cellsA_agg, spl_z, spl_c, spl_s, bld_nil, bld_cons, bls_nil, bls_cons, prt_t, prt_f, nck_ptr, fld_ptr, lal, stl, decide_true, decide_false, decide_eq_true_eq, Bool.false_eq_true, Bool.not_true, Bool.not_false, Bool.and_true, Bool.and_false, Bool.true_and, Bool.false_and, Option.map_some, Option.map_none, if_true, if_false, ite_true, ite_false, reduceIte, and_self, and_true, true_and, false_and, and_false, eq_self, ne_eq, not_true_eq_false, not_false_eq_true, Nat.zero_add, Nat.reduceAdd, Nat.reduceLeDiff, Nat.reduceLT, Nat.reduceEqDiff, Nat.le_refl, Nat.add_zero, Option.some.injEq, Prod.mk.injEq, Value.agg.injEq, Value.bool.injEq, Value.int.injEq, Value.tuple.injEq, Array.mk.injEq, List.cons.injEq, and_self, List.length_cons, List.length_nil, List.getElem?_cons_zero, List.getElem?_cons_succ, List.getElem?_nil, List.drop_succ_cons, List.drop_zero, List.take_succ_cons, List.take_zero, List.take_nil, List.drop_nil, List.getD_cons_zero, List.getD_cons_succ, rep1, rep2, rep3, rep4, List.set_cons_zero, List.set_cons_succ, List.cons_append, List.nil_append, rright_ok s h1 h2, rright_no s k2 hC0, alive_rr]⟩
  · exact ⟨s, by simp only [leapfroglaw01x_VecParted.v, leapfroglaw01x_VecParted.t, std_bd, std_gd, std_gdS, std_gdU, std_cnd, std_it, bds, bdn, cndt, cndf, cndd, cndb, gdtt, gdff, gdtf, gdft, gdun, gdSun, gdSt, gdSf, gdStf, gdSft, gdUt, gdUf, gdUtf, gdUft, pikt, pikf, eqb1, neb1, eqb0, neb0, eqb2, neb2, eqb3n, neb3n, eqb3nn, neb3nn, eqk1, eqb_agg, neb_agg, eqks_nil, eqks_cons, bin_add, bin_sub, bin_mul, bin_lss, bin_leq, bin_gtr, bin_geq, un_notd, un_not, cvi_int, cvs_str, mn2_int, mx2_int, lenS_str, lenL_slc, bx_int, bx_bool, bx_str, bx_ptr, bx_slc, bx_agg, lcl_eq, xtr_eq, cellsA_agg, spl_z, spl_c, spl_s, bld_nil, bld_cons, bls_nil, bls_cons, prt_t, prt_f, nck_ptr, fld_ptr, lal, stl, decide_true, decide_false, decide_eq_true_eq, Bool.false_eq_true, Bool.not_true, Bool.not_false, Bool.and_true, Bool.and_false, Bool.true_and, Bool.false_and, Option.map_some, Option.map_none, if_true, if_false, ite_true, ite_false, reduceIte, and_self, and_true, true_and, false_and, and_false, eq_self, ne_eq, not_true_eq_false, not_false_eq_true, Nat.zero_add, Nat.reduceAdd, Nat.reduceLeDiff, Nat.reduceLT, Nat.reduceEqDiff, Nat.le_refl, Nat.add_zero, Option.some.injEq, Prod.mk.injEq, Value.agg.injEq, Value.bool.injEq, Value.int.injEq, Value.tuple.injEq, Array.mk.injEq, List.cons.injEq, and_self, List.length_cons, List.length_nil, List.getElem?_cons_zero, List.getElem?_cons_succ, List.getElem?_nil, List.drop_succ_cons, List.drop_zero, List.take_succ_cons, List.take_zero, List.take_nil, List.drop_nil, List.getD_cons_zero, List.getD_cons_succ, rep1, rep2, rep3, rep4, List.set_cons_zero, List.set_cons_succ, List.cons_append, List.nil_append, rright_no s k1 hB0, alive_rr]⟩
end VecParted

end Go.Proofs.Ytgdloihagiddhaa
