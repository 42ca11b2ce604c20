/-
  VecTexts and VecBack, over abstract values.
-/
import Derived.Test.YtgdloihagiddhaaVecG
import Derived.Test.YtgdloihagiddhaaLVecJoins
import Derived.Test.YtgdloihagiddhaaGS0
set_option linter.unusedSimpArgs false
set_option linter.unusedVariables false
set_option maxRecDepth 100000
namespace Go.Proofs.Ytgdloihagiddhaa
open Go.Sim Go.Sim.Bt
attribute [local congr] bdc cndc itec gdc gdSc gdUc

theorem ptext_ok {n b : Nat} (s : St) (h1 : n ≤ 32) (h2 : b < 2 ^ n) : vec_Text.r (VV n b) s = some (T2 (.string ⟨(if n = 0 then [46] else (bl n b).map digt).toArray⟩) 0) := by
  have hB : (0 : Int) ≤ b := by omega
  have hk : okB n b = true := (okB_iff hB).2 ⟨n, b, rfl, rfl, h1, h2⟩
  have ht : textOf n b = if n = 0 then [46] else (bl n b).map digt := by
    unfold textOf
    by_cases h0 : n = 0
    · subst h0; rfl
    · rw [if_neg h0, if_neg (show ¬ ((n : Int) = 0) by omega)]; rfl
  unfold vec_Text.r
  simp only [vec_Text.w, if_pos hB, hk, if_true, ht]
theorem ptext_no {L B : Int} (s : St) (h : ¬ okV L B) (hB : 0 ≤ B) : vec_Text.r (VI L B) s = some (T2 (.string ⟨#[]⟩) 10) := by
  have hk : ¬ okB L B = true := fun e => h ((okB_iff hB).1 e)
  unfold vec_Text.r
  simp only [vec_Text.w, if_pos hB, if_neg hk]

theorem texts_body (t : ByteArray) (s : St) (hf : Fresh s) (L B : Int) (hB0 : 0 ≤ B) (hl : t.data.toList.length ≤ 1000) :
    ∃ (x : ByteArray) (e : Int) (o : Int × Int) (i f : Int), vec_Text.r (VI L B) s = some (T2 (.string x) e) ∧ leapfrogref01x_TextQ.r (VI L B) s = some (T2 (.string x) e) ∧ vec_Read.r (.string t) s = some (T3 (VI o.1 o.2) i f) ∧ leapfrogref01x_ReadQ.r (.string t) s = some (T3 (VI o.1 o.2) i f) := by
  have h1 := Read_ok s hl
  have h2 := rRead_ok s hf hl
  have h3 : ∃ (o : Int × Int) (i f : Int), readOf t.data.toList = T3 (VI o.1 o.2) i f := by
    generalize t.data.toList = l
    cases l with
    | nil => exact ⟨(0, 0), 0, 10, rfl⟩
    | cons c r =>
      by_cases h : c.toNat = 46
      · by_cases hr : r = []
        · exact ⟨(0, 0), 0, 0, by simp only [readOf, if_pos h, if_pos hr]⟩
        · exact ⟨(0, 0), 1, 10, by simp only [readOf, if_pos h, if_neg hr]⟩
      · cases hd : rdT (c :: r) 0 [] with
        | inl i => exact ⟨(0, 0), i, 10, by simp only [readOf, if_neg h, hd, rres]⟩
        | inr acc => exact ⟨((acc.length : Int), (ofBits acc : Int)), 0, 0, by simp only [readOf, if_neg h, hd, rres]⟩
  obtain ⟨o, i, f, h3⟩ := h3
  rw [h3] at h1 h2
  by_cases hk : okV L B
  · obtain ⟨n, b, rfl, rfl, k1, k2⟩ := hk
    exact ⟨_, _, o, i, f, ptext_ok s k1 k2, rText_ok s hf k1 k2, h1, h2⟩
  · exact ⟨_, _, o, i, f, ptext_no s hk hB0, rText_no s hk hB0, h1, h2⟩

namespace VecTexts
theorem law (s : St) (us : List Value) (ha : AllRo s) (hf : ∀ b, s.n ≤ b → s.get b = none) (h : Args s [(true, [.i .i64, .i .u64]), (false, [.str])] us) : ∃ s', asSt leapfroglaw01x_VecTexts.w us s = some (.bool true, s') := by
  simp only [Args, Arg, Leaf.Are, Leaf.Is] at h
  obtain ⟨_, _, rfl, ⟨_, rfl, _, _, rfl, ⟨L, rfl, hL⟩, _, _, rfl, ⟨B, rfl, hB⟩, rfl⟩, _, _, rfl, ⟨_, _, h1, ⟨t, rfl, ht⟩, rfl⟩, rfl⟩ := h
  cases h1
  have hB0 := (wf_u64 hB).1
  refine asSt_of (?_ : leapfroglaw01x_VecTexts.r (VI L B) (.string t) s = some (.bool true))
  by_cases h100 : 100 < t.size
  · have e1 : (100 : Int) < t.size := by omega
    have e2 : slS (.string t) none (some (.int .i64 100)) = some (.string (t.extract 0 100)) := by
      have a : (0 : Int) ≤ 100 := by omega
      simp only [slS, optN, isNat, if_pos a, bds]
      rw [show (100 : Int).toNat = 100 from rfl, if_pos ⟨by omega, by omega⟩]
    have hl : (t.extract 0 100).data.toList.length ≤ 1000 := by
      rw [← str_size, ByteArray.size_extract]; omega
    obtain ⟨x, e, o, i, f, g1, g2, g3, g4⟩ := texts_body (t.extract 0 100) s hf L B hB0 hl
    simp only [leapfroglaw01x_VecTexts.r, leapfroglaw01x_VecTexts.t, std_bd, std_gd, std_gdS, std_gdU, std_cnd, std_it, bds, bdn, cndt, cndf, cndd, cndb, gdtt, gdff, gdtf, gdft, gdun, gdSun, gdSt, gdSf, gdStf, gdSft, gdUt, gdUf, gdUtf, gdUft, pikt, pikf, eqb1, neb1, eqb0, neb0, eqb2, neb2, eqb3n, neb3n, eqb3nn, neb3nn, eqk1, eqb_agg, neb_agg, eqks_nil, eqks_cons, bin_add, bin_sub, bin_mul, bin_lss, bin_leq, bin_gtr, bin_geq, un_notd, un_not, cvi_int, cvs_str, mn2_int, mx2_int, lenS_str, lenL_slc, bx_int, bx_bool, bx_str, bx_ptr, bx_slc, bx_agg, lcl_eq, xtr_eq, cellsA_agg, spl_z, spl_c, spl_s, bld_nil, bld_cons, bls_nil, bls_cons, prt_t, prt_f, nck_ptr, fld_ptr, lal, stl, decide_true, decide_false, decide_eq_true_eq, Bool.false_eq_true, Bool.not_true, Bool.not_false, Bool.and_true, Bool.and_false, Bool.true_and, Bool.false_and, Option.map_some, Option.map_none, if_true, if_false, ite_true, ite_false, reduceIte, and_self, and_true, true_and, false_and, and_false, eq_self, ne_eq, not_true_eq_false, not_false_eq_true, Nat.zero_add, Nat.reduceAdd, Nat.reduceLeDiff, Nat.reduceLT, Nat.reduceEqDiff, Nat.le_refl, Nat.add_zero, Option.some.injEq, Prod.mk.injEq, Value.agg.injEq, Value.bool.injEq, Value.int.injEq, Value.tuple.injEq, Array.mk.injEq, List.cons.injEq, and_self, List.length_cons, List.length_nil, List.getElem?_cons_zero, List.getElem?_cons_succ, List.getElem?_nil, List.drop_succ_cons, List.drop_zero, List.take_succ_cons, List.take_zero, List.take_nil, List.drop_nil, List.getD_cons_zero, List.getD_cons_succ, rep1, rep2, rep3, rep4, List.set_cons_zero, List.set_cons_succ, List.cons_append, List.nil_append, e1, e2, g1, g2, g3, g4, alive_rr]
  · have e1 : ¬ ((100 : Int) < t.size) := by omega
    obtain ⟨x, e, o, i, f, g1, g2, g3, g4⟩ := texts_body t s hf L B hB0 (by rw [← str_size]; omega)
    simp only [leapfroglaw01x_VecTexts.r, leapfroglaw01x_VecTexts.t, std_bd, std_gd, std_gdS, std_gdU, std_cnd, std_it, bds, bdn, cndt, cndf, cndd, cndb, gdtt, gdff, gdtf, gdft, gdun, gdSun, gdSt, gdSf, gdStf, gdSft, gdUt, gdUf, gdUtf, gdUft, pikt, pikf, eqb1, neb1, eqb0, neb0, eqb2, neb2, eqb3n, neb3n, eqb3nn, neb3nn, eqk1, eqb_agg, neb_agg, eqks_nil, eqks_cons, bin_add, bin_sub, bin_mul, bin_lss, bin_leq, bin_gtr, bin_geq, un_notd, un_not, cvi_int, cvs_str, mn2_int, mx2_int, lenS_str, lenL_slc, bx_int, bx_bool, bx_str, bx_ptr, bx_slc, bx_agg, lcl_eq, xtr_eq, cellsA_agg, spl_z, spl_c, spl_s, bld_nil, bld_cons, bls_nil, bls_cons, prt_t, prt_f, nck_ptr, fld_ptr, lal, stl, decide_true, decide_false, decide_eq_true_eq, Bool.false_eq_true, Bool.not_true, Bool.not_false, Bool.and_true, Bool.and_false, Bool.true_and, Bool.false_and, Option.map_some, Option.map_none, if_true, if_false, ite_true, ite_false, reduceIte, and_self, and_true, true_and, false_and, and_false, eq_self, ne_eq, not_true_eq_false, not_false_eq_true, Nat.zero_add, Nat.reduceAdd, Nat.reduceLeDiff, Nat.reduceLT, Nat.reduceEqDiff, Nat.le_refl, Nat.add_zero, Option.some.injEq, Prod.mk.injEq, Value.agg.injEq, Value.bool.injEq, Value.int.injEq, Value.tuple.injEq, Array.mk.injEq, List.cons.injEq, and_self, List.length_cons, List.length_nil, List.getElem?_cons_zero, List.getElem?_cons_succ, List.getElem?_nil, List.drop_succ_cons, List.drop_zero, List.take_succ_cons, List.take_zero, List.take_nil, List.drop_nil, List.getD_cons_zero, List.getD_cons_succ, rep1, rep2, rep3, rep4, List.set_cons_zero, List.set_cons_succ, List.cons_append, List.nil_append, e1, g1, g2, g3, g4, alive_rr]
end VecTexts

theorem rdT_digits : ∀ (l : List Nat) (i : Nat) (acc : List Nat), (∀ d ∈ l, d < 2) → i + l.length ≤ 32 → rdT (l.map digt) i acc = .inr (acc ++ l)
  | [], i, acc, _, _ => by simp [rdT]
  | d :: l, i, acc, h, hl => by
    have hd := h d List.mem_cons_self
    have hn : (digt d).toNat = 48 + d := by have := digt_int hd; omega
    simp only [List.map_cons, rdT, hn]
    rw [if_neg (by simp at hl; omega), show 48 + d - 48 = d by omega, rdT_digits l (i + 1) (acc ++ [d]) (fun x hx => h x (List.mem_cons_of_mem _ hx)) (by simp at hl; omega)]
    simp
theorem read_text {n b : Nat} (h1 : n ≤ 32) (h2 : b < 2 ^ n) : readOf (if n = 0 then [46] else (bl n b).map digt) = T3 (VV n b) 0 0 := by
  by_cases h0 : n = 0
  · subst h0
    obtain rfl : b = 0 := by simpa using h2
    rfl
  · rw [if_neg h0]
    have hr := rdT_digits (bl n b) 0 [] (fun d => bl_lt) (by rw [bl_length]; omega)
    have hlen := bl_length n b
    cases hb : bl n b with
    | nil => rw [hb] at hlen; simp at hlen; omega
    | cons d l =>
      have hd : d < 2 := bl_lt (n := n) (b := b) (by rw [hb]; exact List.mem_cons_self)
      have hn : ¬ (digt d).toNat = 46 := by have := digt_int hd; omega
      rw [hb] at hr
      simp only [List.map_cons, readOf, if_neg hn] at hr ⊢
      rw [hr]
      simp only [rres, List.nil_append]
      rw [← hb, bl_length, ofBits_bl h2]

namespace VecBack
theorem law (s : St) (us : List Value) (ha : AllRo s) (hf : ∀ b, s.n ≤ b → s.get b = none) (h : Args s [(true, [.i .i64, .i .u64]), (false, [.i .i64])] us) : ∃ s', leapfroglaw01x_VecBack.w us s = some (.bool true, s') := by
  simp only [Args, Arg, Leaf.Are, Leaf.Is] at h
  obtain ⟨_, _, rfl, ⟨_, rfl, _, _, rfl, ⟨L, rfl, hL⟩, _, _, rfl, ⟨B, rfl, hB⟩, rfl⟩, _, _, rfl, ⟨_, _, h1, ⟨i, rfl, hi⟩, rfl⟩, rfl⟩ := h
  cases h1
  have hB0 := (wf_u64 hB).1
  show ∃ s', leapfroglaw01x_VecBack.v (VI L B) (.int .i64 i) s = some (.bool true, s')
  by_cases hk : okV L B
  · obtain ⟨n, b, rfl, rfl, h1, h2⟩ := hk
    have g1 := ptext_ok s h1 h2
    have g2 := Read_ok (t := ⟨(if n = 0 then [46] else (bl n b).map digt).toArray⟩) s (by
      simp only
      split
      · simp
      · simp [bl_length]; omega)
    simp only [read_text h1 h2] at g2
    by_cases h3 : i < 0
    · exact ⟨s, by simp only [leapfroglaw01x_VecBack.v, leapfroglaw01x_VecBack.t, std_bd, std_gd, std_gdS, std_gdU, std_cnd, std_it, bds, bdn, cndt, cndf, cndd, cndb, gdtt, gdff, gdtf, gdft, gdun, gdSun, gdSt, gdSf, gdStf, gdSft, gdUt, gdUf, gdUtf, gdUft, pikt, pikf, eqb1, neb1, eqb0, neb0, eqb2, neb2, eqb3n, neb3n, eqb3nn, neb3nn, eqk1, eqb_agg, neb_agg, eqks_nil, eqks_cons, bin_add, bin_sub, bin_mul, bin_lss, bin_leq, bin_gtr, bin_geq, un_notd, un_not, cvi_int, cvs_str, mn2_int, mx2_int, lenS_str, lenL_slc, bx_int, bx_bool, bx_str, bx_ptr, bx_slc, bx_agg, lcl_eq, xtr_eq, cellsA_agg, spl_z, spl_c, spl_s, bld_nil, bld_cons, bls_nil, bls_cons, prt_t, prt_f, nck_ptr, fld_ptr, lal, stl, decide_true, decide_false, decide_eq_true_eq, Bool.false_eq_true, Bool.not_true, Bool.not_false, Bool.and_true, Bool.and_false, Bool.true_and, Bool.false_and, Option.map_some, Option.map_none, if_true, if_false, ite_true, ite_false, reduceIte, and_self, and_true, true_and, false_and, and_false, eq_self, ne_eq, not_true_eq_false, not_false_eq_true, Nat.zero_add, Nat.reduceAdd, Nat.reduceLeDiff, Nat.reduceLT, Nat.reduceEqDiff, Nat.le_refl, Nat.add_zero, Option.some.injEq, Prod.mk.injEq, Value.agg.injEq, Value.bool.injEq, Value.int.injEq, Value.tuple.injEq, Array.mk.injEq, List.cons.injEq, and_self, List.length_cons, List.length_nil, List.getElem?_cons_zero, List.getElem?_cons_succ, List.getElem?_nil, List.drop_succ_cons, List.drop_zero, List.take_succ_cons, List.take_zero, List.take_nil, List.drop_nil, List.getD_cons_zero, List.getD_cons_succ, rep1, rep2, rep3, rep4, List.set_cons_zero, List.set_cons_succ, List.cons_append, List.nil_append, rright_ok s h1 h2, g1, g2, h3, alive_rr]⟩
    · by_cases h4 : (n : Int) ≤ i
      · exact ⟨s, by simp only [leapfroglaw01x_VecBack.v, leapfroglaw01x_VecBack.t, std_bd, std_gd, std_gdS, std_gdU, std_cnd, std_it, bds, bdn, cndt, cndf, cndd, cndb, gdtt, gdff, gdtf, gdft, gdun, gdSun, gdSt, gdSf, gdStf, gdSft, gdUt, gdUf, gdUtf, gdUft, pikt, pikf, eqb1, neb1, eqb0, neb0, eqb2, neb2, eqb3n, neb3n, eqb3nn, neb3nn, eqk1, eqb_agg, neb_agg, eqks_nil, eqks_cons, bin_add, bin_sub, bin_mul, bin_lss, bin_leq, bin_gtr, bin_geq, un_notd, un_not, cvi_int, cvs_str, mn2_int, mx2_int, lenS_str, lenL_slc, bx_int, bx_bool, bx_str, bx_ptr, bx_slc, bx_agg, lcl_eq, xtr_eq, cellsA_agg, spl_z, spl_c, spl_s, bld_nil, bld_cons, bls_nil, bls_cons, prt_t, prt_f, nck_ptr, fld_ptr, lal, stl, decide_true, decide_false, decide_eq_true_eq, Bool.false_eq_true, Bool.not_true, Bool.not_false, Bool.and_true, Bool.and_false, Bool.true_and, Bool.false_and, Option.map_some, Option.map_none, if_true, if_false, ite_true, ite_false, reduceIte, and_self, and_true, true_and, false_and, and_false, eq_self, ne_eq, not_true_eq_false, not_false_eq_true, Nat.zero_add, Nat.reduceAdd, Nat.reduceLeDiff, Nat.reduceLT, Nat.reduceEqDiff, Nat.le_refl, Nat.add_zero, Option.some.injEq, Prod.mk.injEq, Value.agg.injEq, Value.bool.injEq, Value.int.injEq, Value.tuple.injEq, Array.mk.injEq, List.cons.injEq, and_self, List.length_cons, List.length_nil, List.getElem?_cons_zero, List.getElem?_cons_succ, List.getElem?_nil, List.drop_succ_cons, List.drop_zero, List.take_succ_cons, List.take_zero, List.take_nil, List.drop_nil, List.getD_cons_zero, List.getD_cons_succ, rep1, rep2, rep3, rep4, List.set_cons_zero, List.set_cons_succ, List.cons_append, List.nil_append, rright_ok s h1 h2, g1, g2, h3, h4, alive_rr]⟩
      · obtain ⟨j, rfl⟩ : ∃ j : Nat, i = j := ⟨i.toNat, by omega⟩
        have hj : j < n := by omega
        have hm := Nat.mod_lt b (Nat.two_pow_pos (n - j))
        have j1 := Join_ok (l := [(j, b / 2 ^ (n - j)), (n - j, b % 2 ^ (n - j))]) (@isV2 s 4 j (b / 2 ^ (n - j)) (n - j) (b % 2 ^ (n - j))) (by simp) (fun p hp => by
          simp only [List.mem_cons, List.not_mem_nil, or_false] at hp
          rcases hp with rfl | rfl
          · exact ⟨by simp only; omega, div_lt_pow h2 (by omega)⟩
          · exact ⟨by simp only; omega, hm⟩)
        have jn1 : jn [(j, b / 2 ^ (n - j)), (n - j, b % 2 ^ (n - j))] 0 0 = some (n, b) := by
          simp only [jn]; rw [if_neg (by omega), if_neg (by omega)]
          simp only [Nat.zero_mul, Nat.zero_add]
          have := Nat.div_add_mod b (2 ^ (n - j))
          rw [Nat.mul_comm] at this
          rw [this, show j + (n - j) = n by omega]
        rw [jn1] at j1
        simp only [jres] at j1
        have f1 := fun s => Flip_ok (n := n) (b := b) (i := j) s h1 h2 hj
        have hlt2 : b ^^^ 2 ^ (n - 1 - j) < 2 ^ n := Nat.xor_lt_two_pow h2 (Nat.pow_lt_pow_right (by omega) (by omega))
        have f2 := fun s => Flip_ok (n := n) (b := b ^^^ 2 ^ (n - 1 - j)) (i := j) s h1 hlt2 hj
        have hxx : b ^^^ 2 ^ (n - 1 - j) ^^^ 2 ^ (n - 1 - j) = b := by rw [Nat.xor_assoc, Nat.xor_self, Nat.xor_zero]
        have hne : ¬ (((b ^^^ 2 ^ (n - 1 - j) : Nat) : Int) = b) := by
          intro e
          have e : b ^^^ 2 ^ (n - 1 - j) = b := by omega
          have e3 := congrArg (fun x => b ^^^ x) e
          simp only [← Nat.xor_assoc, Nat.xor_self, Nat.zero_xor] at e3
          have := Nat.two_pow_pos (n - 1 - j)
          omega
        rw [hxx] at f2
        refine ⟨s.new (.row 2 [[.int .i64 j, .int .u64 ((b / 2 ^ (n - j) : Nat) : Int)], [.int .i64 ((n - j : Nat) : Int), .int .u64 ((b % 2 ^ (n - j) : Nat) : Int)]] false), ?_⟩
        simp only [leapfroglaw01x_VecBack.v, leapfroglaw01x_VecBack.t, leapfroglaw01x_VecBack.t.p1, std_bd, std_gd, std_gdS, std_gdU, std_cnd, std_it, bds, bdn, cndt, cndf, cndd, cndb, gdtt, gdff, gdtf, gdft, gdun, gdSun, gdSt, gdSf, gdStf, gdSft, gdUt, gdUf, gdUtf, gdUft, pikt, pikf, eqb1, neb1, eqb0, neb0, eqb2, neb2, eqb3n, neb3n, eqb3nn, neb3nn, eqk1, eqb_agg, neb_agg, eqks_nil, eqks_cons, bin_add, bin_sub, bin_mul, bin_lss, bin_leq, bin_gtr, bin_geq, un_notd, un_not, cvi_int, cvs_str, mn2_int, mx2_int, lenS_str, lenL_slc, bx_int, bx_bool, bx_str, bx_ptr, bx_slc, bx_agg, lcl_eq, xtr_eq, cellsA_agg, spl_z, spl_c, spl_s, bld_nil, bld_cons, bls_nil, bls_cons, prt_t, prt_f, nck_ptr, fld_ptr, lal, stl, decide_true, decide_false, decide_eq_true_eq, Bool.false_eq_true, Bool.not_true, Bool.not_false, Bool.and_true, Bool.and_false, Bool.true_and, Bool.false_and, Option.map_some, Option.map_none, if_true, if_false, ite_true, ite_false, reduceIte, and_self, and_true, true_and, false_and, and_false, eq_self, ne_eq, not_true_eq_false, not_false_eq_true, Nat.zero_add, Nat.reduceAdd, Nat.reduceLeDiff, Nat.reduceLT, Nat.reduceEqDiff, Nat.le_refl, Nat.add_zero, Option.some.injEq, Prod.mk.injEq, Value.agg.injEq, Value.bool.injEq, Value.int.injEq, Value.tuple.injEq, Array.mk.injEq, List.cons.injEq, and_self, List.length_cons, List.length_nil, List.getElem?_cons_zero, List.getElem?_cons_succ, List.getElem?_nil, List.drop_succ_cons, List.drop_zero, List.take_succ_cons, List.take_zero, List.take_nil, List.drop_nil, List.getD_cons_zero, List.getD_cons_succ, rep1, rep2, rep3, rep4, List.set_cons_zero, List.set_cons_succ, List.cons_append, List.nil_append, rright_ok s h1 h2, g1, g2, h3, h4, Prefix_ok s h1 h2 (Nat.le_of_lt hj), Rest_ok s h1 h2 (Nat.le_of_lt hj), als_eq, Nat.zero_lt_succ, Nat.one_lt_two, Nat.reduceMul, j1, f1, f2, hne, alive_rr]
  · exact ⟨s, by simp only [leapfroglaw01x_VecBack.v, leapfroglaw01x_VecBack.t, std_bd, std_gd, std_gdS, std_gdU, std_cnd, std_it, bds, bdn, cndt, cndf, cndd, cndb, gdtt, gdff, gdtf, gdft, gdun, gdSun, gdSt, gdSf, gdStf, gdSft, gdUt, gdUf, gdUtf, gdUft, pikt, pikf, eqb1, neb1, eqb0, neb0, eqb2, neb2, eqb3n, neb3n, eqb3nn, neb3nn, eqk1, eqb_agg, neb_agg, eqks_nil, eqks_cons, bin_add, bin_sub, bin_mul, bin_lss, bin_leq, bin_gtr, bin_geq, un_notd, un_not, cvi_int, cvs_str, mn2_int, mx2_int, lenS_str, lenL_slc, bx_int, bx_bool, bx_str, bx_ptr, bx_slc, bx_agg, lcl_eq, xtr_eq, cellsA_agg, spl_z, spl_c, spl_s, bld_nil, bld_cons, bls_nil, bls_cons, prt_t, prt_f, nck_ptr, fld_ptr, lal, stl, decide_true, decide_false, decide_eq_true_eq, Bool.false_eq_true, Bool.not_true, Bool.not_false, Bool.and_true, Bool.and_false, Bool.true_and, Bool.false_and, Option.map_some, Option.map_none, if_true, if_false, ite_true, ite_false, reduceIte, and_self, and_true, true_and, false_and, and_false, eq_self, ne_eq, not_true_eq_false, not_false_eq_true, Nat.zero_add, Nat.reduceAdd, Nat.reduceLeDiff, Nat.reduceLT, Nat.reduceEqDiff, Nat.le_refl, Nat.add_zero, Option.some.injEq, Prod.mk.injEq, Value.agg.injEq, Value.bool.injEq, Value.int.injEq, Value.tuple.injEq, Array.mk.injEq, List.cons.injEq, and_self, List.length_cons, List.length_nil, List.getElem?_cons_zero, List.getElem?_cons_succ, List.getElem?_nil, List.drop_succ_cons, List.drop_zero, List.take_succ_cons, List.take_zero, List.take_nil, List.drop_nil, List.getD_cons_zero, List.getD_cons_succ, rep1, rep2, rep3, rep4, List.set_cons_zero, List.set_cons_succ, List.cons_append, List.nil_append, rright_no s hk hB0, right_no s hk hB0, alive_rr]⟩
end VecBack
end Go.Proofs.Ytgdloihagiddhaa
