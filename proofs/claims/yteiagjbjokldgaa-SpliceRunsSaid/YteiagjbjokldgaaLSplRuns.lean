/-
  SpliceRuns, over abstract values.
-/
import Derived.Test.YteiagjbjokldgaaSplF
import Derived.Test.YteiagjbjokldgaaMachD
set_option linter.unusedSimpArgs false
set_option linter.unusedVariables false
set_option maxRecDepth 100000
set_option maxHeartbeats 2000000
namespace Go.Proofs.Yteiagjbjokldgaa
open Go.Sim Go.Sim.Bt
attribute [local congr] bdc cndc itec gdc gdSc gdUc
namespace SpliceRuns

theorem alive_r (s : St) : leapfroglaw13x_aliveC.r s = some (.bool true) := rfl
theorem sameStep13_r (k : Int) (t : Rf) (a : AskP) (r : Res) (s : St) : leapfrogref13x_SameStep.r (.agg ⟨stepC k t a r⟩) (.agg ⟨stepC k t a r⟩) s = some (.bool true) := by
  have b2 : b2s s (.slice none 0 0) = some (.string ⟨⟨[]⟩⟩) := rfl
  have e0 : ((0 : Nat) : Int) = 0 := rfl
  have e1 : ¬ ((0 : Int) < 0) := by omega
  have hr : ∀ x : List Value, x = [.int .i64 r.e, .int .u64 r.key, .slice none 0 0, .slice none 0 0, .int .i64 r.l.id, .int .i64 r.l.rk, .int .u64 r.l.n, .int .i64 r.l.ln, .int .u64 r.l.bt, .int .i64 r.r.id, .int .i64 r.r.rk, .int .u64 r.r.n, .int .i64 r.r.ln, .int .u64 r.r.bt, .bool r.found] → leapfrogref13x_SameResult.r (.agg ⟨x⟩) (.agg ⟨x⟩) s = some (.bool true) := by
    rintro x rfl
    have hl : iter (leapfrogref13x_SameResult.l4 std) BIG [.int .i64 0, .agg ⟨[.int .i64 r.e, .int .u64 r.key, .slice none 0 0, .slice none 0 0, .int .i64 r.l.id, .int .i64 r.l.rk, .int .u64 r.l.n, .int .i64 r.l.ln, .int .u64 r.l.bt, .int .i64 r.r.id, .int .i64 r.r.rk, .int .u64 r.r.n, .int .i64 r.r.ln, .int .u64 r.r.bt, .bool r.found]⟩, .agg ⟨[.int .i64 r.e, .int .u64 r.key, .slice none 0 0, .slice none 0 0, .int .i64 r.l.id, .int .i64 r.l.rk, .int .u64 r.l.n, .int .i64 r.l.ln, .int .u64 r.l.bt, .int .i64 r.r.id, .int .i64 r.r.rk, .int .u64 r.r.n, .int .i64 r.r.ln, .int .u64 r.r.bt, .bool r.found]⟩] s = some ((0, [], s) : Cut) := by
      rw [show BIG = 4611686018427387903 + 1 from rfl, iter_succ]
      simp only [leapfrogref13x_SameResult.l4, std_bd, std_gd, std_gdS, std_gdU, std_cnd, std_it, bds, bdn, cndt, cndf, cndd, cndb, gdtt, gdff, gdtf, gdft, gdun, gdSun, gdSt, gdSf, gdStf, gdSft, gdUt, gdUf, gdUtf, gdUft, pikt, pikf, eqb1, neb1, eqb0, neb0, eqb2, neb2, eqb3n, neb3n, eqb3nn, neb3nn, eqk1, eqb_agg, neb_agg, eqks_nil, eqks_cons, bin_add, bin_sub, bin_mul, bin_lss, bin_leq, bin_gtr, bin_geq, un_notd, un_not, cvi_int, cvs_str, mn2_int, mx2_int, lenS_str, lenL_slc, bx_int, bx_bool, bx_str, bx_ptr, bx_slc, bx_agg, lcl_eq, xtr_eq, cellsA_agg, spl_z, spl_c, spl_s, bld_nil, bld_cons, bls_nil, bls_cons, prt_t, prt_f, nck_ptr, fld_ptr, lal, stl, decide_true, decide_false, decide_eq_true_eq, Bool.false_eq_true, Bool.not_true, Bool.not_false, Bool.and_true, Bool.and_false, Bool.true_and, Bool.false_and, Option.map_some, Option.map_none, if_true, if_false, ite_true, ite_false, reduceIte, and_self, and_true, true_and, false_and, and_false, true_or, or_true, false_or, or_false, eq_self, ne_eq, not_true_eq_false, not_false_eq_true, Nat.zero_add, Nat.reduceAdd, Nat.reduceLeDiff, Nat.reduceLT, Nat.reduceEqDiff, Int.reduceEq, Int.reduceLT, Int.reduceLE, Int.reduceNe, Nat.le_refl, Nat.add_zero, Option.some.injEq, Prod.mk.injEq, Value.agg.injEq, Value.bool.injEq, Value.int.injEq, Value.tuple.injEq, Array.mk.injEq, List.cons.injEq, and_self, List.length_cons, List.length_nil, List.getElem?_cons_zero, List.getElem?_cons_succ, List.getElem?_nil, List.drop_succ_cons, List.drop_zero, List.take_succ_cons, List.take_zero, List.take_nil, List.drop_nil, List.getD_cons_zero, List.getD_cons_succ, rep1, rep2, rep3, rep4, List.set_cons_zero, List.set_cons_succ, List.cons_append, List.nil_append, e0, e1]
    simp only [leapfrogref13x_SameResult.r, leapfrogref13x_SameResult.t, std_bd, std_gd, std_gdS, std_gdU, std_cnd, std_it, bds, bdn, cndt, cndf, cndd, cndb, gdtt, gdff, gdtf, gdft, gdun, gdSun, gdSt, gdSf, gdStf, gdSft, gdUt, gdUf, gdUtf, gdUft, pikt, pikf, eqb1, neb1, eqb0, neb0, eqb2, neb2, eqb3n, neb3n, eqb3nn, neb3nn, eqk1, eqb_agg, neb_agg, eqks_nil, eqks_cons, bin_add, bin_sub, bin_mul, bin_lss, bin_leq, bin_gtr, bin_geq, un_notd, un_not, cvi_int, cvs_str, mn2_int, mx2_int, lenS_str, lenL_slc, bx_int, bx_bool, bx_str, bx_ptr, bx_slc, bx_agg, lcl_eq, xtr_eq, cellsA_agg, spl_z, spl_c, spl_s, bld_nil, bld_cons, bls_nil, bls_cons, prt_t, prt_f, nck_ptr, fld_ptr, lal, stl, decide_true, decide_false, decide_eq_true_eq, Bool.false_eq_true, Bool.not_true, Bool.not_false, Bool.and_true, Bool.and_false, Bool.true_and, Bool.false_and, Option.map_some, Option.map_none, if_true, if_false, ite_true, ite_false, reduceIte, and_self, and_true, true_and, false_and, and_false, true_or, or_true, false_or, or_false, eq_self, ne_eq, not_true_eq_false, not_false_eq_true, Nat.zero_add, Nat.reduceAdd, Nat.reduceLeDiff, Nat.reduceLT, Nat.reduceEqDiff, Int.reduceEq, Int.reduceLT, Int.reduceLE, Int.reduceNe, Nat.le_refl, Nat.add_zero, Option.some.injEq, Prod.mk.injEq, Value.agg.injEq, Value.bool.injEq, Value.int.injEq, Value.tuple.injEq, Array.mk.injEq, List.cons.injEq, and_self, List.length_cons, List.length_nil, List.getElem?_cons_zero, List.getElem?_cons_succ, List.getElem?_nil, List.drop_succ_cons, List.drop_zero, List.take_succ_cons, List.take_zero, List.take_nil, List.drop_nil, List.getD_cons_zero, List.getD_cons_succ, rep1, rep2, rep3, rep4, List.set_cons_zero, List.set_cons_succ, List.cons_append, List.nil_append, b2, e0, hl]
  have hr := hr _ rfl
  simp only [leapfrogref13x_SameStep.r, leapfrogref13x_SameStep.t, std_bd, std_gd, std_gdS, std_gdU, std_cnd, std_it, bds, bdn, cndt, cndf, cndd, cndb, gdtt, gdff, gdtf, gdft, gdun, gdSun, gdSt, gdSf, gdStf, gdSft, gdUt, gdUf, gdUtf, gdUft, pikt, pikf, eqb1, neb1, eqb0, neb0, eqb2, neb2, eqb3n, neb3n, eqb3nn, neb3nn, eqk1, eqb_agg, neb_agg, eqks_nil, eqks_cons, bin_add, bin_sub, bin_mul, bin_lss, bin_leq, bin_gtr, bin_geq, un_notd, un_not, cvi_int, cvs_str, mn2_int, mx2_int, lenS_str, lenL_slc, bx_int, bx_bool, bx_str, bx_ptr, bx_slc, bx_agg, lcl_eq, xtr_eq, cellsA_agg, spl_z, spl_c, spl_s, bld_nil, bld_cons, bls_nil, bls_cons, prt_t, prt_f, nck_ptr, fld_ptr, lal, stl, decide_true, decide_false, decide_eq_true_eq, Bool.false_eq_true, Bool.not_true, Bool.not_false, Bool.and_true, Bool.and_false, Bool.true_and, Bool.false_and, Option.map_some, Option.map_none, if_true, if_false, ite_true, ite_false, reduceIte, and_self, and_true, true_and, false_and, and_false, true_or, or_true, false_or, or_false, eq_self, ne_eq, not_true_eq_false, not_false_eq_true, Nat.zero_add, Nat.reduceAdd, Nat.reduceLeDiff, Nat.reduceLT, Nat.reduceEqDiff, Int.reduceEq, Int.reduceLT, Int.reduceLE, Int.reduceNe, Nat.le_refl, Nat.add_zero, Option.some.injEq, Prod.mk.injEq, Value.agg.injEq, Value.bool.injEq, Value.int.injEq, Value.tuple.injEq, Array.mk.injEq, List.cons.injEq, and_self, List.length_cons, List.length_nil, List.getElem?_cons_zero, List.getElem?_cons_succ, List.getElem?_nil, List.drop_succ_cons, List.drop_zero, List.take_succ_cons, List.take_zero, List.take_nil, List.drop_nil, List.getD_cons_zero, List.getD_cons_succ, rep1, rep2, rep3, rep4, List.set_cons_zero, List.set_cons_succ, List.cons_append, List.nil_append, hr]

/-- What 'Next' may want, as a step's cells. -/
theorem next_step (c : Cf) (m : Mm) : ∃ k t a r, nextC c m = stepC k t a r := by
  unfold nextC askC
  repeat' split
  all_goals exact ⟨_, _, _, _, rfl⟩
theorem same_r (c : Cf) (m : Mm) (s : St) : leapfrogref13x_SameStep.r (.agg ⟨nextC c m⟩) (.agg ⟨nextC c m⟩) s = some (.bool true) := by
  obtain ⟨k, t, a, r, e⟩ := next_step c m
  rw [e]
  exact sameStep13_r k t a r s
structure Here (c : Cf) (v : Value) (l : List OpA) (b d : Nat) (m : Mm) (r : Rm) (s : St) : Prop where
  hA : At c m s b
  hR : RRow s d (rrow c r)
  inv : InvM m
  rel : RelM m r
  ho : IsO s v l
  fr : Fresh s
theorem isO_stp {c : Cf} {m : Mm} {b : Nat} {s s' : St} {v : Value} {l : List OpA} (h : IsO s v l) (hA : At c m s b) (hf : Fresh s) (k : Stp b s s') : IsO s' v l ∧ ∀ j : Nat, j < l.length → idx s' 14 v (.int .i64 (j : Int)) = idx s 14 v (.int .i64 (j : Int)) := by
  obtain ⟨lp, fv, hr, _, _⟩ := hA
  exact h.keep fun q rows ro hq => k.get hf hq (ne_row hr hq (by omega))
theorem r_stp {c : Cf} {m : Mm} {b d : Nat} {s s' : St} {X : List Value} (h : RRow s d X) (hA : At c m s b) (hf : Fresh s) (k : Stp b s s') : RRow s' d X := by
  obtain ⟨lp, fv, hr, _, _⟩ := hA
  exact k.get hf h (ne_row hr h (by omega))
theorem ne_r {s : St} {d q n : Nat} {X : List Value} {rows : List (List Value)} {ro : Bool} (h : RRow s d X) (g : s.get q = some (.row n rows ro)) (hn : n ≠ 48) : q ≠ d := by
  rintro rfl
  have h2 := h
  unfold RRow at h2
  rw [g] at h2
  simp at h2
  exact hn h2.1
theorem at_but {c : Cf} {m : Mm} {b d : Nat} {s s' : St} {X : List Value} (hA : At c m s b) (h : RRow s d X) (k : But d s s') : At c m s' b := by
  obtain ⟨lp, fv, hr, hl, ht⟩ := hA
  have g : ∀ {q n : Nat} {rows : List (List Value)} {ro : Bool}, s.get q = some (.row n rows ro) → n ≠ 48 → s'.get q = some (.row n rows ro) := fun hq hn => by rw [k.1 _ (ne_r h hq hn)]; exact hq
  refine ⟨lp, fv, g hr (by omega), ?_, fun e => ?_⟩
  · cases hm : m.last with
    | none => rw [hm] at hl; exact hl
    | some q => rw [hm] at hl; obtain ⟨x, ro, h1, h2⟩ := hl; exact ⟨x, ro, h1, g h2 (by omega)⟩
  · have ht := ht e
    cases hm : m.th with
    | no => rw [hm] at ht; exact ht
    | fin R =>
      rw [hm] at ht
      rcases ht with ⟨qs, qe, e, h0, h1, h2, h3⟩ | ⟨qs, qr, h1, h2, h3⟩
      · exact .inl ⟨qs, qe, e, h0, h1, g h2 (by omega), g h3 (by omega)⟩
      · exact .inr ⟨qs, qr, h1, g h2 (by omega), g h3 (by omega)⟩
    | wait => rw [hm] at ht; obtain ⟨qs, h1, h2⟩ := ht; exact ⟨qs, h1, g h2 (by omega)⟩
    | next => rw [hm] at ht; obtain ⟨qs, h1, h2⟩ := ht; exact ⟨qs, h1, g h2 (by omega)⟩
    | ex => rw [hm] at ht; obtain ⟨qs, h1, h2⟩ := ht; exact ⟨qs, h1, g h2 (by omega)⟩
theorem isO_but {d : Nat} {s s' : St} {v : Value} {l : List OpA} {X : List Value} (h : IsO s v l) (hR : RRow s d X) (k : But d s s') : IsO s' v l :=
  (h.keep fun q rows ro hq => by rw [k.1 _ (ne_r hR hq (by omega))]; exact hq).1

theorem step {c : Cf} {v : Value} {l : List OpA} {b d j : Nat} {m : Mm} {r : Rm} {s : St} (h : Here c v l b d m r s) (hj : j < 80) {a : OpA} (ha : l[j]? = some a) (rec : List Value → St → Option Cut) :
    ∃ m' r' s', leapfroglaw13x_SpliceRuns.l8 std rec [v, P b, P d, Value.int .i64 (j : Int)] s = rec [v, P b, P d, Value.int .i64 ((j + 1 : Nat) : Int)] s' ∧ Here c v l b d m' r' s' := by
  have n1 := next_r h.hA h.inv
  have n2 := rnext_r h.hR (inv_r h.rel h.inv)
  rw [rel_next h.inv h.rel] at n2
  have n3 := same_r c m s
  generalize nextC c m = nx at *
  have hjl : j < l.length := (List.getElem?_eq_some_iff.1 ha).1
  have e1 : (j : Int) < l.length := by omega
  have e2 : (j : Int) < 80 := by omega
  have e5 : IntKind.i64.wrap ((j : Int) + 1) = ((j + 1 : Nat) : Int) := by rw [wrap64 (by omega) (by omega)]; omega
  obtain ⟨b1, k1, rows1, ro1, a1, a2, a3⟩ := h.ho.at ha
  have hlen := h.ho.len
  cases hw : a.wake with
  | true =>
    obtain ⟨s1, w1, w2, w3⟩ := wake_r h.fr h.hA
    have f1 := w3.2.2 h.fr
    have hR1 := r_stp h.hR h.hA h.fr w3
    obtain ⟨s2, x1, x2, x3⟩ := rwake_r hR1
    refine ⟨_, _, s2, ?_, ⟨at_but w2 hR1 x3, x2, inv_wake h.inv, rel_wake h.inv h.rel, isO_but (isO_stp h.ho h.hA h.fr w3).1 hR1 x3, x3.2.2 f1⟩⟩
    simp only [leapfroglaw13x_SpliceRuns.l8, std_bd, std_gd, std_gdS, std_gdU, std_cnd, std_it, bds, bdn, cndt, cndf, cndd, cndb, gdtt, gdff, gdtf, gdft, gdun, gdSun, gdSt, gdSf, gdStf, gdSft, gdUt, gdUf, gdUtf, gdUft, pikt, pikf, eqb1, neb1, eqb0, neb0, eqb2, neb2, eqb3n, neb3n, eqb3nn, neb3nn, eqk1, eqb_agg, neb_agg, eqks_nil, eqks_cons, bin_add, bin_sub, bin_mul, bin_lss, bin_leq, bin_gtr, bin_geq, un_notd, un_not, cvi_int, cvs_str, mn2_int, mx2_int, lenS_str, lenL_slc, bx_int, bx_bool, bx_str, bx_ptr, bx_slc, bx_agg, lcl_eq, xtr_eq, cellsA_agg, spl_z, spl_c, spl_s, bld_nil, bld_cons, bls_nil, bls_cons, prt_t, prt_f, nck_ptr, fld_ptr, lal, stl, decide_true, decide_false, decide_eq_true_eq, Bool.false_eq_true, Bool.not_true, Bool.not_false, Bool.and_true, Bool.and_false, Bool.true_and, Bool.false_and, Option.map_some, Option.map_none, if_true, if_false, ite_true, ite_false, reduceIte, and_self, and_true, true_and, false_and, and_false, true_or, or_true, false_or, or_false, eq_self, ne_eq, not_true_eq_false, not_false_eq_true, Nat.zero_add, Nat.reduceAdd, Nat.reduceLeDiff, Nat.reduceLT, Nat.reduceEqDiff, Int.reduceEq, Int.reduceLT, Int.reduceLE, Int.reduceNe, Nat.le_refl, Nat.add_zero, Option.some.injEq, Prod.mk.injEq, Value.agg.injEq, Value.bool.injEq, Value.int.injEq, Value.tuple.injEq, Array.mk.injEq, List.cons.injEq, and_self, List.length_cons, List.length_nil, List.getElem?_cons_zero, List.getElem?_cons_succ, List.getElem?_nil, List.drop_succ_cons, List.drop_zero, List.take_succ_cons, List.take_zero, List.take_nil, List.drop_nil, List.getD_cons_zero, List.getD_cons_succ, rep1, rep2, rep3, rep4, List.set_cons_zero, List.set_cons_succ, List.cons_append, List.nil_append, hlen, e1, e2, n1, n2, n3, a1, ldc_row a2, a3, hw, w1, x1, e5]
  | false =>
    obtain ⟨s1, w1, w2, w3⟩ := tell_r h.fr h.hA h.inv a.a
    have f1 := w3.2.2 h.fr
    have hR1 := r_stp h.hR h.hA h.fr w3
    obtain ⟨s2, x1, x2, x3⟩ := rtell_r hR1 (inv_r h.rel h.inv) a.a
    obtain ⟨ho1, hi1⟩ := isO_stp h.ho h.hA h.fr w3
    obtain ⟨b2, k2, rows2, ro2, c1, c2, c3⟩ := ho1.at ha
    refine ⟨_, _, s2, ?_, ⟨at_but w2 hR1 x3, x2, inv_tell h.inv a.a, rel_tell h.inv h.rel a.a, isO_but ho1 hR1 x3, x3.2.2 f1⟩⟩
    simp only [leapfroglaw13x_SpliceRuns.l8, std_bd, std_gd, std_gdS, std_gdU, std_cnd, std_it, bds, bdn, cndt, cndf, cndd, cndb, gdtt, gdff, gdtf, gdft, gdun, gdSun, gdSt, gdSf, gdStf, gdSft, gdUt, gdUf, gdUtf, gdUft, pikt, pikf, eqb1, neb1, eqb0, neb0, eqb2, neb2, eqb3n, neb3n, eqb3nn, neb3nn, eqk1, eqb_agg, neb_agg, eqks_nil, eqks_cons, bin_add, bin_sub, bin_mul, bin_lss, bin_leq, bin_gtr, bin_geq, un_notd, un_not, cvi_int, cvs_str, mn2_int, mx2_int, lenS_str, lenL_slc, bx_int, bx_bool, bx_str, bx_ptr, bx_slc, bx_agg, lcl_eq, xtr_eq, cellsA_agg, spl_z, spl_c, spl_s, bld_nil, bld_cons, bls_nil, bls_cons, prt_t, prt_f, nck_ptr, fld_ptr, lal, stl, decide_true, decide_false, decide_eq_true_eq, Bool.false_eq_true, Bool.not_true, Bool.not_false, Bool.and_true, Bool.and_false, Bool.true_and, Bool.false_and, Option.map_some, Option.map_none, if_true, if_false, ite_true, ite_false, reduceIte, and_self, and_true, true_and, false_and, and_false, true_or, or_true, false_or, or_false, eq_self, ne_eq, not_true_eq_false, not_false_eq_true, Nat.zero_add, Nat.reduceAdd, Nat.reduceLeDiff, Nat.reduceLT, Nat.reduceEqDiff, Int.reduceEq, Int.reduceLT, Int.reduceLE, Int.reduceNe, Nat.le_refl, Nat.add_zero, Option.some.injEq, Prod.mk.injEq, Value.agg.injEq, Value.bool.injEq, Value.int.injEq, Value.tuple.injEq, Array.mk.injEq, List.cons.injEq, and_self, List.length_cons, List.length_nil, List.getElem?_cons_zero, List.getElem?_cons_succ, List.getElem?_nil, List.drop_succ_cons, List.drop_zero, List.take_succ_cons, List.take_zero, List.take_nil, List.drop_nil, List.getD_cons_zero, List.getD_cons_succ, rep1, rep2, rep3, rep4, List.set_cons_zero, List.set_cons_succ, List.cons_append, List.nil_append, hlen, e1, e2, n1, n2, n3, a1, ldc_row a2, lda_row a2, a3, hw, w1, c1, lda_row c2, c3, x1, e5]

theorem loop {c : Cf} {v : Value} {l : List OpA} {b d : Nat} {m : Mm} {r : Rm} {s : St} (h : Here c v l b d m r s) :
    ∃ m' r' s', iter (leapfroglaw13x_SpliceRuns.l8 std) BIG [v, P b, P d, Value.int .i64 ((0 : Nat) : Int)] s = some ((0, [P b, P d], s') : Cut) ∧ Here c v l b d m' r' s' := by
  refine iter_rel (fun k xs s' => ∃ m r j, Here c v l b d m r s' ∧ j + k = 80 ∧ xs = [v, P b, P d, Value.int .i64 ((j : Nat) : Int)])
    (fun y : Option Cut => ∃ m' r' s', y = some ((0, [P b, P d], s') : Cut) ∧ Here c v l b d m' r' s') ?_ BIG 80 _ s (by unfold BIG; omega) ⟨m, r, 0, h, by omega, rfl⟩
  rintro k xs s rec ⟨m, r, j, h, hj, rfl⟩ ih
  by_cases h1 : j < l.length
  · have e1 : (j : Int) < l.length := by omega
    cases k with
    | zero =>
      have e2 : ¬ ((j : Int) < 80) := by omega
      exact ⟨m, r, s, by simp only [leapfroglaw13x_SpliceRuns.l8, std_bd, std_gd, std_gdS, std_gdU, std_cnd, std_it, bds, bdn, cndt, cndf, cndd, cndb, gdtt, gdff, gdtf, gdft, gdun, gdSun, gdSt, gdSf, gdStf, gdSft, gdUt, gdUf, gdUtf, gdUft, pikt, pikf, eqb1, neb1, eqb0, neb0, eqb2, neb2, eqb3n, neb3n, eqb3nn, neb3nn, eqk1, eqb_agg, neb_agg, eqks_nil, eqks_cons, bin_add, bin_sub, bin_mul, bin_lss, bin_leq, bin_gtr, bin_geq, un_notd, un_not, cvi_int, cvs_str, mn2_int, mx2_int, lenS_str, lenL_slc, bx_int, bx_bool, bx_str, bx_ptr, bx_slc, bx_agg, lcl_eq, xtr_eq, cellsA_agg, spl_z, spl_c, spl_s, bld_nil, bld_cons, bls_nil, bls_cons, prt_t, prt_f, nck_ptr, fld_ptr, lal, stl, decide_true, decide_false, decide_eq_true_eq, Bool.false_eq_true, Bool.not_true, Bool.not_false, Bool.and_true, Bool.and_false, Bool.true_and, Bool.false_and, Option.map_some, Option.map_none, if_true, if_false, ite_true, ite_false, reduceIte, and_self, and_true, true_and, false_and, and_false, true_or, or_true, false_or, or_false, eq_self, ne_eq, not_true_eq_false, not_false_eq_true, Nat.zero_add, Nat.reduceAdd, Nat.reduceLeDiff, Nat.reduceLT, Nat.reduceEqDiff, Int.reduceEq, Int.reduceLT, Int.reduceLE, Int.reduceNe, Nat.le_refl, Nat.add_zero, Option.some.injEq, Prod.mk.injEq, Value.agg.injEq, Value.bool.injEq, Value.int.injEq, Value.tuple.injEq, Array.mk.injEq, List.cons.injEq, and_self, List.length_cons, List.length_nil, List.getElem?_cons_zero, List.getElem?_cons_succ, List.getElem?_nil, List.drop_succ_cons, List.drop_zero, List.take_succ_cons, List.take_zero, List.take_nil, List.drop_nil, List.getD_cons_zero, List.getD_cons_succ, rep1, rep2, rep3, rep4, List.set_cons_zero, List.set_cons_succ, List.cons_append, List.nil_append, h.ho.len, e1, e2], h⟩
    | succ k =>
      obtain ⟨a, ha⟩ := get_some h1
      obtain ⟨m', r', s', g1, g2⟩ := step h (by omega) ha rec
      rw [g1]
      exact ih k _ _ (by omega) ⟨m', r', j + 1, g2, by omega, rfl⟩
  · have e1 : ¬ ((j : Int) < l.length) := by omega
    exact ⟨m, r, s, by simp only [leapfroglaw13x_SpliceRuns.l8, std_bd, std_gd, std_gdS, std_gdU, std_cnd, std_it, bds, bdn, cndt, cndf, cndd, cndb, gdtt, gdff, gdtf, gdft, gdun, gdSun, gdSt, gdSf, gdStf, gdSft, gdUt, gdUf, gdUtf, gdUft, pikt, pikf, eqb1, neb1, eqb0, neb0, eqb2, neb2, eqb3n, neb3n, eqb3nn, neb3nn, eqk1, eqb_agg, neb_agg, eqks_nil, eqks_cons, bin_add, bin_sub, bin_mul, bin_lss, bin_leq, bin_gtr, bin_geq, un_notd, un_not, cvi_int, cvs_str, mn2_int, mx2_int, lenS_str, lenL_slc, bx_int, bx_bool, bx_str, bx_ptr, bx_slc, bx_agg, lcl_eq, xtr_eq, cellsA_agg, spl_z, spl_c, spl_s, bld_nil, bld_cons, bls_nil, bls_cons, prt_t, prt_f, nck_ptr, fld_ptr, lal, stl, decide_true, decide_false, decide_eq_true_eq, Bool.false_eq_true, Bool.not_true, Bool.not_false, Bool.and_true, Bool.and_false, Bool.true_and, Bool.false_and, Option.map_some, Option.map_none, if_true, if_false, ite_true, ite_false, reduceIte, and_self, and_true, true_and, false_and, and_false, true_or, or_true, false_or, or_false, eq_self, ne_eq, not_true_eq_false, not_false_eq_true, Nat.zero_add, Nat.reduceAdd, Nat.reduceLeDiff, Nat.reduceLT, Nat.reduceEqDiff, Int.reduceEq, Int.reduceLT, Int.reduceLE, Int.reduceNe, Nat.le_refl, Nat.add_zero, Option.some.injEq, Prod.mk.injEq, Value.agg.injEq, Value.bool.injEq, Value.int.injEq, Value.tuple.injEq, Array.mk.injEq, List.cons.injEq, and_self, List.length_cons, List.length_nil, List.getElem?_cons_zero, List.getElem?_cons_succ, List.getElem?_nil, List.drop_succ_cons, List.drop_zero, List.take_succ_cons, List.take_zero, List.take_nil, List.drop_nil, List.getD_cons_zero, List.getD_cons_succ, rep1, rep2, rep3, rep4, List.set_cons_zero, List.set_cons_succ, List.cons_append, List.nil_append, h.ho.len, e1], h⟩

theorem law (s : St) (us : List Value) (ha : AllRo s) (hf : ∀ b, s.n ≤ b → s.get b = none) (h : Args s [(true, [.i .i64, .i .u64, .i .i64, .i .i64, .i .u64, .i .i64, .i .u64, .i .i64, .i .i64, .i .u64, .i .i64, .i .u64, .i .i64, .i .i64]), (false, [.sl [.b, .i .i64, .b, .i .i64, .i .i64, .i .u64, .i .i64, .i .u64, .i .i64, .i .i64, .i .u64, .i .i64, .i .u64, .sl [.i .u8]]])] us) :
    ∃ s', leapfroglaw13x_SpliceRuns.w us s = some (.bool true, s') := by
  simp only [Args, Arg] at h
  obtain ⟨_, _, rfl, ⟨_, rfl, h1⟩, v, _, rfl, h2, rfl⟩ := h
  unfold Leaf.Are Leaf.Are at h2
  obtain ⟨v', _, g1, h2, rfl⟩ := h2
  obtain rfl : v = v' := (List.cons.inj g1).1
  simp only [Leaf.Are, Leaf.Is] at h1
  obtain ⟨_, _, rfl, ⟨wl, rfl, _⟩, _, _, rfl, ⟨wb, rfl, hwb⟩, _, _, rfl, ⟨i1, rfl, _⟩, _, _, rfl, ⟨i2, rfl, _⟩, _, _, rfl, ⟨i3, rfl, _⟩, _, _, rfl, ⟨i4, rfl, _⟩, _, _, rfl, ⟨i5, rfl, hi5⟩, _, _, rfl, ⟨f1, rfl, _⟩, _, _, rfl, ⟨f2, rfl, _⟩, _, _, rfl, ⟨f3, rfl, _⟩, _, _, rfl, ⟨f4, rfl, _⟩, _, _, rfl, ⟨f5, rfl, _⟩, _, _, rfl, ⟨oa, rfl, _⟩, _, _, rfl, ⟨oo, rfl, _⟩, rfl⟩ := h1
  obtain ⟨l, hl⟩ := isO_of h2
  have hw0 := (wf_u64 hwb).1
  have hm0 := (wf_u64 hi5).1
  show ∃ s', leapfroglaw13x_SpliceRuns.v (.agg ⟨(⟨wl, wb, ⟨i1, i2, i3, i4, i5⟩, ⟨f1, f2, f3, f4, f5⟩, oa, oo⟩ : Cf).cs⟩) v s = some (.bool true, s')
  generalize hc : (⟨wl, wb, ⟨i1, i2, i3, i4, i5⟩, ⟨f1, f2, f3, f4, f5⟩, oa, oo⟩ : Cf) = c
  have hm0 : 0 ≤ c.me.bt := by rw [← hc]; exact hm0
  have hw0 : 0 ≤ c.wb := by rw [← hc]; exact hw0
  by_cases hC : okC c
  · have q1 := new_yes hf hm0 hw0 hC
    have f1 : Fresh (s.new (.row 44 [urow c (m0 c) (.pointer none) .nilFunc] false)) := Fresh.new hf
    have q2 := rnew_yes f1 hm0 hw0 hC
    have hA1 : At c (m0 c) (s.new (.row 44 [urow c (m0 c) (.pointer none) .nilFunc] false)) s.n := ⟨_, _, get_new_same, rfl, fun e => by simp [m0] at e⟩
    have ho1 := (hl.keep (s' := s.new (.row 44 [urow c (m0 c) (.pointer none) .nilFunc] false)) fun q rows ro hq => by rw [get_new_ne (by have := Fresh.lt hf hq; omega)]; exact hq).1
    generalize s.new (.row 44 [urow c (m0 c) (.pointer none) .nilFunc] false) = s1 at *
    have H0 : Here c v l s.n s1.n (m0 c) ⟨1, 0, c.fr, zR, false, zR, false, zRes⟩ (s1.new (.row 48 [rrow c ⟨1, 0, c.fr, zR, false, zR, false, zRes⟩] false)) := by
      refine ⟨hA1.stp f1 .new, get_new_same, by unfold InvM m0; simp, ⟨rfl, rfl, by simp [m0], fun _ => ⟨rfl, fun q hq => by simp [m0] at hq, fun _ => rfl⟩, by simp [m0], by simp [m0], by simp [m0]⟩, (ho1.keep fun q rows ro hq => ?_).1, Fresh.new f1⟩
      rw [get_new_ne (by have := Fresh.lt f1 hq; omega)]; exact hq
    obtain ⟨m', r', s', e, h'⟩ := loop H0
    rw [show ((0 : Nat) : Int) = 0 from rfl] at e
    have n1 := next_r h'.hA h'.inv
    have n2 := rnext_r h'.hR (inv_r h'.rel h'.inv)
    rw [rel_next h'.inv h'.rel] at n2
    have n3 := same_r c m' s'
    generalize nextC c m' = nx at *
    generalize s1.new (.row 48 [rrow c ⟨1, 0, c.fr, zR, false, zR, false, zRes⟩] false) = s3 at *
    exact ⟨s', by simp only [leapfroglaw13x_SpliceRuns.v, leapfroglaw13x_SpliceRuns.t, std_bd, std_gd, std_gdS, std_gdU, std_cnd, std_it, bds, bdn, cndt, cndf, cndd, cndb, gdtt, gdff, gdtf, gdft, gdun, gdSun, gdSt, gdSf, gdStf, gdSft, gdUt, gdUf, gdUtf, gdUft, pikt, pikf, eqb1, neb1, eqb0, neb0, eqb2, neb2, eqb3n, neb3n, eqb3nn, neb3nn, eqk1, eqb_agg, neb_agg, eqks_nil, eqks_cons, bin_add, bin_sub, bin_mul, bin_lss, bin_leq, bin_gtr, bin_geq, un_notd, un_not, cvi_int, cvs_str, mn2_int, mx2_int, lenS_str, lenL_slc, bx_int, bx_bool, bx_str, bx_ptr, bx_slc, bx_agg, lcl_eq, xtr_eq, cellsA_agg, spl_z, spl_c, spl_s, bld_nil, bld_cons, bls_nil, bls_cons, prt_t, prt_f, nck_ptr, fld_ptr, lal, stl, decide_true, decide_false, decide_eq_true_eq, Bool.false_eq_true, Bool.not_true, Bool.not_false, Bool.and_true, Bool.and_false, Bool.true_and, Bool.false_and, Option.map_some, Option.map_none, if_true, if_false, ite_true, ite_false, reduceIte, and_self, and_true, true_and, false_and, and_false, true_or, or_true, false_or, or_false, eq_self, ne_eq, not_true_eq_false, not_false_eq_true, Nat.zero_add, Nat.reduceAdd, Nat.reduceLeDiff, Nat.reduceLT, Nat.reduceEqDiff, Int.reduceEq, Int.reduceLT, Int.reduceLE, Int.reduceNe, Nat.le_refl, Nat.add_zero, Option.some.injEq, Prod.mk.injEq, Value.agg.injEq, Value.bool.injEq, Value.int.injEq, Value.tuple.injEq, Array.mk.injEq, List.cons.injEq, and_self, List.length_cons, List.length_nil, List.getElem?_cons_zero, List.getElem?_cons_succ, List.getElem?_nil, List.drop_succ_cons, List.drop_zero, List.take_succ_cons, List.take_zero, List.take_nil, List.drop_nil, List.getD_cons_zero, List.getD_cons_succ, rep1, rep2, rep3, rep4, List.set_cons_zero, List.set_cons_succ, List.cons_append, List.nil_append, q1, q2, e, n1, n2, n3, alive_r]⟩
  · obtain ⟨q1, q2⟩ := new_no hf hm0 hw0 hC
    exact ⟨s, by simp only [leapfroglaw13x_SpliceRuns.v, leapfroglaw13x_SpliceRuns.t, std_bd, std_gd, std_gdS, std_gdU, std_cnd, std_it, bds, bdn, cndt, cndf, cndd, cndb, gdtt, gdff, gdtf, gdft, gdun, gdSun, gdSt, gdSf, gdStf, gdSft, gdUt, gdUf, gdUtf, gdUft, pikt, pikf, eqb1, neb1, eqb0, neb0, eqb2, neb2, eqb3n, neb3n, eqb3nn, neb3nn, eqk1, eqb_agg, neb_agg, eqks_nil, eqks_cons, bin_add, bin_sub, bin_mul, bin_lss, bin_leq, bin_gtr, bin_geq, un_notd, un_not, cvi_int, cvs_str, mn2_int, mx2_int, lenS_str, lenL_slc, bx_int, bx_bool, bx_str, bx_ptr, bx_slc, bx_agg, lcl_eq, xtr_eq, cellsA_agg, spl_z, spl_c, spl_s, bld_nil, bld_cons, bls_nil, bls_cons, prt_t, prt_f, nck_ptr, fld_ptr, lal, stl, decide_true, decide_false, decide_eq_true_eq, Bool.false_eq_true, Bool.not_true, Bool.not_false, Bool.and_true, Bool.and_false, Bool.true_and, Bool.false_and, Option.map_some, Option.map_none, if_true, if_false, ite_true, ite_false, reduceIte, and_self, and_true, true_and, false_and, and_false, true_or, or_true, false_or, or_false, eq_self, ne_eq, not_true_eq_false, not_false_eq_true, Nat.zero_add, Nat.reduceAdd, Nat.reduceLeDiff, Nat.reduceLT, Nat.reduceEqDiff, Int.reduceEq, Int.reduceLT, Int.reduceLE, Int.reduceNe, Nat.le_refl, Nat.add_zero, Option.some.injEq, Prod.mk.injEq, Value.agg.injEq, Value.bool.injEq, Value.int.injEq, Value.tuple.injEq, Array.mk.injEq, List.cons.injEq, and_self, List.length_cons, List.length_nil, List.getElem?_cons_zero, List.getElem?_cons_succ, List.getElem?_nil, List.drop_succ_cons, List.drop_zero, List.take_succ_cons, List.take_zero, List.take_nil, List.drop_nil, List.getD_cons_zero, List.getD_cons_succ, rep1, rep2, rep3, rep4, List.set_cons_zero, List.set_cons_succ, List.cons_append, List.nil_append, q1, q2, alive_r]⟩
end SpliceRuns
end Go.Proofs.Yteiagjbjokldgaa
