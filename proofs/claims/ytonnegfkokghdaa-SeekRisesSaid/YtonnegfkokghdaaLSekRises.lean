/-
  SeekRises, over abstract values.
-/
import Derived.Test.YtonnegfkokghdaaSekB
import Derived.Test.YtonnegfkokghdaaMachB
set_option linter.unusedSimpArgs false
set_option linter.unusedVariables false
set_option maxRecDepth 100000
set_option maxHeartbeats 2000000
namespace Go.Proofs.Ytonnegfkokghdaa
open Go.Sim Go.Sim.Bt
attribute [local congr] bdc cndc itec gdc gdSc gdUc
namespace SeekRises

theorem awake_r (s : St) : leapfroglaw12x_awakeC.r s = some (.bool true) := rfl
def cur (m : Mm) : Rf := if m.lk = true then m.to else m.ap
structure Here (c : Cf) (v : Value) (l : List Ans) (b q : Nat) (m : Mm) (up : Bool) (s : St) : Prop where
  hA : At c m s b q
  ho : IsA s v l
  fr : Fresh s
  n0 : 0 ≤ m.n
  ov : m.ov = false
  okw : okV m.wl m.wb
  lki : m.lk = true → tgt c m.ap ∧ tgt c m.to
  upi : up = true → tgt c m.ap
abbrev XS (c : Cf) (v : Value) (b : Nat) (m : Mm) (up : Bool) (j : Nat) : List Value := [v, P b, .int .i64 m.n, .bool up, .int .i64 (j : Int), .agg ⟨c.cs⟩, .agg ⟨(cur m).cs⟩]
def Goes (c : Cf) (v : Value) (l : List Ans) (b q j : Nat) (rec : List Value → St → Option Cut) (x : Option Cut) : Prop :=
  (∃ s', x = some (1, [.bool true], s')) ∨ ∃ m up s', x = rec (XS c v b m up (j + 1)) s' ∧ Here c v l b q m up s' ∧ m.tab.length ≤ j + 1

theorem isA_stq {c : Cf} {m : Mm} {s s' : St} {b q : Nat} {v : Value} {l : List Ans} (h : IsA s v l) (hA : At c m s b q) (k : Stq b q s s') : IsA s' v l := by
  rcases h with ⟨rfl, rfl⟩ | ⟨d, i, e, rows, ro, rfl, hg, hr⟩
  · exact .inl ⟨rfl, rfl⟩
  · refine .inr ⟨d, i, e, rows, ro, rfl, ?_, hr⟩
    rw [k.1 d ?_ ?_]
    · exact hg
    · rintro rfl
      have h1 := hA.row
      unfold Row at h1
      rw [hg] at h1
      simp at h1
    · rintro rfl
      have h1 := hA.map
      rw [hg] at h1
      simp at h1

theorem step {c : Cf} {v : Value} {l : List Ans} {b q j : Nat} {m : Mm} {up : Bool} {s : St} (hc : okC c) (h : Here c v l b q m up s) (hj : j < 300) (ht : m.tab.length ≤ j) {a : Ans} (ha : l[j]? = some a) (rec : List Value → St → Option Cut) :
    Goes c v l b q j rec (leapfroglaw12x_SeekRises.l8 std rec (XS c v b m up j) s) := by
  have hjl : j < l.length := (List.getElem?_eq_some_iff.1 ha).1
  have e1 : (j : Int) < l.length := by omega
  have e2 : (j : Int) < 300 := by omega
  have e5 : IntKind.i64.wrap ((j : Int) + 1) = ((j + 1 : Nat) : Int) := by rw [wrap64 (by omega) (by omega)]; omega
  obtain ⟨b1, k1, rows1, ro1, a1, a2, a3⟩ := h.ho.at ha
  obtain ⟨m', s', t1, t2, t3, t4, t5⟩ := tell_r h.hA h.n0 h.ov (by omega) h.okw a
  have n1 := next_r t2
  have n2 := tries_r t2
  have ho' := isA_stq h.ho h.hA t4
  have fr' := t4.2.2 h.fr
  have ht' : m'.tab.length ≤ j + 1 := by omega
  have hlen := h.ho.len
  -- where it is over
  have over : m'.ov = true → Goes c v l b q j rec (leapfroglaw12x_SeekRises.l8 std rec (XS c v b m up j) s) := by
    intro ho
    rw [show nextC m' = stepC 3 zR zAsk m'.res by simp [nextC, ho]] at n1
    exact .inl ⟨s', by simp only [leapfroglaw12x_SeekRises.l8, std_bd, std_gd, std_gdS, std_gdU, std_cnd, std_it, bds, bdn, cndt, cndf, cndd, cndb, gdtt, gdff, gdtf, gdft, gdun, gdSun, gdSt, gdSf, gdStf, gdSft, gdUt, gdUf, gdUtf, gdUft, pikt, pikf, eqb1, neb1, eqb0, neb0, eqb2, neb2, eqb3n, neb3n, eqb3nn, neb3nn, eqk1, eqb_agg, neb_agg, eqks_nil, eqks_cons, bin_add, bin_sub, bin_mul, bin_lss, bin_leq, bin_gtr, bin_geq, un_notd, un_not, cvi_int, cvs_str, mn2_int, mx2_int, lenS_str, lenL_slc, bx_int, bx_bool, bx_str, bx_ptr, bx_slc, bx_agg, lcl_eq, xtr_eq, cellsA_agg, spl_z, spl_c, spl_s, bld_nil, bld_cons, bls_nil, bls_cons, prt_t, prt_f, nck_ptr, fld_ptr, lal, stl, decide_true, decide_false, decide_eq_true_eq, Bool.false_eq_true, Bool.not_true, Bool.not_false, Bool.and_true, Bool.and_false, Bool.true_and, Bool.false_and, Option.map_some, Option.map_none, if_true, if_false, ite_true, ite_false, reduceIte, and_self, and_true, true_and, false_and, and_false, true_or, or_true, false_or, or_false, eq_self, ne_eq, not_true_eq_false, not_false_eq_true, Nat.zero_add, Nat.reduceAdd, Nat.reduceLeDiff, Nat.reduceLT, Nat.reduceEqDiff, Int.reduceEq, Int.reduceLT, Int.reduceLE, Int.reduceNe, Nat.le_refl, Nat.add_zero, Option.some.injEq, Prod.mk.injEq, Value.agg.injEq, Value.bool.injEq, Value.int.injEq, Value.tuple.injEq, Array.mk.injEq, List.cons.injEq, and_self, List.length_cons, List.length_nil, List.getElem?_cons_zero, List.getElem?_cons_succ, List.getElem?_nil, List.drop_succ_cons, List.drop_zero, List.take_succ_cons, List.take_zero, List.take_nil, List.drop_nil, List.getD_cons_zero, List.getD_cons_succ, rep1, rep2, rep3, rep4, List.set_cons_zero, List.set_cons_succ, List.cons_append, List.nil_append, hlen, e1, e2, a1, lda_row a2, a3, t1, n1, stepC]⟩
  -- where it began again
  have anew : m'.ov = false → m'.n = m.n + 1 → okV m'.wl m'.wb → m'.lk = false → Goes c v l b q j rec (leapfroglaw12x_SeekRises.l8 std rec (XS c v b m up j) s) := by
    intro ho hn hw hk
    rw [show nextC m' = stepC 1 (cur m') ⟨1, m'.wl, m'.wb, zR, zR, 0, 0⟩ zRes by simp [nextC, ho, cur]] at n1
    have en : (m'.n = m.n) = False := eq_false (by omega)
    refine .inr ⟨m', false, s', ?_, ⟨t2, ho', fr', by have := h.n0; omega, ho, hw, (fun e => by rw [hk] at e; cases e), fun e => by cases e⟩, ht'⟩
    simp only [XS, leapfroglaw12x_SeekRises.l8, leapfroglaw12x_SeekRises.l8.p1, std_bd, std_gd, std_gdS, std_gdU, std_cnd, std_it, bds, bdn, cndt, cndf, cndd, cndb, gdtt, gdff, gdtf, gdft, gdun, gdSun, gdSt, gdSf, gdStf, gdSft, gdUt, gdUf, gdUtf, gdUft, pikt, pikf, eqb1, neb1, eqb0, neb0, eqb2, neb2, eqb3n, neb3n, eqb3nn, neb3nn, eqk1, eqb_agg, neb_agg, eqks_nil, eqks_cons, bin_add, bin_sub, bin_mul, bin_lss, bin_leq, bin_gtr, bin_geq, un_notd, un_not, cvi_int, cvs_str, mn2_int, mx2_int, lenS_str, lenL_slc, bx_int, bx_bool, bx_str, bx_ptr, bx_slc, bx_agg, lcl_eq, xtr_eq, cellsA_agg, spl_z, spl_c, spl_s, bld_nil, bld_cons, bls_nil, bls_cons, prt_t, prt_f, nck_ptr, fld_ptr, lal, stl, decide_true, decide_false, decide_eq_true_eq, Bool.false_eq_true, Bool.not_true, Bool.not_false, Bool.and_true, Bool.and_false, Bool.true_and, Bool.false_and, Option.map_some, Option.map_none, if_true, if_false, ite_true, ite_false, reduceIte, and_self, and_true, true_and, false_and, and_false, true_or, or_true, false_or, or_false, eq_self, ne_eq, not_true_eq_false, not_false_eq_true, Nat.zero_add, Nat.reduceAdd, Nat.reduceLeDiff, Nat.reduceLT, Nat.reduceEqDiff, Int.reduceEq, Int.reduceLT, Int.reduceLE, Int.reduceNe, Nat.le_refl, Nat.add_zero, Option.some.injEq, Prod.mk.injEq, Value.agg.injEq, Value.bool.injEq, Value.int.injEq, Value.tuple.injEq, Array.mk.injEq, List.cons.injEq, and_self, List.length_cons, List.length_nil, List.getElem?_cons_zero, List.getElem?_cons_succ, List.getElem?_nil, List.drop_succ_cons, List.drop_zero, List.take_succ_cons, List.take_zero, List.take_nil, List.drop_nil, List.getD_cons_zero, List.getD_cons_succ, rep1, rep2, rep3, rep4, List.set_cons_zero, List.set_cons_succ, List.cons_append, List.nil_append, hlen, e1, e2, a1, lda_row a2, a3, t1, n1, stepC, n2, en, e5]
  have agains : ∀ x : Mm, x.n = m.n → x.ov = false → m' = againC c x → Goes c v l b q j rec (leapfroglaw12x_SeekRises.l8 std rec (XS c v b m up j) s) := by
    intro x hx hxo hm
    unfold againC at hm
    by_cases g : 64 ≤ x.n
    · rw [if_pos g] at hm
      exact over (by rw [hm]; rfl)
    · rw [if_neg g] at hm
      refine anew (by rw [hm]; exact hxo) (by rw [hm]; show x.n + 1 = m.n + 1; rw [hx]) (by rw [hm]; show okV c.h 0; exact ⟨c.h.toNat, 0, by have := hc.1; omega, rfl, by have := hc.2.1; omega, Nat.two_pow_pos _⟩) (by rw [hm])
  -- where it goes right
  have right : ∀ x : Mm, x.n = m.n → x.ov = false → x.ap = cur m → tgt c x.ap → okV x.wl x.wb → x.lk = false → GoesTo c x m' → Goes c v l b q j rec (leapfroglaw12x_SeekRises.l8 std rec (XS c v b m up j) s) := by
    intro x hx hxo hap htg hw hk g
    generalize hmm : m' = mm at g
    cases g with
    | again => exact agains x hx hxo hmm
    | over r f => exact over (by rw [hmm])
    | look r g1 g2 =>
      have ho : m'.ov = false := by rw [hmm]; exact hxo
      have hcur : cur m' = r := by rw [hmm]; simp [cur]
      rw [show nextC m' = stepC 1 r ⟨1, m'.wl, m'.wb, zR, zR, 0, 0⟩ zRes by rw [← hcur]; simp [nextC, ho, cur]] at n1
      have en : (m'.n = m.n) = True := eq_true (by rw [hmm]; exact hx)
      have g1' : lessK (cur m).rk (cur m).n r.rk r.n := by rw [← hap]; exact g1
      have lA := rless_r r.rk r.n (cur m).rk (cur m).n s'
      rw [decide_eq_false (fun g : lessK r.rk r.n (cur m).rk (cur m).n => lessK_irr (lessK_trans g g1'))] at lA
      have lB := rless_r r.rk r.n c.tr c.tn s'
      rw [decide_eq_true (show lessK r.rk r.n c.tr c.tn from g2)] at lB
      have lC := rless_r (cur m).rk (cur m).n r.rk r.n s'
      rw [decide_eq_true g1'] at lC
      refine .inr ⟨m', true, s', ?_, ⟨t2, ho', fr', by rw [hmm]; show 0 ≤ x.n; rw [hx]; exact h.n0, ho, by rw [hmm]; exact hw, fun _ => by rw [hmm]; exact ⟨htg, g2⟩, fun _ => by rw [hmm]; exact htg⟩, ht'⟩
      have hn' : m'.n = m.n := of_eq_true en
      simp only [XS, hcur]
      rw [hn'] at n2 ⊢
      cases hu : up with
      | false => simp only [leapfroglaw12x_SeekRises.l8, leapfroglaw12x_SeekRises.l8.p1, std_bd, std_gd, std_gdS, std_gdU, std_cnd, std_it, bds, bdn, cndt, cndf, cndd, cndb, gdtt, gdff, gdtf, gdft, gdun, gdSun, gdSt, gdSf, gdStf, gdSft, gdUt, gdUf, gdUtf, gdUft, pikt, pikf, eqb1, neb1, eqb0, neb0, eqb2, neb2, eqb3n, neb3n, eqb3nn, neb3nn, eqk1, eqb_agg, neb_agg, eqks_nil, eqks_cons, bin_add, bin_sub, bin_mul, bin_lss, bin_leq, bin_gtr, bin_geq, un_notd, un_not, cvi_int, cvs_str, mn2_int, mx2_int, lenS_str, lenL_slc, bx_int, bx_bool, bx_str, bx_ptr, bx_slc, bx_agg, lcl_eq, xtr_eq, cellsA_agg, spl_z, spl_c, spl_s, bld_nil, bld_cons, bls_nil, bls_cons, prt_t, prt_f, nck_ptr, fld_ptr, lal, stl, decide_true, decide_false, decide_eq_true_eq, Bool.false_eq_true, Bool.not_true, Bool.not_false, Bool.and_true, Bool.and_false, Bool.true_and, Bool.false_and, Option.map_some, Option.map_none, if_true, if_false, ite_true, ite_false, reduceIte, and_self, and_true, true_and, false_and, and_false, true_or, or_true, false_or, or_false, eq_self, ne_eq, not_true_eq_false, not_false_eq_true, Nat.zero_add, Nat.reduceAdd, Nat.reduceLeDiff, Nat.reduceLT, Nat.reduceEqDiff, Int.reduceEq, Int.reduceLT, Int.reduceLE, Int.reduceNe, Nat.le_refl, Nat.add_zero, Option.some.injEq, Prod.mk.injEq, Value.agg.injEq, Value.bool.injEq, Value.int.injEq, Value.tuple.injEq, Array.mk.injEq, List.cons.injEq, and_self, List.length_cons, List.length_nil, List.getElem?_cons_zero, List.getElem?_cons_succ, List.getElem?_nil, List.drop_succ_cons, List.drop_zero, List.take_succ_cons, List.take_zero, List.take_nil, List.drop_nil, List.getD_cons_zero, List.getD_cons_succ, rep1, rep2, rep3, rep4, List.set_cons_zero, List.set_cons_succ, List.cons_append, List.nil_append, hlen, e1, e2, a1, lda_row a2, a3, t1, n1, stepC, n2, e5, lA, lB, lC]
      | true => simp only [leapfroglaw12x_SeekRises.l8, leapfroglaw12x_SeekRises.l8.p1, std_bd, std_gd, std_gdS, std_gdU, std_cnd, std_it, bds, bdn, cndt, cndf, cndd, cndb, gdtt, gdff, gdtf, gdft, gdun, gdSun, gdSt, gdSf, gdStf, gdSft, gdUt, gdUf, gdUtf, gdUft, pikt, pikf, eqb1, neb1, eqb0, neb0, eqb2, neb2, eqb3n, neb3n, eqb3nn, neb3nn, eqk1, eqb_agg, neb_agg, eqks_nil, eqks_cons, bin_add, bin_sub, bin_mul, bin_lss, bin_leq, bin_gtr, bin_geq, un_notd, un_not, cvi_int, cvs_str, mn2_int, mx2_int, lenS_str, lenL_slc, bx_int, bx_bool, bx_str, bx_ptr, bx_slc, bx_agg, lcl_eq, xtr_eq, cellsA_agg, spl_z, spl_c, spl_s, bld_nil, bld_cons, bls_nil, bls_cons, prt_t, prt_f, nck_ptr, fld_ptr, lal, stl, decide_true, decide_false, decide_eq_true_eq, Bool.false_eq_true, Bool.not_true, Bool.not_false, Bool.and_true, Bool.and_false, Bool.true_and, Bool.false_and, Option.map_some, Option.map_none, if_true, if_false, ite_true, ite_false, reduceIte, and_self, and_true, true_and, false_and, and_false, true_or, or_true, false_or, or_false, eq_self, ne_eq, not_true_eq_false, not_false_eq_true, Nat.zero_add, Nat.reduceAdd, Nat.reduceLeDiff, Nat.reduceLT, Nat.reduceEqDiff, Int.reduceEq, Int.reduceLT, Int.reduceLE, Int.reduceNe, Nat.le_refl, Nat.add_zero, Option.some.injEq, Prod.mk.injEq, Value.agg.injEq, Value.bool.injEq, Value.int.injEq, Value.tuple.injEq, Array.mk.injEq, List.cons.injEq, and_self, List.length_cons, List.length_nil, List.getElem?_cons_zero, List.getElem?_cons_succ, List.getElem?_nil, List.drop_succ_cons, List.drop_zero, List.take_succ_cons, List.take_zero, List.take_nil, List.drop_nil, List.getD_cons_zero, List.getD_cons_succ, rep1, rep2, rep3, rep4, List.set_cons_zero, List.set_cons_succ, List.cons_append, List.nil_append, hlen, e1, e2, a1, lda_row a2, a3, t1, n1, stepC, n2, e5, lA, lB, lC]
    | down w g1 g2 =>
      have ho : m'.ov = false := by rw [hmm]; exact hxo
      have hcur : cur m' = cur m := by rw [hmm, ← hap]; simp [cur]
      rw [show nextC m' = stepC 1 (cur m) ⟨1, m'.wl, m'.wb, zR, zR, 0, 0⟩ zRes by rw [← hcur]; simp [nextC, ho, cur]] at n1
      have hn' : m'.n = m.n := by rw [hmm]; exact hx
      have lA := rless_r (cur m).rk (cur m).n (cur m).rk (cur m).n s'
      rw [decide_eq_false lessK_irr] at lA
      have lB := rless_r (cur m).rk (cur m).n c.tr c.tn s'
      rw [decide_eq_true (show lessK (cur m).rk (cur m).n c.tr c.tn by rw [← hap]; exact htg)] at lB
      refine .inr ⟨m', up, s', ?_, ⟨t2, ho', fr', by rw [hn']; exact h.n0, ho, by rw [hmm]; exact g2, (fun e => by rw [hmm] at e; simp at e), fun _ => by rw [hmm]; exact htg⟩, ht'⟩
      simp only [XS, hcur]
      rw [hn'] at n2 ⊢
      cases hu : up with
      | false => simp only [leapfroglaw12x_SeekRises.l8, leapfroglaw12x_SeekRises.l8.p1, std_bd, std_gd, std_gdS, std_gdU, std_cnd, std_it, bds, bdn, cndt, cndf, cndd, cndb, gdtt, gdff, gdtf, gdft, gdun, gdSun, gdSt, gdSf, gdStf, gdSft, gdUt, gdUf, gdUtf, gdUft, pikt, pikf, eqb1, neb1, eqb0, neb0, eqb2, neb2, eqb3n, neb3n, eqb3nn, neb3nn, eqk1, eqb_agg, neb_agg, eqks_nil, eqks_cons, bin_add, bin_sub, bin_mul, bin_lss, bin_leq, bin_gtr, bin_geq, un_notd, un_not, cvi_int, cvs_str, mn2_int, mx2_int, lenS_str, lenL_slc, bx_int, bx_bool, bx_str, bx_ptr, bx_slc, bx_agg, lcl_eq, xtr_eq, cellsA_agg, spl_z, spl_c, spl_s, bld_nil, bld_cons, bls_nil, bls_cons, prt_t, prt_f, nck_ptr, fld_ptr, lal, stl, decide_true, decide_false, decide_eq_true_eq, Bool.false_eq_true, Bool.not_true, Bool.not_false, Bool.and_true, Bool.and_false, Bool.true_and, Bool.false_and, Option.map_some, Option.map_none, if_true, if_false, ite_true, ite_false, reduceIte, and_self, and_true, true_and, false_and, and_false, true_or, or_true, false_or, or_false, eq_self, ne_eq, not_true_eq_false, not_false_eq_true, Nat.zero_add, Nat.reduceAdd, Nat.reduceLeDiff, Nat.reduceLT, Nat.reduceEqDiff, Int.reduceEq, Int.reduceLT, Int.reduceLE, Int.reduceNe, Nat.le_refl, Nat.add_zero, Option.some.injEq, Prod.mk.injEq, Value.agg.injEq, Value.bool.injEq, Value.int.injEq, Value.tuple.injEq, Array.mk.injEq, List.cons.injEq, and_self, List.length_cons, List.length_nil, List.getElem?_cons_zero, List.getElem?_cons_succ, List.getElem?_nil, List.drop_succ_cons, List.drop_zero, List.take_succ_cons, List.take_zero, List.take_nil, List.drop_nil, List.getD_cons_zero, List.getD_cons_succ, rep1, rep2, rep3, rep4, List.set_cons_zero, List.set_cons_succ, List.cons_append, List.nil_append, hlen, e1, e2, a1, lda_row a2, a3, t1, n1, stepC, n2, e5, lA, lB]
      | true => simp only [leapfroglaw12x_SeekRises.l8, leapfroglaw12x_SeekRises.l8.p1, std_bd, std_gd, std_gdS, std_gdU, std_cnd, std_it, bds, bdn, cndt, cndf, cndd, cndb, gdtt, gdff, gdtf, gdft, gdun, gdSun, gdSt, gdSf, gdStf, gdSft, gdUt, gdUf, gdUtf, gdUft, pikt, pikf, eqb1, neb1, eqb0, neb0, eqb2, neb2, eqb3n, neb3n, eqb3nn, neb3nn, eqk1, eqb_agg, neb_agg, eqks_nil, eqks_cons, bin_add, bin_sub, bin_mul, bin_lss, bin_leq, bin_gtr, bin_geq, un_notd, un_not, cvi_int, cvs_str, mn2_int, mx2_int, lenS_str, lenL_slc, bx_int, bx_bool, bx_str, bx_ptr, bx_slc, bx_agg, lcl_eq, xtr_eq, cellsA_agg, spl_z, spl_c, spl_s, bld_nil, bld_cons, bls_nil, bls_cons, prt_t, prt_f, nck_ptr, fld_ptr, lal, stl, decide_true, decide_false, decide_eq_true_eq, Bool.false_eq_true, Bool.not_true, Bool.not_false, Bool.and_true, Bool.and_false, Bool.true_and, Bool.false_and, Option.map_some, Option.map_none, if_true, if_false, ite_true, ite_false, reduceIte, and_self, and_true, true_and, false_and, and_false, true_or, or_true, false_or, or_false, eq_self, ne_eq, not_true_eq_false, not_false_eq_true, Nat.zero_add, Nat.reduceAdd, Nat.reduceLeDiff, Nat.reduceLT, Nat.reduceEqDiff, Int.reduceEq, Int.reduceLT, Int.reduceLE, Int.reduceNe, Nat.le_refl, Nat.add_zero, Option.some.injEq, Prod.mk.injEq, Value.agg.injEq, Value.bool.injEq, Value.int.injEq, Value.tuple.injEq, Array.mk.injEq, List.cons.injEq, and_self, List.length_cons, List.length_nil, List.getElem?_cons_zero, List.getElem?_cons_succ, List.getElem?_nil, List.drop_succ_cons, List.drop_zero, List.take_succ_cons, List.take_zero, List.take_nil, List.drop_nil, List.getD_cons_zero, List.getD_cons_succ, rep1, rep2, rep3, rep4, List.set_cons_zero, List.set_cons_succ, List.cons_append, List.nil_append, hlen, e1, e2, a1, lda_row a2, a3, t1, n1, stepC, n2, e5, lA, lB]
  generalize hmm : m' = mm at t3
  cases t3 with
  | goes hk htg g => exact right m rfl h.ov (by simp [cur, hk]) htg h.okw hk (by rw [hmm]; exact g)
  | goes2 hk g => exact right { m with ap := m.to, lk := false } rfl h.ov (by simp [cur, hk]) (h.lki hk).2 h.okw rfl (by rw [hmm]; exact g)
  | again x t hx => exact agains x (by rw [hx]) (by rw [hx]; exact h.ov) hmm
  | busy t => exact over (by rw [hmm]; rfl)
  | dead t hn => exact anew (by rw [hmm]; exact h.ov) (by rw [hmm]) (by rw [hmm]; exact h.okw) (by rw [hmm])
  | left r hk htg g =>
    have hup : up = false := by
      cases hu : up
      · rfl
      · exact absurd (h.upi hu) htg
    subst hup
    have ho : m'.ov = false := by rw [hmm]; exact h.ov
    have hcm : cur m = m.ap := by simp [cur, hk]
    have hcur : cur m' = r := by rw [hmm]; simp [cur, hk]
    rw [show nextC m' = stepC 1 r ⟨1, m'.wl, m'.wb, zR, zR, 0, 0⟩ zRes by rw [← hcur]; simp [nextC, ho, cur]] at n1
    have hn' : m'.n = m.n := by rw [hmm]
    have lA := rless_r r.rk r.n m.ap.rk m.ap.n s'
    rw [decide_eq_true g] at lA
    have lB := rless_r r.rk r.n c.tr c.tn s'
    have lC := rless_r m.ap.rk m.ap.n r.rk r.n s'
    rw [decide_eq_false (fun x : lessK m.ap.rk m.ap.n r.rk r.n => lessK_irr (lessK_trans x g))] at lC
    refine .inr ⟨m', false, s', ?_, ⟨t2, ho', fr', by rw [hn']; exact h.n0, ho, by rw [hmm]; exact h.okw, (fun e => by rw [hmm] at e; rw [show ({ m with ap := r } : Mm).lk = m.lk from rfl, hk] at e; cases e), fun e => by cases e⟩, ht'⟩
    simp only [XS, hcur, hcm]
    rw [hn'] at n2 ⊢
    rcases Classical.propComplete (lessK r.rk r.n c.tr c.tn) with kb | kb
    · simp only [kb, decide_true] at lB
      simp only [leapfroglaw12x_SeekRises.l8, leapfroglaw12x_SeekRises.l8.p1, std_bd, std_gd, std_gdS, std_gdU, std_cnd, std_it, bds, bdn, cndt, cndf, cndd, cndb, gdtt, gdff, gdtf, gdft, gdun, gdSun, gdSt, gdSf, gdStf, gdSft, gdUt, gdUf, gdUtf, gdUft, pikt, pikf, eqb1, neb1, eqb0, neb0, eqb2, neb2, eqb3n, neb3n, eqb3nn, neb3nn, eqk1, eqb_agg, neb_agg, eqks_nil, eqks_cons, bin_add, bin_sub, bin_mul, bin_lss, bin_leq, bin_gtr, bin_geq, un_notd, un_not, cvi_int, cvs_str, mn2_int, mx2_int, lenS_str, lenL_slc, bx_int, bx_bool, bx_str, bx_ptr, bx_slc, bx_agg, lcl_eq, xtr_eq, cellsA_agg, spl_z, spl_c, spl_s, bld_nil, bld_cons, bls_nil, bls_cons, prt_t, prt_f, nck_ptr, fld_ptr, lal, stl, decide_true, decide_false, decide_eq_true_eq, Bool.false_eq_true, Bool.not_true, Bool.not_false, Bool.and_true, Bool.and_false, Bool.true_and, Bool.false_and, Option.map_some, Option.map_none, if_true, if_false, ite_true, ite_false, reduceIte, and_self, and_true, true_and, false_and, and_false, true_or, or_true, false_or, or_false, eq_self, ne_eq, not_true_eq_false, not_false_eq_true, Nat.zero_add, Nat.reduceAdd, Nat.reduceLeDiff, Nat.reduceLT, Nat.reduceEqDiff, Int.reduceEq, Int.reduceLT, Int.reduceLE, Int.reduceNe, Nat.le_refl, Nat.add_zero, Option.some.injEq, Prod.mk.injEq, Value.agg.injEq, Value.bool.injEq, Value.int.injEq, Value.tuple.injEq, Array.mk.injEq, List.cons.injEq, and_self, List.length_cons, List.length_nil, List.getElem?_cons_zero, List.getElem?_cons_succ, List.getElem?_nil, List.drop_succ_cons, List.drop_zero, List.take_succ_cons, List.take_zero, List.take_nil, List.drop_nil, List.getD_cons_zero, List.getD_cons_succ, rep1, rep2, rep3, rep4, List.set_cons_zero, List.set_cons_succ, List.cons_append, List.nil_append, hlen, e1, e2, a1, lda_row a2, a3, t1, n1, stepC, n2, e5, lA, lB, lC]
    · simp only [kb, decide_false] at lB
      simp only [leapfroglaw12x_SeekRises.l8, leapfroglaw12x_SeekRises.l8.p1, std_bd, std_gd, std_gdS, std_gdU, std_cnd, std_it, bds, bdn, cndt, cndf, cndd, cndb, gdtt, gdff, gdtf, gdft, gdun, gdSun, gdSt, gdSf, gdStf, gdSft, gdUt, gdUf, gdUtf, gdUft, pikt, pikf, eqb1, neb1, eqb0, neb0, eqb2, neb2, eqb3n, neb3n, eqb3nn, neb3nn, eqk1, eqb_agg, neb_agg, eqks_nil, eqks_cons, bin_add, bin_sub, bin_mul, bin_lss, bin_leq, bin_gtr, bin_geq, un_notd, un_not, cvi_int, cvs_str, mn2_int, mx2_int, lenS_str, lenL_slc, bx_int, bx_bool, bx_str, bx_ptr, bx_slc, bx_agg, lcl_eq, xtr_eq, cellsA_agg, spl_z, spl_c, spl_s, bld_nil, bld_cons, bls_nil, bls_cons, prt_t, prt_f, nck_ptr, fld_ptr, lal, stl, decide_true, decide_false, decide_eq_true_eq, Bool.false_eq_true, Bool.not_true, Bool.not_false, Bool.and_true, Bool.and_false, Bool.true_and, Bool.false_and, Option.map_some, Option.map_none, if_true, if_false, ite_true, ite_false, reduceIte, and_self, and_true, true_and, false_and, and_false, true_or, or_true, false_or, or_false, eq_self, ne_eq, not_true_eq_false, not_false_eq_true, Nat.zero_add, Nat.reduceAdd, Nat.reduceLeDiff, Nat.reduceLT, Nat.reduceEqDiff, Int.reduceEq, Int.reduceLT, Int.reduceLE, Int.reduceNe, Nat.le_refl, Nat.add_zero, Option.some.injEq, Prod.mk.injEq, Value.agg.injEq, Value.bool.injEq, Value.int.injEq, Value.tuple.injEq, Array.mk.injEq, List.cons.injEq, and_self, List.length_cons, List.length_nil, List.getElem?_cons_zero, List.getElem?_cons_succ, List.getElem?_nil, List.drop_succ_cons, List.drop_zero, List.take_succ_cons, List.take_zero, List.take_nil, List.drop_nil, List.getD_cons_zero, List.getD_cons_succ, rep1, rep2, rep3, rep4, List.set_cons_zero, List.set_cons_succ, List.cons_append, List.nil_append, hlen, e1, e2, a1, lda_row a2, a3, t1, n1, stepC, n2, e5, lA, lB, lC]

theorem loop {c : Cf} {v : Value} {l : List Ans} {b q : Nat} {m : Mm} {up : Bool} {s : St} (hc : okC c) (h : Here c v l b q m up s) (ht : m.tab.length ≤ 0) :
    ∃ x s', iter (leapfroglaw12x_SeekRises.l8 std) BIG (XS c v b m up 0) s = some x ∧ (x = (0, [], s') ∨ x = (1, [.bool true], s')) := by
  refine iter_rel (fun d xs s' => ∃ m up j, Here c v l b q m up s' ∧ m.tab.length ≤ j ∧ j + d = 300 ∧ xs = XS c v b m up j)
    (fun y : Option Cut => ∃ x s', y = some x ∧ (x = (0, [], s') ∨ x = (1, [.bool true], s'))) ?_ BIG 300 _ s (by unfold BIG; omega) ⟨m, up, 0, h, ht, by omega, rfl⟩
  rintro d xs s rec ⟨m, up, j, h, ht, hj, rfl⟩ ih
  by_cases h1 : j < l.length
  · have e1 : (j : Int) < l.length := by omega
    cases d with
    | zero =>
      have e2 : ¬ ((j : Int) < 300) := by omega
      exact ⟨_, s, by simp only [leapfroglaw12x_SeekRises.l8, std_bd, std_gd, std_gdS, std_gdU, std_cnd, std_it, bds, bdn, cndt, cndf, cndd, cndb, gdtt, gdff, gdtf, gdft, gdun, gdSun, gdSt, gdSf, gdStf, gdSft, gdUt, gdUf, gdUtf, gdUft, pikt, pikf, eqb1, neb1, eqb0, neb0, eqb2, neb2, eqb3n, neb3n, eqb3nn, neb3nn, eqk1, eqb_agg, neb_agg, eqks_nil, eqks_cons, bin_add, bin_sub, bin_mul, bin_lss, bin_leq, bin_gtr, bin_geq, un_notd, un_not, cvi_int, cvs_str, mn2_int, mx2_int, lenS_str, lenL_slc, bx_int, bx_bool, bx_str, bx_ptr, bx_slc, bx_agg, lcl_eq, xtr_eq, cellsA_agg, spl_z, spl_c, spl_s, bld_nil, bld_cons, bls_nil, bls_cons, prt_t, prt_f, nck_ptr, fld_ptr, lal, stl, decide_true, decide_false, decide_eq_true_eq, Bool.false_eq_true, Bool.not_true, Bool.not_false, Bool.and_true, Bool.and_false, Bool.true_and, Bool.false_and, Option.map_some, Option.map_none, if_true, if_false, ite_true, ite_false, reduceIte, and_self, and_true, true_and, false_and, and_false, true_or, or_true, false_or, or_false, eq_self, ne_eq, not_true_eq_false, not_false_eq_true, Nat.zero_add, Nat.reduceAdd, Nat.reduceLeDiff, Nat.reduceLT, Nat.reduceEqDiff, Int.reduceEq, Int.reduceLT, Int.reduceLE, Int.reduceNe, Nat.le_refl, Nat.add_zero, Option.some.injEq, Prod.mk.injEq, Value.agg.injEq, Value.bool.injEq, Value.int.injEq, Value.tuple.injEq, Array.mk.injEq, List.cons.injEq, and_self, List.length_cons, List.length_nil, List.getElem?_cons_zero, List.getElem?_cons_succ, List.getElem?_nil, List.drop_succ_cons, List.drop_zero, List.take_succ_cons, List.take_zero, List.take_nil, List.drop_nil, List.getD_cons_zero, List.getD_cons_succ, rep1, rep2, rep3, rep4, List.set_cons_zero, List.set_cons_succ, List.cons_append, List.nil_append, h.ho.len, e1, e2], .inl rfl⟩
    | succ d =>
      obtain ⟨a, ha⟩ := get_some h1
      rcases step hc h (by omega) ht ha rec with ⟨s', g⟩ | ⟨m', up', s', g1, g2, g3⟩
      · exact ⟨_, s', g, .inr rfl⟩
      · rw [g1]
        exact ih d _ _ (by omega) ⟨m', up', j + 1, g2, g3, by omega, rfl⟩
  · have e1 : ¬ ((j : Int) < l.length) := by omega
    exact ⟨_, s, by simp only [leapfroglaw12x_SeekRises.l8, std_bd, std_gd, std_gdS, std_gdU, std_cnd, std_it, bds, bdn, cndt, cndf, cndd, cndb, gdtt, gdff, gdtf, gdft, gdun, gdSun, gdSt, gdSf, gdStf, gdSft, gdUt, gdUf, gdUtf, gdUft, pikt, pikf, eqb1, neb1, eqb0, neb0, eqb2, neb2, eqb3n, neb3n, eqb3nn, neb3nn, eqk1, eqb_agg, neb_agg, eqks_nil, eqks_cons, bin_add, bin_sub, bin_mul, bin_lss, bin_leq, bin_gtr, bin_geq, un_notd, un_not, cvi_int, cvs_str, mn2_int, mx2_int, lenS_str, lenL_slc, bx_int, bx_bool, bx_str, bx_ptr, bx_slc, bx_agg, lcl_eq, xtr_eq, cellsA_agg, spl_z, spl_c, spl_s, bld_nil, bld_cons, bls_nil, bls_cons, prt_t, prt_f, nck_ptr, fld_ptr, lal, stl, decide_true, decide_false, decide_eq_true_eq, Bool.false_eq_true, Bool.not_true, Bool.not_false, Bool.and_true, Bool.and_false, Bool.true_and, Bool.false_and, Option.map_some, Option.map_none, if_true, if_false, ite_true, ite_false, reduceIte, and_self, and_true, true_and, false_and, and_false, true_or, or_true, false_or, or_false, eq_self, ne_eq, not_true_eq_false, not_false_eq_true, Nat.zero_add, Nat.reduceAdd, Nat.reduceLeDiff, Nat.reduceLT, Nat.reduceEqDiff, Int.reduceEq, Int.reduceLT, Int.reduceLE, Int.reduceNe, Nat.le_refl, Nat.add_zero, Option.some.injEq, Prod.mk.injEq, Value.agg.injEq, Value.bool.injEq, Value.int.injEq, Value.tuple.injEq, Array.mk.injEq, List.cons.injEq, and_self, List.length_cons, List.length_nil, List.getElem?_cons_zero, List.getElem?_cons_succ, List.getElem?_nil, List.drop_succ_cons, List.drop_zero, List.take_succ_cons, List.take_zero, List.take_nil, List.drop_nil, List.getD_cons_zero, List.getD_cons_succ, rep1, rep2, rep3, rep4, List.set_cons_zero, List.set_cons_succ, List.cons_append, List.nil_append, h.ho.len, e1], .inl rfl⟩

theorem law (s : St) (us : List Value) (ha : AllRo s) (hf : ∀ b, s.n ≤ b → s.get b = none) (h : Args s [(true, [.i .i64, .i .i64, .i .i64, .i .u64, .i .i64, .i .u64, .i .i64, .i .u64]), (false, [.sl [.i .i64, .b, .i .i64, .i .i64, .i .u64, .i .i64, .i .u64, .i .i64, .i .i64, .i .u64, .i .i64, .i .u64, .sl [.i .u8]]])] us) :
    ∃ s', leapfroglaw12x_SeekRises.w us s = some (.bool true, s') := by
  simp only [Args, Arg] at h
  obtain ⟨_, _, rfl, ⟨_, rfl, h1⟩, v, _, rfl, h2, rfl⟩ := h
  unfold Leaf.Are Leaf.Are at h2
  obtain ⟨v', _, g1, h2, rfl⟩ := h2
  obtain rfl : v = v' := (List.cons.inj g1).1
  simp only [Leaf.Are, Leaf.Is] at h1
  obtain ⟨_, _, rfl, ⟨hh, rfl, _⟩, _, _, rfl, ⟨i1, rfl, _⟩, _, _, rfl, ⟨i2, rfl, _⟩, _, _, rfl, ⟨i3, rfl, _⟩, _, _, rfl, ⟨i4, rfl, _⟩, _, _, rfl, ⟨i5, rfl, hi5⟩, _, _, rfl, ⟨tr, rfl, _⟩, _, _, rfl, ⟨tn, rfl, _⟩, rfl⟩ := h1
  obtain ⟨l, hl⟩ := isA_of h2
  have hm0 := (wf_u64 hi5).1
  show ∃ s', leapfroglaw12x_SeekRises.v (.agg ⟨(⟨hh, ⟨i1, i2, i3, i4, i5⟩, tr, tn⟩ : Cf).cs⟩) v s = some (.bool true, s')
  generalize hc : (⟨hh, ⟨i1, i2, i3, i4, i5⟩, tr, tn⟩ : Cf) = c
  have hm0 : 0 ≤ c.st.bt := by rw [← hc]; exact hm0
  rcases new_r hf c hm0 with ⟨_, q1⟩ | ⟨hC, q1⟩
  · exact ⟨s, by simp only [leapfroglaw12x_SeekRises.v, leapfroglaw12x_SeekRises.t, std_bd, std_gd, std_gdS, std_gdU, std_cnd, std_it, bds, bdn, cndt, cndf, cndd, cndb, gdtt, gdff, gdtf, gdft, gdun, gdSun, gdSt, gdSf, gdStf, gdSft, gdUt, gdUf, gdUtf, gdUft, pikt, pikf, eqb1, neb1, eqb0, neb0, eqb2, neb2, eqb3n, neb3n, eqb3nn, neb3nn, eqk1, eqb_agg, neb_agg, eqks_nil, eqks_cons, bin_add, bin_sub, bin_mul, bin_lss, bin_leq, bin_gtr, bin_geq, un_notd, un_not, cvi_int, cvs_str, mn2_int, mx2_int, lenS_str, lenL_slc, bx_int, bx_bool, bx_str, bx_ptr, bx_slc, bx_agg, lcl_eq, xtr_eq, cellsA_agg, spl_z, spl_c, spl_s, bld_nil, bld_cons, bls_nil, bls_cons, prt_t, prt_f, nck_ptr, fld_ptr, lal, stl, decide_true, decide_false, decide_eq_true_eq, Bool.false_eq_true, Bool.not_true, Bool.not_false, Bool.and_true, Bool.and_false, Bool.true_and, Bool.false_and, Option.map_some, Option.map_none, if_true, if_false, ite_true, ite_false, reduceIte, and_self, and_true, true_and, false_and, and_false, true_or, or_true, false_or, or_false, eq_self, ne_eq, not_true_eq_false, not_false_eq_true, Nat.zero_add, Nat.reduceAdd, Nat.reduceLeDiff, Nat.reduceLT, Nat.reduceEqDiff, Int.reduceEq, Int.reduceLT, Int.reduceLE, Int.reduceNe, Nat.le_refl, Nat.add_zero, Option.some.injEq, Prod.mk.injEq, Value.agg.injEq, Value.bool.injEq, Value.int.injEq, Value.tuple.injEq, Array.mk.injEq, List.cons.injEq, and_self, List.length_cons, List.length_nil, List.getElem?_cons_zero, List.getElem?_cons_succ, List.getElem?_nil, List.drop_succ_cons, List.drop_zero, List.take_succ_cons, List.take_zero, List.take_nil, List.drop_nil, List.getD_cons_zero, List.getD_cons_succ, rep1, rep2, rep3, rep4, List.set_cons_zero, List.set_cons_succ, List.cons_append, List.nil_append, awake_r, q1]⟩
  · have hA := at_new hf c (s := s)
    have f1 : Fresh (s.new (.map [] false)) := Fresh.new hf
    have H0 : Here c v l (s.n + 1) s.n (m0 c) false (N2 s c) := by
      refine ⟨hA, (hl.more .new hf).more .new f1, f1.new, by simp [m0], rfl, hC.2.2.2.1, (fun e => by simp [m0] at e), fun e => by cases e⟩
    obtain ⟨x, s', e, hx⟩ := loop hC H0 (Nat.le_refl _)
    have n1 := next_r hA
    rw [show nextC (m0 c) = stepC 1 c.st ⟨1, c.st.ln, c.st.bt, zR, zR, 0, 0⟩ zRes by simp [nextC, m0]] at n1
    simp only [XS, show cur (m0 c) = c.st from rfl, show (m0 c).n = 0 from rfl, Int.ofNat_eq_natCast, Int.natCast_zero] at e
    generalize N2 s c = s3 at *
    rcases hx with rfl | rfl
    · exact ⟨s', by simp only [leapfroglaw12x_SeekRises.v, leapfroglaw12x_SeekRises.t, std_bd, std_gd, std_gdS, std_gdU, std_cnd, std_it, bds, bdn, cndt, cndf, cndd, cndb, gdtt, gdff, gdtf, gdft, gdun, gdSun, gdSt, gdSf, gdStf, gdSft, gdUt, gdUf, gdUtf, gdUft, pikt, pikf, eqb1, neb1, eqb0, neb0, eqb2, neb2, eqb3n, neb3n, eqb3nn, neb3nn, eqk1, eqb_agg, neb_agg, eqks_nil, eqks_cons, bin_add, bin_sub, bin_mul, bin_lss, bin_leq, bin_gtr, bin_geq, un_notd, un_not, cvi_int, cvs_str, mn2_int, mx2_int, lenS_str, lenL_slc, bx_int, bx_bool, bx_str, bx_ptr, bx_slc, bx_agg, lcl_eq, xtr_eq, cellsA_agg, spl_z, spl_c, spl_s, bld_nil, bld_cons, bls_nil, bls_cons, prt_t, prt_f, nck_ptr, fld_ptr, lal, stl, decide_true, decide_false, decide_eq_true_eq, Bool.false_eq_true, Bool.not_true, Bool.not_false, Bool.and_true, Bool.and_false, Bool.true_and, Bool.false_and, Option.map_some, Option.map_none, if_true, if_false, ite_true, ite_false, reduceIte, and_self, and_true, true_and, false_and, and_false, true_or, or_true, false_or, or_false, eq_self, ne_eq, not_true_eq_false, not_false_eq_true, Nat.zero_add, Nat.reduceAdd, Nat.reduceLeDiff, Nat.reduceLT, Nat.reduceEqDiff, Int.reduceEq, Int.reduceLT, Int.reduceLE, Int.reduceNe, Nat.le_refl, Nat.add_zero, Option.some.injEq, Prod.mk.injEq, Value.agg.injEq, Value.bool.injEq, Value.int.injEq, Value.tuple.injEq, Array.mk.injEq, List.cons.injEq, and_self, List.length_cons, List.length_nil, List.getElem?_cons_zero, List.getElem?_cons_succ, List.getElem?_nil, List.drop_succ_cons, List.drop_zero, List.take_succ_cons, List.take_zero, List.take_nil, List.drop_nil, List.getD_cons_zero, List.getD_cons_succ, rep1, rep2, rep3, rep4, List.set_cons_zero, List.set_cons_succ, List.cons_append, List.nil_append, awake_r, q1, n1, stepC, e]⟩
    · exact ⟨s', by simp only [leapfroglaw12x_SeekRises.v, leapfroglaw12x_SeekRises.t, std_bd, std_gd, std_gdS, std_gdU, std_cnd, std_it, bds, bdn, cndt, cndf, cndd, cndb, gdtt, gdff, gdtf, gdft, gdun, gdSun, gdSt, gdSf, gdStf, gdSft, gdUt, gdUf, gdUtf, gdUft, pikt, pikf, eqb1, neb1, eqb0, neb0, eqb2, neb2, eqb3n, neb3n, eqb3nn, neb3nn, eqk1, eqb_agg, neb_agg, eqks_nil, eqks_cons, bin_add, bin_sub, bin_mul, bin_lss, bin_leq, bin_gtr, bin_geq, un_notd, un_not, cvi_int, cvs_str, mn2_int, mx2_int, lenS_str, lenL_slc, bx_int, bx_bool, bx_str, bx_ptr, bx_slc, bx_agg, lcl_eq, xtr_eq, cellsA_agg, spl_z, spl_c, spl_s, bld_nil, bld_cons, bls_nil, bls_cons, prt_t, prt_f, nck_ptr, fld_ptr, lal, stl, decide_true, decide_false, decide_eq_true_eq, Bool.false_eq_true, Bool.not_true, Bool.not_false, Bool.and_true, Bool.and_false, Bool.true_and, Bool.false_and, Option.map_some, Option.map_none, if_true, if_false, ite_true, ite_false, reduceIte, and_self, and_true, true_and, false_and, and_false, true_or, or_true, false_or, or_false, eq_self, ne_eq, not_true_eq_false, not_false_eq_true, Nat.zero_add, Nat.reduceAdd, Nat.reduceLeDiff, Nat.reduceLT, Nat.reduceEqDiff, Int.reduceEq, Int.reduceLT, Int.reduceLE, Int.reduceNe, Nat.le_refl, Nat.add_zero, Option.some.injEq, Prod.mk.injEq, Value.agg.injEq, Value.bool.injEq, Value.int.injEq, Value.tuple.injEq, Array.mk.injEq, List.cons.injEq, and_self, List.length_cons, List.length_nil, List.getElem?_cons_zero, List.getElem?_cons_succ, List.getElem?_nil, List.drop_succ_cons, List.drop_zero, List.take_succ_cons, List.take_zero, List.take_nil, List.drop_nil, List.getD_cons_zero, List.getD_cons_succ, rep1, rep2, rep3, rep4, List.set_cons_zero, List.set_cons_succ, List.cons_append, List.nil_append, awake_r, q1, n1, stepC, e, Nat.one_ne_zero]⟩
end SeekRises
end Go.Proofs.Ytonnegfkokghdaa
