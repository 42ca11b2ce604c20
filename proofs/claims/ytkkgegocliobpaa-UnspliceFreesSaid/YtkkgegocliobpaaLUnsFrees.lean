/-
  UnspliceFrees, over abstract values.
-/
import Derived.Test.YtkkgegocliobpaaUnsE
import Derived.Test.YtkkgegocliobpaaMachB
set_option linter.unusedSimpArgs false
set_option linter.unusedVariables false
set_option maxRecDepth 100000
set_option maxHeartbeats 2000000
namespace Go.Proofs.Ytkkgegocliobpaa
open Go.Sim Go.Sim.Bt
attribute [local congr] bdc cndc itec gdc gdSc gdUc
namespace UnspliceFrees

theorem alive_r (s : St) : leapfroglaw14x_awakeC.r s = some (.bool true) := rfl
def rowsR (l : List Rf) : List (List Value) := l.map Rf.cs
theorem rowsR_length (l : List Rf) : (rowsR l).length = l.length := by simp [rowsR]
theorem rowsR_get {l : List Rf} {j : Nat} {r : Rf} (h : l[j]? = some r) : (rowsR l)[j]? = some r.cs := by simp [rowsR, h]

/-- A row without one. -/
theorem without_r {n0 : Nat} {s : St} {v : Value} {l : List Rf} (hf : Fresh s) (hn0 : n0 ≤ s.n) (h : Own n0 s 5 v (rowsR l)) (r : Rf) (hl : l.length ≤ 1000) :
    ∃ u s', leapfroglaw14x_without.v v (.agg ⟨r.cs⟩) s = some (u, s') ∧ Keep s.n s s' ∧ Own s.n s' 5 u (rowsR (l.filter fun x => !eqR x r)) := by
  have hloop : ∃ u s', iter (leapfroglaw14x_without.l3 std) BIG [v, .slice none 0 0, Value.int .i64 ((0 : Nat) : Int), .agg ⟨r.cs⟩] s = some ((0, [u], s') : Cut) ∧ Keep s.n s s' ∧ Own s.n s' 5 u (rowsR (l.filter fun x => !eqR x r)) := by
    refine iter_rel (fun d xs s' => ∃ j u, j + d = l.length ∧ Keep s.n s s' ∧ Own s.n s' 5 u (rowsR ((l.take j).filter fun x => !eqR x r)) ∧ xs = [v, u, Value.int .i64 (j : Int), .agg ⟨r.cs⟩])
      (fun x : Option Cut => ∃ u s', x = some ((0, [u], s') : Cut) ∧ Keep s.n s s' ∧ Own s.n s' 5 u (rowsR (l.filter fun x => !eqR x r))) ?_ BIG l.length _ s (by unfold BIG; omega) ⟨0, _, by omega, .refl _ _, .inl ⟨rfl, rfl⟩, rfl⟩
    rintro d xs s' rec ⟨j, u, hj, hk, ho, rfl⟩ ih
    have hlen := h.len
    rw [rowsR_length] at hlen
    cases d with
    | zero =>
      have e1 : ¬ ((j : Int) < l.length) := by omega
      rw [List.take_of_length_le (by omega)] at ho
      exact ⟨u, s', by simp only [leapfroglaw14x_without.l3, std_bd, std_gd, std_gdS, std_gdU, std_cnd, std_it, bds, bdn, cndt, cndf, cndd, cndb, gdtt, gdff, gdtf, gdft, gdun, gdSun, gdSt, gdSf, gdStf, gdSft, gdUt, gdUf, gdUtf, gdUft, pikt, pikf, eqb1, neb1, eqb0, neb0, eqb2, neb2, eqb3n, neb3n, eqb3nn, neb3nn, eqk1, eqb_agg, neb_agg, eqks_nil, eqks_cons, bin_add, bin_sub, bin_mul, bin_lss, bin_leq, bin_gtr, bin_geq, un_notd, un_not, cvi_int, cvs_str, mn2_int, mx2_int, lenS_str, lenL_slc, bx_int, bx_bool, bx_str, bx_ptr, bx_slc, bx_agg, lcl_eq, xtr_eq, cellsA_agg, spl_z, spl_c, spl_s, bld_nil, bld_cons, bls_nil, bls_cons, prt_t, prt_f, nck_ptr, fld_ptr, lal, stl, decide_true, decide_false, decide_eq_true_eq, Bool.false_eq_true, Bool.not_true, Bool.not_false, Bool.and_true, Bool.and_false, Bool.true_and, Bool.false_and, Option.map_some, Option.map_none, if_true, if_false, ite_true, ite_false, reduceIte, and_self, and_true, true_and, false_and, and_false, true_or, or_true, false_or, or_false, eq_self, ne_eq, not_true_eq_false, not_false_eq_true, Nat.zero_add, Nat.reduceAdd, Nat.reduceLeDiff, Nat.reduceLT, Nat.reduceEqDiff, Int.reduceEq, Int.reduceLT, Int.reduceLE, Int.reduceNe, Nat.le_refl, Nat.add_zero, Option.some.injEq, Prod.mk.injEq, Value.agg.injEq, Value.bool.injEq, Value.int.injEq, Value.tuple.injEq, Array.mk.injEq, List.cons.injEq, and_self, List.length_cons, List.length_nil, List.getElem?_cons_zero, List.getElem?_cons_succ, List.getElem?_nil, List.drop_succ_cons, List.drop_zero, List.take_succ_cons, List.take_zero, List.take_nil, List.drop_nil, List.getD_cons_zero, List.getD_cons_succ, rep1, rep2, rep3, rep4, List.set_cons_zero, List.set_cons_succ, List.cons_append, List.nil_append, hlen, e1], hk, ho⟩
    | succ d =>
      have e1 : (j : Int) < l.length := by omega
      obtain ⟨x, hx⟩ := get_some (show j < l.length by omega)
      obtain ⟨b, ro, h1, h2⟩ := h.idx (rowsR_get hx)
      have h2' : s'.get b = some (.row 5 (rowsR l) ro) := by rw [hk.old b (hf.lt h2)]; exact h2
      have h1' : idx s' 5 v (.int .i64 (j : Int)) = some (.pointer (some ⟨b, j, some 0⟩)) := by
        rcases h with ⟨rfl, h0⟩ | ⟨q, hq, rfl, hg⟩
        · have := congrArg List.length h0
          rw [rowsR_length] at this
          simp only [List.length_nil] at this
          omega
        · have hg' : s'.get q = some (.row 5 (rowsR l) false) := by rw [hk.old q (hf.lt hg)]; exact hg
          have := idx_row (k := .i64) (i := 0) (n := (j : Int)) (len := (rowsR l).length) (e := 1) hg' (by omega) (by rw [rowsR_length]; omega)
          rw [Int.toNat_natCast, Nat.zero_add] at this
          rw [this]
          rw [idx_row (k := .i64) (i := 0) (n := (j : Int)) (len := (rowsR l).length) (e := 1) hg (by omega) (by rw [rowsR_length]; omega)] at h1
          rw [Int.toNat_natCast, Nat.zero_add] at h1
          exact h1
      have hx' := rowsR_get hx
      have e5 : IntKind.i64.wrap ((j : Int) + 1) = ((j + 1 : Nat) : Int) := by rw [wrap64 (by omega) (by omega)]; omega
      have htk : l.take (j + 1) = l.take j ++ [x] := by rw [List.take_add_one, hx]; rfl
      by_cases hq : eqR x r = true
      · have hq' := hq
        unfold eqR at hq'
        have e6 : ((l.take (j + 1)).filter fun x => !eqR x r) = ((l.take j).filter fun x => !eqR x r) := by rw [htk]; simp [hq]
        simp only [leapfroglaw14x_without.l3, std_bd, std_gd, std_gdS, std_gdU, std_cnd, std_it, bds, bdn, cndt, cndf, cndd, cndb, gdtt, gdff, gdtf, gdft, gdun, gdSun, gdSt, gdSf, gdStf, gdSft, gdUt, gdUf, gdUtf, gdUft, pikt, pikf, eqb1, neb1, eqb0, neb0, eqb2, neb2, eqb3n, neb3n, eqb3nn, neb3nn, eqk1, eqb_agg, neb_agg, eqks_nil, eqks_cons, bin_add, bin_sub, bin_mul, bin_lss, bin_leq, bin_gtr, bin_geq, un_notd, un_not, cvi_int, cvs_str, mn2_int, mx2_int, lenS_str, lenL_slc, bx_int, bx_bool, bx_str, bx_ptr, bx_slc, bx_agg, lcl_eq, xtr_eq, cellsA_agg, spl_z, spl_c, spl_s, bld_nil, bld_cons, bls_nil, bls_cons, prt_t, prt_f, nck_ptr, fld_ptr, lal, stl, decide_true, decide_false, decide_eq_true_eq, Bool.false_eq_true, Bool.not_true, Bool.not_false, Bool.and_true, Bool.and_false, Bool.true_and, Bool.false_and, Option.map_some, Option.map_none, if_true, if_false, ite_true, ite_false, reduceIte, and_self, and_true, true_and, false_and, and_false, true_or, or_true, false_or, or_false, eq_self, ne_eq, not_true_eq_false, not_false_eq_true, Nat.zero_add, Nat.reduceAdd, Nat.reduceLeDiff, Nat.reduceLT, Nat.reduceEqDiff, Int.reduceEq, Int.reduceLT, Int.reduceLE, Int.reduceNe, Nat.le_refl, Nat.add_zero, Option.some.injEq, Prod.mk.injEq, Value.agg.injEq, Value.bool.injEq, Value.int.injEq, Value.tuple.injEq, Array.mk.injEq, List.cons.injEq, and_self, List.length_cons, List.length_nil, List.getElem?_cons_zero, List.getElem?_cons_succ, List.getElem?_nil, List.drop_succ_cons, List.drop_zero, List.take_succ_cons, List.take_zero, List.take_nil, List.drop_nil, List.getD_cons_zero, List.getD_cons_succ, rep1, rep2, rep3, rep4, List.set_cons_zero, List.set_cons_succ, List.cons_append, List.nil_append, hlen, e1, h1', lda_row h2', hx', hq', e5]
        exact ih d _ _ (by omega) ⟨j + 1, u, by omega, hk, by rw [e6]; exact ho, rfl⟩
      · have hq' := hq
        unfold eqR at hq'
        have e6 : ((l.take (j + 1)).filter fun x => !eqR x r) = ((l.take j).filter fun x => !eqR x r) ++ [x] := by rw [htk]; simp [hq]
        have hfl : ((l.take j).filter fun x => !eqR x r).length ≤ 1000 := by
          have := List.length_filter_le (fun x => !eqR x r) (l.take j)
          rw [List.length_take] at this
          omega
        obtain ⟨u', s2, g1, g2, g3⟩ := (ho.new (x := .row 5 [x.cs] false) (hk.fresh hf)).app2 (by_ := 40) (news := [x.cs]) (x := .slice (some ⟨s'.n, 0, some 0⟩) 1 2) (by rw [new_n]; have := hk.n; omega) rfl rowsOf_one (by rw [rowsR_length]; simp; omega) (by rw [rowsR_length]; simp; omega)
        have e7 : rowsR ((l.take j).filter fun x => !eqR x r) ++ [x.cs] = rowsR ((l.take (j + 1)).filter fun x => !eqR x r) := by rw [e6]; simp [rowsR]
        rw [e7] at g3
        simp only [leapfroglaw14x_without.l3, std_bd, std_gd, std_gdS, std_gdU, std_cnd, std_it, bds, bdn, cndt, cndf, cndd, cndb, gdtt, gdff, gdtf, gdft, gdun, gdSun, gdSt, gdSf, gdStf, gdSft, gdUt, gdUf, gdUtf, gdUft, pikt, pikf, eqb1, neb1, eqb0, neb0, eqb2, neb2, eqb3n, neb3n, eqb3nn, neb3nn, eqk1, eqb_agg, neb_agg, eqks_nil, eqks_cons, bin_add, bin_sub, bin_mul, bin_lss, bin_leq, bin_gtr, bin_geq, un_notd, un_not, cvi_int, cvs_str, mn2_int, mx2_int, lenS_str, lenL_slc, bx_int, bx_bool, bx_str, bx_ptr, bx_slc, bx_agg, lcl_eq, xtr_eq, cellsA_agg, spl_z, spl_c, spl_s, bld_nil, bld_cons, bls_nil, bls_cons, prt_t, prt_f, nck_ptr, fld_ptr, lal, stl, decide_true, decide_false, decide_eq_true_eq, Bool.false_eq_true, Bool.not_true, Bool.not_false, Bool.and_true, Bool.and_false, Bool.true_and, Bool.false_and, Option.map_some, Option.map_none, if_true, if_false, ite_true, ite_false, reduceIte, and_self, and_true, true_and, false_and, and_false, true_or, or_true, false_or, or_false, eq_self, ne_eq, not_true_eq_false, not_false_eq_true, Nat.zero_add, Nat.reduceAdd, Nat.reduceLeDiff, Nat.reduceLT, Nat.reduceEqDiff, Int.reduceEq, Int.reduceLT, Int.reduceLE, Int.reduceNe, Nat.le_refl, Nat.add_zero, Option.some.injEq, Prod.mk.injEq, Value.agg.injEq, Value.bool.injEq, Value.int.injEq, Value.tuple.injEq, Array.mk.injEq, List.cons.injEq, and_self, List.length_cons, List.length_nil, List.getElem?_cons_zero, List.getElem?_cons_succ, List.getElem?_nil, List.drop_succ_cons, List.drop_zero, List.take_succ_cons, List.take_zero, List.take_nil, List.drop_nil, List.getD_cons_zero, List.getD_cons_succ, rep1, rep2, rep3, rep4, List.set_cons_zero, List.set_cons_succ, List.cons_append, List.nil_append, hlen, e1, h1', lda_row h2', hx', hq', e5, als_eq, Nat.zero_lt_succ, Nat.reduceMul, g1]
        exact ih d _ _ (by omega) ⟨j + 1, u', by omega, hk.trans ((Keep.new hk.n).trans g2), g3, rfl⟩
  obtain ⟨u, s', g1, g2, g3⟩ := hloop
  rw [show ((0 : Nat) : Int) = 0 from rfl] at g1
  exact ⟨u, s', by simp only [leapfroglaw14x_without.v, leapfroglaw14x_without.t, std_bd, std_gd, std_gdS, std_gdU, std_cnd, std_it, bds, bdn, cndt, cndf, cndd, cndb, gdtt, gdff, gdtf, gdft, gdun, gdSun, gdSt, gdSf, gdStf, gdSft, gdUt, gdUf, gdUtf, gdUft, pikt, pikf, eqb1, neb1, eqb0, neb0, eqb2, neb2, eqb3n, neb3n, eqb3nn, neb3nn, eqk1, eqb_agg, neb_agg, eqks_nil, eqks_cons, bin_add, bin_sub, bin_mul, bin_lss, bin_leq, bin_gtr, bin_geq, un_notd, un_not, cvi_int, cvs_str, mn2_int, mx2_int, lenS_str, lenL_slc, bx_int, bx_bool, bx_str, bx_ptr, bx_slc, bx_agg, lcl_eq, xtr_eq, cellsA_agg, spl_z, spl_c, spl_s, bld_nil, bld_cons, bls_nil, bls_cons, prt_t, prt_f, nck_ptr, fld_ptr, lal, stl, decide_true, decide_false, decide_eq_true_eq, Bool.false_eq_true, Bool.not_true, Bool.not_false, Bool.and_true, Bool.and_false, Bool.true_and, Bool.false_and, Option.map_some, Option.map_none, if_true, if_false, ite_true, ite_false, reduceIte, and_self, and_true, true_and, false_and, and_false, true_or, or_true, false_or, or_false, eq_self, ne_eq, not_true_eq_false, not_false_eq_true, Nat.zero_add, Nat.reduceAdd, Nat.reduceLeDiff, Nat.reduceLT, Nat.reduceEqDiff, Int.reduceEq, Int.reduceLT, Int.reduceLE, Int.reduceNe, Nat.le_refl, Nat.add_zero, Option.some.injEq, Prod.mk.injEq, Value.agg.injEq, Value.bool.injEq, Value.int.injEq, Value.tuple.injEq, Array.mk.injEq, List.cons.injEq, and_self, List.length_cons, List.length_nil, List.getElem?_cons_zero, List.getElem?_cons_succ, List.getElem?_nil, List.drop_succ_cons, List.drop_zero, List.take_succ_cons, List.take_zero, List.take_nil, List.drop_nil, List.getD_cons_zero, List.getD_cons_succ, rep1, rep2, rep3, rep4, List.set_cons_zero, List.set_cons_succ, List.cons_append, List.nil_append, g1], g2, g3⟩

/-! ### What it holds -/

theorem eqR_refl (x : Rf) : eqR x x = true := by simp [eqR]
theorem eqR_less {x y : Rf} (h : lessR x y) : eqR x y = false := by
  unfold eqR
  unfold lessR lessK at h
  by_cases h1 : x.rk = y.rk
  · by_cases h2 : x.n = y.n
    · omega
    · simp [h2]
  · simp [h1]
/-- The locks that are held, by the phase. -/
def held (c : Cf) (m : Mm) : List Rf :=
  if m.at' = 3 ∨ m.at' = 8 then [m.p] else if 4 ≤ m.at' ∧ m.at' ≤ 7 then [m.p, c.me] else []
def Low (c : Cf) (m : Mm) : Prop := 2 ≤ m.at' ∧ m.at' ≤ 8 → lessR m.p c.me
theorem p_tell {c : Cf} {m : Mm} (h : m.at' ≠ 1) (a : Ans) : (tellC c m a).p = m.p := by
  unfold tellC frees
  rw [if_neg h]
  repeat' split
  all_goals rfl
theorem low_tell {c : Cf} {m : Mm} (hi : InvM m) (h : Low c m) (a : Ans) : Low c (tellC c m a) := by
  obtain ⟨i1, i2, i3, i4, i5⟩ := hi
  unfold Low at *
  by_cases h1 : m.at' = 1
  · simp only [tellC, h1, std_bd, std_gd, std_gdS, std_gdU, std_cnd, std_it, bds, bdn, cndt, cndf, cndd, cndb, gdtt, gdff, gdtf, gdft, gdun, gdSun, gdSt, gdSf, gdStf, gdSft, gdUt, gdUf, gdUtf, gdUft, pikt, pikf, eqb1, neb1, eqb0, neb0, eqb2, neb2, eqb3n, neb3n, eqb3nn, neb3nn, eqk1, eqb_agg, neb_agg, eqks_nil, eqks_cons, bin_add, bin_sub, bin_mul, bin_lss, bin_leq, bin_gtr, bin_geq, un_notd, un_not, cvi_int, cvs_str, mn2_int, mx2_int, lenS_str, lenL_slc, bx_int, bx_bool, bx_str, bx_ptr, bx_slc, bx_agg, lcl_eq, xtr_eq, cellsA_agg, spl_z, spl_c, spl_s, bld_nil, bld_cons, bls_nil, bls_cons, prt_t, prt_f, nck_ptr, fld_ptr, lal, stl, decide_true, decide_false, decide_eq_true_eq, Bool.false_eq_true, Bool.not_true, Bool.not_false, Bool.and_true, Bool.and_false, Bool.true_and, Bool.false_and, Option.map_some, Option.map_none, if_true, if_false, ite_true, ite_false, reduceIte, and_self, and_true, true_and, false_and, and_false, true_or, or_true, false_or, or_false, eq_self, ne_eq, not_true_eq_false, not_false_eq_true, Nat.zero_add, Nat.reduceAdd, Nat.reduceLeDiff, Nat.reduceLT, Nat.reduceEqDiff, Int.reduceEq, Int.reduceLT, Int.reduceLE, Int.reduceNe, Nat.le_refl, Nat.add_zero, Option.some.injEq, Prod.mk.injEq, Value.agg.injEq, Value.bool.injEq, Value.int.injEq, Value.tuple.injEq, Array.mk.injEq, List.cons.injEq, and_self]
    repeat' split
    all_goals (intro h2; first | assumption | (simp at h2))
  · intro h2
    rw [p_tell h1]
    by_cases h8 : m.at' ≤ 8
    · exact h ⟨by omega, h8⟩
    · have : tellC c m a = m := by
        unfold tellC
        rw [if_neg h1, if_neg (by omega), if_neg (by omega), if_neg (by omega), if_neg (by omega), if_neg (by omega), if_neg (by omega), if_neg (by omega)]
      rw [this] at h2
      exact h h2
theorem low_wake {c : Cf} {m : Mm} : Low c m → Low c (wakeC m) := by
  unfold Low wakeC
  split
  · intro _ h; simp at h
  · exact id
/-- The locks behind the ask and its answer. -/
def held2 (c : Cf) (m : Mm) (a : Ans) : List Rf :=
  if m.at' = 2 then (if a.k = 1 then [m.p] else []) else if m.at' = 3 then (if a.k = 1 then [m.p, c.me] else [m.p])
  else if m.at' = 4 ∨ m.at' = 5 then [m.p, c.me] else if m.at' = 6 ∨ m.at' = 7 then [m.p] else []
theorem held_tell {c : Cf} {m : Mm} (hi : InvM m) (a : Ans) (h : m.at' ≤ 8) : held c (tellC c m a) = held2 c m a := by
  obtain ⟨i1, i2, i3, i4, i5⟩ := hi
  have hp : m.at' = 1 ∨ m.at' = 2 ∨ m.at' = 3 ∨ m.at' = 4 ∨ m.at' = 5 ∨ m.at' = 6 ∨ m.at' = 7 ∨ m.at' = 8 := by omega
  rcases hp with hp | hp | hp | hp | hp | hp | hp | hp
  · simp only [tellC, held2, hp, std_bd, std_gd, std_gdS, std_gdU, std_cnd, std_it, bds, bdn, cndt, cndf, cndd, cndb, gdtt, gdff, gdtf, gdft, gdun, gdSun, gdSt, gdSf, gdStf, gdSft, gdUt, gdUf, gdUtf, gdUft, pikt, pikf, eqb1, neb1, eqb0, neb0, eqb2, neb2, eqb3n, neb3n, eqb3nn, neb3nn, eqk1, eqb_agg, neb_agg, eqks_nil, eqks_cons, bin_add, bin_sub, bin_mul, bin_lss, bin_leq, bin_gtr, bin_geq, un_notd, un_not, cvi_int, cvs_str, mn2_int, mx2_int, lenS_str, lenL_slc, bx_int, bx_bool, bx_str, bx_ptr, bx_slc, bx_agg, lcl_eq, xtr_eq, cellsA_agg, spl_z, spl_c, spl_s, bld_nil, bld_cons, bls_nil, bls_cons, prt_t, prt_f, nck_ptr, fld_ptr, lal, stl, decide_true, decide_false, decide_eq_true_eq, Bool.false_eq_true, Bool.not_true, Bool.not_false, Bool.and_true, Bool.and_false, Bool.true_and, Bool.false_and, Option.map_some, Option.map_none, if_true, if_false, ite_true, ite_false, reduceIte, and_self, and_true, true_and, false_and, and_false, true_or, or_true, false_or, or_false, eq_self, ne_eq, not_true_eq_false, not_false_eq_true, Nat.zero_add, Nat.reduceAdd, Nat.reduceLeDiff, Nat.reduceLT, Nat.reduceEqDiff, Int.reduceEq, Int.reduceLT, Int.reduceLE, Int.reduceNe, Nat.le_refl, Nat.add_zero, Option.some.injEq, Prod.mk.injEq, Value.agg.injEq, Value.bool.injEq, Value.int.injEq, Value.tuple.injEq, Array.mk.injEq, List.cons.injEq, and_self]
    repeat' split
    all_goals simp [held]
  · simp only [tellC, held2, hp, std_bd, std_gd, std_gdS, std_gdU, std_cnd, std_it, bds, bdn, cndt, cndf, cndd, cndb, gdtt, gdff, gdtf, gdft, gdun, gdSun, gdSt, gdSf, gdStf, gdSft, gdUt, gdUf, gdUtf, gdUft, pikt, pikf, eqb1, neb1, eqb0, neb0, eqb2, neb2, eqb3n, neb3n, eqb3nn, neb3nn, eqk1, eqb_agg, neb_agg, eqks_nil, eqks_cons, bin_add, bin_sub, bin_mul, bin_lss, bin_leq, bin_gtr, bin_geq, un_notd, un_not, cvi_int, cvs_str, mn2_int, mx2_int, lenS_str, lenL_slc, bx_int, bx_bool, bx_str, bx_ptr, bx_slc, bx_agg, lcl_eq, xtr_eq, cellsA_agg, spl_z, spl_c, spl_s, bld_nil, bld_cons, bls_nil, bls_cons, prt_t, prt_f, nck_ptr, fld_ptr, lal, stl, decide_true, decide_false, decide_eq_true_eq, Bool.false_eq_true, Bool.not_true, Bool.not_false, Bool.and_true, Bool.and_false, Bool.true_and, Bool.false_and, Option.map_some, Option.map_none, if_true, if_false, ite_true, ite_false, reduceIte, and_self, and_true, true_and, false_and, and_false, true_or, or_true, false_or, or_false, eq_self, ne_eq, not_true_eq_false, not_false_eq_true, Nat.zero_add, Nat.reduceAdd, Nat.reduceLeDiff, Nat.reduceLT, Nat.reduceEqDiff, Int.reduceEq, Int.reduceLT, Int.reduceLE, Int.reduceNe, Nat.le_refl, Nat.add_zero, Option.some.injEq, Prod.mk.injEq, Value.agg.injEq, Value.bool.injEq, Value.int.injEq, Value.tuple.injEq, Array.mk.injEq, List.cons.injEq, and_self, frees]
    by_cases k1 : a.k = 1
    · by_cases k2 : eqR a.r c.me = true <;> simp [k1, k2, held]
    · simp [k1, held]
  · simp only [tellC, held2, hp, std_bd, std_gd, std_gdS, std_gdU, std_cnd, std_it, bds, bdn, cndt, cndf, cndd, cndb, gdtt, gdff, gdtf, gdft, gdun, gdSun, gdSt, gdSf, gdStf, gdSft, gdUt, gdUf, gdUtf, gdUft, pikt, pikf, eqb1, neb1, eqb0, neb0, eqb2, neb2, eqb3n, neb3n, eqb3nn, neb3nn, eqk1, eqb_agg, neb_agg, eqks_nil, eqks_cons, bin_add, bin_sub, bin_mul, bin_lss, bin_leq, bin_gtr, bin_geq, un_notd, un_not, cvi_int, cvs_str, mn2_int, mx2_int, lenS_str, lenL_slc, bx_int, bx_bool, bx_str, bx_ptr, bx_slc, bx_agg, lcl_eq, xtr_eq, cellsA_agg, spl_z, spl_c, spl_s, bld_nil, bld_cons, bls_nil, bls_cons, prt_t, prt_f, nck_ptr, fld_ptr, lal, stl, decide_true, decide_false, decide_eq_true_eq, Bool.false_eq_true, Bool.not_true, Bool.not_false, Bool.and_true, Bool.and_false, Bool.true_and, Bool.false_and, Option.map_some, Option.map_none, if_true, if_false, ite_true, ite_false, reduceIte, and_self, and_true, true_and, false_and, and_false, true_or, or_true, false_or, or_false, eq_self, ne_eq, not_true_eq_false, not_false_eq_true, Nat.zero_add, Nat.reduceAdd, Nat.reduceLeDiff, Nat.reduceLT, Nat.reduceEqDiff, Int.reduceEq, Int.reduceLT, Int.reduceLE, Int.reduceNe, Nat.le_refl, Nat.add_zero, Option.some.injEq, Prod.mk.injEq, Value.agg.injEq, Value.bool.injEq, Value.int.injEq, Value.tuple.injEq, Array.mk.injEq, List.cons.injEq, and_self, frees]
    by_cases k1 : a.k = 1
    · by_cases k2 : lessR c.me a.r <;> simp [k1, k2, held]
    · by_cases k2 : a.k = 2
      · simp [k2, held]
      · by_cases k3 : a.k = 3
        · simp [k3, held]
        · simp [k1, k2, k3, held]
  · simp only [tellC, held2, hp, std_bd, std_gd, std_gdS, std_gdU, std_cnd, std_it, bds, bdn, cndt, cndf, cndd, cndb, gdtt, gdff, gdtf, gdft, gdun, gdSun, gdSt, gdSf, gdStf, gdSft, gdUt, gdUf, gdUtf, gdUft, pikt, pikf, eqb1, neb1, eqb0, neb0, eqb2, neb2, eqb3n, neb3n, eqb3nn, neb3nn, eqk1, eqb_agg, neb_agg, eqks_nil, eqks_cons, bin_add, bin_sub, bin_mul, bin_lss, bin_leq, bin_gtr, bin_geq, un_notd, un_not, cvi_int, cvs_str, mn2_int, mx2_int, lenS_str, lenL_slc, bx_int, bx_bool, bx_str, bx_ptr, bx_slc, bx_agg, lcl_eq, xtr_eq, cellsA_agg, spl_z, spl_c, spl_s, bld_nil, bld_cons, bls_nil, bls_cons, prt_t, prt_f, nck_ptr, fld_ptr, lal, stl, decide_true, decide_false, decide_eq_true_eq, Bool.false_eq_true, Bool.not_true, Bool.not_false, Bool.and_true, Bool.and_false, Bool.true_and, Bool.false_and, Option.map_some, Option.map_none, if_true, if_false, ite_true, ite_false, reduceIte, and_self, and_true, true_and, false_and, and_false, true_or, or_true, false_or, or_false, eq_self, ne_eq, not_true_eq_false, not_false_eq_true, Nat.zero_add, Nat.reduceAdd, Nat.reduceLeDiff, Nat.reduceLT, Nat.reduceEqDiff, Int.reduceEq, Int.reduceLT, Int.reduceLE, Int.reduceNe, Nat.le_refl, Nat.add_zero, Option.some.injEq, Prod.mk.injEq, Value.agg.injEq, Value.bool.injEq, Value.int.injEq, Value.tuple.injEq, Array.mk.injEq, List.cons.injEq, and_self, frees]
    split <;> simp [held]
  · simp only [tellC, held2, hp, std_bd, std_gd, std_gdS, std_gdU, std_cnd, std_it, bds, bdn, cndt, cndf, cndd, cndb, gdtt, gdff, gdtf, gdft, gdun, gdSun, gdSt, gdSf, gdStf, gdSft, gdUt, gdUf, gdUtf, gdUft, pikt, pikf, eqb1, neb1, eqb0, neb0, eqb2, neb2, eqb3n, neb3n, eqb3nn, neb3nn, eqk1, eqb_agg, neb_agg, eqks_nil, eqks_cons, bin_add, bin_sub, bin_mul, bin_lss, bin_leq, bin_gtr, bin_geq, un_notd, un_not, cvi_int, cvs_str, mn2_int, mx2_int, lenS_str, lenL_slc, bx_int, bx_bool, bx_str, bx_ptr, bx_slc, bx_agg, lcl_eq, xtr_eq, cellsA_agg, spl_z, spl_c, spl_s, bld_nil, bld_cons, bls_nil, bls_cons, prt_t, prt_f, nck_ptr, fld_ptr, lal, stl, decide_true, decide_false, decide_eq_true_eq, Bool.false_eq_true, Bool.not_true, Bool.not_false, Bool.and_true, Bool.and_false, Bool.true_and, Bool.false_and, Option.map_some, Option.map_none, if_true, if_false, ite_true, ite_false, reduceIte, and_self, and_true, true_and, false_and, and_false, true_or, or_true, false_or, or_false, eq_self, ne_eq, not_true_eq_false, not_false_eq_true, Nat.zero_add, Nat.reduceAdd, Nat.reduceLeDiff, Nat.reduceLT, Nat.reduceEqDiff, Int.reduceEq, Int.reduceLT, Int.reduceLE, Int.reduceNe, Nat.le_refl, Nat.add_zero, Option.some.injEq, Prod.mk.injEq, Value.agg.injEq, Value.bool.injEq, Value.int.injEq, Value.tuple.injEq, Array.mk.injEq, List.cons.injEq, and_self, frees]; simp [held]
  · simp only [tellC, held2, hp, std_bd, std_gd, std_gdS, std_gdU, std_cnd, std_it, bds, bdn, cndt, cndf, cndd, cndb, gdtt, gdff, gdtf, gdft, gdun, gdSun, gdSt, gdSf, gdStf, gdSft, gdUt, gdUf, gdUtf, gdUft, pikt, pikf, eqb1, neb1, eqb0, neb0, eqb2, neb2, eqb3n, neb3n, eqb3nn, neb3nn, eqk1, eqb_agg, neb_agg, eqks_nil, eqks_cons, bin_add, bin_sub, bin_mul, bin_lss, bin_leq, bin_gtr, bin_geq, un_notd, un_not, cvi_int, cvs_str, mn2_int, mx2_int, lenS_str, lenL_slc, bx_int, bx_bool, bx_str, bx_ptr, bx_slc, bx_agg, lcl_eq, xtr_eq, cellsA_agg, spl_z, spl_c, spl_s, bld_nil, bld_cons, bls_nil, bls_cons, prt_t, prt_f, nck_ptr, fld_ptr, lal, stl, decide_true, decide_false, decide_eq_true_eq, Bool.false_eq_true, Bool.not_true, Bool.not_false, Bool.and_true, Bool.and_false, Bool.true_and, Bool.false_and, Option.map_some, Option.map_none, if_true, if_false, ite_true, ite_false, reduceIte, and_self, and_true, true_and, false_and, and_false, true_or, or_true, false_or, or_false, eq_self, ne_eq, not_true_eq_false, not_false_eq_true, Nat.zero_add, Nat.reduceAdd, Nat.reduceLeDiff, Nat.reduceLT, Nat.reduceEqDiff, Int.reduceEq, Int.reduceLT, Int.reduceLE, Int.reduceNe, Nat.le_refl, Nat.add_zero, Option.some.injEq, Prod.mk.injEq, Value.agg.injEq, Value.bool.injEq, Value.int.injEq, Value.tuple.injEq, Array.mk.injEq, List.cons.injEq, and_self, frees]
    split <;> simp [held]
  · simp only [tellC, held2, hp, std_bd, std_gd, std_gdS, std_gdU, std_cnd, std_it, bds, bdn, cndt, cndf, cndd, cndb, gdtt, gdff, gdtf, gdft, gdun, gdSun, gdSt, gdSf, gdStf, gdSft, gdUt, gdUf, gdUtf, gdUft, pikt, pikf, eqb1, neb1, eqb0, neb0, eqb2, neb2, eqb3n, neb3n, eqb3nn, neb3nn, eqk1, eqb_agg, neb_agg, eqks_nil, eqks_cons, bin_add, bin_sub, bin_mul, bin_lss, bin_leq, bin_gtr, bin_geq, un_notd, un_not, cvi_int, cvs_str, mn2_int, mx2_int, lenS_str, lenL_slc, bx_int, bx_bool, bx_str, bx_ptr, bx_slc, bx_agg, lcl_eq, xtr_eq, cellsA_agg, spl_z, spl_c, spl_s, bld_nil, bld_cons, bls_nil, bls_cons, prt_t, prt_f, nck_ptr, fld_ptr, lal, stl, decide_true, decide_false, decide_eq_true_eq, Bool.false_eq_true, Bool.not_true, Bool.not_false, Bool.and_true, Bool.and_false, Bool.true_and, Bool.false_and, Option.map_some, Option.map_none, if_true, if_false, ite_true, ite_false, reduceIte, and_self, and_true, true_and, false_and, and_false, true_or, or_true, false_or, or_false, eq_self, ne_eq, not_true_eq_false, not_false_eq_true, Nat.zero_add, Nat.reduceAdd, Nat.reduceLeDiff, Nat.reduceLT, Nat.reduceEqDiff, Int.reduceEq, Int.reduceLT, Int.reduceLE, Int.reduceNe, Nat.le_refl, Nat.add_zero, Option.some.injEq, Prod.mk.injEq, Value.agg.injEq, Value.bool.injEq, Value.int.injEq, Value.tuple.injEq, Array.mk.injEq, List.cons.injEq, and_self, frees]; simp [held]
  · simp only [tellC, held2, hp, std_bd, std_gd, std_gdS, std_gdU, std_cnd, std_it, bds, bdn, cndt, cndf, cndd, cndb, gdtt, gdff, gdtf, gdft, gdun, gdSun, gdSt, gdSf, gdStf, gdSft, gdUt, gdUf, gdUtf, gdUft, pikt, pikf, eqb1, neb1, eqb0, neb0, eqb2, neb2, eqb3n, neb3n, eqb3nn, neb3nn, eqk1, eqb_agg, neb_agg, eqks_nil, eqks_cons, bin_add, bin_sub, bin_mul, bin_lss, bin_leq, bin_gtr, bin_geq, un_notd, un_not, cvi_int, cvs_str, mn2_int, mx2_int, lenS_str, lenL_slc, bx_int, bx_bool, bx_str, bx_ptr, bx_slc, bx_agg, lcl_eq, xtr_eq, cellsA_agg, spl_z, spl_c, spl_s, bld_nil, bld_cons, bls_nil, bls_cons, prt_t, prt_f, nck_ptr, fld_ptr, lal, stl, decide_true, decide_false, decide_eq_true_eq, Bool.false_eq_true, Bool.not_true, Bool.not_false, Bool.and_true, Bool.and_false, Bool.true_and, Bool.false_and, Option.map_some, Option.map_none, if_true, if_false, ite_true, ite_false, reduceIte, and_self, and_true, true_and, false_and, and_false, true_or, or_true, false_or, or_false, eq_self, ne_eq, not_true_eq_false, not_false_eq_true, Nat.zero_add, Nat.reduceAdd, Nat.reduceLeDiff, Nat.reduceLT, Nat.reduceEqDiff, Int.reduceEq, Int.reduceLT, Int.reduceLE, Int.reduceNe, Nat.le_refl, Nat.add_zero, Option.some.injEq, Prod.mk.injEq, Value.agg.injEq, Value.bool.injEq, Value.int.injEq, Value.tuple.injEq, Array.mk.injEq, List.cons.injEq, and_self, frees]
    have := i4 hp
    rcases this with h | h <;> simp [held, h]

/-! ### The law's loop -/

structure Here (c : Cf) (v : Value) (l : List Ans) (U n0 : Nat) (m : Mm) (hv : Value) (H : List Rf) (s : St) : Prop where
  hu : Row s U (urow c m)
  un : U < n0
  nn : n0 ≤ s.n
  inv : InvM m
  low : Low c m
  ha : IsA s v l
  hn : ∀ b i len e, v = .slice (some ⟨b, i, some 0⟩) len e → b < n0
  fr : Fresh s
  ho : Own n0 s 5 hv (rowsR H)

/-- An ask: what the law makes of its list of locks, and how it goes on. -/
theorem ask_step {c : Cf} {v : Value} {l : List Ans} {U n0 j : Nat} {m : Mm} {hv : Value} {H : List Rf} {s : St} (h : Here c v l U n0 m hv H s) {K : Int} {T r : Rf} {o : Bool} (hnx : nextC c m = askC c K T r o)
    (hj : j < 200) {a : Ans} (ha : l[j]? = some a) (hK : (K = 3 ∧ (H = [] ∨ ∃ x, H = [x] ∧ lessR x T)) ∨ (K ≠ 3 ∧ H.length ≤ 2)) (rec : List Value → St → Option Cut) :
    ∃ hv' s', leapfroglaw14x_UnspliceFrees.l8 std rec [v, P U, hv, Value.int .i64 (j : Int), .agg ⟨c.cs⟩] s = ((unsplice_Unsplice_Tell.v (P U) (.agg ⟨a.cs⟩) s').bind fun r => rec [v, P U, hv', Value.int .i64 ((j + 1 : Nat) : Int), .agg ⟨c.cs⟩] r.2) ∧ Keep n0 s s' ∧
      Own n0 s' 5 hv' (rowsR (if K = 3 ∧ a.k = 1 then H ++ [T] else if K = 4 ∨ K = 8 then H.filter (fun x => !eqR x T) else H)) := by
  have hi1 : 1 ≤ m.at' := h.inv.1
  have hi2 : m.at' ≤ 10 := h.inv.2.1
  have n1 := next_r h.hu hi1 hi2
  rw [hnx] at n1
  unfold askC at n1
  have hjl : j < l.length := (List.getElem?_eq_some_iff.1 ha).1
  have e1 : (j : Int) < l.length := by omega
  have e2 : (j : Int) < 200 := by omega
  have e5 : IntKind.i64.wrap ((j : Int) + 1) = ((j + 1 : Nat) : Int) := by rw [wrap64 (by omega) (by omega)]; omega
  have hlen := h.ho.len
  rw [rowsR_length] at hlen
  obtain ⟨b, k, rows, ro, a1, a2, a3⟩ := h.ha.at ha
  -- behind the turn of the list
  have fin : ∀ {hv' : Value} {s' : St} {H' : List Rf}, Keep n0 s s' → Own n0 s' 5 hv' (rowsR H') → ∃ p, idx s' 13 v (.int .i64 (j : Int)) = some p ∧ lda s' 13 p = some (.agg ⟨a.cs⟩) := fun hk _ => (h.ha.keep h.hn hk).load ha
  rcases hK with ⟨rfl, hH⟩ | ⟨hK3, hH2⟩
  · rcases hH with rfl | ⟨x, rfl, hx⟩
    · -- the first lock
      have g0 : ¬ (((0 : Nat) : Int) > 0) := by omega
      by_cases k1 : a.k = 1
      · obtain ⟨u', s2, g1, g2, g3⟩ := (h.ho.new (x := .row 5 [T.cs] false) h.fr).app2 (by_ := 40) (news := [T.cs]) (x := .slice (some ⟨s.n, 0, some 0⟩) 1 2) (by rw [new_n]; have := h.nn; omega) rfl rowsOf_one (by simp [rowsR]) (by simp [rowsR])
        have g4 : Keep n0 s s2 := (Keep.new h.nn).trans g2
        have g3' : Own n0 s2 5 u' (rowsR ([] ++ [T])) := by simpa [rowsR] using g3
        obtain ⟨p, p1, p2⟩ := fin g4 g3'
        refine ⟨u', s2, ?_, g4, by rw [if_pos ⟨rfl, k1⟩]; exact g3'⟩
        have g6 : lenL u' = some (.int .i64 1) := by rw [g3.len]; rfl
        simp only [leapfroglaw14x_UnspliceFrees.l8, leapfroglaw14x_UnspliceFrees.l8.p1, leapfroglaw14x_UnspliceFrees.l8.p2, std_bd, std_gd, std_gdS, std_gdU, std_cnd, std_it, bds, bdn, cndt, cndf, cndd, cndb, gdtt, gdff, gdtf, gdft, gdun, gdSun, gdSt, gdSf, gdStf, gdSft, gdUt, gdUf, gdUtf, gdUft, pikt, pikf, eqb1, neb1, eqb0, neb0, eqb2, neb2, eqb3n, neb3n, eqb3nn, neb3nn, eqk1, eqb_agg, neb_agg, eqks_nil, eqks_cons, bin_add, bin_sub, bin_mul, bin_lss, bin_leq, bin_gtr, bin_geq, un_notd, un_not, cvi_int, cvs_str, mn2_int, mx2_int, lenS_str, lenL_slc, bx_int, bx_bool, bx_str, bx_ptr, bx_slc, bx_agg, lcl_eq, xtr_eq, cellsA_agg, spl_z, spl_c, spl_s, bld_nil, bld_cons, bls_nil, bls_cons, prt_t, prt_f, nck_ptr, fld_ptr, lal, stl, decide_true, decide_false, decide_eq_true_eq, Bool.false_eq_true, Bool.not_true, Bool.not_false, Bool.and_true, Bool.and_false, Bool.true_and, Bool.false_and, Option.map_some, Option.map_none, if_true, if_false, ite_true, ite_false, reduceIte, and_self, and_true, true_and, false_and, and_false, true_or, or_true, false_or, or_false, eq_self, ne_eq, not_true_eq_false, not_false_eq_true, Nat.zero_add, Nat.reduceAdd, Nat.reduceLeDiff, Nat.reduceLT, Nat.reduceEqDiff, Int.reduceEq, Int.reduceLT, Int.reduceLE, Int.reduceNe, Nat.le_refl, Nat.add_zero, Option.some.injEq, Prod.mk.injEq, Value.agg.injEq, Value.bool.injEq, Value.int.injEq, Value.tuple.injEq, Array.mk.injEq, List.cons.injEq, and_self, List.length_cons, List.length_nil, List.getElem?_cons_zero, List.getElem?_cons_succ, List.getElem?_nil, List.drop_succ_cons, List.drop_zero, List.take_succ_cons, List.take_zero, List.take_nil, List.drop_nil, List.getD_cons_zero, List.getD_cons_succ, rep1, rep2, rep3, rep4, List.set_cons_zero, List.set_cons_succ, List.cons_append, List.nil_append, h.ha.len, e1, e2, n1, hlen, a1, ldc_row a2, a3, k1, als_eq, Nat.zero_lt_succ, Nat.reduceMul, g1, g6, p1, p2, e5, stepC, Int.natCast_zero, Int.lt_irrefl]
      · obtain ⟨p, p1, p2⟩ := fin (.refl n0 s) h.ho
        refine ⟨hv, s, ?_, .refl _ _, by rw [if_neg (by omega), if_neg (by omega)]; exact h.ho⟩
        simp only [leapfroglaw14x_UnspliceFrees.l8, leapfroglaw14x_UnspliceFrees.l8.p1, leapfroglaw14x_UnspliceFrees.l8.p2, std_bd, std_gd, std_gdS, std_gdU, std_cnd, std_it, bds, bdn, cndt, cndf, cndd, cndb, gdtt, gdff, gdtf, gdft, gdun, gdSun, gdSt, gdSf, gdStf, gdSft, gdUt, gdUf, gdUtf, gdUft, pikt, pikf, eqb1, neb1, eqb0, neb0, eqb2, neb2, eqb3n, neb3n, eqb3nn, neb3nn, eqk1, eqb_agg, neb_agg, eqks_nil, eqks_cons, bin_add, bin_sub, bin_mul, bin_lss, bin_leq, bin_gtr, bin_geq, un_notd, un_not, cvi_int, cvs_str, mn2_int, mx2_int, lenS_str, lenL_slc, bx_int, bx_bool, bx_str, bx_ptr, bx_slc, bx_agg, lcl_eq, xtr_eq, cellsA_agg, spl_z, spl_c, spl_s, bld_nil, bld_cons, bls_nil, bls_cons, prt_t, prt_f, nck_ptr, fld_ptr, lal, stl, decide_true, decide_false, decide_eq_true_eq, Bool.false_eq_true, Bool.not_true, Bool.not_false, Bool.and_true, Bool.and_false, Bool.true_and, Bool.false_and, Option.map_some, Option.map_none, if_true, if_false, ite_true, ite_false, reduceIte, and_self, and_true, true_and, false_and, and_false, true_or, or_true, false_or, or_false, eq_self, ne_eq, not_true_eq_false, not_false_eq_true, Nat.zero_add, Nat.reduceAdd, Nat.reduceLeDiff, Nat.reduceLT, Nat.reduceEqDiff, Int.reduceEq, Int.reduceLT, Int.reduceLE, Int.reduceNe, Nat.le_refl, Nat.add_zero, Option.some.injEq, Prod.mk.injEq, Value.agg.injEq, Value.bool.injEq, Value.int.injEq, Value.tuple.injEq, Array.mk.injEq, List.cons.injEq, and_self, List.length_cons, List.length_nil, List.getElem?_cons_zero, List.getElem?_cons_succ, List.getElem?_nil, List.drop_succ_cons, List.drop_zero, List.take_succ_cons, List.take_zero, List.take_nil, List.drop_nil, List.getD_cons_zero, List.getD_cons_succ, rep1, rep2, rep3, rep4, List.set_cons_zero, List.set_cons_succ, List.cons_append, List.nil_append, h.ha.len, e1, e2, n1, hlen, a1, ldc_row a2, lda_row a2, a3, k1, e5, stepC, Int.natCast_zero, Int.lt_irrefl]
    · -- the second
      have w0 : IntKind.i64.wrap (((1 : Nat) : Int) - 1) = ((0 : Nat) : Int) := rfl
      have e0 : (0 : Int) < ((1 : Nat) : Int) := by omega
      have hlen : lenL hv = some (.int .i64 ((1 : Nat) : Int)) := hlen
      obtain ⟨q, qo, i1, i2⟩ := h.ho.idx (show (rowsR [x])[0]? = some x.cs from rfl)
      have hl := rless_r x.rk x.n T.rk T.n s
      have hxl : lessK x.rk x.n T.rk T.n := hx
      have rg : (rowsR [x])[0]? = some x.cs := rfl
      by_cases k1 : a.k = 1
      · obtain ⟨u', s2, g1, g2, g3⟩ := (h.ho.new (x := .row 5 [T.cs] false) h.fr).app2 (by_ := 40) (news := [T.cs]) (x := .slice (some ⟨s.n, 0, some 0⟩) 1 2) (by rw [new_n]; have := h.nn; omega) rfl rowsOf_one (by simp [rowsR]) (by simp [rowsR])
        have g4 : Keep n0 s s2 := (Keep.new h.nn).trans g2
        have g3' : Own n0 s2 5 u' (rowsR ([x] ++ [T])) := by simpa [rowsR] using g3
        obtain ⟨p, p1, p2⟩ := fin g4 g3'
        have g6 : lenL u' = some (.int .i64 2) := by rw [g3.len]; rfl
        refine ⟨u', s2, ?_, g4, by rw [if_pos ⟨rfl, k1⟩]; exact g3'⟩
        simp only [leapfroglaw14x_UnspliceFrees.l8, leapfroglaw14x_UnspliceFrees.l8.p1, leapfroglaw14x_UnspliceFrees.l8.p2, std_bd, std_gd, std_gdS, std_gdU, std_cnd, std_it, bds, bdn, cndt, cndf, cndd, cndb, gdtt, gdff, gdtf, gdft, gdun, gdSun, gdSt, gdSf, gdStf, gdSft, gdUt, gdUf, gdUtf, gdUft, pikt, pikf, eqb1, neb1, eqb0, neb0, eqb2, neb2, eqb3n, neb3n, eqb3nn, neb3nn, eqk1, eqb_agg, neb_agg, eqks_nil, eqks_cons, bin_add, bin_sub, bin_mul, bin_lss, bin_leq, bin_gtr, bin_geq, un_notd, un_not, cvi_int, cvs_str, mn2_int, mx2_int, lenS_str, lenL_slc, bx_int, bx_bool, bx_str, bx_ptr, bx_slc, bx_agg, lcl_eq, xtr_eq, cellsA_agg, spl_z, spl_c, spl_s, bld_nil, bld_cons, bls_nil, bls_cons, prt_t, prt_f, nck_ptr, fld_ptr, lal, stl, decide_true, decide_false, decide_eq_true_eq, Bool.false_eq_true, Bool.not_true, Bool.not_false, Bool.and_true, Bool.and_false, Bool.true_and, Bool.false_and, Option.map_some, Option.map_none, if_true, if_false, ite_true, ite_false, reduceIte, and_self, and_true, true_and, false_and, and_false, true_or, or_true, false_or, or_false, eq_self, ne_eq, not_true_eq_false, not_false_eq_true, Nat.zero_add, Nat.reduceAdd, Nat.reduceLeDiff, Nat.reduceLT, Nat.reduceEqDiff, Int.reduceEq, Int.reduceLT, Int.reduceLE, Int.reduceNe, Nat.le_refl, Nat.add_zero, Option.some.injEq, Prod.mk.injEq, Value.agg.injEq, Value.bool.injEq, Value.int.injEq, Value.tuple.injEq, Array.mk.injEq, List.cons.injEq, and_self, h.ha.len, e1, e2, n1, hlen, e0, w0, i1, lda_row i2, rg, hl, hxl, a1, ldc_row a2, a3, k1, als_eq, Nat.zero_lt_succ, Nat.reduceMul, g1, g6, p1, p2, e5, stepC, List.length_cons, List.length_nil, List.getElem?_cons_zero, List.getElem?_cons_succ, List.getElem?_nil, List.drop_succ_cons, List.drop_zero, List.take_succ_cons, List.take_zero, List.take_nil, List.drop_nil, List.getD_cons_zero, List.getD_cons_succ, rep1, rep2, rep3, rep4, List.set_cons_zero, List.set_cons_succ, List.cons_append, List.nil_append]
      · obtain ⟨p, p1, p2⟩ := fin (.refl n0 s) h.ho
        refine ⟨hv, s, ?_, .refl _ _, by rw [if_neg (by omega), if_neg (by omega)]; exact h.ho⟩
        have g6 : ¬ ((2 : Int) < ((1 : Nat) : Int)) := by omega
        simp only [leapfroglaw14x_UnspliceFrees.l8, leapfroglaw14x_UnspliceFrees.l8.p1, leapfroglaw14x_UnspliceFrees.l8.p2, std_bd, std_gd, std_gdS, std_gdU, std_cnd, std_it, bds, bdn, cndt, cndf, cndd, cndb, gdtt, gdff, gdtf, gdft, gdun, gdSun, gdSt, gdSf, gdStf, gdSft, gdUt, gdUf, gdUtf, gdUft, pikt, pikf, eqb1, neb1, eqb0, neb0, eqb2, neb2, eqb3n, neb3n, eqb3nn, neb3nn, eqk1, eqb_agg, neb_agg, eqks_nil, eqks_cons, bin_add, bin_sub, bin_mul, bin_lss, bin_leq, bin_gtr, bin_geq, un_notd, un_not, cvi_int, cvs_str, mn2_int, mx2_int, lenS_str, lenL_slc, bx_int, bx_bool, bx_str, bx_ptr, bx_slc, bx_agg, lcl_eq, xtr_eq, cellsA_agg, spl_z, spl_c, spl_s, bld_nil, bld_cons, bls_nil, bls_cons, prt_t, prt_f, nck_ptr, fld_ptr, lal, stl, decide_true, decide_false, decide_eq_true_eq, Bool.false_eq_true, Bool.not_true, Bool.not_false, Bool.and_true, Bool.and_false, Bool.true_and, Bool.false_and, Option.map_some, Option.map_none, if_true, if_false, ite_true, ite_false, reduceIte, and_self, and_true, true_and, false_and, and_false, true_or, or_true, false_or, or_false, eq_self, ne_eq, not_true_eq_false, not_false_eq_true, Nat.zero_add, Nat.reduceAdd, Nat.reduceLeDiff, Nat.reduceLT, Nat.reduceEqDiff, Int.reduceEq, Int.reduceLT, Int.reduceLE, Int.reduceNe, Nat.le_refl, Nat.add_zero, Option.some.injEq, Prod.mk.injEq, Value.agg.injEq, Value.bool.injEq, Value.int.injEq, Value.tuple.injEq, Array.mk.injEq, List.cons.injEq, and_self, h.ha.len, e1, e2, n1, hlen, e0, w0, i1, lda_row i2, rg, hl, hxl, a1, ldc_row a2, lda_row a2, a3, k1, g6, e5, stepC, List.length_cons, List.length_nil, List.getElem?_cons_zero, List.getElem?_cons_succ, List.getElem?_nil, List.drop_succ_cons, List.drop_zero, List.take_succ_cons, List.take_zero, List.take_nil, List.drop_nil, List.getD_cons_zero, List.getD_cons_succ, rep1, rep2, rep3, rep4, List.set_cons_zero, List.set_cons_succ, List.cons_append, List.nil_append]
  · by_cases k4 : K = 4 ∨ K = 8
    · obtain ⟨u', s2, g1, g2, g3⟩ := without_r h.fr h.nn h.ho T (by omega)
      have g4 : Keep n0 s s2 := ⟨g2.n, fun b hb => g2.old b (by have := h.nn; omega), g2.fresh⟩
      have g5 : Own n0 s2 5 u' (rowsR (H.filter fun x => !eqR x T)) := by
        rcases g3 with ⟨q1, q2⟩ | ⟨q, q1, q2, q3⟩
        · exact .inl ⟨q1, q2⟩
        · exact .inr ⟨q, by have := h.nn; omega, q2, q3⟩
      obtain ⟨p, p1, p2⟩ := fin g4 g5
      have hfl : (H.filter fun x => !eqR x T).length ≤ 2 := Nat.le_trans (List.length_filter_le _ _) hH2
      have g6 := g5.len
      rw [rowsR_length] at g6
      have g7 : ¬ ((2 : Int) < (H.filter fun x => !eqR x T).length) := by omega
      refine ⟨u', s2, ?_, g4, by rw [if_neg (by omega), if_pos k4]; exact g5⟩
      rcases k4 with rfl | rfl
      · simp only [leapfroglaw14x_UnspliceFrees.l8, leapfroglaw14x_UnspliceFrees.l8.p1, leapfroglaw14x_UnspliceFrees.l8.p2, std_bd, std_gd, std_gdS, std_gdU, std_cnd, std_it, bds, bdn, cndt, cndf, cndd, cndb, gdtt, gdff, gdtf, gdft, gdun, gdSun, gdSt, gdSf, gdStf, gdSft, gdUt, gdUf, gdUtf, gdUft, pikt, pikf, eqb1, neb1, eqb0, neb0, eqb2, neb2, eqb3n, neb3n, eqb3nn, neb3nn, eqk1, eqb_agg, neb_agg, eqks_nil, eqks_cons, bin_add, bin_sub, bin_mul, bin_lss, bin_leq, bin_gtr, bin_geq, un_notd, un_not, cvi_int, cvs_str, mn2_int, mx2_int, lenS_str, lenL_slc, bx_int, bx_bool, bx_str, bx_ptr, bx_slc, bx_agg, lcl_eq, xtr_eq, cellsA_agg, spl_z, spl_c, spl_s, bld_nil, bld_cons, bls_nil, bls_cons, prt_t, prt_f, nck_ptr, fld_ptr, lal, stl, decide_true, decide_false, decide_eq_true_eq, Bool.false_eq_true, Bool.not_true, Bool.not_false, Bool.and_true, Bool.and_false, Bool.true_and, Bool.false_and, Option.map_some, Option.map_none, if_true, if_false, ite_true, ite_false, reduceIte, and_self, and_true, true_and, false_and, and_false, true_or, or_true, false_or, or_false, eq_self, ne_eq, not_true_eq_false, not_false_eq_true, Nat.zero_add, Nat.reduceAdd, Nat.reduceLeDiff, Nat.reduceLT, Nat.reduceEqDiff, Int.reduceEq, Int.reduceLT, Int.reduceLE, Int.reduceNe, Nat.le_refl, Nat.add_zero, Option.some.injEq, Prod.mk.injEq, Value.agg.injEq, Value.bool.injEq, Value.int.injEq, Value.tuple.injEq, Array.mk.injEq, List.cons.injEq, and_self, h.ha.len, e1, e2, n1, stepC, List.length_cons, List.length_nil, List.getElem?_cons_zero, List.getElem?_cons_succ, List.getElem?_nil, List.drop_succ_cons, List.drop_zero, List.take_succ_cons, List.take_zero, List.take_nil, List.drop_nil, List.getD_cons_zero, List.getD_cons_succ, rep1, rep2, rep3, rep4, List.set_cons_zero, List.set_cons_succ, List.cons_append, List.nil_append, g1, g6, g7, p1, p2, e5]
      · simp only [leapfroglaw14x_UnspliceFrees.l8, leapfroglaw14x_UnspliceFrees.l8.p1, leapfroglaw14x_UnspliceFrees.l8.p2, std_bd, std_gd, std_gdS, std_gdU, std_cnd, std_it, bds, bdn, cndt, cndf, cndd, cndb, gdtt, gdff, gdtf, gdft, gdun, gdSun, gdSt, gdSf, gdStf, gdSft, gdUt, gdUf, gdUtf, gdUft, pikt, pikf, eqb1, neb1, eqb0, neb0, eqb2, neb2, eqb3n, neb3n, eqb3nn, neb3nn, eqk1, eqb_agg, neb_agg, eqks_nil, eqks_cons, bin_add, bin_sub, bin_mul, bin_lss, bin_leq, bin_gtr, bin_geq, un_notd, un_not, cvi_int, cvs_str, mn2_int, mx2_int, lenS_str, lenL_slc, bx_int, bx_bool, bx_str, bx_ptr, bx_slc, bx_agg, lcl_eq, xtr_eq, cellsA_agg, spl_z, spl_c, spl_s, bld_nil, bld_cons, bls_nil, bls_cons, prt_t, prt_f, nck_ptr, fld_ptr, lal, stl, decide_true, decide_false, decide_eq_true_eq, Bool.false_eq_true, Bool.not_true, Bool.not_false, Bool.and_true, Bool.and_false, Bool.true_and, Bool.false_and, Option.map_some, Option.map_none, if_true, if_false, ite_true, ite_false, reduceIte, and_self, and_true, true_and, false_and, and_false, true_or, or_true, false_or, or_false, eq_self, ne_eq, not_true_eq_false, not_false_eq_true, Nat.zero_add, Nat.reduceAdd, Nat.reduceLeDiff, Nat.reduceLT, Nat.reduceEqDiff, Int.reduceEq, Int.reduceLT, Int.reduceLE, Int.reduceNe, Nat.le_refl, Nat.add_zero, Option.some.injEq, Prod.mk.injEq, Value.agg.injEq, Value.bool.injEq, Value.int.injEq, Value.tuple.injEq, Array.mk.injEq, List.cons.injEq, and_self, h.ha.len, e1, e2, n1, stepC, List.length_cons, List.length_nil, List.getElem?_cons_zero, List.getElem?_cons_succ, List.getElem?_nil, List.drop_succ_cons, List.drop_zero, List.take_succ_cons, List.take_zero, List.take_nil, List.drop_nil, List.getD_cons_zero, List.getD_cons_succ, rep1, rep2, rep3, rep4, List.set_cons_zero, List.set_cons_succ, List.cons_append, List.nil_append, g1, g6, g7, p1, p2, e5]
    · obtain ⟨p, p1, p2⟩ := fin (.refl n0 s) h.ho
      have g7 : ¬ ((2 : Int) < H.length) := by omega
      have n4 : ¬ K = 4 := fun e => k4 (.inl e)
      have n8 : ¬ K = 8 := fun e => k4 (.inr e)
      refine ⟨hv, s, ?_, .refl _ _, by rw [if_neg (by omega), if_neg k4]; exact h.ho⟩
      simp only [leapfroglaw14x_UnspliceFrees.l8, leapfroglaw14x_UnspliceFrees.l8.p1, leapfroglaw14x_UnspliceFrees.l8.p2, std_bd, std_gd, std_gdS, std_gdU, std_cnd, std_it, bds, bdn, cndt, cndf, cndd, cndb, gdtt, gdff, gdtf, gdft, gdun, gdSun, gdSt, gdSf, gdStf, gdSft, gdUt, gdUf, gdUtf, gdUft, pikt, pikf, eqb1, neb1, eqb0, neb0, eqb2, neb2, eqb3n, neb3n, eqb3nn, neb3nn, eqk1, eqb_agg, neb_agg, eqks_nil, eqks_cons, bin_add, bin_sub, bin_mul, bin_lss, bin_leq, bin_gtr, bin_geq, un_notd, un_not, cvi_int, cvs_str, mn2_int, mx2_int, lenS_str, lenL_slc, bx_int, bx_bool, bx_str, bx_ptr, bx_slc, bx_agg, lcl_eq, xtr_eq, cellsA_agg, spl_z, spl_c, spl_s, bld_nil, bld_cons, bls_nil, bls_cons, prt_t, prt_f, nck_ptr, fld_ptr, lal, stl, decide_true, decide_false, decide_eq_true_eq, Bool.false_eq_true, Bool.not_true, Bool.not_false, Bool.and_true, Bool.and_false, Bool.true_and, Bool.false_and, Option.map_some, Option.map_none, if_true, if_false, ite_true, ite_false, reduceIte, and_self, and_true, true_and, false_and, and_false, true_or, or_true, false_or, or_false, eq_self, ne_eq, not_true_eq_false, not_false_eq_true, Nat.zero_add, Nat.reduceAdd, Nat.reduceLeDiff, Nat.reduceLT, Nat.reduceEqDiff, Int.reduceEq, Int.reduceLT, Int.reduceLE, Int.reduceNe, Nat.le_refl, Nat.add_zero, Option.some.injEq, Prod.mk.injEq, Value.agg.injEq, Value.bool.injEq, Value.int.injEq, Value.tuple.injEq, Array.mk.injEq, List.cons.injEq, and_self, h.ha.len, e1, e2, n1, stepC, List.length_cons, List.length_nil, List.getElem?_cons_zero, List.getElem?_cons_succ, List.getElem?_nil, List.drop_succ_cons, List.drop_zero, List.take_succ_cons, List.take_zero, List.take_nil, List.drop_nil, List.getD_cons_zero, List.getD_cons_succ, rep1, rep2, rep3, rep4, List.set_cons_zero, List.set_cons_succ, List.cons_append, List.nil_append, hK3, n4, n8, hlen, g7, p1, p2, e5]

theorem row_keep {s s' : St} {b n0 : Nat} {cs : List Value} (h : Row s b cs) (hb : b < n0) (hk : Keep n0 s s') : Row s' b cs := by
  unfold Row; rw [hk.old b hb]; exact h

/-- After the ask, the answer is told. -/
theorem told {c : Cf} {v : Value} {l : List Ans} {U n0 : Nat} {m : Mm} {hv hv' : Value} {H : List Rf} {s s' : St} (h : Here c v l U n0 m hv H s) (hk : Keep n0 s s') (a : Ans) {H' : List Rf} (ho : Own n0 s' 5 hv' (rowsR H')) :
    ∃ s2, unsplice_Unsplice_Tell.v (P U) (.agg ⟨a.cs⟩) s' = some (unit', s2) ∧ Here c v l U n0 (tellC c m a) hv' H' s2 := by
  obtain ⟨s2, t1, t2, t3⟩ := tell_r (row_keep h.hu h.un hk) h.inv a
  have r1 := row_keep h.hu h.un hk
  refine ⟨s2, t1, t2, h.un, ?_, inv_tell h.inv a, low_tell h.inv h.low a, ?_, h.hn, t3.2.2 (hk.fresh h.fr), ho.but t3 h.un⟩
  · rw [t3.2.1]; have := hk.n; have := h.nn; omega
  · exact (h.ha.keep h.hn hk).but t3 r1 (by omega)

theorem loop {c : Cf} {v : Value} {l : List Ans} {U n0 : Nat} {m : Mm} {hv : Value} {s : St} (h : Here c v l U n0 m hv (held c m) s) :
    ∃ x s', iter (leapfroglaw14x_UnspliceFrees.l8 std) BIG [v, P U, hv, Value.int .i64 ((0 : Nat) : Int), .agg ⟨c.cs⟩] s = some x ∧ (x = (0, [], s') ∨ x = (1, [.bool true], s')) := by
  refine iter_rel (fun d xs s' => ∃ m hv j, Here c v l U n0 m hv (held c m) s' ∧ j + d = 200 ∧ xs = [v, P U, hv, Value.int .i64 (j : Int), .agg ⟨c.cs⟩])
    (fun y : Option Cut => ∃ x s', y = some x ∧ (x = (0, [], s') ∨ x = (1, [.bool true], s'))) ?_ BIG 200 _ s (by unfold BIG; omega) ⟨m, hv, 0, h, by omega, rfl⟩
  rintro d xs s rec ⟨m, hv, j, h, hj, rfl⟩ ih
  by_cases h1 : j < l.length
  · have e1 : (j : Int) < l.length := by omega
    cases d with
    | zero =>
      have e2 : ¬ ((j : Int) < 200) := by omega
      exact ⟨_, s, by simp only [leapfroglaw14x_UnspliceFrees.l8, std_bd, std_gd, std_gdS, std_gdU, std_cnd, std_it, bds, bdn, cndt, cndf, cndd, cndb, gdtt, gdff, gdtf, gdft, gdun, gdSun, gdSt, gdSf, gdStf, gdSft, gdUt, gdUf, gdUtf, gdUft, pikt, pikf, eqb1, neb1, eqb0, neb0, eqb2, neb2, eqb3n, neb3n, eqb3nn, neb3nn, eqk1, eqb_agg, neb_agg, eqks_nil, eqks_cons, bin_add, bin_sub, bin_mul, bin_lss, bin_leq, bin_gtr, bin_geq, un_notd, un_not, cvi_int, cvs_str, mn2_int, mx2_int, lenS_str, lenL_slc, bx_int, bx_bool, bx_str, bx_ptr, bx_slc, bx_agg, lcl_eq, xtr_eq, cellsA_agg, spl_z, spl_c, spl_s, bld_nil, bld_cons, bls_nil, bls_cons, prt_t, prt_f, nck_ptr, fld_ptr, lal, stl, decide_true, decide_false, decide_eq_true_eq, Bool.false_eq_true, Bool.not_true, Bool.not_false, Bool.and_true, Bool.and_false, Bool.true_and, Bool.false_and, Option.map_some, Option.map_none, if_true, if_false, ite_true, ite_false, reduceIte, and_self, and_true, true_and, false_and, and_false, true_or, or_true, false_or, or_false, eq_self, ne_eq, not_true_eq_false, not_false_eq_true, Nat.zero_add, Nat.reduceAdd, Nat.reduceLeDiff, Nat.reduceLT, Nat.reduceEqDiff, Int.reduceEq, Int.reduceLT, Int.reduceLE, Int.reduceNe, Nat.le_refl, Nat.add_zero, Option.some.injEq, Prod.mk.injEq, Value.agg.injEq, Value.bool.injEq, Value.int.injEq, Value.tuple.injEq, Array.mk.injEq, List.cons.injEq, and_self, List.length_cons, List.length_nil, List.getElem?_cons_zero, List.getElem?_cons_succ, List.getElem?_nil, List.drop_succ_cons, List.drop_zero, List.take_succ_cons, List.take_zero, List.take_nil, List.drop_nil, List.getD_cons_zero, List.getD_cons_succ, rep1, rep2, rep3, rep4, List.set_cons_zero, List.set_cons_succ, List.cons_append, List.nil_append, h.ha.len, e1, e2], .inl rfl⟩
    | succ d =>
      have e2 : (j : Int) < 200 := by omega
      obtain ⟨a, ha⟩ := get_some h1
      have hi1 : 1 ≤ m.at' := h.inv.1
      have hi2 : m.at' ≤ 10 := h.inv.2.1
      have go : ∀ {K : Int} {T r : Rf} {o : Bool}, m.at' ≤ 8 → nextC c m = askC c K T r o → ((K = 3 ∧ (held c m = [] ∨ ∃ x, held c m = [x] ∧ lessR x T)) ∨ (K ≠ 3 ∧ (held c m).length ≤ 2)) →
          (if K = 3 ∧ a.k = 1 then held c m ++ [T] else if K = 4 ∨ K = 8 then (held c m).filter (fun x => !eqR x T) else held c m) = held2 c m a →
          ∃ x s', leapfroglaw14x_UnspliceFrees.l8 std rec [v, P U, hv, Value.int .i64 (j : Int), .agg ⟨c.cs⟩] s = some x ∧ (x = (0, [], s') ∨ x = (1, [.bool true], s')) := by
        intro K T r o h8 hnx hK hH
        obtain ⟨hv', s', g1, g2, g3⟩ := ask_step h hnx (by omega) ha hK rec
        rw [hH, ← held_tell h.inv a h8] at g3
        obtain ⟨s2, t1, t2⟩ := told h g2 a g3
        rw [g1, t1]
        simp only [bds]
        exact ih d _ _ (by omega) ⟨_, hv', j + 1, t2, by omega, rfl⟩
      have hp : m.at' = 1 ∨ m.at' = 2 ∨ m.at' = 3 ∨ m.at' = 4 ∨ m.at' = 5 ∨ m.at' = 6 ∨ m.at' = 7 ∨ m.at' = 8 ∨ m.at' = 9 ∨ m.at' = 10 := by omega
      have hme := eqR_refl c.me
      have hpp := eqR_refl m.p
      rcases hp with hp | hp | hp | hp | hp | hp | hp | hp | hp | hp
      · exact go (K := 1) (T := c.me) (by omega) (by simp [nextC, hp]; rfl) (.inr (by simp [held, hp])) (by simp [held, held2, hp])
      · exact go (K := 3) (T := m.p) (by omega) (by simp [nextC, hp]; rfl) (.inl (by simp [held, hp])) (by simp [held, held2, hp])
      · have hl := h.low (by omega)
        exact go (K := 3) (T := c.me) (by omega) (by simp [nextC, hp]; rfl) (.inl ⟨rfl, .inr ⟨m.p, by simp [held, hp], hl⟩⟩) (by simp [held, held2, hp])
      · exact go (K := 5) (T := m.p) (by omega) (by simp [nextC, hp]; rfl) (.inr (by simp [held, hp])) (by simp [held, held2, hp])
      · exact go (K := 6) (T := m.q) (by omega) (by simp [nextC, hp]; rfl) (.inr (by simp [held, hp])) (by simp [held, held2, hp])
      · have hl := eqR_less (h.low (by omega))
        exact go (K := 8) (T := c.me) (by omega) (by simp [nextC, hp]; rfl) (.inr (by simp [held, hp])) (by simp [held, held2, hp, hl, hme])
      · have hl := eqR_less (h.low (by omega))
        exact go (K := 4) (T := c.me) (by omega) (by simp [nextC, hp]; rfl) (.inr (by simp [held, hp])) (by simp [held, held2, hp, hl, hme])
      · exact go (K := 4) (T := m.p) (by omega) (by simp [nextC, hp]; rfl) (.inr (by simp [held, hp])) (by simp [held, held2, hp, hpp])
      · have n1 := next_r h.hu hi1 hi2
        rw [show nextC c m = stepC 2 zR zAsk zRes by simp [nextC, hp]] at n1
        have hh : held c m = [] := by simp [held, hp]
        have ho := h.ho
        rw [hh] at ho
        have hlen : lenL hv = some (.int .i64 0) := ho.len
        obtain ⟨s2, w1, w2, w3⟩ := wake_r h.hu h.inv
        have e5 : IntKind.i64.wrap ((j : Int) + 1) = ((j + 1 : Nat) : Int) := by rw [wrap64 (by omega) (by omega)]; omega
        have hh2 : held c (wakeC m) = [] := by simp [held, wakeC, hp]
        simp only [leapfroglaw14x_UnspliceFrees.l8, leapfroglaw14x_UnspliceFrees.l8.p2, std_bd, std_gd, std_gdS, std_gdU, std_cnd, std_it, bds, bdn, cndt, cndf, cndd, cndb, gdtt, gdff, gdtf, gdft, gdun, gdSun, gdSt, gdSf, gdStf, gdSft, gdUt, gdUf, gdUtf, gdUft, pikt, pikf, eqb1, neb1, eqb0, neb0, eqb2, neb2, eqb3n, neb3n, eqb3nn, neb3nn, eqk1, eqb_agg, neb_agg, eqks_nil, eqks_cons, bin_add, bin_sub, bin_mul, bin_lss, bin_leq, bin_gtr, bin_geq, un_notd, un_not, cvi_int, cvs_str, mn2_int, mx2_int, lenS_str, lenL_slc, bx_int, bx_bool, bx_str, bx_ptr, bx_slc, bx_agg, lcl_eq, xtr_eq, cellsA_agg, spl_z, spl_c, spl_s, bld_nil, bld_cons, bls_nil, bls_cons, prt_t, prt_f, nck_ptr, fld_ptr, lal, stl, decide_true, decide_false, decide_eq_true_eq, Bool.false_eq_true, Bool.not_true, Bool.not_false, Bool.and_true, Bool.and_false, Bool.true_and, Bool.false_and, Option.map_some, Option.map_none, if_true, if_false, ite_true, ite_false, reduceIte, and_self, and_true, true_and, false_and, and_false, true_or, or_true, false_or, or_false, eq_self, ne_eq, not_true_eq_false, not_false_eq_true, Nat.zero_add, Nat.reduceAdd, Nat.reduceLeDiff, Nat.reduceLT, Nat.reduceEqDiff, Int.reduceEq, Int.reduceLT, Int.reduceLE, Int.reduceNe, Nat.le_refl, Nat.add_zero, Option.some.injEq, Prod.mk.injEq, Value.agg.injEq, Value.bool.injEq, Value.int.injEq, Value.tuple.injEq, Array.mk.injEq, List.cons.injEq, and_self, List.length_cons, List.length_nil, List.getElem?_cons_zero, List.getElem?_cons_succ, List.getElem?_nil, List.drop_succ_cons, List.drop_zero, List.take_succ_cons, List.take_zero, List.take_nil, List.drop_nil, List.getD_cons_zero, List.getD_cons_succ, rep1, rep2, rep3, rep4, List.set_cons_zero, List.set_cons_succ, List.cons_append, List.nil_append, h.ha.len, e1, e2, n1, stepC, hlen, w1, e5]
        refine ih d _ _ (by omega) ⟨wakeC m, hv, j + 1, ⟨w2, h.un, by rw [w3.2.1]; exact h.nn, inv_wake h.inv, low_wake h.low, h.ha.but w3 h.hu (by omega), h.hn, w3.2.2 h.fr, ?_⟩, by omega, rfl⟩
        rw [hh2]; exact ho.but w3 h.un
      · have n1 := next_r h.hu hi1 hi2
        rw [show nextC c m = stepC 3 zR zAsk ⟨m.e, 0, zR, zR, false⟩ by simp [nextC, hp]] at n1
        have hh : held c m = [] := by simp [held, hp]
        have ho := h.ho
        rw [hh] at ho
        have hlen : lenL hv = some (.int .i64 0) := ho.len
        exact ⟨_, s, by simp only [leapfroglaw14x_UnspliceFrees.l8, leapfroglaw14x_UnspliceFrees.l8.p2, std_bd, std_gd, std_gdS, std_gdU, std_cnd, std_it, bds, bdn, cndt, cndf, cndd, cndb, gdtt, gdff, gdtf, gdft, gdun, gdSun, gdSt, gdSf, gdStf, gdSft, gdUt, gdUf, gdUtf, gdUft, pikt, pikf, eqb1, neb1, eqb0, neb0, eqb2, neb2, eqb3n, neb3n, eqb3nn, neb3nn, eqk1, eqb_agg, neb_agg, eqks_nil, eqks_cons, bin_add, bin_sub, bin_mul, bin_lss, bin_leq, bin_gtr, bin_geq, un_notd, un_not, cvi_int, cvs_str, mn2_int, mx2_int, lenS_str, lenL_slc, bx_int, bx_bool, bx_str, bx_ptr, bx_slc, bx_agg, lcl_eq, xtr_eq, cellsA_agg, spl_z, spl_c, spl_s, bld_nil, bld_cons, bls_nil, bls_cons, prt_t, prt_f, nck_ptr, fld_ptr, lal, stl, decide_true, decide_false, decide_eq_true_eq, Bool.false_eq_true, Bool.not_true, Bool.not_false, Bool.and_true, Bool.and_false, Bool.true_and, Bool.false_and, Option.map_some, Option.map_none, if_true, if_false, ite_true, ite_false, reduceIte, and_self, and_true, true_and, false_and, and_false, true_or, or_true, false_or, or_false, eq_self, ne_eq, not_true_eq_false, not_false_eq_true, Nat.zero_add, Nat.reduceAdd, Nat.reduceLeDiff, Nat.reduceLT, Nat.reduceEqDiff, Int.reduceEq, Int.reduceLT, Int.reduceLE, Int.reduceNe, Nat.le_refl, Nat.add_zero, Option.some.injEq, Prod.mk.injEq, Value.agg.injEq, Value.bool.injEq, Value.int.injEq, Value.tuple.injEq, Array.mk.injEq, List.cons.injEq, and_self, List.length_cons, List.length_nil, List.getElem?_cons_zero, List.getElem?_cons_succ, List.getElem?_nil, List.drop_succ_cons, List.drop_zero, List.take_succ_cons, List.take_zero, List.take_nil, List.drop_nil, List.getD_cons_zero, List.getD_cons_succ, rep1, rep2, rep3, rep4, List.set_cons_zero, List.set_cons_succ, List.cons_append, List.nil_append, h.ha.len, e1, e2, n1, stepC, hlen], .inr rfl⟩
  · have e1 : ¬ ((j : Int) < l.length) := by omega
    exact ⟨_, s, by simp only [leapfroglaw14x_UnspliceFrees.l8, std_bd, std_gd, std_gdS, std_gdU, std_cnd, std_it, bds, bdn, cndt, cndf, cndd, cndb, gdtt, gdff, gdtf, gdft, gdun, gdSun, gdSt, gdSf, gdStf, gdSft, gdUt, gdUf, gdUtf, gdUft, pikt, pikf, eqb1, neb1, eqb0, neb0, eqb2, neb2, eqb3n, neb3n, eqb3nn, neb3nn, eqk1, eqb_agg, neb_agg, eqks_nil, eqks_cons, bin_add, bin_sub, bin_mul, bin_lss, bin_leq, bin_gtr, bin_geq, un_notd, un_not, cvi_int, cvs_str, mn2_int, mx2_int, lenS_str, lenL_slc, bx_int, bx_bool, bx_str, bx_ptr, bx_slc, bx_agg, lcl_eq, xtr_eq, cellsA_agg, spl_z, spl_c, spl_s, bld_nil, bld_cons, bls_nil, bls_cons, prt_t, prt_f, nck_ptr, fld_ptr, lal, stl, decide_true, decide_false, decide_eq_true_eq, Bool.false_eq_true, Bool.not_true, Bool.not_false, Bool.and_true, Bool.and_false, Bool.true_and, Bool.false_and, Option.map_some, Option.map_none, if_true, if_false, ite_true, ite_false, reduceIte, and_self, and_true, true_and, false_and, and_false, true_or, or_true, false_or, or_false, eq_self, ne_eq, not_true_eq_false, not_false_eq_true, Nat.zero_add, Nat.reduceAdd, Nat.reduceLeDiff, Nat.reduceLT, Nat.reduceEqDiff, Int.reduceEq, Int.reduceLT, Int.reduceLE, Int.reduceNe, Nat.le_refl, Nat.add_zero, Option.some.injEq, Prod.mk.injEq, Value.agg.injEq, Value.bool.injEq, Value.int.injEq, Value.tuple.injEq, Array.mk.injEq, List.cons.injEq, and_self, List.length_cons, List.length_nil, List.getElem?_cons_zero, List.getElem?_cons_succ, List.getElem?_nil, List.drop_succ_cons, List.drop_zero, List.take_succ_cons, List.take_zero, List.take_nil, List.drop_nil, List.getD_cons_zero, List.getD_cons_succ, rep1, rep2, rep3, rep4, List.set_cons_zero, List.set_cons_succ, List.cons_append, List.nil_append, h.ha.len, e1], .inl rfl⟩

theorem law (s : St) (us : List Value) (ha : AllRo s) (hf : ∀ b, s.n ≤ b → s.get b = none) (h : Args s [(true, [.i .i64, .i .u64, .i .i64, .i .i64, .i .u64, .i .i64, .i .u64, .i .i64, .i .i64]), (false, [.sl [.i .i64, .b, .i .i64, .i .i64, .i .u64, .i .i64, .i .u64, .i .i64, .i .i64, .i .u64, .i .i64, .i .u64, .sl [.i .u8]]])] us) :
    ∃ s', leapfroglaw14x_UnspliceFrees.w us s = some (.bool true, s') := by
  simp only [Args, Arg] at h
  obtain ⟨_, _, rfl, ⟨_, rfl, h1⟩, v, _, rfl, h2, rfl⟩ := h
  unfold Leaf.Are Leaf.Are at h2
  obtain ⟨v', _, g1, h2, rfl⟩ := h2
  obtain rfl : v = v' := (List.cons.inj g1).1
  simp only [Leaf.Are, Leaf.Is] at h1
  obtain ⟨_, _, rfl, ⟨wl, rfl, _⟩, _, _, rfl, ⟨wb, rfl, hwb⟩, _, _, rfl, ⟨i1, rfl, _⟩, _, _, rfl, ⟨i2, rfl, _⟩, _, _, rfl, ⟨i3, rfl, _⟩, _, _, rfl, ⟨i4, rfl, _⟩, _, _, rfl, ⟨i5, rfl, hi5⟩, _, _, rfl, ⟨oa, rfl, _⟩, _, _, rfl, ⟨oo, rfl, _⟩, rfl⟩ := h1
  obtain ⟨l, hl⟩ := isA_of h2
  have hw0 := (wf_u64 hwb).1
  have hm0 := (wf_u64 hi5).1
  show ∃ s', leapfroglaw14x_UnspliceFrees.v (.agg ⟨(⟨wl, wb, ⟨i1, i2, i3, i4, i5⟩, oa, oo⟩ : Cf).cs⟩) v s = some (.bool true, s')
  generalize hc : (⟨wl, wb, ⟨i1, i2, i3, i4, i5⟩, oa, oo⟩ : Cf) = c
  have hm0 : 0 ≤ c.me.bt := by rw [← hc]; exact hm0
  have hw0 : 0 ≤ c.wb := by rw [← hc]; exact hw0
  rcases new_r (s := s) hf c hm0 hw0 with ⟨q1, _, _⟩ | ⟨q1, _, _⟩
  · exact ⟨s, by simp only [leapfroglaw14x_UnspliceFrees.v, leapfroglaw14x_UnspliceFrees.t, std_bd, std_gd, std_gdS, std_gdU, std_cnd, std_it, bds, bdn, cndt, cndf, cndd, cndb, gdtt, gdff, gdtf, gdft, gdun, gdSun, gdSt, gdSf, gdStf, gdSft, gdUt, gdUf, gdUtf, gdUft, pikt, pikf, eqb1, neb1, eqb0, neb0, eqb2, neb2, eqb3n, neb3n, eqb3nn, neb3nn, eqk1, eqb_agg, neb_agg, eqks_nil, eqks_cons, bin_add, bin_sub, bin_mul, bin_lss, bin_leq, bin_gtr, bin_geq, un_notd, un_not, cvi_int, cvs_str, mn2_int, mx2_int, lenS_str, lenL_slc, bx_int, bx_bool, bx_str, bx_ptr, bx_slc, bx_agg, lcl_eq, xtr_eq, cellsA_agg, spl_z, spl_c, spl_s, bld_nil, bld_cons, bls_nil, bls_cons, prt_t, prt_f, nck_ptr, fld_ptr, lal, stl, decide_true, decide_false, decide_eq_true_eq, Bool.false_eq_true, Bool.not_true, Bool.not_false, Bool.and_true, Bool.and_false, Bool.true_and, Bool.false_and, Option.map_some, Option.map_none, if_true, if_false, ite_true, ite_false, reduceIte, and_self, and_true, true_and, false_and, and_false, true_or, or_true, false_or, or_false, eq_self, ne_eq, not_true_eq_false, not_false_eq_true, Nat.zero_add, Nat.reduceAdd, Nat.reduceLeDiff, Nat.reduceLT, Nat.reduceEqDiff, Int.reduceEq, Int.reduceLT, Int.reduceLE, Int.reduceNe, Nat.le_refl, Nat.add_zero, Option.some.injEq, Prod.mk.injEq, Value.agg.injEq, Value.bool.injEq, Value.int.injEq, Value.tuple.injEq, Array.mk.injEq, List.cons.injEq, and_self, List.length_cons, List.length_nil, List.getElem?_cons_zero, List.getElem?_cons_succ, List.getElem?_nil, List.drop_succ_cons, List.drop_zero, List.take_succ_cons, List.take_zero, List.take_nil, List.drop_nil, List.getD_cons_zero, List.getD_cons_succ, rep1, rep2, rep3, rep4, List.set_cons_zero, List.set_cons_succ, List.cons_append, List.nil_append, alive_r, q1]⟩
  · have f1 : Fresh (s.new (.row 22 [urow c m0] false)) := Fresh.new hf
    have H0 : Here c v l s.n (s.n + 1) m0 (.slice none 0 0) (held c m0) (s.new (.row 22 [urow c m0] false)) := by
      refine ⟨get_new_same, by omega, by rw [new_n]; omega, ?_, ?_, hl.more .new hf, ?_, f1, ?_⟩
      · unfold InvM m0; simp
      · unfold Low m0; simp
      · intro b i len e hv
        rcases hl with ⟨h0, _⟩ | ⟨b', i', e', rows, ro, h0, hg, _⟩
        · rw [hv] at h0; cases h0
        · rw [hv] at h0; cases h0
          have := Fresh.lt hf hg
          omega
      · left; exact ⟨rfl, by simp [held, m0, rowsR]⟩
    obtain ⟨x, s', e, hx⟩ := loop H0
    rw [show ((0 : Nat) : Int) = 0 from rfl] at e
    rcases hx with rfl | rfl
    · exact ⟨s', by simp only [leapfroglaw14x_UnspliceFrees.v, leapfroglaw14x_UnspliceFrees.t, std_bd, std_gd, std_gdS, std_gdU, std_cnd, std_it, bds, bdn, cndt, cndf, cndd, cndb, gdtt, gdff, gdtf, gdft, gdun, gdSun, gdSt, gdSf, gdStf, gdSft, gdUt, gdUf, gdUtf, gdUft, pikt, pikf, eqb1, neb1, eqb0, neb0, eqb2, neb2, eqb3n, neb3n, eqb3nn, neb3nn, eqk1, eqb_agg, neb_agg, eqks_nil, eqks_cons, bin_add, bin_sub, bin_mul, bin_lss, bin_leq, bin_gtr, bin_geq, un_notd, un_not, cvi_int, cvs_str, mn2_int, mx2_int, lenS_str, lenL_slc, bx_int, bx_bool, bx_str, bx_ptr, bx_slc, bx_agg, lcl_eq, xtr_eq, cellsA_agg, spl_z, spl_c, spl_s, bld_nil, bld_cons, bls_nil, bls_cons, prt_t, prt_f, nck_ptr, fld_ptr, lal, stl, decide_true, decide_false, decide_eq_true_eq, Bool.false_eq_true, Bool.not_true, Bool.not_false, Bool.and_true, Bool.and_false, Bool.true_and, Bool.false_and, Option.map_some, Option.map_none, if_true, if_false, ite_true, ite_false, reduceIte, and_self, and_true, true_and, false_and, and_false, true_or, or_true, false_or, or_false, eq_self, ne_eq, not_true_eq_false, not_false_eq_true, Nat.zero_add, Nat.reduceAdd, Nat.reduceLeDiff, Nat.reduceLT, Nat.reduceEqDiff, Int.reduceEq, Int.reduceLT, Int.reduceLE, Int.reduceNe, Nat.le_refl, Nat.add_zero, Option.some.injEq, Prod.mk.injEq, Value.agg.injEq, Value.bool.injEq, Value.int.injEq, Value.tuple.injEq, Array.mk.injEq, List.cons.injEq, and_self, List.length_cons, List.length_nil, List.getElem?_cons_zero, List.getElem?_cons_succ, List.getElem?_nil, List.drop_succ_cons, List.drop_zero, List.take_succ_cons, List.take_zero, List.take_nil, List.drop_nil, List.getD_cons_zero, List.getD_cons_succ, rep1, rep2, rep3, rep4, List.set_cons_zero, List.set_cons_succ, List.cons_append, List.nil_append, alive_r, q1, e]⟩
    · exact ⟨s', by simp only [leapfroglaw14x_UnspliceFrees.v, leapfroglaw14x_UnspliceFrees.t, std_bd, std_gd, std_gdS, std_gdU, std_cnd, std_it, bds, bdn, cndt, cndf, cndd, cndb, gdtt, gdff, gdtf, gdft, gdun, gdSun, gdSt, gdSf, gdStf, gdSft, gdUt, gdUf, gdUtf, gdUft, pikt, pikf, eqb1, neb1, eqb0, neb0, eqb2, neb2, eqb3n, neb3n, eqb3nn, neb3nn, eqk1, eqb_agg, neb_agg, eqks_nil, eqks_cons, bin_add, bin_sub, bin_mul, bin_lss, bin_leq, bin_gtr, bin_geq, un_notd, un_not, cvi_int, cvs_str, mn2_int, mx2_int, lenS_str, lenL_slc, bx_int, bx_bool, bx_str, bx_ptr, bx_slc, bx_agg, lcl_eq, xtr_eq, cellsA_agg, spl_z, spl_c, spl_s, bld_nil, bld_cons, bls_nil, bls_cons, prt_t, prt_f, nck_ptr, fld_ptr, lal, stl, decide_true, decide_false, decide_eq_true_eq, Bool.false_eq_true, Bool.not_true, Bool.not_false, Bool.and_true, Bool.and_false, Bool.true_and, Bool.false_and, Option.map_some, Option.map_none, if_true, if_false, ite_true, ite_false, reduceIte, and_self, and_true, true_and, false_and, and_false, true_or, or_true, false_or, or_false, eq_self, ne_eq, not_true_eq_false, not_false_eq_true, Nat.zero_add, Nat.reduceAdd, Nat.reduceLeDiff, Nat.reduceLT, Nat.reduceEqDiff, Int.reduceEq, Int.reduceLT, Int.reduceLE, Int.reduceNe, Nat.le_refl, Nat.add_zero, Option.some.injEq, Prod.mk.injEq, Value.agg.injEq, Value.bool.injEq, Value.int.injEq, Value.tuple.injEq, Array.mk.injEq, List.cons.injEq, and_self, List.length_cons, List.length_nil, List.getElem?_cons_zero, List.getElem?_cons_succ, List.getElem?_nil, List.drop_succ_cons, List.drop_zero, List.take_succ_cons, List.take_zero, List.take_nil, List.drop_nil, List.getD_cons_zero, List.getD_cons_succ, rep1, rep2, rep3, rep4, List.set_cons_zero, List.set_cons_succ, List.cons_append, List.nil_append, alive_r, q1, e, Nat.one_ne_zero]⟩
end UnspliceFrees
end Go.Proofs.Ytkkgegocliobpaa
