/-
  The machine of package unsplice and the reference's: what each step makes of it.
-/
import Derived.Test.YtkkgegocliobpaaUnsA
import Derived.Test.YtkkgegocliobpaaMachA
import Derived.Test.YtkkgegocliobpaaGR2
set_option linter.unusedSimpArgs false
set_option linter.unusedVariables false
set_option maxRecDepth 100000
namespace Go.Proofs.Ytkkgegocliobpaa
open Go.Sim
attribute [local congr] bdc cndc itec gdc gdSc gdUc

structure Cf where
  wl : Int
  wb : Int
  me : Rf
  oa : Int
  oo : Int
structure Mm where
  at' : Int
  th : Int
  p : Rf
  q : Rf
  e : Int
abbrev Cf.cs (c : Cf) : List Value := [.int .i64 c.wl, .int .u64 c.wb, .int .i64 c.me.id, .int .i64 c.me.rk, .int .u64 c.me.n, .int .i64 c.me.ln, .int .u64 c.me.bt, .int .i64 c.oa, .int .i64 c.oo]
/-- The program's row. -/
abbrev urow (c : Cf) (m : Mm) : List Value :=
  [.int .i64 c.wl, .int .u64 c.wb, .int .i64 c.me.id, .int .i64 c.me.rk, .int .u64 c.me.n, .int .i64 c.me.ln, .int .u64 c.me.bt, .int .i64 c.oa, .int .i64 c.oo, .int .i64 m.at', .int .i64 m.th,
   .int .i64 m.p.id, .int .i64 m.p.rk, .int .u64 m.p.n, .int .i64 m.p.ln, .int .u64 m.p.bt, .int .i64 m.q.id, .int .i64 m.q.rk, .int .u64 m.q.n, .int .i64 m.q.ln, .int .u64 m.q.bt, .int .i64 m.e]
/-- The reference's row. -/
abbrev rrow (c : Cf) (m : Mm) : List Value :=
  [.int .i64 c.wl, .int .u64 c.wb, .int .i64 c.me.id, .int .i64 c.me.rk, .int .u64 c.me.n, .int .i64 c.me.ln, .int .u64 c.me.bt, .int .i64 c.oa, .int .i64 c.oo, .int .i64 m.at',
   .int .i64 m.p.id, .int .i64 m.p.rk, .int .u64 m.p.n, .int .i64 m.p.ln, .int .u64 m.p.bt, .int .i64 m.q.id, .int .i64 m.q.rk, .int .u64 m.q.n, .int .i64 m.q.ln, .int .u64 m.q.bt, .int .i64 m.th, .int .i64 m.e]

def lessR (a b : Rf) : Prop := lessK a.rk a.n b.rk b.n
instance (a b : Rf) : Decidable (lessR a b) := by unfold lessR; infer_instance
def eqR (a b : Rf) : Bool := decide (a.id = b.id) && (decide (a.rk = b.rk) && (decide (a.n = b.n) && (decide (a.ln = b.ln) && decide (a.bt = b.bt))))

/-- The step that a machine wants. -/
def askC (c : Cf) (k : Int) (t r : Rf) (o : Bool) : List Value := stepC 1 t ⟨k, c.wl, c.wb, r, zR, if o then c.oa else 0, if o then c.oo else 0⟩ zRes
def nextC (c : Cf) (m : Mm) : List Value :=
  if m.at' = 1 then askC c 1 c.me zR false
  else if m.at' = 2 then askC c 3 m.p zR true
  else if m.at' = 3 then askC c 3 c.me zR true
  else if m.at' = 4 then askC c 5 m.p m.q true
  else if m.at' = 5 then askC c 6 m.q m.p false
  else if m.at' = 6 then askC c 8 c.me zR true
  else if m.at' = 7 then askC c 4 c.me zR true
  else if m.at' = 8 then askC c 4 m.p zR true
  else if m.at' = 9 then stepC 2 zR zAsk zRes
  else stepC 3 zR zAsk ⟨m.e, 0, zR, zR, false⟩
def frees (m : Mm) (th e : Int) : Mm := { m with at' := 8, th := th, e := e }
/-- What an answer makes of it. -/
def tellC (c : Cf) (m : Mm) (a : Ans) : Mm :=
  if m.at' = 1 then
    if a.k = 1 then (if lessR a.l c.me then { m with at' := 2, p := a.l } else { m with at' := 9 })
    else if a.k = 2 then { m with at' := 10, e := 0 } else if a.k = 3 then { m with at' := 10, e := 132 } else { m with at' := 9 }
  else if m.at' = 2 then
    if a.k = 1 then (if eqR a.r c.me = true then { m with at' := 3 } else frees m 9 0) else { m with at' := 9 }
  else if m.at' = 3 then
    if a.k = 1 then (if lessR c.me a.r then { m with at' := 4, q := a.r } else { m with at' := 7, q := a.r })
    else if a.k = 2 then frees m 10 0 else if a.k = 3 then frees m 10 132 else frees m 9 0
  else if m.at' = 4 then
    if a.k = 1 ∨ (a.k = 3 ∧ eqR a.r m.q = true) then { m with at' := 5 } else { m with at' := 7 }
  else if m.at' = 5 then { m with at' := 6 }
  else if m.at' = 6 then (if a.k = 3 then frees m 10 132 else frees m 10 0)
  else if m.at' = 7 then frees m 9 0
  else if m.at' = 8 then { m with at' := m.th }
  else m
/-- .. of the reference's. -/
def tellR (c : Cf) (m : Mm) (a : Ans) : Mm :=
  if m.at' = 1 then
    if a.k = 1 ∧ lessR a.l c.me then { m with at' := 2, p := a.l }
    else if a.k = 2 then { m with at' := 10 } else if a.k = 3 then { m with at' := 10, e := 132 } else { m with at' := 9 }
  else if m.at' = 3 then
    if a.k = 1 then (if lessR c.me a.r then { m with at' := 4, q := a.r } else { m with at' := 7 })
    else if a.k = 2 then frees m 10 0 else if a.k = 3 then frees m 10 132 else frees m 9 0
  else tellC c m a
def wakeC (m : Mm) : Mm := if m.at' = 9 then { m with at' := 1 } else m

abbrev P (b : Nat) : Value := .pointer (some ⟨b, 0, some 0⟩)
abbrev Row (s : St) (b : Nat) (cs : List Value) : Prop := s.get b = some (.row 22 [cs] false)

theorem is_r {s : St} {b : Nat} {c : Cf} {m : Mm} (h : Row s b (urow c m)) (hp : 0 < m.at') : unsplice_Unsplice_is.r (P b) s = some (.bool true) := by
  simp only [unsplice_Unsplice_is.r, unsplice_Unsplice_is.t, std_bd, std_gd, std_gdS, std_gdU, std_cnd, std_it, bds, bdn, cndt, cndf, cndd, cndb, gdtt, gdff, gdtf, gdft, gdun, gdSun, gdSt, gdSf, gdStf, gdSft, gdUt, gdUf, gdUtf, gdUft, pikt, pikf, eqb1, neb1, eqb0, neb0, eqb2, neb2, eqb3n, neb3n, eqb3nn, neb3nn, eqk1, eqb_agg, neb_agg, eqks_nil, eqks_cons, bin_add, bin_sub, bin_mul, bin_lss, bin_leq, bin_gtr, bin_geq, un_notd, un_not, cvi_int, cvs_str, mn2_int, mx2_int, lenS_str, lenL_slc, bx_int, bx_bool, bx_str, bx_ptr, bx_slc, bx_agg, lcl_eq, xtr_eq, cellsA_agg, spl_z, spl_c, spl_s, bld_nil, bld_cons, bls_nil, bls_cons, prt_t, prt_f, nck_ptr, fld_ptr, lal, stl, decide_true, decide_false, decide_eq_true_eq, Bool.false_eq_true, Bool.not_true, Bool.not_false, Bool.and_true, Bool.and_false, Bool.true_and, Bool.false_and, Option.map_some, Option.map_none, if_true, if_false, ite_true, ite_false, reduceIte, and_self, and_true, true_and, false_and, and_false, true_or, or_true, false_or, or_false, eq_self, ne_eq, not_true_eq_false, not_false_eq_true, Nat.zero_add, Nat.reduceAdd, Nat.reduceLeDiff, Nat.reduceLT, Nat.reduceEqDiff, Int.reduceEq, Int.reduceLT, Int.reduceLE, Int.reduceNe, Nat.le_refl, Nat.add_zero, Option.some.injEq, Prod.mk.injEq, Value.agg.injEq, Value.bool.injEq, Value.int.injEq, Value.tuple.injEq, Array.mk.injEq, List.cons.injEq, and_self, List.length_cons, List.length_nil, List.getElem?_cons_zero, List.getElem?_cons_succ, List.getElem?_nil, List.drop_succ_cons, List.drop_zero, List.take_succ_cons, List.take_zero, List.take_nil, List.drop_nil, List.getD_cons_zero, List.getD_cons_succ, rep1, rep2, rep3, rep4, List.set_cons_zero, List.set_cons_succ, List.cons_append, List.nil_append, ldc_row h, hp]
theorem asks_r {s : St} {b : Nat} {c : Cf} {m : Mm} (h : Row s b (urow c m)) (k : Int) (t r : Rf) (hk : k = 1 ∨ k = 3 ∨ k = 4 ∨ k = 5 ∨ k = 6 ∨ k = 8) :
    unsplice_Unsplice_asks.r (P b) (.int .i64 k) (.agg ⟨t.cs⟩) (.agg ⟨r.cs⟩) s = some (.agg ⟨askC c k t r (k ≠ 1 ∧ k ≠ 6)⟩) := by
  rcases hk with rfl | rfl | rfl | rfl | rfl | rfl <;> simp only [unsplice_Unsplice_asks.r, unsplice_Unsplice_asks.t, unsplice_Unsplice_asks.t.p1, std_bd, std_gd, std_gdS, std_gdU, std_cnd, std_it, bds, bdn, cndt, cndf, cndd, cndb, gdtt, gdff, gdtf, gdft, gdun, gdSun, gdSt, gdSf, gdStf, gdSft, gdUt, gdUf, gdUtf, gdUft, pikt, pikf, eqb1, neb1, eqb0, neb0, eqb2, neb2, eqb3n, neb3n, eqb3nn, neb3nn, eqk1, eqb_agg, neb_agg, eqks_nil, eqks_cons, bin_add, bin_sub, bin_mul, bin_lss, bin_leq, bin_gtr, bin_geq, un_notd, un_not, cvi_int, cvs_str, mn2_int, mx2_int, lenS_str, lenL_slc, bx_int, bx_bool, bx_str, bx_ptr, bx_slc, bx_agg, lcl_eq, xtr_eq, cellsA_agg, spl_z, spl_c, spl_s, bld_nil, bld_cons, bls_nil, bls_cons, prt_t, prt_f, nck_ptr, fld_ptr, lal, stl, decide_true, decide_false, decide_eq_true_eq, Bool.false_eq_true, Bool.not_true, Bool.not_false, Bool.and_true, Bool.and_false, Bool.true_and, Bool.false_and, Option.map_some, Option.map_none, if_true, if_false, ite_true, ite_false, reduceIte, and_self, and_true, true_and, false_and, and_false, true_or, or_true, false_or, or_false, eq_self, ne_eq, not_true_eq_false, not_false_eq_true, Nat.zero_add, Nat.reduceAdd, Nat.reduceLeDiff, Nat.reduceLT, Nat.reduceEqDiff, Int.reduceEq, Int.reduceLT, Int.reduceLE, Int.reduceNe, Nat.le_refl, Nat.add_zero, Option.some.injEq, Prod.mk.injEq, Value.agg.injEq, Value.bool.injEq, Value.int.injEq, Value.tuple.injEq, Array.mk.injEq, List.cons.injEq, and_self, List.length_cons, List.length_nil, List.getElem?_cons_zero, List.getElem?_cons_succ, List.getElem?_nil, List.drop_succ_cons, List.drop_zero, List.take_succ_cons, List.take_zero, List.take_nil, List.drop_nil, List.getD_cons_zero, List.getD_cons_succ, rep1, rep2, rep3, rep4, List.set_cons_zero, List.set_cons_succ, List.cons_append, List.nil_append, lda_row h, askC, stepC]
theorem rask_r {s : St} {b : Nat} {c : Cf} {m : Mm} (h : Row s b (rrow c m)) (k : Int) (t r : Rf) (hk : k = 1 ∨ k = 3 ∨ k = 4 ∨ k = 5 ∨ k = 6 ∨ k = 8) :
    leapfrogref14x_Unsplice_ask.r (P b) (.int .i64 k) (.agg ⟨t.cs⟩) (.agg ⟨r.cs⟩) s = some (.agg ⟨askC c k t r (k ≠ 1 ∧ k ≠ 6)⟩) := by
  rcases hk with rfl | rfl | rfl | rfl | rfl | rfl <;> simp only [leapfrogref14x_Unsplice_ask.r, leapfrogref14x_Unsplice_ask.t, leapfrogref14x_Unsplice_ask.t.p1, std_bd, std_gd, std_gdS, std_gdU, std_cnd, std_it, bds, bdn, cndt, cndf, cndd, cndb, gdtt, gdff, gdtf, gdft, gdun, gdSun, gdSt, gdSf, gdStf, gdSft, gdUt, gdUf, gdUtf, gdUft, pikt, pikf, eqb1, neb1, eqb0, neb0, eqb2, neb2, eqb3n, neb3n, eqb3nn, neb3nn, eqk1, eqb_agg, neb_agg, eqks_nil, eqks_cons, bin_add, bin_sub, bin_mul, bin_lss, bin_leq, bin_gtr, bin_geq, un_notd, un_not, cvi_int, cvs_str, mn2_int, mx2_int, lenS_str, lenL_slc, bx_int, bx_bool, bx_str, bx_ptr, bx_slc, bx_agg, lcl_eq, xtr_eq, cellsA_agg, spl_z, spl_c, spl_s, bld_nil, bld_cons, bls_nil, bls_cons, prt_t, prt_f, nck_ptr, fld_ptr, lal, stl, decide_true, decide_false, decide_eq_true_eq, Bool.false_eq_true, Bool.not_true, Bool.not_false, Bool.and_true, Bool.and_false, Bool.true_and, Bool.false_and, Option.map_some, Option.map_none, if_true, if_false, ite_true, ite_false, reduceIte, and_self, and_true, true_and, false_and, and_false, true_or, or_true, false_or, or_false, eq_self, ne_eq, not_true_eq_false, not_false_eq_true, Nat.zero_add, Nat.reduceAdd, Nat.reduceLeDiff, Nat.reduceLT, Nat.reduceEqDiff, Int.reduceEq, Int.reduceLT, Int.reduceLE, Int.reduceNe, Nat.le_refl, Nat.add_zero, Option.some.injEq, Prod.mk.injEq, Value.agg.injEq, Value.bool.injEq, Value.int.injEq, Value.tuple.injEq, Array.mk.injEq, List.cons.injEq, and_self, List.length_cons, List.length_nil, List.getElem?_cons_zero, List.getElem?_cons_succ, List.getElem?_nil, List.drop_succ_cons, List.drop_zero, List.take_succ_cons, List.take_zero, List.take_nil, List.drop_nil, List.getD_cons_zero, List.getD_cons_succ, rep1, rep2, rep3, rep4, List.set_cons_zero, List.set_cons_succ, List.cons_append, List.nil_append, lda_row h, askC, stepC]
end Go.Proofs.Ytkkgegocliobpaa
