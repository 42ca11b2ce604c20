/-
  Join: the program's and the reference's.
-/
import Derived.Test.YtgdloihagiddhaaSymB
import Derived.Test.YtgdloihagiddhaaVecE
set_option linter.unusedSimpArgs false
set_option linter.unusedVariables false
set_option maxRecDepth 100000
namespace Go.Proofs.Ytgdloihagiddhaa
open Go.Sim Go.Sim.Bt
attribute [local congr] bdc cndc itec gdc gdSc gdUc

/-- A slice of vectors. -/
def IsV (s : St) (v : Value) (l : List (Int × Int)) : Prop :=
  (v = .slice none 0 0 ∧ l = []) ∨ ∃ b i e rows ro, v = .slice (some ⟨b, i, some 0⟩) l.length e ∧ s.get b = some (.row 2 rows ro) ∧ ∀ (j : Nat) p, l[j]? = some p → rows[i + j]? = some [.int .i64 p.1, .int .u64 p.2]

theorem IsV.len {s : St} {v : Value} {l : List (Int × Int)} (h : IsV s v l) : lenL v = some (.int .i64 l.length) := by
  rcases h with ⟨rfl, rfl⟩ | ⟨b, i, e, rows, ro, rfl, _, _⟩ <;> rfl
theorem IsV.at {s : St} {v : Value} {l : List (Int × Int)} (h : IsV s v l) {j : Nat} {d : Int × Int} (hj : l[j]? = some d) : ∃ p, idx s 2 v (.int .i64 (j : Int)) = some p ∧ lda s 2 p = some (VI d.1 d.2) := by
  rcases h with ⟨rfl, rfl⟩ | ⟨b, i, e, rows, ro, rfl, hg, hr⟩
  · simp at hj
  · have hlt : j < l.length := by
      rcases Nat.lt_or_ge j l.length with h | h
      · exact h
      · rw [List.getElem?_eq_none h] at hj; cases hj
    refine ⟨_, idx_row hg (by omega) (by omega), ?_⟩
    rw [lda_row hg, show i + (j : Int).toNat = i + j by omega, hr j d hj]
    rfl
theorem IsV.more {s s' : St} {v : Value} {l : List (Int × Int)} (h : IsV s v l) (hm : More s s') (hf : Fresh s) : IsV s' v l := by
  rcases h with ⟨rfl, rfl⟩ | ⟨b, i, e, rows, ro, rfl, hg, hr⟩
  · exact .inl ⟨rfl, rfl⟩
  · exact .inr ⟨b, i, e, rows, ro, rfl, hm.get hf hg, hr⟩

/-- One behind the other: how long, which bits; none: too long. -/
def jn : List (Nat × Nat) → Nat → Nat → Option (Nat × Nat)
  | [], n, b => some (n, b)
  | (m, c) :: l, n, b => if 32 < n + m then none else jn l (n + m) (b * 2 ^ m + c)

def castV (l : List (Nat × Nat)) : List (Int × Int) := l.map fun p => ((p.1 : Int), (p.2 : Int))
def okL (l : List (Nat × Nat)) : Prop := ∀ p ∈ l, p.1 ≤ 32 ∧ p.2 < 2 ^ p.1

theorem castV_get {l : List (Nat × Nat)} {j : Nat} {p : Nat × Nat} (h : l[j]? = some p) : (castV l)[j]? = some ((p.1 : Int), (p.2 : Int)) := by
  simp [castV, h]
theorem castV_length (l : List (Nat × Nat)) : (castV l).length = l.length := by simp [castV]

theorem exists_cast {l : List (Int × Int)} (h : ∀ p ∈ l, okV p.1 p.2) : ∃ l' : List (Nat × Nat), l = castV l' ∧ okL l' := by
  induction l with
  | nil => exact ⟨[], rfl, fun p hp => by cases hp⟩
  | cons p l ih =>
    obtain ⟨l', h1, h2⟩ := ih fun q hq => h q (List.mem_cons_of_mem _ hq)
    obtain ⟨n, b, h3, h4, h5, h6⟩ := h p List.mem_cons_self
    refine ⟨(n, b) :: l', by rw [h1]; simp only [castV, List.map_cons]; rw [← h3, ← h4], fun q hq => ?_⟩
    rcases List.mem_cons.1 hq with rfl | hq
    · exact ⟨h5, h6⟩
    · exact h2 q hq

/-! ### The program -/

open Classical in
theorem join_l2 {s : St} {v : Value} {l : List (Int × Int)} (h : IsV s v l) (hl : l.length ≤ 1000) (hw : ∀ p ∈ l, 0 ≤ p.2) :
    iter (vec_Join.l2 std) BIG [v, v, Value.int .i64 l.length, Value.int .i64 ((0 : Nat) : Int), .agg ⟨[.int .i64 0, .int .u64 0]⟩] s =
      if (∀ p ∈ l, okV p.1 p.2) then some (0, [v, .agg ⟨[.int .i64 0, .int .u64 0]⟩], s) else some (1, [.int .i64 10, .agg ⟨[.int .i64 0, .int .u64 0]⟩], s) := by
  refine iter_rel (fun d xs s' => s' = s ∧ ∃ j, j + d = l.length ∧ (∀ p ∈ l.take j, okV p.1 p.2) ∧ xs = [v, v, Value.int .i64 l.length, Value.int .i64 (j : Int), .agg ⟨[.int .i64 0, .int .u64 0]⟩]) (fun r : Option Cut => r = if (∀ p ∈ l, okV p.1 p.2) then some (0, [v, .agg ⟨[.int .i64 0, .int .u64 0]⟩], s) else some (1, [.int .i64 10, .agg ⟨[.int .i64 0, .int .u64 0]⟩], s)) ?_ BIG l.length _ s (by unfold BIG; omega) ⟨rfl, 0, by omega, by simp, rfl⟩
  rintro d xs s' rec ⟨rfl, j, hj, hp, rfl⟩ ih
  cases d with
  | zero =>
    have e1 : ¬ ((j : Int) < l.length) := by omega
    rw [List.take_of_length_le (by omega)] at hp
    rw [if_pos hp]
    simp only [vec_Join.l2, std_bd, std_gd, std_gdS, std_gdU, std_cnd, std_it, bds, bdn, cndt, cndf, cndd, cndb, gdtt, gdff, gdtf, gdft, gdun, gdSun, gdSt, gdSf, gdStf, gdSft, gdUt, gdUf, gdUtf, gdUft, pikt, pikf, eqb1, neb1, eqb0, neb0, eqb2, neb2, eqb3n, neb3n, eqb3nn, neb3nn, eqk1, eqb_agg, neb_agg, eqks_nil, eqks_cons, bin_add, bin_sub, bin_mul, bin_lss, bin_leq, bin_gtr, bin_geq, un_notd, un_not, cvi_int, cvs_str, mn2_int, mx2_int, lenS_str, lenL_slc, bx_int, bx_bool, bx_str, bx_ptr, bx_slc, bx_agg, lcl_eq, xtr_eq, cellsA_agg, spl_z, spl_c, spl_s, bld_nil, bld_cons, bls_nil, bls_cons, prt_t, prt_f, nck_ptr, fld_ptr, lal, stl, decide_true, decide_false, decide_eq_true_eq, Bool.false_eq_true, Bool.not_true, Bool.not_false, Bool.and_true, Bool.and_false, Bool.true_and, Bool.false_and, Option.map_some, Option.map_none, if_true, if_false, ite_true, ite_false, reduceIte, and_self, and_true, true_and, false_and, and_false, eq_self, ne_eq, not_true_eq_false, not_false_eq_true, Nat.zero_add, Nat.reduceAdd, Nat.reduceLeDiff, Nat.reduceLT, Nat.reduceEqDiff, Nat.le_refl, Nat.add_zero, Option.some.injEq, Prod.mk.injEq, Value.agg.injEq, Value.bool.injEq, Value.int.injEq, Value.tuple.injEq, Array.mk.injEq, List.cons.injEq, and_self, List.length_cons, List.length_nil, List.getElem?_cons_zero, List.getElem?_cons_succ, List.getElem?_nil, List.drop_succ_cons, List.drop_zero, List.take_succ_cons, List.take_zero, List.take_nil, List.drop_nil, List.getD_cons_zero, List.getD_cons_succ, rep1, rep2, rep3, rep4, List.set_cons_zero, List.set_cons_succ, List.cons_append, List.nil_append, e1]
  | succ d =>
    have e1 : (j : Int) < l.length := by omega
    obtain ⟨x, hx⟩ : ∃ x, l[j]? = some x := ⟨_, List.getElem?_eq_getElem (by omega)⟩
    obtain ⟨p, hp1, hp2⟩ := h.at hx
    have hxl : x ∈ l := List.mem_of_getElem? hx
    have e5 : IntKind.i64.wrap ((j : Int) + 1) = ((j + 1 : Nat) : Int) := by rw [wrap64 (by omega) (by omega)]; omega
    by_cases hk : okV x.1 x.2
    · obtain ⟨n, b, g1, g2, g3, g4⟩ := hk
      rw [g1, g2] at hp2
      simp only [vec_Join.l2, std_bd, std_gd, std_gdS, std_gdU, std_cnd, std_it, bds, bdn, cndt, cndf, cndd, cndb, gdtt, gdff, gdtf, gdft, gdun, gdSun, gdSt, gdSf, gdStf, gdSft, gdUt, gdUf, gdUtf, gdUft, pikt, pikf, eqb1, neb1, eqb0, neb0, eqb2, neb2, eqb3n, neb3n, eqb3nn, neb3nn, eqk1, eqb_agg, neb_agg, eqks_nil, eqks_cons, bin_add, bin_sub, bin_mul, bin_lss, bin_leq, bin_gtr, bin_geq, un_notd, un_not, cvi_int, cvs_str, mn2_int, mx2_int, lenS_str, lenL_slc, bx_int, bx_bool, bx_str, bx_ptr, bx_slc, bx_agg, lcl_eq, xtr_eq, cellsA_agg, spl_z, spl_c, spl_s, bld_nil, bld_cons, bls_nil, bls_cons, prt_t, prt_f, nck_ptr, fld_ptr, lal, stl, decide_true, decide_false, decide_eq_true_eq, Bool.false_eq_true, Bool.not_true, Bool.not_false, Bool.and_true, Bool.and_false, Bool.true_and, Bool.false_and, Option.map_some, Option.map_none, if_true, if_false, ite_true, ite_false, reduceIte, and_self, and_true, true_and, false_and, and_false, eq_self, ne_eq, not_true_eq_false, not_false_eq_true, Nat.zero_add, Nat.reduceAdd, Nat.reduceLeDiff, Nat.reduceLT, Nat.reduceEqDiff, Nat.le_refl, Nat.add_zero, Option.some.injEq, Prod.mk.injEq, Value.agg.injEq, Value.bool.injEq, Value.int.injEq, Value.tuple.injEq, Array.mk.injEq, List.cons.injEq, and_self, List.length_cons, List.length_nil, List.getElem?_cons_zero, List.getElem?_cons_succ, List.getElem?_nil, List.drop_succ_cons, List.drop_zero, List.take_succ_cons, List.take_zero, List.take_nil, List.drop_nil, List.getD_cons_zero, List.getD_cons_succ, rep1, rep2, rep3, rep4, List.set_cons_zero, List.set_cons_succ, List.cons_append, List.nil_append, e1, hp1, hp2, right_ok s' g3 g4, e5]
      refine ih d _ _ (by omega) ⟨rfl, j + 1, by omega, fun q hq => ?_, rfl⟩
      rw [List.take_add_one, hx] at hq
      rcases List.mem_append.1 hq with hq | hq
      · exact hp q hq
      · simp only [Option.toList_some, List.mem_singleton] at hq
        subst hq
        exact ⟨n, b, g1, g2, g3, g4⟩
    · rw [if_neg (fun hh => hk (hh x hxl))]
      simp only [vec_Join.l2, std_bd, std_gd, std_gdS, std_gdU, std_cnd, std_it, bds, bdn, cndt, cndf, cndd, cndb, gdtt, gdff, gdtf, gdft, gdun, gdSun, gdSt, gdSf, gdStf, gdSft, gdUt, gdUf, gdUtf, gdUft, pikt, pikf, eqb1, neb1, eqb0, neb0, eqb2, neb2, eqb3n, neb3n, eqb3nn, neb3nn, eqk1, eqb_agg, neb_agg, eqks_nil, eqks_cons, bin_add, bin_sub, bin_mul, bin_lss, bin_leq, bin_gtr, bin_geq, un_notd, un_not, cvi_int, cvs_str, mn2_int, mx2_int, lenS_str, lenL_slc, bx_int, bx_bool, bx_str, bx_ptr, bx_slc, bx_agg, lcl_eq, xtr_eq, cellsA_agg, spl_z, spl_c, spl_s, bld_nil, bld_cons, bls_nil, bls_cons, prt_t, prt_f, nck_ptr, fld_ptr, lal, stl, decide_true, decide_false, decide_eq_true_eq, Bool.false_eq_true, Bool.not_true, Bool.not_false, Bool.and_true, Bool.and_false, Bool.true_and, Bool.false_and, Option.map_some, Option.map_none, if_true, if_false, ite_true, ite_false, reduceIte, and_self, and_true, true_and, false_and, and_false, eq_self, ne_eq, not_true_eq_false, not_false_eq_true, Nat.zero_add, Nat.reduceAdd, Nat.reduceLeDiff, Nat.reduceLT, Nat.reduceEqDiff, Nat.le_refl, Nat.add_zero, Option.some.injEq, Prod.mk.injEq, Value.agg.injEq, Value.bool.injEq, Value.int.injEq, Value.tuple.injEq, Array.mk.injEq, List.cons.injEq, and_self, List.length_cons, List.length_nil, List.getElem?_cons_zero, List.getElem?_cons_succ, List.getElem?_nil, List.drop_succ_cons, List.drop_zero, List.take_succ_cons, List.take_zero, List.take_nil, List.drop_nil, List.getD_cons_zero, List.getD_cons_succ, rep1, rep2, rep3, rep4, List.set_cons_zero, List.set_cons_succ, List.cons_append, List.nil_append, e1, hp1, hp2, right_no s' hk (hw x hxl), i10]
theorem or_eq {b m c : Nat} (hc : c < 2 ^ m) : b * 2 ^ m ||| c = b * 2 ^ m + c := by
  rw [Nat.mul_comm]; exact (Nat.two_pow_add_eq_or_of_lt hc b).symm
theorem join_lt {n b m c : Nat} (hb : b < 2 ^ n) (hc : c < 2 ^ m) : b * 2 ^ m + c < 2 ^ (n + m) := by
  rw [Nat.pow_add]
  have : (b + 1) * 2 ^ m ≤ 2 ^ n * 2 ^ m := Nat.mul_le_mul_right _ hb
  rw [Nat.add_mul] at this
  omega
/-- What Join tells. -/
def jres (o : Option (Nat × Nat)) : Value :=
  match o with
  | some (n, b) => T2 (VV n b) 0
  | none => T2 (VI 0 0) 2
def jout (o : Option (Nat × Nat)) (s : St) : Cut :=
  match o with
  | some (n, b) => (0, [.agg ⟨[.int .i64 0, .int .u64 0]⟩, VV n b], s)
  | none => (1, [.int .i64 2, .agg ⟨[.int .i64 0, .int .u64 0]⟩], s)
theorem join_l10 {s : St} {v : Value} {l : List (Nat × Nat)} (h : IsV s v (castV l)) (hl : l.length ≤ 1000) (hw : okL l) :
    iter (vec_Join.l10 std) BIG [v, Value.int .i64 l.length, Value.int .i64 ((0 : Nat) : Int), .agg ⟨[.int .i64 0, .int .u64 0]⟩, VV 0 0] s = some (jout (jn l 0 0) s) := by
  refine iter_rel (fun d xs s' => s' = s ∧ ∃ j n b, j + d = l.length ∧ n ≤ 32 ∧ b < 2 ^ n ∧ jn (l.drop j) n b = jn l 0 0 ∧ xs = [v, Value.int .i64 l.length, Value.int .i64 (j : Int), .agg ⟨[.int .i64 0, .int .u64 0]⟩, VV n b]) (fun r : Option Cut => r = some (jout (jn l 0 0) s)) ?_ BIG l.length _ s (by unfold BIG; omega) ⟨rfl, 0, 0, 0, by omega, by omega, by omega, rfl, rfl⟩
  rintro d xs s' rec ⟨rfl, j, n, b, hj, hn, hb, hjn, rfl⟩ ih
  cases d with
  | zero =>
    have e1 : ¬ ((j : Int) < l.length) := by omega
    rw [List.drop_of_length_le (by omega)] at hjn
    rw [← hjn]
    simp only [vec_Join.l10, std_bd, std_gd, std_gdS, std_gdU, std_cnd, std_it, bds, bdn, cndt, cndf, cndd, cndb, gdtt, gdff, gdtf, gdft, gdun, gdSun, gdSt, gdSf, gdStf, gdSft, gdUt, gdUf, gdUtf, gdUft, pikt, pikf, eqb1, neb1, eqb0, neb0, eqb2, neb2, eqb3n, neb3n, eqb3nn, neb3nn, eqk1, eqb_agg, neb_agg, eqks_nil, eqks_cons, bin_add, bin_sub, bin_mul, bin_lss, bin_leq, bin_gtr, bin_geq, un_notd, un_not, cvi_int, cvs_str, mn2_int, mx2_int, lenS_str, lenL_slc, bx_int, bx_bool, bx_str, bx_ptr, bx_slc, bx_agg, lcl_eq, xtr_eq, cellsA_agg, spl_z, spl_c, spl_s, bld_nil, bld_cons, bls_nil, bls_cons, prt_t, prt_f, nck_ptr, fld_ptr, lal, stl, decide_true, decide_false, decide_eq_true_eq, Bool.false_eq_true, Bool.not_true, Bool.not_false, Bool.and_true, Bool.and_false, Bool.true_and, Bool.false_and, Option.map_some, Option.map_none, if_true, if_false, ite_true, ite_false, reduceIte, and_self, and_true, true_and, false_and, and_false, eq_self, ne_eq, not_true_eq_false, not_false_eq_true, Nat.zero_add, Nat.reduceAdd, Nat.reduceLeDiff, Nat.reduceLT, Nat.reduceEqDiff, Nat.le_refl, Nat.add_zero, Option.some.injEq, Prod.mk.injEq, Value.agg.injEq, Value.bool.injEq, Value.int.injEq, Value.tuple.injEq, Array.mk.injEq, List.cons.injEq, and_self, List.length_cons, List.length_nil, List.getElem?_cons_zero, List.getElem?_cons_succ, List.getElem?_nil, List.drop_succ_cons, List.drop_zero, List.take_succ_cons, List.take_zero, List.take_nil, List.drop_nil, List.getD_cons_zero, List.getD_cons_succ, rep1, rep2, rep3, rep4, List.set_cons_zero, List.set_cons_succ, List.cons_append, List.nil_append, e1, jn, jout]
  | succ d =>
    have e1 : (j : Int) < l.length := by omega
    obtain ⟨⟨m, c⟩, hx⟩ : ∃ x, l[j]? = some x := ⟨_, List.getElem?_eq_getElem (by omega)⟩
    obtain ⟨p, hp1, hp2⟩ := h.at (castV_get hx)
    obtain ⟨hm, hc⟩ := hw _ (List.mem_of_getElem? hx)
    simp only at hm hc hp2
    have e5 : IntKind.i64.wrap ((j : Int) + 1) = ((j + 1 : Nat) : Int) := by rw [wrap64 (by omega) (by omega)]; omega
    have e6 : IntKind.i64.wrap ((n : Int) + m) = ((n + m : Nat) : Int) := by rw [wrap64 (by omega) (by omega)]; omega
    have dx : l.drop j = (m, c) :: l.drop (j + 1) := drop_get hx
    rw [dx] at hjn
    simp only [jn] at hjn
    by_cases hg : 32 < n + m
    · have e7 : (32 : Int) < ((n + m : Nat) : Int) := by omega
      rw [if_pos hg] at hjn
      rw [← hjn]
      simp only [vec_Join.l10, std_bd, std_gd, std_gdS, std_gdU, std_cnd, std_it, bds, bdn, cndt, cndf, cndd, cndb, gdtt, gdff, gdtf, gdft, gdun, gdSun, gdSt, gdSf, gdStf, gdSft, gdUt, gdUf, gdUtf, gdUft, pikt, pikf, eqb1, neb1, eqb0, neb0, eqb2, neb2, eqb3n, neb3n, eqb3nn, neb3nn, eqk1, eqb_agg, neb_agg, eqks_nil, eqks_cons, bin_add, bin_sub, bin_mul, bin_lss, bin_leq, bin_gtr, bin_geq, un_notd, un_not, cvi_int, cvs_str, mn2_int, mx2_int, lenS_str, lenL_slc, bx_int, bx_bool, bx_str, bx_ptr, bx_slc, bx_agg, lcl_eq, xtr_eq, cellsA_agg, spl_z, spl_c, spl_s, bld_nil, bld_cons, bls_nil, bls_cons, prt_t, prt_f, nck_ptr, fld_ptr, lal, stl, decide_true, decide_false, decide_eq_true_eq, Bool.false_eq_true, Bool.not_true, Bool.not_false, Bool.and_true, Bool.and_false, Bool.true_and, Bool.false_and, Option.map_some, Option.map_none, if_true, if_false, ite_true, ite_false, reduceIte, and_self, and_true, true_and, false_and, and_false, eq_self, ne_eq, not_true_eq_false, not_false_eq_true, Nat.zero_add, Nat.reduceAdd, Nat.reduceLeDiff, Nat.reduceLT, Nat.reduceEqDiff, Nat.le_refl, Nat.add_zero, Option.some.injEq, Prod.mk.injEq, Value.agg.injEq, Value.bool.injEq, Value.int.injEq, Value.tuple.injEq, Array.mk.injEq, List.cons.injEq, and_self, List.length_cons, List.length_nil, List.getElem?_cons_zero, List.getElem?_cons_succ, List.getElem?_nil, List.drop_succ_cons, List.drop_zero, List.take_succ_cons, List.take_zero, List.take_nil, List.drop_nil, List.getD_cons_zero, List.getD_cons_succ, rep1, rep2, rep3, rep4, List.set_cons_zero, List.set_cons_succ, List.cons_append, List.nil_append, e1, hp1, hp2, e6, e7, jout]
    · have e7 : ¬ ((32 : Int) < ((n + m : Nat) : Int)) := by omega
      rw [if_neg hg] at hjn
      have e8 : IntKind.u64.wrap (m : Int) = m := wrapu64 (by omega) (by omega)
      have hlt := join_lt hb hc
      have h32 := pow32 (show n + m ≤ 32 by omega)
      have e9 := @shl_u64 b m .u64 (by omega) (by omega)
      have e10 := @or_u64 (b * 2 ^ m) c (by omega) (by omega)
      rw [or_eq hc] at e10
      simp only [vec_Join.l10, std_bd, std_gd, std_gdS, std_gdU, std_cnd, std_it, bds, bdn, cndt, cndf, cndd, cndb, gdtt, gdff, gdtf, gdft, gdun, gdSun, gdSt, gdSf, gdStf, gdSft, gdUt, gdUf, gdUtf, gdUft, pikt, pikf, eqb1, neb1, eqb0, neb0, eqb2, neb2, eqb3n, neb3n, eqb3nn, neb3nn, eqk1, eqb_agg, neb_agg, eqks_nil, eqks_cons, bin_add, bin_sub, bin_mul, bin_lss, bin_leq, bin_gtr, bin_geq, un_notd, un_not, cvi_int, cvs_str, mn2_int, mx2_int, lenS_str, lenL_slc, bx_int, bx_bool, bx_str, bx_ptr, bx_slc, bx_agg, lcl_eq, xtr_eq, cellsA_agg, spl_z, spl_c, spl_s, bld_nil, bld_cons, bls_nil, bls_cons, prt_t, prt_f, nck_ptr, fld_ptr, lal, stl, decide_true, decide_false, decide_eq_true_eq, Bool.false_eq_true, Bool.not_true, Bool.not_false, Bool.and_true, Bool.and_false, Bool.true_and, Bool.false_and, Option.map_some, Option.map_none, if_true, if_false, ite_true, ite_false, reduceIte, and_self, and_true, true_and, false_and, and_false, eq_self, ne_eq, not_true_eq_false, not_false_eq_true, Nat.zero_add, Nat.reduceAdd, Nat.reduceLeDiff, Nat.reduceLT, Nat.reduceEqDiff, Nat.le_refl, Nat.add_zero, Option.some.injEq, Prod.mk.injEq, Value.agg.injEq, Value.bool.injEq, Value.int.injEq, Value.tuple.injEq, Array.mk.injEq, List.cons.injEq, and_self, List.length_cons, List.length_nil, List.getElem?_cons_zero, List.getElem?_cons_succ, List.getElem?_nil, List.drop_succ_cons, List.drop_zero, List.take_succ_cons, List.take_zero, List.take_nil, List.drop_nil, List.getD_cons_zero, List.getD_cons_succ, rep1, rep2, rep3, rep4, List.set_cons_zero, List.set_cons_succ, List.cons_append, List.nil_append, e1, hp1, hp2, e6, e7, e8, e9, e10, e5]
      exact ih d _ _ (by omega) ⟨rfl, j + 1, n + m, b * 2 ^ m + c, by omega, by omega, hlt, hjn, rfl⟩
open Classical in
theorem Join_ok {s : St} {v : Value} {l : List (Nat × Nat)} (h : IsV s v (castV l)) (hl : l.length ≤ 1000) (hw : okL l) : vec_Join.r v s = some (jres (jn l 0 0)) := by
  have hall : ∀ p ∈ castV l, okV p.1 p.2 := fun p hp => by
    simp only [castV, List.mem_map] at hp
    obtain ⟨q, hq, rfl⟩ := hp
    exact ⟨q.1, q.2, rfl, rfl, (hw q hq).1, (hw q hq).2⟩
  have a1 := join_l2 h (by rw [castV_length]; exact hl) (fun p hp => by
    obtain ⟨n, b, _, h2, _⟩ := hall p hp
    omega)
  rw [if_pos hall, castV_length] at a1
  have a2 := join_l10 h hl hw
  have a3 := h.len
  rw [castV_length] at a3
  rw [show ((0 : Nat) : Int) = 0 from rfl] at a1 a2
  unfold VV at a2
  rw [show ((0 : Nat) : Int) = 0 from rfl] at a2
  cases hj : jn l 0 0 with
  | none =>
    rw [hj] at a2
    simp only [vec_Join.r, vec_Join.t, std_bd, std_gd, std_gdS, std_gdU, std_cnd, std_it, bds, bdn, cndt, cndf, cndd, cndb, gdtt, gdff, gdtf, gdft, gdun, gdSun, gdSt, gdSf, gdStf, gdSft, gdUt, gdUf, gdUtf, gdUft, pikt, pikf, eqb1, neb1, eqb0, neb0, eqb2, neb2, eqb3n, neb3n, eqb3nn, neb3nn, eqk1, eqb_agg, neb_agg, eqks_nil, eqks_cons, bin_add, bin_sub, bin_mul, bin_lss, bin_leq, bin_gtr, bin_geq, un_notd, un_not, cvi_int, cvs_str, mn2_int, mx2_int, lenS_str, lenL_slc, bx_int, bx_bool, bx_str, bx_ptr, bx_slc, bx_agg, lcl_eq, xtr_eq, cellsA_agg, spl_z, spl_c, spl_s, bld_nil, bld_cons, bls_nil, bls_cons, prt_t, prt_f, nck_ptr, fld_ptr, lal, stl, decide_true, decide_false, decide_eq_true_eq, Bool.false_eq_true, Bool.not_true, Bool.not_false, Bool.and_true, Bool.and_false, Bool.true_and, Bool.false_and, Option.map_some, Option.map_none, if_true, if_false, ite_true, ite_false, reduceIte, and_self, and_true, true_and, false_and, and_false, eq_self, ne_eq, not_true_eq_false, not_false_eq_true, Nat.zero_add, Nat.reduceAdd, Nat.reduceLeDiff, Nat.reduceLT, Nat.reduceEqDiff, Nat.le_refl, Nat.add_zero, Option.some.injEq, Prod.mk.injEq, Value.agg.injEq, Value.bool.injEq, Value.int.injEq, Value.tuple.injEq, Array.mk.injEq, List.cons.injEq, and_self, List.length_cons, List.length_nil, List.getElem?_cons_zero, List.getElem?_cons_succ, List.getElem?_nil, List.drop_succ_cons, List.drop_zero, List.take_succ_cons, List.take_zero, List.take_nil, List.drop_nil, List.getD_cons_zero, List.getD_cons_succ, rep1, rep2, rep3, rep4, List.set_cons_zero, List.set_cons_succ, List.cons_append, List.nil_append, a3, a1, a2, jout, jres, Nat.one_ne_zero]
  | some q =>
    rw [hj] at a2
    simp only [vec_Join.r, vec_Join.t, std_bd, std_gd, std_gdS, std_gdU, std_cnd, std_it, bds, bdn, cndt, cndf, cndd, cndb, gdtt, gdff, gdtf, gdft, gdun, gdSun, gdSt, gdSf, gdStf, gdSft, gdUt, gdUf, gdUtf, gdUft, pikt, pikf, eqb1, neb1, eqb0, neb0, eqb2, neb2, eqb3n, neb3n, eqb3nn, neb3nn, eqk1, eqb_agg, neb_agg, eqks_nil, eqks_cons, bin_add, bin_sub, bin_mul, bin_lss, bin_leq, bin_gtr, bin_geq, un_notd, un_not, cvi_int, cvs_str, mn2_int, mx2_int, lenS_str, lenL_slc, bx_int, bx_bool, bx_str, bx_ptr, bx_slc, bx_agg, lcl_eq, xtr_eq, cellsA_agg, spl_z, spl_c, spl_s, bld_nil, bld_cons, bls_nil, bls_cons, prt_t, prt_f, nck_ptr, fld_ptr, lal, stl, decide_true, decide_false, decide_eq_true_eq, Bool.false_eq_true, Bool.not_true, Bool.not_false, Bool.and_true, Bool.and_false, Bool.true_and, Bool.false_and, Option.map_some, Option.map_none, if_true, if_false, ite_true, ite_false, reduceIte, and_self, and_true, true_and, false_and, and_false, eq_self, ne_eq, not_true_eq_false, not_false_eq_true, Nat.zero_add, Nat.reduceAdd, Nat.reduceLeDiff, Nat.reduceLT, Nat.reduceEqDiff, Nat.le_refl, Nat.add_zero, Option.some.injEq, Prod.mk.injEq, Value.agg.injEq, Value.bool.injEq, Value.int.injEq, Value.tuple.injEq, Array.mk.injEq, List.cons.injEq, and_self, List.length_cons, List.length_nil, List.getElem?_cons_zero, List.getElem?_cons_succ, List.getElem?_nil, List.drop_succ_cons, List.drop_zero, List.take_succ_cons, List.take_zero, List.take_nil, List.drop_nil, List.getD_cons_zero, List.getD_cons_succ, rep1, rep2, rep3, rep4, List.set_cons_zero, List.set_cons_succ, List.cons_append, List.nil_append, a3, a1, a2, jout, jres]
open Classical in
theorem Join_no {s : St} {v : Value} {l : List (Int × Int)} (h : IsV s v l) (hl : l.length ≤ 1000) (hw : ∀ p ∈ l, 0 ≤ p.2) (hk : ¬ ∀ p ∈ l, okV p.1 p.2) : vec_Join.r v s = some (T2 (VI 0 0) 10) := by
  have a1 := join_l2 h hl hw
  rw [if_neg hk] at a1
  rw [show ((0 : Nat) : Int) = 0 from rfl] at a1
  simp only [vec_Join.r, vec_Join.t, std_bd, std_gd, std_gdS, std_gdU, std_cnd, std_it, bds, bdn, cndt, cndf, cndd, cndb, gdtt, gdff, gdtf, gdft, gdun, gdSun, gdSt, gdSf, gdStf, gdSft, gdUt, gdUf, gdUtf, gdUft, pikt, pikf, eqb1, neb1, eqb0, neb0, eqb2, neb2, eqb3n, neb3n, eqb3nn, neb3nn, eqk1, eqb_agg, neb_agg, eqks_nil, eqks_cons, bin_add, bin_sub, bin_mul, bin_lss, bin_leq, bin_gtr, bin_geq, un_notd, un_not, cvi_int, cvs_str, mn2_int, mx2_int, lenS_str, lenL_slc, bx_int, bx_bool, bx_str, bx_ptr, bx_slc, bx_agg, lcl_eq, xtr_eq, cellsA_agg, spl_z, spl_c, spl_s, bld_nil, bld_cons, bls_nil, bls_cons, prt_t, prt_f, nck_ptr, fld_ptr, lal, stl, decide_true, decide_false, decide_eq_true_eq, Bool.false_eq_true, Bool.not_true, Bool.not_false, Bool.and_true, Bool.and_false, Bool.true_and, Bool.false_and, Option.map_some, Option.map_none, if_true, if_false, ite_true, ite_false, reduceIte, and_self, and_true, true_and, false_and, and_false, eq_self, ne_eq, not_true_eq_false, not_false_eq_true, Nat.zero_add, Nat.reduceAdd, Nat.reduceLeDiff, Nat.reduceLT, Nat.reduceEqDiff, Nat.le_refl, Nat.add_zero, Option.some.injEq, Prod.mk.injEq, Value.agg.injEq, Value.bool.injEq, Value.int.injEq, Value.tuple.injEq, Array.mk.injEq, List.cons.injEq, and_self, List.length_cons, List.length_nil, List.getElem?_cons_zero, List.getElem?_cons_succ, List.getElem?_nil, List.drop_succ_cons, List.drop_zero, List.take_succ_cons, List.take_zero, List.take_nil, List.drop_nil, List.getD_cons_zero, List.getD_cons_succ, rep1, rep2, rep3, rep4, List.set_cons_zero, List.set_cons_succ, List.cons_append, List.nil_append, h.len, a1, Nat.one_ne_zero]

/-! ### The reference -/

open Classical in
theorem rjoin_l3 {s : St} {v : Value} {l : List (Int × Int)} (h : IsV s v l) (hl : l.length ≤ 1000) (hw : ∀ p ∈ l, 0 ≤ p.2) :
    iter (leapfrogref01x_Join.l3 std) BIG [v, Value.slice none 0 0, Value.int .i64 ((0 : Nat) : Int), .agg ⟨[.int .i64 0, .int .u64 0]⟩] s =
      if (∀ p ∈ l, okV p.1 p.2) then some (0, [v, .slice none 0 0, .agg ⟨[.int .i64 0, .int .u64 0]⟩], s) else some (1, [.int .i64 10, .agg ⟨[.int .i64 0, .int .u64 0]⟩], s) := by
  refine iter_rel (fun d xs s' => s' = s ∧ ∃ j, j + d = l.length ∧ (∀ p ∈ l.take j, okV p.1 p.2) ∧ xs = [v, Value.slice none 0 0, Value.int .i64 (j : Int), .agg ⟨[.int .i64 0, .int .u64 0]⟩]) (fun r : Option Cut => r = if (∀ p ∈ l, okV p.1 p.2) then some (0, [v, .slice none 0 0, .agg ⟨[.int .i64 0, .int .u64 0]⟩], s) else some (1, [.int .i64 10, .agg ⟨[.int .i64 0, .int .u64 0]⟩], s)) ?_ BIG l.length _ s (by unfold BIG; omega) ⟨rfl, 0, by omega, by simp, rfl⟩
  rintro d xs s' rec ⟨rfl, j, hj, hp, rfl⟩ ih
  cases d with
  | zero =>
    have e1 : ¬ ((j : Int) < l.length) := by omega
    rw [List.take_of_length_le (by omega)] at hp
    rw [if_pos hp]
    simp only [leapfrogref01x_Join.l3, std_bd, std_gd, std_gdS, std_gdU, std_cnd, std_it, bds, bdn, cndt, cndf, cndd, cndb, gdtt, gdff, gdtf, gdft, gdun, gdSun, gdSt, gdSf, gdStf, gdSft, gdUt, gdUf, gdUtf, gdUft, pikt, pikf, eqb1, neb1, eqb0, neb0, eqb2, neb2, eqb3n, neb3n, eqb3nn, neb3nn, eqk1, eqb_agg, neb_agg, eqks_nil, eqks_cons, bin_add, bin_sub, bin_mul, bin_lss, bin_leq, bin_gtr, bin_geq, un_notd, un_not, cvi_int, cvs_str, mn2_int, mx2_int, lenS_str, lenL_slc, bx_int, bx_bool, bx_str, bx_ptr, bx_slc, bx_agg, lcl_eq, xtr_eq, cellsA_agg, spl_z, spl_c, spl_s, bld_nil, bld_cons, bls_nil, bls_cons, prt_t, prt_f, nck_ptr, fld_ptr, lal, stl, decide_true, decide_false, decide_eq_true_eq, Bool.false_eq_true, Bool.not_true, Bool.not_false, Bool.and_true, Bool.and_false, Bool.true_and, Bool.false_and, Option.map_some, Option.map_none, if_true, if_false, ite_true, ite_false, reduceIte, and_self, and_true, true_and, false_and, and_false, eq_self, ne_eq, not_true_eq_false, not_false_eq_true, Nat.zero_add, Nat.reduceAdd, Nat.reduceLeDiff, Nat.reduceLT, Nat.reduceEqDiff, Nat.le_refl, Nat.add_zero, Option.some.injEq, Prod.mk.injEq, Value.agg.injEq, Value.bool.injEq, Value.int.injEq, Value.tuple.injEq, Array.mk.injEq, List.cons.injEq, and_self, List.length_cons, List.length_nil, List.getElem?_cons_zero, List.getElem?_cons_succ, List.getElem?_nil, List.drop_succ_cons, List.drop_zero, List.take_succ_cons, List.take_zero, List.take_nil, List.drop_nil, List.getD_cons_zero, List.getD_cons_succ, rep1, rep2, rep3, rep4, List.set_cons_zero, List.set_cons_succ, List.cons_append, List.nil_append, h.len, e1]
  | succ d =>
    have e1 : (j : Int) < l.length := by omega
    obtain ⟨x, hx⟩ : ∃ x, l[j]? = some x := ⟨_, List.getElem?_eq_getElem (by omega)⟩
    obtain ⟨p, hp1, hp2⟩ := h.at hx
    have hxl : x ∈ l := List.mem_of_getElem? hx
    have e5 : IntKind.i64.wrap ((j : Int) + 1) = ((j + 1 : Nat) : Int) := by rw [wrap64 (by omega) (by omega)]; omega
    by_cases hk : okV x.1 x.2
    · obtain ⟨n, b, g1, g2, g3, g4⟩ := hk
      rw [g1, g2] at hp2
      simp only [leapfrogref01x_Join.l3, std_bd, std_gd, std_gdS, std_gdU, std_cnd, std_it, bds, bdn, cndt, cndf, cndd, cndb, gdtt, gdff, gdtf, gdft, gdun, gdSun, gdSt, gdSf, gdStf, gdSft, gdUt, gdUf, gdUtf, gdUft, pikt, pikf, eqb1, neb1, eqb0, neb0, eqb2, neb2, eqb3n, neb3n, eqb3nn, neb3nn, eqk1, eqb_agg, neb_agg, eqks_nil, eqks_cons, bin_add, bin_sub, bin_mul, bin_lss, bin_leq, bin_gtr, bin_geq, un_notd, un_not, cvi_int, cvs_str, mn2_int, mx2_int, lenS_str, lenL_slc, bx_int, bx_bool, bx_str, bx_ptr, bx_slc, bx_agg, lcl_eq, xtr_eq, cellsA_agg, spl_z, spl_c, spl_s, bld_nil, bld_cons, bls_nil, bls_cons, prt_t, prt_f, nck_ptr, fld_ptr, lal, stl, decide_true, decide_false, decide_eq_true_eq, Bool.false_eq_true, Bool.not_true, Bool.not_false, Bool.and_true, Bool.and_false, Bool.true_and, Bool.false_and, Option.map_some, Option.map_none, if_true, if_false, ite_true, ite_false, reduceIte, and_self, and_true, true_and, false_and, and_false, eq_self, ne_eq, not_true_eq_false, not_false_eq_true, Nat.zero_add, Nat.reduceAdd, Nat.reduceLeDiff, Nat.reduceLT, Nat.reduceEqDiff, Nat.le_refl, Nat.add_zero, Option.some.injEq, Prod.mk.injEq, Value.agg.injEq, Value.bool.injEq, Value.int.injEq, Value.tuple.injEq, Array.mk.injEq, List.cons.injEq, and_self, List.length_cons, List.length_nil, List.getElem?_cons_zero, List.getElem?_cons_succ, List.getElem?_nil, List.drop_succ_cons, List.drop_zero, List.take_succ_cons, List.take_zero, List.take_nil, List.drop_nil, List.getD_cons_zero, List.getD_cons_succ, rep1, rep2, rep3, rep4, List.set_cons_zero, List.set_cons_succ, List.cons_append, List.nil_append, h.len, e1, hp1, hp2, rright_ok s' g3 g4, e5]
      refine ih d _ _ (by omega) ⟨rfl, j + 1, by omega, fun q hq => ?_, rfl⟩
      rw [List.take_add_one, hx] at hq
      rcases List.mem_append.1 hq with hq | hq
      · exact hp q hq
      · simp only [Option.toList_some, List.mem_singleton] at hq
        subst hq
        exact ⟨n, b, g1, g2, g3, g4⟩
    · rw [if_neg (fun hh => hk (hh x hxl))]
      simp only [leapfrogref01x_Join.l3, std_bd, std_gd, std_gdS, std_gdU, std_cnd, std_it, bds, bdn, cndt, cndf, cndd, cndb, gdtt, gdff, gdtf, gdft, gdun, gdSun, gdSt, gdSf, gdStf, gdSft, gdUt, gdUf, gdUtf, gdUft, pikt, pikf, eqb1, neb1, eqb0, neb0, eqb2, neb2, eqb3n, neb3n, eqb3nn, neb3nn, eqk1, eqb_agg, neb_agg, eqks_nil, eqks_cons, bin_add, bin_sub, bin_mul, bin_lss, bin_leq, bin_gtr, bin_geq, un_notd, un_not, cvi_int, cvs_str, mn2_int, mx2_int, lenS_str, lenL_slc, bx_int, bx_bool, bx_str, bx_ptr, bx_slc, bx_agg, lcl_eq, xtr_eq, cellsA_agg, spl_z, spl_c, spl_s, bld_nil, bld_cons, bls_nil, bls_cons, prt_t, prt_f, nck_ptr, fld_ptr, lal, stl, decide_true, decide_false, decide_eq_true_eq, Bool.false_eq_true, Bool.not_true, Bool.not_false, Bool.and_true, Bool.and_false, Bool.true_and, Bool.false_and, Option.map_some, Option.map_none, if_true, if_false, ite_true, ite_false, reduceIte, and_self, and_true, true_and, false_and, and_false, eq_self, ne_eq, not_true_eq_false, not_false_eq_true, Nat.zero_add, Nat.reduceAdd, Nat.reduceLeDiff, Nat.reduceLT, Nat.reduceEqDiff, Nat.le_refl, Nat.add_zero, Option.some.injEq, Prod.mk.injEq, Value.agg.injEq, Value.bool.injEq, Value.int.injEq, Value.tuple.injEq, Array.mk.injEq, List.cons.injEq, and_self, List.length_cons, List.length_nil, List.getElem?_cons_zero, List.getElem?_cons_succ, List.getElem?_nil, List.drop_succ_cons, List.drop_zero, List.take_succ_cons, List.take_zero, List.take_nil, List.drop_nil, List.getD_cons_zero, List.getD_cons_succ, rep1, rep2, rep3, rep4, List.set_cons_zero, List.set_cons_succ, List.cons_append, List.nil_append, h.len, e1, hp1, hp2, rright_no s' hk (hw x hxl)]
theorem rjoin_l8 {s : St} (hf : Fresh s) {v : Value} {l : List (Nat × Nat)} (h : IsV s v (castV l)) (hl : l.length ≤ 1000) (hw : okL l) :
    ∃ s', More s s' ∧ ((∃ n b u, jn l 0 0 = some (n, b) ∧ n ≤ 32 ∧ b < 2 ^ n ∧ IsI s' u (bl n b) ∧ iter (leapfrogref01x_Join.l8 std) BIG [v, Value.slice none 0 0, Value.int .i64 ((0 : Nat) : Int), .agg ⟨[.int .i64 0, .int .u64 0]⟩] s = some (0, [u, .agg ⟨[.int .i64 0, .int .u64 0]⟩], s')) ∨
      (jn l 0 0 = none ∧ iter (leapfrogref01x_Join.l8 std) BIG [v, Value.slice none 0 0, Value.int .i64 ((0 : Nat) : Int), .agg ⟨[.int .i64 0, .int .u64 0]⟩] s = some (1, [.int .i64 2, .agg ⟨[.int .i64 0, .int .u64 0]⟩], s'))) := by
  refine iter_rel (fun d xs s' => More s s' ∧ ∃ j n b u, j + d = l.length ∧ n ≤ 32 ∧ b < 2 ^ n ∧ jn (l.drop j) n b = jn l 0 0 ∧ Own s.n s' 1 u (rowsI (bl n b)) ∧ xs = [v, u, Value.int .i64 (j : Int), .agg ⟨[.int .i64 0, .int .u64 0]⟩])
    (fun r : Option Cut => ∃ s', More s s' ∧ ((∃ n b u, jn l 0 0 = some (n, b) ∧ n ≤ 32 ∧ b < 2 ^ n ∧ IsI s' u (bl n b) ∧ r = some (0, [u, .agg ⟨[.int .i64 0, .int .u64 0]⟩], s')) ∨
      (jn l 0 0 = none ∧ r = some (1, [.int .i64 2, .agg ⟨[.int .i64 0, .int .u64 0]⟩], s')))) ?_ BIG l.length _ s (by unfold BIG; omega) ⟨.refl s, 0, 0, 0, _, by omega, by omega, by omega, rfl, .inl ⟨rfl, rfl⟩, rfl⟩
  rintro d xs s' rec ⟨hm', j, n, b, u, hj, hn, hb, hjn, ho, rfl⟩ ih
  have h' := h.more hm' hf
  have a3 := h'.len
  rw [castV_length] at a3
  cases d with
  | zero =>
    have e1 : ¬ ((j : Int) < l.length) := by omega
    rw [List.drop_of_length_le (by omega)] at hjn
    refine ⟨s', hm', .inl ⟨n, b, u, hjn.symm, hn, hb, ?_, ?_⟩⟩
    · rcases ho with ⟨rfl, h0⟩ | ⟨q, hq, rfl, hg⟩
      · left
        refine ⟨rfl, ?_⟩
        have := congrArg List.length h0
        rw [rowsI_length] at this
        exact List.eq_nil_of_length_eq_zero this
      · right
        exact ⟨q, 0, 1, _, _, by rw [rowsI_length], hg, fun k d hk => by rw [Nat.zero_add]; exact rowsI_get hk⟩
    · simp only [leapfrogref01x_Join.l8, std_bd, std_gd, std_gdS, std_gdU, std_cnd, std_it, bds, bdn, cndt, cndf, cndd, cndb, gdtt, gdff, gdtf, gdft, gdun, gdSun, gdSt, gdSf, gdStf, gdSft, gdUt, gdUf, gdUtf, gdUft, pikt, pikf, eqb1, neb1, eqb0, neb0, eqb2, neb2, eqb3n, neb3n, eqb3nn, neb3nn, eqk1, eqb_agg, neb_agg, eqks_nil, eqks_cons, bin_add, bin_sub, bin_mul, bin_lss, bin_leq, bin_gtr, bin_geq, un_notd, un_not, cvi_int, cvs_str, mn2_int, mx2_int, lenS_str, lenL_slc, bx_int, bx_bool, bx_str, bx_ptr, bx_slc, bx_agg, lcl_eq, xtr_eq, cellsA_agg, spl_z, spl_c, spl_s, bld_nil, bld_cons, bls_nil, bls_cons, prt_t, prt_f, nck_ptr, fld_ptr, lal, stl, decide_true, decide_false, decide_eq_true_eq, Bool.false_eq_true, Bool.not_true, Bool.not_false, Bool.and_true, Bool.and_false, Bool.true_and, Bool.false_and, Option.map_some, Option.map_none, if_true, if_false, ite_true, ite_false, reduceIte, and_self, and_true, true_and, false_and, and_false, eq_self, ne_eq, not_true_eq_false, not_false_eq_true, Nat.zero_add, Nat.reduceAdd, Nat.reduceLeDiff, Nat.reduceLT, Nat.reduceEqDiff, Nat.le_refl, Nat.add_zero, Option.some.injEq, Prod.mk.injEq, Value.agg.injEq, Value.bool.injEq, Value.int.injEq, Value.tuple.injEq, Array.mk.injEq, List.cons.injEq, and_self, List.length_cons, List.length_nil, List.getElem?_cons_zero, List.getElem?_cons_succ, List.getElem?_nil, List.drop_succ_cons, List.drop_zero, List.take_succ_cons, List.take_zero, List.take_nil, List.drop_nil, List.getD_cons_zero, List.getD_cons_succ, rep1, rep2, rep3, rep4, List.set_cons_zero, List.set_cons_succ, List.cons_append, List.nil_append, a3, e1]
  | succ d =>
    have e1 : (j : Int) < l.length := by omega
    obtain ⟨⟨m, c⟩, hx⟩ : ∃ x, l[j]? = some x := ⟨_, List.getElem?_eq_getElem (by omega)⟩
    obtain ⟨p, hp1, hp2⟩ := h'.at (castV_get hx)
    obtain ⟨hm, hc⟩ := hw _ (List.mem_of_getElem? hx)
    simp only at hm hc hp2
    have e5 : IntKind.i64.wrap ((j : Int) + 1) = ((j + 1 : Nat) : Int) := by rw [wrap64 (by omega) (by omega)]; omega
    have dx : l.drop j = (m, c) :: l.drop (j + 1) := drop_get hx
    rw [dx] at hjn
    simp only [jn] at hjn
    have eb := bits_v s' hm hc
    have ho' : Own s.n (s'.new (.row 1 (rowsI (bl m c)) false)) 1 u (rowsI (bl n b)) := by
      rcases ho with ⟨rfl, h0⟩ | ⟨q, hq, rfl, hg⟩
      · exact .inl ⟨rfl, h0⟩
      · exact .inr ⟨q, hq, rfl, by rw [get_new_ne (by have := (hm'.fresh hf).lt hg; omega)]; exact hg⟩
    obtain ⟨v', s2, g1, g2, g3, _⟩ := ho'.app (by_ := 8) (news := rowsI (bl m c)) (x := .slice (some ⟨s'.n, 0, some 0⟩) m (2 * m)) (hm'.trans .new) (by rw [rowsI_length, bl_length]; rfl) (by
      rw [rowsI_length, bl_length, rowsOf_row get_new_same (Nat.le_refl _) (by rw [rowsI_length, bl_length]; omega)]
      rw [List.drop_zero, List.take_of_length_le (by rw [rowsI_length, bl_length]; omega)]) (by rw [rowsI_length, rowsI_length, bl_length, bl_length]; omega) (by rw [rowsI_length, rowsI_length, bl_length, bl_length]; omega)
    have e6 : rowsI (bl n b) ++ rowsI (bl m c) = rowsI (bl (n + m) (b * 2 ^ m + c)) := by
      rw [← bl_append hc]; simp only [rowsI, List.map_append]
    rw [e6] at g3
    have e7 := g3.len
    rw [rowsI_length, bl_length] at e7
    by_cases hg : 32 < n + m
    · have e8 : (32 : Int) < ((n + m : Nat) : Int) := by omega
      rw [if_pos hg] at hjn
      refine ⟨s2, g2, .inr ⟨hjn.symm, ?_⟩⟩
      simp only [leapfrogref01x_Join.l8, std_bd, std_gd, std_gdS, std_gdU, std_cnd, std_it, bds, bdn, cndt, cndf, cndd, cndb, gdtt, gdff, gdtf, gdft, gdun, gdSun, gdSt, gdSf, gdStf, gdSft, gdUt, gdUf, gdUtf, gdUft, pikt, pikf, eqb1, neb1, eqb0, neb0, eqb2, neb2, eqb3n, neb3n, eqb3nn, neb3nn, eqk1, eqb_agg, neb_agg, eqks_nil, eqks_cons, bin_add, bin_sub, bin_mul, bin_lss, bin_leq, bin_gtr, bin_geq, un_notd, un_not, cvi_int, cvs_str, mn2_int, mx2_int, lenS_str, lenL_slc, bx_int, bx_bool, bx_str, bx_ptr, bx_slc, bx_agg, lcl_eq, xtr_eq, cellsA_agg, spl_z, spl_c, spl_s, bld_nil, bld_cons, bls_nil, bls_cons, prt_t, prt_f, nck_ptr, fld_ptr, lal, stl, decide_true, decide_false, decide_eq_true_eq, Bool.false_eq_true, Bool.not_true, Bool.not_false, Bool.and_true, Bool.and_false, Bool.true_and, Bool.false_and, Option.map_some, Option.map_none, if_true, if_false, ite_true, ite_false, reduceIte, and_self, and_true, true_and, false_and, and_false, eq_self, ne_eq, not_true_eq_false, not_false_eq_true, Nat.zero_add, Nat.reduceAdd, Nat.reduceLeDiff, Nat.reduceLT, Nat.reduceEqDiff, Nat.le_refl, Nat.add_zero, Option.some.injEq, Prod.mk.injEq, Value.agg.injEq, Value.bool.injEq, Value.int.injEq, Value.tuple.injEq, Array.mk.injEq, List.cons.injEq, and_self, List.length_cons, List.length_nil, List.getElem?_cons_zero, List.getElem?_cons_succ, List.getElem?_nil, List.drop_succ_cons, List.drop_zero, List.take_succ_cons, List.take_zero, List.take_nil, List.drop_nil, List.getD_cons_zero, List.getD_cons_succ, rep1, rep2, rep3, rep4, List.set_cons_zero, List.set_cons_succ, List.cons_append, List.nil_append, a3, e1, hp1, hp2, eb, g1, e7, e8]
    · have e8 : ¬ ((32 : Int) < ((n + m : Nat) : Int)) := by omega
      rw [if_neg hg] at hjn
      simp only [leapfrogref01x_Join.l8, std_bd, std_gd, std_gdS, std_gdU, std_cnd, std_it, bds, bdn, cndt, cndf, cndd, cndb, gdtt, gdff, gdtf, gdft, gdun, gdSun, gdSt, gdSf, gdStf, gdSft, gdUt, gdUf, gdUtf, gdUft, pikt, pikf, eqb1, neb1, eqb0, neb0, eqb2, neb2, eqb3n, neb3n, eqb3nn, neb3nn, eqk1, eqb_agg, neb_agg, eqks_nil, eqks_cons, bin_add, bin_sub, bin_mul, bin_lss, bin_leq, bin_gtr, bin_geq, un_notd, un_not, cvi_int, cvs_str, mn2_int, mx2_int, lenS_str, lenL_slc, bx_int, bx_bool, bx_str, bx_ptr, bx_slc, bx_agg, lcl_eq, xtr_eq, cellsA_agg, spl_z, spl_c, spl_s, bld_nil, bld_cons, bls_nil, bls_cons, prt_t, prt_f, nck_ptr, fld_ptr, lal, stl, decide_true, decide_false, decide_eq_true_eq, Bool.false_eq_true, Bool.not_true, Bool.not_false, Bool.and_true, Bool.and_false, Bool.true_and, Bool.false_and, Option.map_some, Option.map_none, if_true, if_false, ite_true, ite_false, reduceIte, and_self, and_true, true_and, false_and, and_false, eq_self, ne_eq, not_true_eq_false, not_false_eq_true, Nat.zero_add, Nat.reduceAdd, Nat.reduceLeDiff, Nat.reduceLT, Nat.reduceEqDiff, Nat.le_refl, Nat.add_zero, Option.some.injEq, Prod.mk.injEq, Value.agg.injEq, Value.bool.injEq, Value.int.injEq, Value.tuple.injEq, Array.mk.injEq, List.cons.injEq, and_self, List.length_cons, List.length_nil, List.getElem?_cons_zero, List.getElem?_cons_succ, List.getElem?_nil, List.drop_succ_cons, List.drop_zero, List.take_succ_cons, List.take_zero, List.take_nil, List.drop_nil, List.getD_cons_zero, List.getD_cons_succ, rep1, rep2, rep3, rep4, List.set_cons_zero, List.set_cons_succ, List.cons_append, List.nil_append, a3, e1, hp1, hp2, eb, g1, e7, e8, e5]
      exact ih d _ _ (by omega) ⟨g2, j + 1, n + m, b * 2 ^ m + c, v', by omega, by omega, join_lt hb hc, hjn, g3, rfl⟩
open Classical in
theorem rJoin_ok {s : St} (hf : Fresh s) {v : Value} {l : List (Nat × Nat)} (h : IsV s v (castV l)) (hl : l.length ≤ 1000) (hw : okL l) : ∃ s', More s s' ∧ leapfrogref01x_Join.v v s = some (jres (jn l 0 0), s') := by
  have hall : ∀ p ∈ castV l, okV p.1 p.2 := fun p hp => by
    simp only [castV, List.mem_map] at hp
    obtain ⟨q, hq, rfl⟩ := hp
    exact ⟨q.1, q.2, rfl, rfl, (hw q hq).1, (hw q hq).2⟩
  have a1 := rjoin_l3 h (by rw [castV_length]; exact hl) (fun p hp => by
    obtain ⟨n, b, _, h2, _⟩ := hall p hp
    omega)
  rw [if_pos hall] at a1
  obtain ⟨s', hm, hr⟩ := rjoin_l8 hf h hl hw
  rw [show ((0 : Nat) : Int) = 0 from rfl] at a1 hr
  refine ⟨s', hm, ?_⟩
  rcases hr with ⟨n, b, u, h1, h2, h3, h4, h5⟩ | ⟨h1, h5⟩
  · have h6 := of_r h4 (fun d => bl_lt) (by rw [bl_length]; omega)
    rw [bl_length, ofBits_bl h3] at h6
    simp only [leapfrogref01x_Join.v, leapfrogref01x_Join.t, std_bd, std_gd, std_gdS, std_gdU, std_cnd, std_it, bds, bdn, cndt, cndf, cndd, cndb, gdtt, gdff, gdtf, gdft, gdun, gdSun, gdSt, gdSf, gdStf, gdSft, gdUt, gdUf, gdUtf, gdUft, pikt, pikf, eqb1, neb1, eqb0, neb0, eqb2, neb2, eqb3n, neb3n, eqb3nn, neb3nn, eqk1, eqb_agg, neb_agg, eqks_nil, eqks_cons, bin_add, bin_sub, bin_mul, bin_lss, bin_leq, bin_gtr, bin_geq, un_notd, un_not, cvi_int, cvs_str, mn2_int, mx2_int, lenS_str, lenL_slc, bx_int, bx_bool, bx_str, bx_ptr, bx_slc, bx_agg, lcl_eq, xtr_eq, cellsA_agg, spl_z, spl_c, spl_s, bld_nil, bld_cons, bls_nil, bls_cons, prt_t, prt_f, nck_ptr, fld_ptr, lal, stl, decide_true, decide_false, decide_eq_true_eq, Bool.false_eq_true, Bool.not_true, Bool.not_false, Bool.and_true, Bool.and_false, Bool.true_and, Bool.false_and, Option.map_some, Option.map_none, if_true, if_false, ite_true, ite_false, reduceIte, and_self, and_true, true_and, false_and, and_false, eq_self, ne_eq, not_true_eq_false, not_false_eq_true, Nat.zero_add, Nat.reduceAdd, Nat.reduceLeDiff, Nat.reduceLT, Nat.reduceEqDiff, Nat.le_refl, Nat.add_zero, Option.some.injEq, Prod.mk.injEq, Value.agg.injEq, Value.bool.injEq, Value.int.injEq, Value.tuple.injEq, Array.mk.injEq, List.cons.injEq, and_self, List.length_cons, List.length_nil, List.getElem?_cons_zero, List.getElem?_cons_succ, List.getElem?_nil, List.drop_succ_cons, List.drop_zero, List.take_succ_cons, List.take_zero, List.take_nil, List.drop_nil, List.getD_cons_zero, List.getD_cons_succ, rep1, rep2, rep3, rep4, List.set_cons_zero, List.set_cons_succ, List.cons_append, List.nil_append, a1, h5, h6, h1, jres]
  · simp only [leapfrogref01x_Join.v, leapfrogref01x_Join.t, std_bd, std_gd, std_gdS, std_gdU, std_cnd, std_it, bds, bdn, cndt, cndf, cndd, cndb, gdtt, gdff, gdtf, gdft, gdun, gdSun, gdSt, gdSf, gdStf, gdSft, gdUt, gdUf, gdUtf, gdUft, pikt, pikf, eqb1, neb1, eqb0, neb0, eqb2, neb2, eqb3n, neb3n, eqb3nn, neb3nn, eqk1, eqb_agg, neb_agg, eqks_nil, eqks_cons, bin_add, bin_sub, bin_mul, bin_lss, bin_leq, bin_gtr, bin_geq, un_notd, un_not, cvi_int, cvs_str, mn2_int, mx2_int, lenS_str, lenL_slc, bx_int, bx_bool, bx_str, bx_ptr, bx_slc, bx_agg, lcl_eq, xtr_eq, cellsA_agg, spl_z, spl_c, spl_s, bld_nil, bld_cons, bls_nil, bls_cons, prt_t, prt_f, nck_ptr, fld_ptr, lal, stl, decide_true, decide_false, decide_eq_true_eq, Bool.false_eq_true, Bool.not_true, Bool.not_false, Bool.and_true, Bool.and_false, Bool.true_and, Bool.false_and, Option.map_some, Option.map_none, if_true, if_false, ite_true, ite_false, reduceIte, and_self, and_true, true_and, false_and, and_false, eq_self, ne_eq, not_true_eq_false, not_false_eq_true, Nat.zero_add, Nat.reduceAdd, Nat.reduceLeDiff, Nat.reduceLT, Nat.reduceEqDiff, Nat.le_refl, Nat.add_zero, Option.some.injEq, Prod.mk.injEq, Value.agg.injEq, Value.bool.injEq, Value.int.injEq, Value.tuple.injEq, Array.mk.injEq, List.cons.injEq, and_self, List.length_cons, List.length_nil, List.getElem?_cons_zero, List.getElem?_cons_succ, List.getElem?_nil, List.drop_succ_cons, List.drop_zero, List.take_succ_cons, List.take_zero, List.take_nil, List.drop_nil, List.getD_cons_zero, List.getD_cons_succ, rep1, rep2, rep3, rep4, List.set_cons_zero, List.set_cons_succ, List.cons_append, List.nil_append, a1, h5, h1, jres, Nat.one_ne_zero]
open Classical in
theorem rJoin_no {s : St} {v : Value} {l : List (Int × Int)} (h : IsV s v l) (hl : l.length ≤ 1000) (hw : ∀ p ∈ l, 0 ≤ p.2) (hk : ¬ ∀ p ∈ l, okV p.1 p.2) : leapfrogref01x_Join.v v s = some (T2 (VI 0 0) 10, s) := by
  have a1 := rjoin_l3 h hl hw
  rw [if_neg hk] at a1
  rw [show ((0 : Nat) : Int) = 0 from rfl] at a1
  simp only [leapfrogref01x_Join.v, leapfrogref01x_Join.t, std_bd, std_gd, std_gdS, std_gdU, std_cnd, std_it, bds, bdn, cndt, cndf, cndd, cndb, gdtt, gdff, gdtf, gdft, gdun, gdSun, gdSt, gdSf, gdStf, gdSft, gdUt, gdUf, gdUtf, gdUft, pikt, pikf, eqb1, neb1, eqb0, neb0, eqb2, neb2, eqb3n, neb3n, eqb3nn, neb3nn, eqk1, eqb_agg, neb_agg, eqks_nil, eqks_cons, bin_add, bin_sub, bin_mul, bin_lss, bin_leq, bin_gtr, bin_geq, un_notd, un_not, cvi_int, cvs_str, mn2_int, mx2_int, lenS_str, lenL_slc, bx_int, bx_bool, bx_str, bx_ptr, bx_slc, bx_agg, lcl_eq, xtr_eq, cellsA_agg, spl_z, spl_c, spl_s, bld_nil, bld_cons, bls_nil, bls_cons, prt_t, prt_f, nck_ptr, fld_ptr, lal, stl, decide_true, decide_false, decide_eq_true_eq, Bool.false_eq_true, Bool.not_true, Bool.not_false, Bool.and_true, Bool.and_false, Bool.true_and, Bool.false_and, Option.map_some, Option.map_none, if_true, if_false, ite_true, ite_false, reduceIte, and_self, and_true, true_and, false_and, and_false, eq_self, ne_eq, not_true_eq_false, not_false_eq_true, Nat.zero_add, Nat.reduceAdd, Nat.reduceLeDiff, Nat.reduceLT, Nat.reduceEqDiff, Nat.le_refl, Nat.add_zero, Option.some.injEq, Prod.mk.injEq, Value.agg.injEq, Value.bool.injEq, Value.int.injEq, Value.tuple.injEq, Array.mk.injEq, List.cons.injEq, and_self, List.length_cons, List.length_nil, List.getElem?_cons_zero, List.getElem?_cons_succ, List.getElem?_nil, List.drop_succ_cons, List.drop_zero, List.take_succ_cons, List.take_zero, List.take_nil, List.drop_nil, List.getD_cons_zero, List.getD_cons_succ, rep1, rep2, rep3, rep4, List.set_cons_zero, List.set_cons_succ, List.cons_append, List.nil_append, a1, Nat.one_ne_zero]
end Go.Proofs.Ytgdloihagiddhaa
