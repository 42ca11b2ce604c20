/-
  SeekRuns, over abstract values.
-/
import Derived.Test.YtonnegfkokghdaaSekF
import Derived.Test.YtonnegfkokghdaaMachB
set_option linter.unusedSimpArgs false
set_option linter.unusedVariables false
set_option maxRecDepth 100000
set_option maxHeartbeats 2000000
namespace Go.Proofs.Ytonnegfkokghdaa
open Go.Sim Go.Sim.Bt
attribute [local congr] bdc cndc itec gdc gdSc gdUc
namespace SeekRuns

theorem awake_r (s : St) : leapfroglaw12x_awakeC.r s = some (.bool true) := rfl
theorem isA_stq {c : Cf} {m : Mm} {s s' : St} {b q : Nat} {v : Value} {l : List Ans} (h : IsA s v l) (hA : At c m s b q) (k : Stq b q s s') : IsA s' v l := by
  rcases h with ⟨rfl, rfl⟩ | ⟨d, i, e, rows, ro, rfl, hg, hr⟩
  · exact .inl ⟨rfl, rfl⟩
  · refine .inr ⟨d, i, e, rows, ro, rfl, ?_, hr⟩
    rw [k.1 d ?_ ?_]
    · exact hg
    · rintro rfl
      have h1 := hA.row
      unfold Row at h1
      rw [hg] at h1
      simp at h1
    · rintro rfl
      have h1 := hA.map
      rw [hg] at h1
      simp at h1


theorem same_r (m : Mm) (s : St) : leapfrogref12x_SameStep.r (.agg ⟨nextC m⟩) (.agg ⟨nextC m⟩) s = some (.bool true) := by
  unfold nextC
  split
  · exact sameStep_r _ _ _ _ s
  · exact sameStep_r _ _ _ _ s
structure Here (c : Cf) (v : Value) (l : List Ans) (b q d : Nat) (s0 : St) (m : Mm) (wv : Value) (ws : List Wl) (s : St) : Prop where
  hA : At c m s b q
  hR : AtR c m s0 s d wv ws
  ho : IsA s v l
  fr : Fresh s
  inv : InvS m
  hv : ∀ b i len e, v = .slice (some ⟨b, i, some 0⟩) len e → b < s0.n
  hb : s0.n ≤ b
  hq : s0.n ≤ q
theorem idx_of {s s' : St} {v : Value} {l : List Ans} (h : IsA s v l) (h' : IsA s' v l) {j : Nat} (hj : j < l.length) : True := trivial

/-- After a step of the program's. -/
theorem r_stq {c : Cf} {m : Mm} {s0 s s' : St} {b q d : Nat} {wv : Value} {ws : List Wl} {cc : Cf} {mm : Mm} (h : AtR c m s0 s d wv ws) (hA : At cc mm s b q) (hb : s0.n ≤ b) (hq : s0.n ≤ q) (k : Stq b q s s') (hf : Fresh s) : AtR c m s0 s' d wv ws := by
  have g : ∀ {x n : Nat} {rows : List (List Value)} {ro : Bool}, s.get x = some (.row n rows ro) → n ≠ 40 → s'.get x = some (.row n rows ro) := by
    intro x n rows ro hx hn
    rw [k.1 x ?_ ?_]
    · exact hx
    · rintro rfl
      have h1 := hA.row
      unfold Row at h1
      rw [hx] at h1
      simp at h1
      exact hn h1.1
    · rintro rfl
      have h1 := hA.map
      rw [hx] at h1
      simp at h1
  refine ⟨g h.row (by omega), ?_, h.tab, ⟨by rw [k.2.1]; exact h.more.n, fun x hx => ?_, fun f => k.2.2 (h.more.fresh f)⟩, h.big, h.dn⟩
  · rcases h.own with ⟨h1, h2⟩ | ⟨o, h1, h2, h3⟩
    · exact .inl ⟨h1, h2⟩
    · exact .inr ⟨o, h1, h2, g h3 (by omega)⟩
  · rw [k.1 x (by omega) (by omega)]; exact h.more.old x hx
/-- After a step of the reference's. -/
theorem a_stpR {c : Cf} {m : Mm} {s s' : St} {b q d n0 : Nat} {X : List Value} (hA : At c m s b q) (hR : RRow s d X) (k : StpR d n0 s s') : At c m s' b q := by
  refine ⟨k.2.1 b _ hA.row ?_ (.inr fun rows ro => by simp), k.2.1 q _ hA.map ?_ (.inr fun rows ro => by simp)⟩
  · rintro rfl
    have h1 := hA.row
    unfold Row at h1
    unfold RRow at hR
    rw [hR] at h1
    simp at h1
  · rintro rfl
    have h1 := hA.map
    unfold RRow at hR
    rw [hR] at h1
    simp at h1
theorem isA_stpR {s s' : St} {d n0 : Nat} {v : Value} {l : List Ans} (h : IsA s v l) (hv : ∀ b i len e, v = .slice (some ⟨b, i, some 0⟩) len e → b < n0) (hd : n0 ≤ d) (k : StpR d n0 s s') : IsA s' v l := by
  rcases h with ⟨rfl, rfl⟩ | ⟨x, i, e, rows, ro, rfl, hg, hr⟩
  · exact .inl ⟨rfl, rfl⟩
  · have := hv _ _ _ _ rfl
    exact .inr ⟨x, i, e, rows, ro, rfl, k.2.1 x _ hg (by omega) (.inl this), hr⟩

/-- Both are told an answer. -/
theorem tells {c : Cf} {v : Value} {l : List Ans} {b q d : Nat} {s0 : St} {m : Mm} {wv : Value} {ws : List Wl} {s : St} (hc : okC c) (h : Here c v l b q d s0 m wv ws s) (hcap : ws.length ≤ 9000) (a : Ans) :
    ∃ s1 s2 m' wv' ws', seek_Seek_Tell.v (P b) (.agg ⟨a.cs⟩) s = some (unit', s1) ∧ IsA s1 v l ∧ leapfrogref12x_Seek_Tell.v (P d) (.agg ⟨a.cs⟩) s1 = some (unit', s2) ∧ Here c v l b q d s0 m' wv' ws' s2 ∧ ws'.length ≤ ws.length + 1 := by
  obtain ⟨D, x, hch, hD⟩ := chase_ex m.tab m.wl m.wb (cnt m.tab a.r + 1) (curF m).rk (curF m).n a.r (by omega)
  have hcn : cnt m.tab a.r ≤ m.tab.length := List.length_filter_le _ _
  have htl : m.tab.length = ws.length := by rw [h.hR.tab, tabW_length]
  have hDB : D < BIG := by unfold BIG; omega
  obtain ⟨s1, t1, t2, t3⟩ := tell_f h.hA h.inv.n0 h.inv.okw a hch hDB
  have f1 := t3.2.2 h.fr
  have hR1 := r_stq h.hR h.hA h.hb h.hq t3 h.fr
  have ho1 := isA_stq h.ho h.hA t3
  obtain ⟨s2, wv', ws', r1, r2, r3, r4⟩ := rtell_f f1 (by omega) hR1 h.inv.n0 h.inv.okw a hch hDB
  exact ⟨s1, s2, _, wv', ws', t1, ho1, r1, ⟨a_stpR t2 hR1.row r3, r2, isA_stpR ho1 h.hv h.hR.dn r3, r3.2.2 f1, inv_tellF hc h.inv a x, h.hv, h.hb, h.hq⟩, r4⟩
/-- Both are told that who was found is dead. -/
theorem deads {c : Cf} {v : Value} {l : List Ans} {b q d : Nat} {s0 : St} {m : Mm} {wv : Value} {ws : List Wl} {s : St} (h : Here c v l b q d s0 m wv ws s) (hcap : ws.length ≤ 9000) (a : Ans) :
    ∃ s1 s2 m' wv' ws', seek_Seek_Dead.v (P b) (.agg ⟨a.cs⟩) s = some (unit', s1) ∧ IsA s1 v l ∧ leapfrogref12x_Seek_Dead.v (P d) (.agg ⟨a.cs⟩) s1 = some (unit', s2) ∧ Here c v l b q d s0 m' wv' ws' s2 ∧ ws'.length ≤ ws.length + 1 := by
  obtain ⟨s1, t1, t2, t3⟩ := dead_f h.hA h.inv.n0 a
  have f1 := t3.2.2 h.fr
  have hR1 := r_stq h.hR h.hA h.hb h.hq t3 h.fr
  have ho1 := isA_stq h.ho h.hA t3
  obtain ⟨s2, wv', ws', r1, r2, r3, r4⟩ := rdead_f f1 (by omega) hR1 h.inv.n0 h.inv.lki a
  exact ⟨s1, s2, _, wv', ws', t1, ho1, r1, ⟨a_stpR t2 hR1.row r3, r2, isA_stpR ho1 h.hv h.hR.dn r3, r3.2.2 f1, inv_deadF h.inv a, h.hv, h.hb, h.hq⟩, r4⟩

theorem step {c : Cf} {v : Value} {l : List Ans} {b q d j : Nat} {s0 : St} {m : Mm} {wv : Value} {ws : List Wl} {s : St} (hc : okC c) (h : Here c v l b q d s0 m wv ws s) (hcap : ws.length ≤ 2 * j) (hj : j < 300) {a : Ans} (ha : l[j]? = some a) (rec : List Value → St → Option Cut) :
    ∃ m' wv' ws' s', leapfroglaw12x_SeekRuns.l8 std rec [v, P b, P d, Value.int .i64 (j : Int)] s = rec [v, P b, P d, Value.int .i64 ((j + 1 : Nat) : Int)] s' ∧ Here c v l b q d s0 m' wv' ws' s' ∧ ws'.length ≤ 2 * (j + 1) := by
  have hjl : j < l.length := (List.getElem?_eq_some_iff.1 ha).1
  have e1 : (j : Int) < l.length := by omega
  have e2 : (j : Int) < 300 := by omega
  have e5 : IntKind.i64.wrap ((j : Int) + 1) = ((j + 1 : Nat) : Int) := by rw [wrap64 (by omega) (by omega)]; omega
  have hlen := h.ho.len
  have b5 : bin .rem (.int .i64 (j : Int)) (.int .i64 5) = some (.int .i64 ((j : Int).tmod 5)) := bin_rem (by omega)
  have b3 : bin .rem (.int .i64 (j : Int)) (.int .i64 3) = some (.int .i64 ((j : Int).tmod 3)) := bin_rem (by omega)
  obtain ⟨k1b, k1, rows1, ro1, a1, a2, a3⟩ := h.ho.at ha
  obtain ⟨s1, s2, m2, wv2, ws2, t1, ho1, t2, h2, hl2⟩ := tells hc h (by omega) a
  obtain ⟨k2b, k2, rows2, ro2, c1, c2, c3⟩ := ho1.at ha
  have wk : seek_Seek_Wake.r (P b) s2 = some unit' := by simp only [seek_Seek_Wake.r, seek_Seek_Wake.t]
  have fin : ∀ {m : Mm} {wv : Value} {ws : List Wl} {s : St}, Here c v l b q d s0 m wv ws s → seek_Seek_Next.r (P b) s = some (.agg ⟨nextC m⟩) ∧ leapfrogref12x_Seek_Next.r (P d) s = some (.agg ⟨nextC m⟩) ∧ seek_Seek_Tries.r (P b) s = some (.int .i64 m.n) ∧ leapfrogref12x_SameStep.r (.agg ⟨nextC m⟩) (.agg ⟨nextC m⟩) s = some (.bool true) ∧ RRow s d (rrow c m wv) :=
    fun h => ⟨next_r h.hA, rnext_r h.hR, tries_r h.hA, same_r _ _, h.hR.row⟩
  rcases Classical.propComplete ((j : Int).tmod 3 = 0) with q3 | q3
  · obtain ⟨k3b, k3, rows3, ro3, d1, d2, d3⟩ := h2.ho.at ha
    obtain ⟨s3, s4, m4, wv4, ws4, u1, ho3, u2, h4, hl4⟩ := deads h2 (by omega) a
    obtain ⟨k4b, k4, rows4, ro4, f1, f2, f3⟩ := ho3.at ha
    obtain ⟨n1, n2, n3, n4, n5⟩ := fin h4
    refine ⟨m4, wv4, ws4, s4, ?_, h4, by omega⟩
    generalize nextC m4 = nx at *
    rcases Classical.propComplete ((j : Int).tmod 5 = 0) with q5 | q5
    · simp only [leapfroglaw12x_SeekRuns.l8, leapfroglaw12x_SeekRuns.l8.p1, std_bd, std_gd, std_gdS, std_gdU, std_cnd, std_it, bds, bdn, cndt, cndf, cndd, cndb, gdtt, gdff, gdtf, gdft, gdun, gdSun, gdSt, gdSf, gdStf, gdSft, gdUt, gdUf, gdUtf, gdUft, pikt, pikf, eqb1, neb1, eqb0, neb0, eqb2, neb2, eqb3n, neb3n, eqb3nn, neb3nn, eqk1, eqb_agg, neb_agg, eqks_nil, eqks_cons, bin_add, bin_sub, bin_mul, bin_lss, bin_leq, bin_gtr, bin_geq, un_notd, un_not, cvi_int, cvs_str, mn2_int, mx2_int, lenS_str, lenL_slc, bx_int, bx_bool, bx_str, bx_ptr, bx_slc, bx_agg, lcl_eq, xtr_eq, cellsA_agg, spl_z, spl_c, spl_s, bld_nil, bld_cons, bls_nil, bls_cons, prt_t, prt_f, nck_ptr, fld_ptr, lal, stl, decide_true, decide_false, decide_eq_true_eq, Bool.false_eq_true, Bool.not_true, Bool.not_false, Bool.and_true, Bool.and_false, Bool.true_and, Bool.false_and, Option.map_some, Option.map_none, if_true, if_false, ite_true, ite_false, reduceIte, and_self, and_true, true_and, false_and, and_false, true_or, or_true, false_or, or_false, eq_self, ne_eq, not_true_eq_false, not_false_eq_true, Nat.zero_add, Nat.reduceAdd, Nat.reduceLeDiff, Nat.reduceLT, Nat.reduceEqDiff, Int.reduceEq, Int.reduceLT, Int.reduceLE, Int.reduceNe, Nat.le_refl, Nat.add_zero, Option.some.injEq, Prod.mk.injEq, Value.agg.injEq, Value.bool.injEq, Value.int.injEq, Value.tuple.injEq, Array.mk.injEq, List.cons.injEq, and_self, List.length_cons, List.length_nil, List.getElem?_cons_zero, List.getElem?_cons_succ, List.getElem?_nil, List.drop_succ_cons, List.drop_zero, List.take_succ_cons, List.take_zero, List.take_nil, List.drop_nil, List.getD_cons_zero, List.getD_cons_succ, rep1, rep2, rep3, rep4, List.set_cons_zero, List.set_cons_succ, List.cons_append, List.nil_append, hlen, e1, e2, a1, lda_row a2, a3, t1, c1, lda_row c2, c3, t2, b5, b3, q5, q3, wk, d1, lda_row d2, d3, u1, f1, lda_row f2, f3, u2, n1, n2, n3, n4, ldc_row n5, e5]
    · simp only [leapfroglaw12x_SeekRuns.l8, leapfroglaw12x_SeekRuns.l8.p1, std_bd, std_gd, std_gdS, std_gdU, std_cnd, std_it, bds, bdn, cndt, cndf, cndd, cndb, gdtt, gdff, gdtf, gdft, gdun, gdSun, gdSt, gdSf, gdStf, gdSft, gdUt, gdUf, gdUtf, gdUft, pikt, pikf, eqb1, neb1, eqb0, neb0, eqb2, neb2, eqb3n, neb3n, eqb3nn, neb3nn, eqk1, eqb_agg, neb_agg, eqks_nil, eqks_cons, bin_add, bin_sub, bin_mul, bin_lss, bin_leq, bin_gtr, bin_geq, un_notd, un_not, cvi_int, cvs_str, mn2_int, mx2_int, lenS_str, lenL_slc, bx_int, bx_bool, bx_str, bx_ptr, bx_slc, bx_agg, lcl_eq, xtr_eq, cellsA_agg, spl_z, spl_c, spl_s, bld_nil, bld_cons, bls_nil, bls_cons, prt_t, prt_f, nck_ptr, fld_ptr, lal, stl, decide_true, decide_false, decide_eq_true_eq, Bool.false_eq_true, Bool.not_true, Bool.not_false, Bool.and_true, Bool.and_false, Bool.true_and, Bool.false_and, Option.map_some, Option.map_none, if_true, if_false, ite_true, ite_false, reduceIte, and_self, and_true, true_and, false_and, and_false, true_or, or_true, false_or, or_false, eq_self, ne_eq, not_true_eq_false, not_false_eq_true, Nat.zero_add, Nat.reduceAdd, Nat.reduceLeDiff, Nat.reduceLT, Nat.reduceEqDiff, Int.reduceEq, Int.reduceLT, Int.reduceLE, Int.reduceNe, Nat.le_refl, Nat.add_zero, Option.some.injEq, Prod.mk.injEq, Value.agg.injEq, Value.bool.injEq, Value.int.injEq, Value.tuple.injEq, Array.mk.injEq, List.cons.injEq, and_self, List.length_cons, List.length_nil, List.getElem?_cons_zero, List.getElem?_cons_succ, List.getElem?_nil, List.drop_succ_cons, List.drop_zero, List.take_succ_cons, List.take_zero, List.take_nil, List.drop_nil, List.getD_cons_zero, List.getD_cons_succ, rep1, rep2, rep3, rep4, List.set_cons_zero, List.set_cons_succ, List.cons_append, List.nil_append, hlen, e1, e2, a1, lda_row a2, a3, t1, c1, lda_row c2, c3, t2, b5, b3, q5, q3, wk, d1, lda_row d2, d3, u1, f1, lda_row f2, f3, u2, n1, n2, n3, n4, ldc_row n5, e5]
  · obtain ⟨n1, n2, n3, n4, n5⟩ := fin h2
    refine ⟨m2, wv2, ws2, s2, ?_, h2, by omega⟩
    generalize nextC m2 = nx at *
    rcases Classical.propComplete ((j : Int).tmod 5 = 0) with q5 | q5
    · simp only [leapfroglaw12x_SeekRuns.l8, leapfroglaw12x_SeekRuns.l8.p1, std_bd, std_gd, std_gdS, std_gdU, std_cnd, std_it, bds, bdn, cndt, cndf, cndd, cndb, gdtt, gdff, gdtf, gdft, gdun, gdSun, gdSt, gdSf, gdStf, gdSft, gdUt, gdUf, gdUtf, gdUft, pikt, pikf, eqb1, neb1, eqb0, neb0, eqb2, neb2, eqb3n, neb3n, eqb3nn, neb3nn, eqk1, eqb_agg, neb_agg, eqks_nil, eqks_cons, bin_add, bin_sub, bin_mul, bin_lss, bin_leq, bin_gtr, bin_geq, un_notd, un_not, cvi_int, cvs_str, mn2_int, mx2_int, lenS_str, lenL_slc, bx_int, bx_bool, bx_str, bx_ptr, bx_slc, bx_agg, lcl_eq, xtr_eq, cellsA_agg, spl_z, spl_c, spl_s, bld_nil, bld_cons, bls_nil, bls_cons, prt_t, prt_f, nck_ptr, fld_ptr, lal, stl, decide_true, decide_false, decide_eq_true_eq, Bool.false_eq_true, Bool.not_true, Bool.not_false, Bool.and_true, Bool.and_false, Bool.true_and, Bool.false_and, Option.map_some, Option.map_none, if_true, if_false, ite_true, ite_false, reduceIte, and_self, and_true, true_and, false_and, and_false, true_or, or_true, false_or, or_false, eq_self, ne_eq, not_true_eq_false, not_false_eq_true, Nat.zero_add, Nat.reduceAdd, Nat.reduceLeDiff, Nat.reduceLT, Nat.reduceEqDiff, Int.reduceEq, Int.reduceLT, Int.reduceLE, Int.reduceNe, Nat.le_refl, Nat.add_zero, Option.some.injEq, Prod.mk.injEq, Value.agg.injEq, Value.bool.injEq, Value.int.injEq, Value.tuple.injEq, Array.mk.injEq, List.cons.injEq, and_self, List.length_cons, List.length_nil, List.getElem?_cons_zero, List.getElem?_cons_succ, List.getElem?_nil, List.drop_succ_cons, List.drop_zero, List.take_succ_cons, List.take_zero, List.take_nil, List.drop_nil, List.getD_cons_zero, List.getD_cons_succ, rep1, rep2, rep3, rep4, List.set_cons_zero, List.set_cons_succ, List.cons_append, List.nil_append, hlen, e1, e2, a1, lda_row a2, a3, t1, c1, lda_row c2, c3, t2, b5, b3, q5, q3, wk, n1, n2, n3, n4, ldc_row n5, e5]
    · simp only [leapfroglaw12x_SeekRuns.l8, leapfroglaw12x_SeekRuns.l8.p1, std_bd, std_gd, std_gdS, std_gdU, std_cnd, std_it, bds, bdn, cndt, cndf, cndd, cndb, gdtt, gdff, gdtf, gdft, gdun, gdSun, gdSt, gdSf, gdStf, gdSft, gdUt, gdUf, gdUtf, gdUft, pikt, pikf, eqb1, neb1, eqb0, neb0, eqb2, neb2, eqb3n, neb3n, eqb3nn, neb3nn, eqk1, eqb_agg, neb_agg, eqks_nil, eqks_cons, bin_add, bin_sub, bin_mul, bin_lss, bin_leq, bin_gtr, bin_geq, un_notd, un_not, cvi_int, cvs_str, mn2_int, mx2_int, lenS_str, lenL_slc, bx_int, bx_bool, bx_str, bx_ptr, bx_slc, bx_agg, lcl_eq, xtr_eq, cellsA_agg, spl_z, spl_c, spl_s, bld_nil, bld_cons, bls_nil, bls_cons, prt_t, prt_f, nck_ptr, fld_ptr, lal, stl, decide_true, decide_false, decide_eq_true_eq, Bool.false_eq_true, Bool.not_true, Bool.not_false, Bool.and_true, Bool.and_false, Bool.true_and, Bool.false_and, Option.map_some, Option.map_none, if_true, if_false, ite_true, ite_false, reduceIte, and_self, and_true, true_and, false_and, and_false, true_or, or_true, false_or, or_false, eq_self, ne_eq, not_true_eq_false, not_false_eq_true, Nat.zero_add, Nat.reduceAdd, Nat.reduceLeDiff, Nat.reduceLT, Nat.reduceEqDiff, Int.reduceEq, Int.reduceLT, Int.reduceLE, Int.reduceNe, Nat.le_refl, Nat.add_zero, Option.some.injEq, Prod.mk.injEq, Value.agg.injEq, Value.bool.injEq, Value.int.injEq, Value.tuple.injEq, Array.mk.injEq, List.cons.injEq, and_self, List.length_cons, List.length_nil, List.getElem?_cons_zero, List.getElem?_cons_succ, List.getElem?_nil, List.drop_succ_cons, List.drop_zero, List.take_succ_cons, List.take_zero, List.take_nil, List.drop_nil, List.getD_cons_zero, List.getD_cons_succ, rep1, rep2, rep3, rep4, List.set_cons_zero, List.set_cons_succ, List.cons_append, List.nil_append, hlen, e1, e2, a1, lda_row a2, a3, t1, c1, lda_row c2, c3, t2, b5, b3, q5, q3, n1, n2, n3, n4, ldc_row n5, e5]

theorem loop {c : Cf} {v : Value} {l : List Ans} {b q d : Nat} {s0 : St} {m : Mm} {wv : Value} {s : St} (hc : okC c) (h : Here c v l b q d s0 m wv [] s) :
    ∃ m' wv' ws' s', iter (leapfroglaw12x_SeekRuns.l8 std) BIG [v, P b, P d, Value.int .i64 ((0 : Nat) : Int)] s = some ((0, [P b, P d], s') : Cut) ∧ Here c v l b q d s0 m' wv' ws' s' := by
  refine iter_rel (fun k xs s' => ∃ m wv ws j, Here c v l b q d s0 m wv ws s' ∧ ws.length ≤ 2 * j ∧ j + k = 300 ∧ xs = [v, P b, P d, Value.int .i64 ((j : Nat) : Int)])
    (fun y : Option Cut => ∃ m' wv' ws' s', y = some ((0, [P b, P d], s') : Cut) ∧ Here c v l b q d s0 m' wv' ws' s') ?_ BIG 300 _ s (by unfold BIG; omega) ⟨m, wv, [], 0, h, by simp, by omega, rfl⟩
  rintro k xs s rec ⟨m, wv, ws, j, h, hcap, hj, rfl⟩ ih
  by_cases h1 : j < l.length
  · have e1 : (j : Int) < l.length := by omega
    cases k with
    | zero =>
      have e2 : ¬ ((j : Int) < 300) := by omega
      exact ⟨m, wv, ws, s, by simp only [leapfroglaw12x_SeekRuns.l8, std_bd, std_gd, std_gdS, std_gdU, std_cnd, std_it, bds, bdn, cndt, cndf, cndd, cndb, gdtt, gdff, gdtf, gdft, gdun, gdSun, gdSt, gdSf, gdStf, gdSft, gdUt, gdUf, gdUtf, gdUft, pikt, pikf, eqb1, neb1, eqb0, neb0, eqb2, neb2, eqb3n, neb3n, eqb3nn, neb3nn, eqk1, eqb_agg, neb_agg, eqks_nil, eqks_cons, bin_add, bin_sub, bin_mul, bin_lss, bin_leq, bin_gtr, bin_geq, un_notd, un_not, cvi_int, cvs_str, mn2_int, mx2_int, lenS_str, lenL_slc, bx_int, bx_bool, bx_str, bx_ptr, bx_slc, bx_agg, lcl_eq, xtr_eq, cellsA_agg, spl_z, spl_c, spl_s, bld_nil, bld_cons, bls_nil, bls_cons, prt_t, prt_f, nck_ptr, fld_ptr, lal, stl, decide_true, decide_false, decide_eq_true_eq, Bool.false_eq_true, Bool.not_true, Bool.not_false, Bool.and_true, Bool.and_false, Bool.true_and, Bool.false_and, Option.map_some, Option.map_none, if_true, if_false, ite_true, ite_false, reduceIte, and_self, and_true, true_and, false_and, and_false, true_or, or_true, false_or, or_false, eq_self, ne_eq, not_true_eq_false, not_false_eq_true, Nat.zero_add, Nat.reduceAdd, Nat.reduceLeDiff, Nat.reduceLT, Nat.reduceEqDiff, Int.reduceEq, Int.reduceLT, Int.reduceLE, Int.reduceNe, Nat.le_refl, Nat.add_zero, Option.some.injEq, Prod.mk.injEq, Value.agg.injEq, Value.bool.injEq, Value.int.injEq, Value.tuple.injEq, Array.mk.injEq, List.cons.injEq, and_self, List.length_cons, List.length_nil, List.getElem?_cons_zero, List.getElem?_cons_succ, List.getElem?_nil, List.drop_succ_cons, List.drop_zero, List.take_succ_cons, List.take_zero, List.take_nil, List.drop_nil, List.getD_cons_zero, List.getD_cons_succ, rep1, rep2, rep3, rep4, List.set_cons_zero, List.set_cons_succ, List.cons_append, List.nil_append, h.ho.len, e1, e2], h⟩
    | succ k =>
      obtain ⟨a, ha⟩ := get_some h1
      obtain ⟨m', wv', ws', s', g1, g2, g3⟩ := step hc h hcap (by omega) ha rec
      rw [g1]
      exact ih k _ _ (by omega) ⟨m', wv', ws', j + 1, g2, g3, by omega, rfl⟩
  · have e1 : ¬ ((j : Int) < l.length) := by omega
    exact ⟨m, wv, ws, s, by simp only [leapfroglaw12x_SeekRuns.l8, std_bd, std_gd, std_gdS, std_gdU, std_cnd, std_it, bds, bdn, cndt, cndf, cndd, cndb, gdtt, gdff, gdtf, gdft, gdun, gdSun, gdSt, gdSf, gdStf, gdSft, gdUt, gdUf, gdUtf, gdUft, pikt, pikf, eqb1, neb1, eqb0, neb0, eqb2, neb2, eqb3n, neb3n, eqb3nn, neb3nn, eqk1, eqb_agg, neb_agg, eqks_nil, eqks_cons, bin_add, bin_sub, bin_mul, bin_lss, bin_leq, bin_gtr, bin_geq, un_notd, un_not, cvi_int, cvs_str, mn2_int, mx2_int, lenS_str, lenL_slc, bx_int, bx_bool, bx_str, bx_ptr, bx_slc, bx_agg, lcl_eq, xtr_eq, cellsA_agg, spl_z, spl_c, spl_s, bld_nil, bld_cons, bls_nil, bls_cons, prt_t, prt_f, nck_ptr, fld_ptr, lal, stl, decide_true, decide_false, decide_eq_true_eq, Bool.false_eq_true, Bool.not_true, Bool.not_false, Bool.and_true, Bool.and_false, Bool.true_and, Bool.false_and, Option.map_some, Option.map_none, if_true, if_false, ite_true, ite_false, reduceIte, and_self, and_true, true_and, false_and, and_false, true_or, or_true, false_or, or_false, eq_self, ne_eq, not_true_eq_false, not_false_eq_true, Nat.zero_add, Nat.reduceAdd, Nat.reduceLeDiff, Nat.reduceLT, Nat.reduceEqDiff, Int.reduceEq, Int.reduceLT, Int.reduceLE, Int.reduceNe, Nat.le_refl, Nat.add_zero, Option.some.injEq, Prod.mk.injEq, Value.agg.injEq, Value.bool.injEq, Value.int.injEq, Value.tuple.injEq, Array.mk.injEq, List.cons.injEq, and_self, List.length_cons, List.length_nil, List.getElem?_cons_zero, List.getElem?_cons_succ, List.getElem?_nil, List.drop_succ_cons, List.drop_zero, List.take_succ_cons, List.take_zero, List.take_nil, List.drop_nil, List.getD_cons_zero, List.getD_cons_succ, rep1, rep2, rep3, rep4, List.set_cons_zero, List.set_cons_succ, List.cons_append, List.nil_append, h.ho.len, e1], h⟩
theorem loop0 {v : Value} {l : List Ans} {s : St} (h : IsA s v l) : iter (leapfroglaw12x_SeekRuns.l8 std) BIG [v, .pointer none, .pointer none, Value.int .i64 0] s = some ((0, [.pointer none, .pointer none], s) : Cut) := by
  rw [show BIG = 4611686018427387903 + 1 from rfl, iter_succ]
  rcases Classical.propComplete ((0 : Int) < l.length) with e1 | e1
  · simp only [leapfroglaw12x_SeekRuns.l8, std_bd, std_gd, std_gdS, std_gdU, std_cnd, std_it, bds, bdn, cndt, cndf, cndd, cndb, gdtt, gdff, gdtf, gdft, gdun, gdSun, gdSt, gdSf, gdStf, gdSft, gdUt, gdUf, gdUtf, gdUft, pikt, pikf, eqb1, neb1, eqb0, neb0, eqb2, neb2, eqb3n, neb3n, eqb3nn, neb3nn, eqk1, eqb_agg, neb_agg, eqks_nil, eqks_cons, bin_add, bin_sub, bin_mul, bin_lss, bin_leq, bin_gtr, bin_geq, un_notd, un_not, cvi_int, cvs_str, mn2_int, mx2_int, lenS_str, lenL_slc, bx_int, bx_bool, bx_str, bx_ptr, bx_slc, bx_agg, lcl_eq, xtr_eq, cellsA_agg, spl_z, spl_c, spl_s, bld_nil, bld_cons, bls_nil, bls_cons, prt_t, prt_f, nck_ptr, fld_ptr, lal, stl, decide_true, decide_false, decide_eq_true_eq, Bool.false_eq_true, Bool.not_true, Bool.not_false, Bool.and_true, Bool.and_false, Bool.true_and, Bool.false_and, Option.map_some, Option.map_none, if_true, if_false, ite_true, ite_false, reduceIte, and_self, and_true, true_and, false_and, and_false, true_or, or_true, false_or, or_false, eq_self, ne_eq, not_true_eq_false, not_false_eq_true, Nat.zero_add, Nat.reduceAdd, Nat.reduceLeDiff, Nat.reduceLT, Nat.reduceEqDiff, Int.reduceEq, Int.reduceLT, Int.reduceLE, Int.reduceNe, Nat.le_refl, Nat.add_zero, Option.some.injEq, Prod.mk.injEq, Value.agg.injEq, Value.bool.injEq, Value.int.injEq, Value.tuple.injEq, Array.mk.injEq, List.cons.injEq, and_self, List.length_cons, List.length_nil, List.getElem?_cons_zero, List.getElem?_cons_succ, List.getElem?_nil, List.drop_succ_cons, List.drop_zero, List.take_succ_cons, List.take_zero, List.take_nil, List.drop_nil, List.getD_cons_zero, List.getD_cons_succ, rep1, rep2, rep3, rep4, List.set_cons_zero, List.set_cons_succ, List.cons_append, List.nil_append, h.len, e1]
  · simp only [leapfroglaw12x_SeekRuns.l8, std_bd, std_gd, std_gdS, std_gdU, std_cnd, std_it, bds, bdn, cndt, cndf, cndd, cndb, gdtt, gdff, gdtf, gdft, gdun, gdSun, gdSt, gdSf, gdStf, gdSft, gdUt, gdUf, gdUtf, gdUft, pikt, pikf, eqb1, neb1, eqb0, neb0, eqb2, neb2, eqb3n, neb3n, eqb3nn, neb3nn, eqk1, eqb_agg, neb_agg, eqks_nil, eqks_cons, bin_add, bin_sub, bin_mul, bin_lss, bin_leq, bin_gtr, bin_geq, un_notd, un_not, cvi_int, cvs_str, mn2_int, mx2_int, lenS_str, lenL_slc, bx_int, bx_bool, bx_str, bx_ptr, bx_slc, bx_agg, lcl_eq, xtr_eq, cellsA_agg, spl_z, spl_c, spl_s, bld_nil, bld_cons, bls_nil, bls_cons, prt_t, prt_f, nck_ptr, fld_ptr, lal, stl, decide_true, decide_false, decide_eq_true_eq, Bool.false_eq_true, Bool.not_true, Bool.not_false, Bool.and_true, Bool.and_false, Bool.true_and, Bool.false_and, Option.map_some, Option.map_none, if_true, if_false, ite_true, ite_false, reduceIte, and_self, and_true, true_and, false_and, and_false, true_or, or_true, false_or, or_false, eq_self, ne_eq, not_true_eq_false, not_false_eq_true, Nat.zero_add, Nat.reduceAdd, Nat.reduceLeDiff, Nat.reduceLT, Nat.reduceEqDiff, Int.reduceEq, Int.reduceLT, Int.reduceLE, Int.reduceNe, Nat.le_refl, Nat.add_zero, Option.some.injEq, Prod.mk.injEq, Value.agg.injEq, Value.bool.injEq, Value.int.injEq, Value.tuple.injEq, Array.mk.injEq, List.cons.injEq, and_self, List.length_cons, List.length_nil, List.getElem?_cons_zero, List.getElem?_cons_succ, List.getElem?_nil, List.drop_succ_cons, List.drop_zero, List.take_succ_cons, List.take_zero, List.take_nil, List.drop_nil, List.getD_cons_zero, List.getD_cons_succ, rep1, rep2, rep3, rep4, List.set_cons_zero, List.set_cons_succ, List.cons_append, List.nil_append, h.len, e1]

theorem law (s : St) (us : List Value) (ha : AllRo s) (hf : ∀ b, s.n ≤ b → s.get b = none) (h : Args s [(true, [.i .i64, .i .i64, .i .i64, .i .u64, .i .i64, .i .u64, .i .i64, .i .u64]), (false, [.sl [.i .i64, .b, .i .i64, .i .i64, .i .u64, .i .i64, .i .u64, .i .i64, .i .i64, .i .u64, .i .i64, .i .u64, .sl [.i .u8]]])] us) :
    ∃ s', leapfroglaw12x_SeekRuns.w us s = some (.bool true, s') := by
  simp only [Args, Arg] at h
  obtain ⟨_, _, rfl, ⟨_, rfl, h1⟩, v, _, rfl, h2, rfl⟩ := h
  unfold Leaf.Are Leaf.Are at h2
  obtain ⟨v', _, g1, h2, rfl⟩ := h2
  obtain rfl : v = v' := (List.cons.inj g1).1
  simp only [Leaf.Are, Leaf.Is] at h1
  obtain ⟨_, _, rfl, ⟨hh, rfl, _⟩, _, _, rfl, ⟨i1, rfl, _⟩, _, _, rfl, ⟨i2, rfl, _⟩, _, _, rfl, ⟨i3, rfl, _⟩, _, _, rfl, ⟨i4, rfl, _⟩, _, _, rfl, ⟨i5, rfl, hi5⟩, _, _, rfl, ⟨tr, rfl, _⟩, _, _, rfl, ⟨tn, rfl, _⟩, rfl⟩ := h1
  obtain ⟨l, hl⟩ := isA_of h2
  have hm0 := (wf_u64 hi5).1
  show ∃ s', leapfroglaw12x_SeekRuns.v (.agg ⟨(⟨hh, ⟨i1, i2, i3, i4, i5⟩, tr, tn⟩ : Cf).cs⟩) v s = some (.bool true, s')
  generalize hc : (⟨hh, ⟨i1, i2, i3, i4, i5⟩, tr, tn⟩ : Cf) = c
  have hm0 : 0 ≤ c.st.bt := by rw [← hc]; exact hm0
  rcases new_r hf c hm0 with ⟨hC, q1⟩ | ⟨hC, q1⟩
  · have q2 : leapfrogref12x_New.v (.agg ⟨c.cs⟩) s = some (Bad, s) := by
      rcases rnew_r s c hm0 with ⟨_, g⟩ | ⟨g, _⟩
      · exact g
      · exact absurd g hC
    have e := loop0 hl
    exact ⟨s, by simp only [leapfroglaw12x_SeekRuns.v, leapfroglaw12x_SeekRuns.t, std_bd, std_gd, std_gdS, std_gdU, std_cnd, std_it, bds, bdn, cndt, cndf, cndd, cndb, gdtt, gdff, gdtf, gdft, gdun, gdSun, gdSt, gdSf, gdStf, gdSft, gdUt, gdUf, gdUtf, gdUft, pikt, pikf, eqb1, neb1, eqb0, neb0, eqb2, neb2, eqb3n, neb3n, eqb3nn, neb3nn, eqk1, eqb_agg, neb_agg, eqks_nil, eqks_cons, bin_add, bin_sub, bin_mul, bin_lss, bin_leq, bin_gtr, bin_geq, un_notd, un_not, cvi_int, cvs_str, mn2_int, mx2_int, lenS_str, lenL_slc, bx_int, bx_bool, bx_str, bx_ptr, bx_slc, bx_agg, lcl_eq, xtr_eq, cellsA_agg, spl_z, spl_c, spl_s, bld_nil, bld_cons, bls_nil, bls_cons, prt_t, prt_f, nck_ptr, fld_ptr, lal, stl, decide_true, decide_false, decide_eq_true_eq, Bool.false_eq_true, Bool.not_true, Bool.not_false, Bool.and_true, Bool.and_false, Bool.true_and, Bool.false_and, Option.map_some, Option.map_none, if_true, if_false, ite_true, ite_false, reduceIte, and_self, and_true, true_and, false_and, and_false, true_or, or_true, false_or, or_false, eq_self, ne_eq, not_true_eq_false, not_false_eq_true, Nat.zero_add, Nat.reduceAdd, Nat.reduceLeDiff, Nat.reduceLT, Nat.reduceEqDiff, Int.reduceEq, Int.reduceLT, Int.reduceLE, Int.reduceNe, Nat.le_refl, Nat.add_zero, Option.some.injEq, Prod.mk.injEq, Value.agg.injEq, Value.bool.injEq, Value.int.injEq, Value.tuple.injEq, Array.mk.injEq, List.cons.injEq, and_self, List.length_cons, List.length_nil, List.getElem?_cons_zero, List.getElem?_cons_succ, List.getElem?_nil, List.drop_succ_cons, List.drop_zero, List.take_succ_cons, List.take_zero, List.take_nil, List.drop_nil, List.getD_cons_zero, List.getD_cons_succ, rep1, rep2, rep3, rep4, List.set_cons_zero, List.set_cons_succ, List.cons_append, List.nil_append, awake_r, q1, q2, e]⟩
  · have hA := at_new hf c (s := s)
    have f1 : Fresh (s.new (.map [] false)) := Fresh.new hf
    have f2 : Fresh (N2 s c) := f1.new
    have q2 : leapfrogref12x_New.v (.agg ⟨c.cs⟩) (N2 s c) = some (T2 (P (N2 s c).n) 0, (N2 s c).new (.row 39 [rrow c (m0 c) (.slice none 0 0)] false)) := by
      rcases rnew_r (N2 s c) c hm0 with ⟨g, _⟩ | ⟨_, g⟩
      · exact absurd hC g
      · exact g
    have mo : More s (N2 s c) := More.new.trans .new
    have hN : (N2 s c).n = s.n + 2 := rfl
    have ho2 : IsA (N2 s c) v l := (hl.more .new hf).more .new f1
    generalize N2 s c = s2 at *
    have H0 : Here c v l (s.n + 1) s.n s2.n s (m0 c) (.slice none 0 0) [] (s2.new (.row 39 [rrow c (m0 c) (.slice none 0 0)] false)) := by
      refine ⟨⟨?_, ?_⟩, ⟨get_new_same, .inl ⟨rfl, rfl⟩, rfl, mo.trans .new, by simp, by omega⟩, ho2.more .new f2, f2.new, ⟨by simp [m0], hC.2.2.2.1, fun e => by simp [m0] at e⟩, ?_, by omega, by omega⟩
      · show St.get _ _ = _
        rw [get_new_ne (by omega)]; exact hA.row
      · rw [get_new_ne (by omega)]; exact hA.map
      · intro b i len e hv
        rcases hl with ⟨h0, _⟩ | ⟨b', i', e', rows, ro, h0, hg, _⟩
        · rw [hv] at h0; cases h0
        · rw [hv] at h0; cases h0
          exact Fresh.lt hf hg
    obtain ⟨m', wv', ws', s', e, h'⟩ := loop hC H0
    rw [show ((0 : Nat) : Int) = 0 from rfl] at e
    have n1 := next_r h'.hA
    have n2 := rnext_r h'.hR
    have n3 := same_r m' s'
    generalize nextC m' = nx at *
    generalize s2.new (.row 39 [rrow c (m0 c) (.slice none 0 0)] false) = s3 at *
    exact ⟨s', by simp only [leapfroglaw12x_SeekRuns.v, leapfroglaw12x_SeekRuns.t, std_bd, std_gd, std_gdS, std_gdU, std_cnd, std_it, bds, bdn, cndt, cndf, cndd, cndb, gdtt, gdff, gdtf, gdft, gdun, gdSun, gdSt, gdSf, gdStf, gdSft, gdUt, gdUf, gdUtf, gdUft, pikt, pikf, eqb1, neb1, eqb0, neb0, eqb2, neb2, eqb3n, neb3n, eqb3nn, neb3nn, eqk1, eqb_agg, neb_agg, eqks_nil, eqks_cons, bin_add, bin_sub, bin_mul, bin_lss, bin_leq, bin_gtr, bin_geq, un_notd, un_not, cvi_int, cvs_str, mn2_int, mx2_int, lenS_str, lenL_slc, bx_int, bx_bool, bx_str, bx_ptr, bx_slc, bx_agg, lcl_eq, xtr_eq, cellsA_agg, spl_z, spl_c, spl_s, bld_nil, bld_cons, bls_nil, bls_cons, prt_t, prt_f, nck_ptr, fld_ptr, lal, stl, decide_true, decide_false, decide_eq_true_eq, Bool.false_eq_true, Bool.not_true, Bool.not_false, Bool.and_true, Bool.and_false, Bool.true_and, Bool.false_and, Option.map_some, Option.map_none, if_true, if_false, ite_true, ite_false, reduceIte, and_self, and_true, true_and, false_and, and_false, true_or, or_true, false_or, or_false, eq_self, ne_eq, not_true_eq_false, not_false_eq_true, Nat.zero_add, Nat.reduceAdd, Nat.reduceLeDiff, Nat.reduceLT, Nat.reduceEqDiff, Int.reduceEq, Int.reduceLT, Int.reduceLE, Int.reduceNe, Nat.le_refl, Nat.add_zero, Option.some.injEq, Prod.mk.injEq, Value.agg.injEq, Value.bool.injEq, Value.int.injEq, Value.tuple.injEq, Array.mk.injEq, List.cons.injEq, and_self, List.length_cons, List.length_nil, List.getElem?_cons_zero, List.getElem?_cons_succ, List.getElem?_nil, List.drop_succ_cons, List.drop_zero, List.take_succ_cons, List.take_zero, List.take_nil, List.drop_nil, List.getD_cons_zero, List.getD_cons_succ, rep1, rep2, rep3, rep4, List.set_cons_zero, List.set_cons_succ, List.cons_append, List.nil_append, awake_r, q1, q2, e, n1, n2, n3]⟩
end SeekRuns
end Go.Proofs.Ytonnegfkokghdaa
