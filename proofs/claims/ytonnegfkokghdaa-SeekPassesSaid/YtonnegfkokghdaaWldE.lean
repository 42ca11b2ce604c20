/-
  Worlds are made.
-/
import Derived.Test.YtonnegfkokghdaaWldD
set_option linter.unusedSimpArgs false
set_option linter.unusedVariables false
set_option maxRecDepth 100000
set_option maxHeartbeats 2000000
namespace Go.Proofs.Ytonnegfkokghdaa
open Go.Sim Go.Sim.Bt
attribute [local congr] bdc cndc itec gdc gdSc gdUc

abbrev UC (n : Int) : List Value := [.int .u64 n]
abbrev BC (b : Bool) : List Value := [.bool b]
theorem uc_get {l : List Int} {j : Nat} {x : Int} (h : l[j]? = some x) : (l.map UC)[j]? = some (UC x) := by rw [List.getElem?_map, h]; rfl
theorem bc_get {l : List Bool} {j : Nat} {x : Bool} (h : l[j]? = some x) : (l.map BC)[j]? = some (BC x) := by rw [List.getElem?_map, h]; rfl
def mkRf (h : Nat) (bs S : List Int) (i : Nat) : Rf := ⟨(i : Int) + 2, 2, S.getD i 0, h, if i < bs.length then (bs.getD i 0).tmod ((2 ^ h : Nat) : Int) else 0⟩
def mkS (ks : List Int) : List Int := srtN (ks.take 20)
def mkD (ks : List Int) (dd : List Bool) : List Bool := (List.range (mkS ks).length).map fun i => dd.getD i false
def mkW (h : Nat) (ks bs : List Int) (dd : List Bool) : Wd := ⟨h, (List.range (mkS ks).length).map (mkRf h bs (mkS ks)), deadOf (mkD ks dd)⟩
theorem mkS_len (ks : List Int) : (mkS ks).length ≤ 20 := by
  have := (srtN_spec (ks.take 20)).2.2
  rw [List.length_take] at this
  unfold mkS; omega
theorem mkW_ok {h : Nat} {ks bs : List Int} {dd : List Bool} (h32 : h ≤ 32) (hb : ∀ b ∈ bs, 0 ≤ b) : OkW (mkW h ks bs dd) := by
  have hp : ((2 ^ h : Nat) : Int) > 0 := by have := Nat.two_pow_pos h; omega
  have mem : ∀ r ∈ (mkW h ks bs dd).L, ∃ i, i < (mkS ks).length ∧ r = mkRf h bs (mkS ks) i := by
    intro r hr
    simp only [mkW, List.mem_map, List.mem_range] at hr
    obtain ⟨i, hi, rfl⟩ := hr
    exact ⟨i, hi, rfl⟩
  refine ⟨h32, fun r hr => ?_, fun r hr => ?_, fun r hr => ?_, ?_, ?_, ?_, ?_⟩
  · obtain ⟨i, hi, rfl⟩ := mem r hr; rfl
  · obtain ⟨i, hi, rfl⟩ := mem r hr
    refine ⟨rfl, ?_, ?_⟩
    · simp only [mkRf]
      split
      · rename_i hl
        obtain ⟨b, hbb⟩ := get_some hl
        rw [List.getD_eq_getElem?_getD, hbb]
        exact Int.tmod_nonneg _ (hb b (List.mem_of_getElem? hbb))
      · exact Int.le_refl _
    · simp only [mkRf, mkW]
      split
      · exact Int.tmod_lt_of_pos _ hp
      · omega
  · obtain ⟨i, hi, rfl⟩ := mem r hr; simp only [mkRf]; omega
  · simp only [mkW]
    rw [List.pairwise_map]
    refine List.Pairwise.imp ?_ (List.pairwise_lt_range)
    intro a b hab
    simp only [mkRf]; omega
  · simp only [mkW]
    rw [List.pairwise_map]
    have hs := (srtN_spec (ks.take 20)).1
    refine List.Pairwise.imp_of_mem ?_ (List.pairwise_lt_range)
    intro a b ha hb hab
    rw [List.mem_range] at ha hb
    simp only [mkRf]
    rw [List.getD_eq_getElem?_getD, List.getD_eq_getElem?_getD, List.getElem?_eq_getElem ha, List.getElem?_eq_getElem hb]
    exact List.pairwise_iff_getElem.1 hs a b ha hb hab
  · simp [mkW, deadOf]
  · simp [mkW, deadOf]
theorem at_r (n : Int) (s : St) : leapfrogref02x_At.r (.int .u64 n) s = some (KV 2 n) := by
  simp only [leapfrogref02x_At.r, leapfrogref02x_At.t, sy, reduceIte, Nat.reduceAdd, Nat.reduceLeDiff, Nat.reduceLT, Nat.reduceEqDiff, Int.reduceEq, Int.reduceLT, Int.reduceLE, Int.reduceNe, ly]
theorem keys_loop {kv bv dv C1 C4 : Value} {h : Int} {ks : List Int} {z1 z4 : List Value} {s : St} (hk : IsR s 1 kv (ks.map UC)) (f : Fresh s) :
    ∃ lv s', iter (leapfroglaw12x_Make.l4 std) BIG [.int .i64 h, kv, bv, dv, .slice none 0 0, .int .i64 ((0 : Nat) : Int), .agg ⟨z1⟩, .agg ⟨z4⟩] s = some ((0, [.int .i64 h, bv, dv, lv, .agg ⟨z1⟩, .agg ⟨z4⟩], s') : Cut) ∧ Ful s.n s' 2 lv ((ks.take 20).map KC) ∧ More s s' ∧ Fresh s' := by
  refine iter_rel (fun d xs s' => ∃ lv i, Ful s.n s' 2 lv ((ks.take i).map KC) ∧ More s s' ∧ Fresh s' ∧ i + d = 20 ∧ (i ≤ ks.length) ∧ xs = [.int .i64 h, kv, bv, dv, lv, .int .i64 (i : Int), .agg ⟨z1⟩, .agg ⟨z4⟩])
    (fun y : Option Cut => ∃ lv s', y = some ((0, [.int .i64 h, bv, dv, lv, .agg ⟨z1⟩, .agg ⟨z4⟩], s') : Cut) ∧ Ful s.n s' 2 lv ((ks.take 20).map KC) ∧ More s s' ∧ Fresh s') ?_ BIG 20 _ s (by unfold BIG; omega) ⟨_, 0, .nil, .refl _, f, by omega, Nat.zero_le _, rfl⟩
  rintro d xs s2 rec ⟨lv, i, hl, hm, hf, hi, hil, rfl⟩ ih
  have hk2 := hk.more hm f
  have hlen := hk2.len
  rw [List.length_map] at hlen
  by_cases hlt : i < ks.length
  · have e1 : (i : Int) < ks.length := by omega
    cases d with
    | zero =>
      have e2 : ¬ ((i : Int) < 20) := by omega
      have : i = 20 := by omega
      subst this
      exact ⟨lv, s2, by simp only [leapfroglaw12x_Make.l4, sy, reduceIte, Nat.reduceAdd, Nat.reduceLeDiff, Nat.reduceLT, Nat.reduceEqDiff, Int.reduceEq, Int.reduceLT, Int.reduceLE, Int.reduceNe, ly, hlen, e1, e2], hl, hm, hf⟩
    | succ d =>
      have e2 : (i : Int) < 20 := by omega
      obtain ⟨x, hx⟩ := get_some hlt
      have e5 : IntKind.i64.wrap ((i : Int) + 1) = ((i + 1 : Nat) : Int) := by rw [wrap64 (by omega) (by omega)]; omega
      obtain ⟨b2, all2, ro2, c1, c2, c3⟩ := hk2.at (uc_get hx)
      have ha := at_r x s2
      have hll : ((ks.take i).map KC).length ≤ 20 := by rw [List.length_map, List.length_take]; omega
      obtain ⟨v2, s3, g1, g2, g3, g4, _⟩ := push hf hl hm (by_ := 16) (KC x) (by omega) (by omega)
      have fin : leapfroglaw12x_Make.l4 std rec [.int .i64 h, kv, bv, dv, lv, .int .i64 (i : Int), .agg ⟨z1⟩, .agg ⟨z4⟩] s2 = rec [.int .i64 h, kv, bv, dv, v2, .int .i64 ((i + 1 : Nat) : Int), .agg ⟨z1⟩, .agg ⟨z4⟩] s3 := by
        simp only [leapfroglaw12x_Make.l4, sy, reduceIte, Nat.reduceAdd, Nat.reduceLeDiff, Nat.reduceLT, Nat.reduceEqDiff, Int.reduceEq, Int.reduceLT, Int.reduceLE, Int.reduceNe, ly, hlen, e1, e2, c1, ldc_row c2, c3, ha, als_eq, Nat.reduceMul, g1, e5]
      rw [fin]
      refine ih d _ _ (by omega) ⟨v2, i + 1, ?_, g2, g4, by omega, by omega, rfl⟩
      rw [List.take_add_one, hx, List.map_append]
      exact g3
  · have e1 : ¬ ((i : Int) < ks.length) := by omega
    refine ⟨lv, s2, by simp only [leapfroglaw12x_Make.l4, sy, reduceIte, Nat.reduceAdd, Nat.reduceLeDiff, Nat.reduceLT, Nat.reduceEqDiff, Int.reduceEq, Int.reduceLT, Int.reduceLE, Int.reduceNe, ly, hlen, e1], ?_, hm, hf⟩
    rw [List.take_of_length_le (by omega)] at hl ⊢
    exact hl
theorem make_loop {sv bv dv : Value} {h : Nat} {ks bs : List Int} {dd : List Bool} {z1 : List Value} {s0 s : St} (h32 : h ≤ 32) (hs : IsR s 2 sv ((mkS ks).map KC)) (hb : IsR s0 1 bv (bs.map UC)) (hd : IsR s0 1 dv (dd.map BC)) (f0 : Fresh s0) (m0' : More s0 s) (f : Fresh s) :
    ∃ lv dv' s', iter (leapfroglaw12x_Make.l9 std) BIG [.int .i64 (h : Int), bv, dv, sv, .int .i64 ((0 : Nat) : Int), .agg ⟨z1⟩, .agg ⟨[.int .i64 (h : Int), .slice none 0 0, .slice none 0 0]⟩] s = some ((0, [.agg ⟨z1⟩, .agg ⟨[.int .i64 (h : Int), lv, dv']⟩], s') : Cut) ∧
      IsR s' 5 lv ((mkW h ks bs dd).L.map Rf.cs) ∧ IsR s' 1 dv' ((mkD ks dd).map BC) ∧ More s0 s' ∧ Fresh s' := by
  have hS := mkS_len ks
  refine iter_rel (fun d xs s' => ∃ lv dv' i, Ful s.n s' 5 lv (((List.range i).map (mkRf h bs (mkS ks))).map Rf.cs) ∧ Ful s.n s' 1 dv' (((List.range i).map fun i => dd.getD i false).map BC) ∧ More s s' ∧ Fresh s' ∧ i + d = (mkS ks).length ∧ xs = [.int .i64 (h : Int), bv, dv, sv, .int .i64 (i : Int), .agg ⟨z1⟩, .agg ⟨[.int .i64 (h : Int), lv, dv']⟩])
    (fun y : Option Cut => ∃ lv dv' s', y = some ((0, [.agg ⟨z1⟩, .agg ⟨[.int .i64 (h : Int), lv, dv']⟩], s') : Cut) ∧ IsR s' 5 lv ((mkW h ks bs dd).L.map Rf.cs) ∧ IsR s' 1 dv' ((mkD ks dd).map BC) ∧ More s0 s' ∧ Fresh s') ?_ BIG (mkS ks).length _ s (by unfold BIG; omega) ⟨_, _, 0, .nil, .nil, .refl _, f, by omega, rfl⟩
  rintro d xs s2 rec ⟨lv, dv', i, hl, hd', hm, hf, hi, rfl⟩ ih
  have hsv := hs.more hm f
  have hlen := hsv.len
  rw [List.length_map] at hlen
  cases d with
  | zero =>
    have e1 : ¬ ((i : Int) < (mkS ks).length) := by omega
    have : i = (mkS ks).length := by omega
    subst this
    exact ⟨lv, dv', s2, by simp only [leapfroglaw12x_Make.l9, sy, reduceIte, Nat.reduceAdd, Nat.reduceLeDiff, Nat.reduceLT, Nat.reduceEqDiff, Int.reduceEq, Int.reduceLT, Int.reduceLE, Int.reduceNe, ly, hlen, e1], hl.isR, hd'.isR, m0'.trans hm, hf⟩
  | succ d =>
    have e1 : (i : Int) < (mkS ks).length := by omega
    obtain ⟨x, hx⟩ := get_some (l := mkS ks) (j := i) (by omega)
    have e5 : IntKind.i64.wrap ((i : Int) + 1) = ((i + 1 : Nat) : Int) := by rw [wrap64 (by omega) (by omega)]; omega
    have e6 : IntKind.i64.wrap ((i : Int) + 2) = (i : Int) + 2 := wrap64 (by omega) (by omega)
    have hxD : (mkS ks).getD i 0 = x := by rw [List.getD_eq_getElem?_getD, hx]; rfl
    obtain ⟨b2, all2, ro2, c1, c2, c3⟩ := hsv.at (kc_get hx)
    have hb2 := hb.more (m0'.trans hm) f0
    have hblen := hb2.len
    rw [List.length_map] at hblen
    have ec : IntKind.u64.wrap (h : Int) = (h : Int) := wrapu64 (by omega) (by omega)
    have hpw : 2 ^ h < 2 ^ 64 := Nat.pow_lt_pow_right (by omega) (by omega)
    have esh : bin .shl (.int .u64 1) (.int .u64 (h : Int)) = some (.int .u64 ((2 ^ h : Nat) : Int)) := by
      have := shl_u64 (a := 1) (k := h) (k' := .u64) (by omega) (by rw [Nat.one_mul]; exact hpw)
      rw [Nat.one_mul] at this
      exact this
    have hpz : ((2 ^ h : Nat) : Int) ≠ 0 := by have := Nat.two_pow_pos h; omega
    obtain ⟨bt, hbt⟩ : ∃ bt, bt = (mkRf h bs (mkS ks) i).bt := ⟨_, rfl⟩
    -- the first push
    have hll : (((List.range i).map (mkRf h bs (mkS ks))).map Rf.cs).length ≤ 20 := by rw [List.length_map, List.length_map, List.length_range]; omega
    have hdl : (((List.range i).map fun i => dd.getD i false).map BC).length ≤ 20 := by rw [List.length_map, List.length_map, List.length_range]; omega
    have hcs : (mkRf h bs (mkS ks) i).cs = [.int .i64 ((i : Int) + 2), .int .i64 2, .int .u64 x, .int .i64 (h : Int), .int .u64 bt] := by rw [hbt, ← hxD]; rfl
    obtain ⟨v2, s3, g1, g2, g3, g4, g5⟩ := push hf hl hm (by_ := 40) (mkRf h bs (mkS ks) i).cs (by omega) (by omega)
    rw [hcs] at g1
    have hsv3 := hs.more g2 f
    obtain ⟨b3, all3, ro3, x1, x2, x3⟩ := hsv3.at (kc_get hx)
    have hbb : b3 = b2 := by
      have y1 := hsv.blk (kc_get hx) c1
      have y2 := hsv3.blk (kc_get hx) x1
      rw [← y1] at y2
      simpa using y2
    subst hbb
    have hd2 := hd.more (m0'.trans g2) f0
    have hdlen := hd2.len
    rw [List.length_map] at hdlen
    have hd'3 := hd'.stp g5 (by simp)
    obtain ⟨w2, s4, y1, y2, y3, y4, y5⟩ := push g4 hd'3 g2 (by_ := 1) (BC (dd.getD i false)) (by omega) (by omega)
    have hd4 := hd.more (m0'.trans y2) f0
    have hdlen4 := hd4.len
    rw [List.length_map] at hdlen4
    have goal : leapfroglaw12x_Make.l9 std rec [.int .i64 (h : Int), bv, dv, sv, .int .i64 (i : Int), .agg ⟨z1⟩, .agg ⟨[.int .i64 (h : Int), lv, dv']⟩] s2 = rec [.int .i64 (h : Int), bv, dv, sv, .int .i64 ((i + 1 : Nat) : Int), .agg ⟨z1⟩, .agg ⟨[.int .i64 (h : Int), v2, w2]⟩] s4 := by
      have bxv : bx v2 = some [v2] := g3.isR.bx
      have bxw : bx w2 = some [w2] := y3.isR.bx
      have k2' : ∀ a b : Int, sameV (.agg ⟨[.int .i64 a, .int .u64 b]⟩) (.agg ⟨[.int .i64 a, .int .u64 b]⟩) = true := fun a b => by simp [sameV, sameVs]
      by_cases hdi : i < dd.length
      · have d1 : (i : Int) < dd.length := by omega
        obtain ⟨z, hz⟩ := get_some hdi
        have hzD : dd.getD i false = z := by rw [List.getD_eq_getElem?_getD, hz]; rfl
        rw [hzD] at y1
        obtain ⟨b5, all5, ro5, p1, p2, p3⟩ := hd2.at (bc_get hz)
        obtain ⟨b6, all6, ro6, q1, q2, q3⟩ := hd4.at (bc_get hz)
        have hbb : b6 = b5 := by
          have y1 := hd2.blk (bc_get hz) p1
          have y2 := hd4.blk (bc_get hz) q1
          rw [← y1] at y2
          simpa using y2
        subst hbb
        by_cases hbi : i < bs.length
        · have b1 : (i : Int) < bs.length := by omega
          obtain ⟨y, hy⟩ := get_some hbi
          obtain ⟨b7, all7, ro7, u1, u2, u3⟩ := hb2.at (uc_get hy)
          have hbt' : bt = y.tmod ((2 ^ h : Nat) : Int) := by rw [hbt]; simp only [mkRf, if_pos hbi, List.getD_eq_getElem?_getD, hy, Option.getD_some]
          subst hbt'
          simp only [leapfroglaw12x_Make.l9, leapfroglaw12x_Make.l9.p1, sy, reduceIte, Nat.reduceAdd, Nat.reduceLeDiff, Nat.reduceLT, Nat.reduceEqDiff, Int.reduceEq, Int.reduceLT, Int.reduceLE, Int.reduceNe, ly, hlen, e1, hblen, b1, u1, ldc_row u2, u3, ec, esh, bin_rem hpz, e6, c1, lda_row c2, c3, als_eq, Nat.reduceMul, g1, x1, lda_row x2, x3, samePj, k2', bxv, hdlen, d1, p1, ldc_row p2, p3, y1, hdlen4, sameII, q1, ldc_row q2, q3, sameB, bxw, e5]
        · have b1 : ¬ ((i : Int) < bs.length) := by omega
          have hbt' : bt = 0 := by rw [hbt]; simp only [mkRf, if_neg hbi]
          subst hbt'
          simp only [leapfroglaw12x_Make.l9, leapfroglaw12x_Make.l9.p1, sy, reduceIte, Nat.reduceAdd, Nat.reduceLeDiff, Nat.reduceLT, Nat.reduceEqDiff, Int.reduceEq, Int.reduceLT, Int.reduceLE, Int.reduceNe, ly, hlen, e1, hblen, b1, e6, c1, lda_row c2, c3, als_eq, Nat.reduceMul, g1, x1, lda_row x2, x3, samePj, k2', bxv, hdlen, d1, p1, ldc_row p2, p3, y1, hdlen4, sameII, q1, ldc_row q2, q3, sameB, bxw, e5]
      · have d1 : ¬ ((i : Int) < dd.length) := by omega
        have hzD : dd.getD i false = false := by rw [List.getD_eq_getElem?_getD, List.getElem?_eq_none (by omega)]; rfl
        rw [hzD] at y1
        by_cases hbi : i < bs.length
        · have b1 : (i : Int) < bs.length := by omega
          obtain ⟨y, hy⟩ := get_some hbi
          obtain ⟨b7, all7, ro7, u1, u2, u3⟩ := hb2.at (uc_get hy)
          have hbt' : bt = y.tmod ((2 ^ h : Nat) : Int) := by rw [hbt]; simp only [mkRf, if_pos hbi, List.getD_eq_getElem?_getD, hy, Option.getD_some]
          subst hbt'
          simp only [leapfroglaw12x_Make.l9, leapfroglaw12x_Make.l9.p1, sy, reduceIte, Nat.reduceAdd, Nat.reduceLeDiff, Nat.reduceLT, Nat.reduceEqDiff, Int.reduceEq, Int.reduceLT, Int.reduceLE, Int.reduceNe, ly, hlen, e1, hblen, b1, u1, ldc_row u2, u3, ec, esh, bin_rem hpz, e6, c1, lda_row c2, c3, als_eq, Nat.reduceMul, g1, x1, lda_row x2, x3, samePj, k2', bxv, hdlen, d1, y1, hdlen4, sameII, sameU, bxw, e5]
        · have b1 : ¬ ((i : Int) < bs.length) := by omega
          have hbt' : bt = 0 := by rw [hbt]; simp only [mkRf, if_neg hbi]
          subst hbt'
          simp only [leapfroglaw12x_Make.l9, leapfroglaw12x_Make.l9.p1, sy, reduceIte, Nat.reduceAdd, Nat.reduceLeDiff, Nat.reduceLT, Nat.reduceEqDiff, Int.reduceEq, Int.reduceLT, Int.reduceLE, Int.reduceNe, ly, hlen, e1, hblen, b1, e6, c1, lda_row c2, c3, als_eq, Nat.reduceMul, g1, x1, lda_row x2, x3, samePj, k2', bxv, hdlen, d1, y1, hdlen4, sameII, sameU, bxw, e5]
    rw [goal]
    refine ih d _ _ (by omega) ⟨v2, w2, i + 1, ?_, ?_, y2, y4, by omega, rfl⟩
    · rw [List.range_succ, List.map_append, List.map_append]
      exact g3.stp y5 (by simp)
    · rw [List.range_succ, List.map_append, List.map_append]
      exact y3
theorem make_r {kv bv dv : Value} {h : Nat} {ks bs : List Int} {dd : List Bool} {s : St} (h32 : h ≤ 32) (hk : IsR s 1 kv (ks.map UC)) (hb : IsR s 1 bv (bs.map UC)) (hd : IsR s 1 dv (dd.map BC)) (hb0 : ∀ b ∈ bs, 0 ≤ b) (f : Fresh s) :
    ∃ lv dv' s', leapfroglaw12x_Make.v (.int .i64 (h : Int)) kv bv dv s = some (WV (mkW h ks bs dd) lv dv', s') ∧ WdAt (mkW h ks bs dd) (mkD ks dd) s' lv dv' ∧ More s s' ∧ Fresh s' := by
  obtain ⟨v1, s1, e1, h1, m1, f1⟩ := keys_loop (C1 := undef) (C4 := undef) (bv := bv) (dv := dv) (h := (h : Int)) (z1 := [.int .i64 0, .slice none 0 0, .slice none 0 0]) (z4 := [.int .i64 (h : Int), .slice none 0 0, .slice none 0 0]) hk f
  obtain ⟨v2, s2, e2, h2, m2, f2⟩ := sorted_r h1.isR f1 (by rw [List.length_take]; omega)
  obtain ⟨lv, dv', s3, e3, h3, h4, m3, f3⟩ := make_loop (ks := ks) (z1 := [.int .i64 0, .slice none 0 0, .slice none 0 0]) h32 h2 hb hd f (m1.trans m2) f2
  rw [show ((0 : Nat) : Int) = 0 from rfl] at e1 e3
  refine ⟨lv, dv', s3, ?_, ⟨h3, h4, rfl, mkW_ok h32 hb0, ?_, ?_⟩, m3, f3⟩
  · simp only [leapfroglaw12x_Make.v, leapfroglaw12x_Make.t, sy, reduceIte, Nat.reduceAdd, Nat.reduceLeDiff, Nat.reduceLT, Nat.reduceEqDiff, Int.reduceEq, Int.reduceLT, Int.reduceLE, Int.reduceNe, ly, e1, e2, e3]
    rfl
  · have := mkS_len ks
    simp only [mkW, List.length_map, List.length_range]; omega
  · simp [mkW, mkD]
end Go.Proofs.Ytonnegfkokghdaa
