/-
  The breaks that there are.
-/
import Derived.Test.YtogcfnhbacglfaaPrbJ
set_option linter.unusedSimpArgs false
set_option linter.unusedVariables false
set_option maxRecDepth 100000
set_option maxHeartbeats 4000000
namespace Go.Proofs.Ytogcfnhbacglfaa
open Go.Sim Go.Sim.Bt
attribute [local congr] bdc cndc itec gdc gdSc gdUc

theorem want_step {W : Wd} {ds odd : List Bool} {c : Pc} {lv dv ov sv wv : Value} {cb Q i : Nat} {s0 s : St} (h : Fix W ds odd c lv dv ov sv cb s0) (f0 : Fresh s0) (hm : More s0 s) (f : Fresh s) (hl : c.ls.length ≤ 1024)
    (hv : Ful s0.n s 8 wv ((allB W odd c i).map Bk.c8)) (hi : i < c.ls.length) (rec : List Value → St → Option Cut) :
    ∃ wv' s', leapfroglaw19x_ProbeFinds.l21 std rec [ov, PU cb, PU Q, wv, .int .i64 (i : Int), WV W lv dv, .agg ⟨c.me.cs⟩] s = rec [ov, PU cb, PU Q, wv', .int .i64 ((i + 1 : Nat) : Int), WV W lv dv, .agg ⟨c.me.cs⟩] s' ∧
      More s0 s' ∧ Fresh s' ∧ Ful s0.n s' 8 wv' ((allB W odd c (i + 1)).map Bk.c8) := by
  obtain ⟨w, hw⟩ := get_some hi
  have hlen := h.l.len
  rw [List.length_map] at hlen
  have e1 : (i : Int) < (c.ls.length : Int) := by omega
  have e5 : IntKind.i64.wrap ((i : Int) + 1) = ((i + 1 : Nat) : Int) := by rw [wrap64 (by omega) (by omega)]; omega
  have hw0 := h.p w (List.mem_of_getElem? hw)
  have H := h.more hm f0
  have hc := H.cr
  obtain ⟨all0, ro0, i1, i2, i3⟩ := H.l.atB (v2_get hw)
  have sm := H.l.same
  have sw := same2p w
  -- the peer's own answer
  obtain ⟨s1, a1, a2, a3⟩ := answer_o (k := 0) (t := c.me) (a := ⟨0, w.1, w.2, zR, zR, 0, 0⟩) (r := zRes) H.w H.o f hw0
  simp only at a1
  obtain ⟨z1, _, z2, _⟩ := keep13 s (⟨0, false, zR, zR, .slice none 0 0⟩) f
  have hbk := allB_succ W odd c i
  have hbl := allB_len W odd c i
  unfold brk at hbk
  rw [hw] at hbk
  simp only at hbk
  generalize ansO W odd c.me.id w.1 w.2 = a at *
  obtain ⟨y1, s2, b1, b2, b3, b4, b5⟩ := keep13 s1 a a3
  have H1 := H.more a2 f
  have hc1 := H1.cr
  obtain ⟨all1, ro1, j1, j2, j3⟩ := H1.l.atB (v2_get hw)
  have m2 := a2.trans b4
  have hv2 := hv.more m2 f
  have lk := rless_r c.me.rk c.me.n a.r.rk a.r.n s2
  have hkv : ∀ r n, KV r n = .agg ⟨[.int .i64 r, .int .u64 n]⟩ := fun _ _ => rfl
  rw [hkv, hkv] at lk
  by_cases k1 : a.k = 1
  · by_cases k2 : lessK c.me.rk c.me.n a.r.rk a.r.n
    · rw [if_pos ⟨k1, k2⟩] at hbk
      rw [decide_eq_true k2] at lk
      have k1 := eq_true k1
      -- the right side's answer
      have H2 := H1.more b4 a3
      have hc2 := H2.cr
      obtain ⟨all2, ro2, l1, l2, l3⟩ := H2.l.atB (v2_get hw)
      obtain ⟨s3, d1, d2, d3⟩ := answer_o (k := 0) (t := a.r) (a := ⟨0, w.1, w.2, zR, zR, 0, 0⟩) (r := zRes) H2.w H2.o b5 hw0
      simp only at d1
      obtain ⟨x1, _, x2, _⟩ := keep13 s2 (⟨0, false, zR, zR, .slice none 0 0⟩) b5
      generalize ansO W odd a.r.id w.1 w.2 = b at *
      obtain ⟨y2, s4, g1, g2, g3, g4, g5⟩ := keep13 s3 b d3
      have H3 := H2.more d2 b5
      have hc3 := H3.cr
      have b33 := d2.get b5 b3
      obtain ⟨all3, ro3, n1, n2, n3⟩ := H3.l.atB (v2_get hw)
      have H4 := H3.more g4 d3
      have hc4 := H4.cr
      have b34 := g4.get d3 b33
      obtain ⟨all4, ro4, o1, o2, o3⟩ := H4.l.atB (v2_get hw)
      have sr := same5p a.r
      have hv4 := hv2.more (d2.trans g4) b5
      have m4 : More s0 s4 := hm.trans (m2.trans (d2.trans g4))
      have hss := eqks_g b.l c.me
      have new : ∀ (k : Int), ∃ sF bv', app (s4.new (.row 8 [(⟨w.1, w.2, k, a.r, (i : Int)⟩ : Bk).c8] false)) 8 64 wv (.slice (some ⟨s4.n, 0, some 0⟩) 1 2) = some (bv', sF) ∧ Ful s0.n sF 8 bv' ((allB W odd c i ++ [(⟨w.1, w.2, k, a.r, (i : Int)⟩ : Bk)]).map Bk.c8) ∧ More s0 sF ∧ Fresh sF ∧ StpK [8] s4 sF := by
        intro k
        obtain ⟨bv', sF, p1, p2, p3, p4, p5⟩ := push (s0 := s0) g5 hv4 m4 (by_ := 64) (⟨w.1, w.2, k, a.r, (i : Int)⟩ : Bk).c8 (by rw [List.length_map]; omega) (by rw [List.length_map]; omega)
        exact ⟨sF, bv', p1, by rw [List.map_append]; exact p3, p2, p4, p5⟩
      by_cases k3 : b.k = 3
      · have hf : foundC c ⟨i, true, a.r, []⟩ b w = [⟨w.1, w.2, 1, a.r, i⟩] := by unfold foundC; rw [if_pos k3]
        have k3 := eq_true k3
        obtain ⟨sF, wv', p1, p2, p3, p4, p5⟩ := new 1
        have HF := H4.stp p5 (by decide) (by decide) (by decide) (by decide)
        have hcF := HF.cr
        have bF := p5.row b34 (by decide)
        obtain ⟨allF, roF, q1, q2, q3⟩ := HF.l.atB (v2_get hw)
        refine ⟨wv', sF, ?_, p3, p4, by rw [hbk, hf]; exact p2⟩
        simp only [leapfroglaw19x_ProbeFinds.l21, leapfroglaw19x_ProbeFinds.l21.p4, leapfroglaw19x_ProbeFinds.l21.p3, leapfroglaw19x_ProbeFinds.l21.p2, sy, reduceIte, Nat.reduceAdd, Nat.reduceLeDiff, Nat.reduceLT, Nat.reduceEqDiff, Int.reduceEq, Int.reduceLT, Int.reduceLE, Int.reduceNe, ly, ldc_row hc, hlen, e1, i1, lda_row i2, i3, z2, a1, ldc_row hc1, sm, j1, samePj, lda_row j2, j3, sw, b1, b2, ldc_row b3, lda_row b3, k1, lk, e5, ldc_row hc2, l1, lda_row l2, l3, x2, d1, lda_row b33, sr, ldc_row hc3, n1, lda_row n2, n3, g1, g2, ldc_row g3, lda_row g3, ldc_row hc4, lda_row b34, o1, lda_row o2, o3, k3, als_eq, p1, ldc_row hcF, q1, lda_row q2, q3, lda_row bF]
      · by_cases k4 : b.k = 1
        · by_cases hs : sameG b.l c.me = true
          · have hf : foundC c ⟨i, true, a.r, []⟩ b w = [] := by unfold foundC; rw [if_neg k3, if_neg (fun e => e.2 ((sameG_iff _ _).1 hs))]
            rw [hs] at hss
            have k4 := eq_true k4
            refine ⟨wv, s4, ?_, m4, g5, by rw [hbk, hf, List.append_nil]; exact hv4⟩
            simp only [leapfroglaw19x_ProbeFinds.l21, leapfroglaw19x_ProbeFinds.l21.p4, leapfroglaw19x_ProbeFinds.l21.p3, leapfroglaw19x_ProbeFinds.l21.p2, leapfroglaw19x_ProbeFinds.l21.p1, neb_agg, sy, reduceIte, Nat.reduceAdd, Nat.reduceLeDiff, Nat.reduceLT, Nat.reduceEqDiff, Int.reduceEq, Int.reduceLT, Int.reduceLE, Int.reduceNe, ly, ldc_row hc, hlen, e1, i1, lda_row i2, i3, z2, a1, ldc_row hc1, sm, j1, samePj, lda_row j2, j3, sw, b1, b2, ldc_row b3, lda_row b3, k1, lk, e5, ldc_row hc2, l1, lda_row l2, l3, x2, d1, lda_row b33, sr, ldc_row hc3, n1, lda_row n2, n3, g1, g2, ldc_row g3, lda_row g3, ldc_row hc4, lda_row b34, o1, lda_row o2, o3, k3, k4, hss]
          · have hs' : sameG b.l c.me = false := by simpa using hs
            rw [hs'] at hss
            have hf : foundC c ⟨i, true, a.r, []⟩ b w = [⟨w.1, w.2, 2, a.r, i⟩] := by unfold foundC; rw [if_neg k3, if_pos ⟨k4, fun e => hs ((sameG_iff _ _).2 e)⟩]
            have k4 := eq_true k4
            obtain ⟨sF, wv', p1, p2, p3, p4, p5⟩ := new 2
            have HF := H4.stp p5 (by decide) (by decide) (by decide) (by decide)
            have hcF := HF.cr
            have bF := p5.row b34 (by decide)
            obtain ⟨allF, roF, q1, q2, q3⟩ := HF.l.atB (v2_get hw)
            refine ⟨wv', sF, ?_, p3, p4, by rw [hbk, hf]; exact p2⟩
            simp only [leapfroglaw19x_ProbeFinds.l21, leapfroglaw19x_ProbeFinds.l21.p4, leapfroglaw19x_ProbeFinds.l21.p3, leapfroglaw19x_ProbeFinds.l21.p2, leapfroglaw19x_ProbeFinds.l21.p1, neb_agg, sy, reduceIte, Nat.reduceAdd, Nat.reduceLeDiff, Nat.reduceLT, Nat.reduceEqDiff, Int.reduceEq, Int.reduceLT, Int.reduceLE, Int.reduceNe, ly, ldc_row hc, hlen, e1, i1, lda_row i2, i3, z2, a1, ldc_row hc1, sm, j1, samePj, lda_row j2, j3, sw, b1, b2, ldc_row b3, lda_row b3, k1, lk, e5, ldc_row hc2, l1, lda_row l2, l3, x2, d1, lda_row b33, sr, ldc_row hc3, n1, lda_row n2, n3, g1, g2, ldc_row g3, lda_row g3, ldc_row hc4, lda_row b34, o1, lda_row o2, o3, k3, k4, hss, als_eq, p1, ldc_row hcF, q1, lda_row q2, q3, lda_row bF]
        · have hf : foundC c ⟨i, true, a.r, []⟩ b w = [] := by unfold foundC; rw [if_neg k3, if_neg (fun e => k4 e.1)]
          refine ⟨wv, s4, ?_, m4, g5, by rw [hbk, hf, List.append_nil]; exact hv4⟩
          simp only [leapfroglaw19x_ProbeFinds.l21, leapfroglaw19x_ProbeFinds.l21.p4, leapfroglaw19x_ProbeFinds.l21.p3, leapfroglaw19x_ProbeFinds.l21.p2, leapfroglaw19x_ProbeFinds.l21.p1, neb_agg, sy, reduceIte, Nat.reduceAdd, Nat.reduceLeDiff, Nat.reduceLT, Nat.reduceEqDiff, Int.reduceEq, Int.reduceLT, Int.reduceLE, Int.reduceNe, ly, ldc_row hc, hlen, e1, i1, lda_row i2, i3, z2, a1, ldc_row hc1, sm, j1, samePj, lda_row j2, j3, sw, b1, b2, ldc_row b3, lda_row b3, k1, lk, e5, ldc_row hc2, l1, lda_row l2, l3, x2, d1, lda_row b33, sr, ldc_row hc3, n1, lda_row n2, n3, g1, g2, ldc_row g3, lda_row g3, ldc_row hc4, lda_row b34, o1, lda_row o2, o3, k3, k4]
    · rw [if_neg (fun e => k2 e.2), List.append_nil] at hbk
      rw [decide_eq_false k2] at lk
      have k1 := eq_true k1
      refine ⟨wv, s2, ?_, hm.trans m2, b5, by rw [hbk]; exact hv2⟩
      simp only [leapfroglaw19x_ProbeFinds.l21, leapfroglaw19x_ProbeFinds.l21.p4, sy, reduceIte, Nat.reduceAdd, Nat.reduceLeDiff, Nat.reduceLT, Nat.reduceEqDiff, Int.reduceEq, Int.reduceLT, Int.reduceLE, Int.reduceNe, ly, ldc_row hc, hlen, e1, i1, lda_row i2, i3, z2, a1, ldc_row hc1, sm, j1, samePj, lda_row j2, j3, sw, b1, b2, ldc_row b3, lda_row b3, k1, lk, e5]
  · rw [if_neg (fun e => k1 e.1), List.append_nil] at hbk
    refine ⟨wv, s2, ?_, hm.trans m2, b5, by rw [hbk]; exact hv2⟩
    simp only [leapfroglaw19x_ProbeFinds.l21, leapfroglaw19x_ProbeFinds.l21.p4, sy, reduceIte, Nat.reduceAdd, Nat.reduceLeDiff, Nat.reduceLT, Nat.reduceEqDiff, Int.reduceEq, Int.reduceLT, Int.reduceLE, Int.reduceNe, ly, ldc_row hc, hlen, e1, i1, lda_row i2, i3, z2, a1, ldc_row hc1, sm, j1, samePj, lda_row j2, j3, sw, b1, b2, ldc_row b3, lda_row b3, k1, e5]
theorem want_loop {W : Wd} {ds odd : List Bool} {c : Pc} {lv dv ov sv : Value} {cb Q : Nat} {s : St} (h : Fix W ds odd c lv dv ov sv cb s) (f : Fresh s) (hl : c.ls.length ≤ 1024) :
    ∃ wv s', iter (leapfroglaw19x_ProbeFinds.l21 std) BIG [ov, PU cb, PU Q, .slice none 0 0, .int .i64 ((0 : Nat) : Int), WV W lv dv, .agg ⟨c.me.cs⟩] s = some ((0, [PU Q, wv], s') : Cut) ∧ More s s' ∧ Fresh s' ∧ IsR s' 8 wv ((allB W odd c c.ls.length).map Bk.c8) := by
  refine iter_rel (fun d xs s' => ∃ (i : Nat) (wv : Value), i + d = c.ls.length ∧ More s s' ∧ Fresh s' ∧ Ful s.n s' 8 wv ((allB W odd c i).map Bk.c8) ∧ xs = [ov, PU cb, PU Q, wv, .int .i64 (i : Int), WV W lv dv, .agg ⟨c.me.cs⟩])
    (fun y : Option Cut => ∃ wv s', y = some ((0, [PU Q, wv], s') : Cut) ∧ More s s' ∧ Fresh s' ∧ IsR s' 8 wv ((allB W odd c c.ls.length).map Bk.c8)) ?_ BIG c.ls.length _ s (by unfold BIG; omega) ⟨0, _, by omega, .refl _, f, .inl ⟨rfl, by simp [allB]⟩, rfl⟩
  rintro d xs s2 rec ⟨i, wv, hi, hm, hf, hv, rfl⟩ ih
  cases d with
  | zero =>
    have hlen := h.l.len
    rw [List.length_map] at hlen
    have hc := (h.more hm f).cr
    have e1 : ¬ (i : Int) < (c.ls.length : Int) := by omega
    have hi : i = c.ls.length := by omega
    subst hi
    exact ⟨wv, s2, by simp only [leapfroglaw19x_ProbeFinds.l21, sy, reduceIte, Nat.reduceAdd, Nat.reduceLeDiff, Nat.reduceLT, Nat.reduceEqDiff, Int.reduceEq, Int.reduceLT, Int.reduceLE, Int.reduceNe, ly, ldc_row hc, hlen, e1], hm, hf, hv.isR⟩
  | succ d =>
    obtain ⟨wv', s3, p1, p2, p3, p4⟩ := want_step (Q := Q) h f hm hf hl hv (by omega) rec
    rw [p1]
    exact ih d _ s3 (by omega) ⟨i + 1, wv', by omega, p2, p3, p4, rfl⟩
end Go.Proofs.Ytogcfnhbacglfaa
