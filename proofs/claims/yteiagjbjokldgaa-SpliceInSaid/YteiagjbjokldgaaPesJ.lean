/-
  Law 13's list of peers, whole.
-/
import Derived.Test.YteiagjbjokldgaaPesI
set_option linter.unusedSimpArgs false
set_option linter.unusedVariables false
set_option maxRecDepth 100000
set_option maxHeartbeats 4000000
namespace Go.Proofs.Yteiagjbjokldgaa
open Go.Sim Go.Sim.Bt
attribute [local congr] bdc cndc itec gdc gdSc gdUc

/-- A list of peers in memory. -/
structure Lst (wl wb : Int) (R A : List Rf) (rv pv : Value) (Xb : Nat) (ps : List (Pr × Nat)) (g : Nat → Option Rc) (s : St) : Prop where
  x : s.get Xb = some (.row 4 [xrow wl wb rv pv] false)
  r : IsR s 5 rv (R.map Rf.cs)
  W : Wn wl wb A pv ps g s
  p : Ful 0 s 1 pv (ps.map PB)
  sp : SpV ps pv
  f : Fresh s
/-- One ask in it. -/
theorem Lst.did {wl wb : Int} {R A : List Rf} {rv pv : Value} {Xb : Nat} {ps : List (Pr × Nat)} {g : Nat → Option Rc} {s : St} {i : Nat} {t : Int} {ak : AskP} {a : Ans} {x : Option Rc} (L : Lst wl wb R A rv pv Xb ps g s) (D : Did wl wb A pv ps g s i t ak a x) :
    ∃ b w s' ps', idx s 1 pv (.int .i64 (i : Int)) = some (.pointer (some ⟨blkOf pv, i, some 0⟩)) ∧ ldc s (.pointer (some ⟨blkOf pv, i, some 0⟩)) = some (PP b) ∧ leapfrogref09x_Peer_Ask.v (PP b) (.int .i64 t) (.agg ⟨ak.cs⟩) s = some (.tuple ⟨[w, .int .i64 0]⟩, s') ∧ Told s' w t a ∧
      idx s' 1 pv (.int .i64 (i : Int)) = some (.pointer (some ⟨blkOf pv, i, some 0⟩)) ∧ ldc s' (.pointer (some ⟨blkOf pv, i, some 0⟩)) = some (PP b) ∧ StpK [11] s s' ∧ Lst wl wb R A rv pv Xb ps' (upd g i x) s' := by
  obtain ⟨p, b, w, s', ps', hq, e, told, k, f', W', hm, sv⟩ := D
  have P' : Ful 0 s' 1 pv (ps'.map PB) := by rw [hm]; exact L.p.stp k (by simp)
  obtain ⟨_, _, i1, i2, i3⟩ := L.W.p.at2 (pb_get hq)
  have q2 : (ps'.map PB)[i]? = some [PP b] := by rw [hm]; exact pb_get hq
  obtain ⟨_, _, j1, j2, j3⟩ := P'.isR.at2 q2
  exact ⟨b, w, s', ps', i1, by rw [ldc_row i2, i3]; rfl, e, told, j1, by rw [ldc_row j2, j3]; rfl, k, k.row L.x (by simp), L.r.stp k (by simp), W', P', sv.sp L.sp, f'⟩
theorem Lst.cg {wl wb : Int} {R A : List Rf} {rv pv : Value} {Xb : Nat} {ps : List (Pr × Nat)} {g g' : Nat → Option Rc} {s : St} (L : Lst wl wb R A rv pv Xb ps g s) (h : ∀ j, j < A.length → g' j = g j) : Lst wl wb R A rv pv Xb ps g' s :=
  ⟨L.x, L.r, L.W.cg h, L.p, L.sp, L.f⟩
theorem rec0_at {h wl wb : Int} {R : List Rf} (hR : OkRw h wl wb R) (h2 : R.length = 2) {j : Nat} (hj : j < R.length) : rec0 h wl wb R j = recV wl wb R j := by
  have hf := hR.first
  have hl := hR.last
  rw [h2] at hl
  unfold rec0 recV
  by_cases c : j = 0
  · subst c; rw [if_pos rfl, if_pos rfl, getD_some hl]
  · have : j = 1 := by omega
    subst this
    rw [if_neg (by omega), if_pos (by omega), if_neg (by omega), getD_some hf]
    have : R.getD (1 + 1) zR = zR := by rw [List.getD_eq_getElem?_getD, List.getElem?_eq_none_iff.2 (by omega)]; rfl
    rw [this]
theorem peers_v {v : Value} {l : List Rf} {s : St} {h wl wb : Int} (hv : IsR s 5 v (l.map Rf.cs)) (f : Fresh s) (g : OkG h l) (hw : okV wl wb) (wh : wl ≤ h) (hb : ∀ r ∈ l, 0 ≤ r.bt) :
    ∃ Xb rv pv ps s', leapfroglaw13x_Peers.v (.int .i64 h) (VI wl wb) v s = some (PP Xb, s') ∧ Lst wl wb (rowF h wl wb l) (rowF h wl wb l) rv pv Xb ps (fun j => some (recV wl wb (rowF h wl wb l) j)) s' ∧ StpK [11] s s' := by
  obtain ⟨rv, s0, e1, m0, f0, hr⟩ := row_v hv f (by have := g.len; omega) (okV_in hw).2.2 hb g.h0 g.h1 (wl := wl)
  have e1 : leapfrogref11x_Row.v (.int .i64 h) (.agg ⟨[.int .i64 wl, .int .u64 wb]⟩) v s = _ := e1
  have hR := row_ok g hw wh
  generalize rowF h wl wb l = R at *
  have hr := hr.isR
  have hbx := hr.bx
  obtain ⟨s1, hs1⟩ : ∃ s1, s1 = s0.new (.row 4 [xrow wl wb rv (.slice none 0 0)] false) := ⟨_, rfl⟩
  have a1 : alv s0 (.agg ⟨xrow wl wb rv (.slice none 0 0)⟩) = some (PP s0.n, s1) := by
    subst hs1
    rw [alv_eq]
    simp [bx_agg]
  have g1 : s1.get s0.n = some (.row 4 [xrow wl wb rv (.slice none 0 0)] false) := by subst hs1; exact get_new_same
  have m1 : More s0 s1 := by subst hs1; exact .new
  have M0 : Mk wl wb rv s0.n s0 s1 (.slice none 0 0) [] := ⟨m1, m1.fresh f0, Nat.le_refl _, g1, .nil, .nil, fun j q h => by simp at h⟩
  obtain ⟨pv, ps, s2, it, M2, hl, hq⟩ := peers_loop hR hr f0 M0
  rw [show ((0 : Nat) : Int) = 0 from rfl] at it
  have it : iter (leapfroglaw13x_Peers.l4 std) BIG [.int .i64 h, PP s0.n, .int .i64 0, .agg ⟨[.int .i64 wl, .int .u64 wb]⟩, o01] s1 = some ((0, [PP s0.n, .agg ⟨[.int .i64 wl, .int .u64 wb]⟩, o01], s2) : Cut) := it
  have hr2 := hr.more M2.m f0
  have hlen := hr2.len
  rw [List.length_map] at hlen
  have L2 : Lst wl wb R R rv pv s0.n ps (fun j => some (rec0 h wl wb R j)) s2 :=
    ⟨M2.x, hr2, ⟨M2.p.isR, M2.w, hl, fun j q hj => (hq j q hj).2.2, fun j q hj => ⟨(hq j q hj).1, (hq j q hj).2.1⟩⟩, M2.p.le (Nat.zero_le _), M2.sp, M2.f⟩
  have h900 := hR.len
  by_cases c : R.length = 2
  · have e2 : ¬ (2 : Int) < (R.length : Int) := by omega
    have e2' : ¬ (R.length : Int) > 2 := by omega
    refine ⟨s0.n, rv, pv, ps, s2, ?_, L2.cg fun j hj => by rw [rec0_at hR c hj], (StpK.more (m0.trans M2.m) f)⟩
    simp only [leapfroglaw13x_Peers.v, leapfroglaw13x_Peers.t, leapfroglaw13x_Peers.t.p3, sy, reduceIte, Nat.reduceAdd, Nat.reduceLeDiff, Nat.reduceLT, Nat.reduceEqDiff, Int.reduceEq, Int.reduceLT, Int.reduceLE, Int.reduceNe, ly, e1, hbx, a1, it, ldc_row M2.x, hlen, e2, e2']
  · have e2 : (2 : Int) < (R.length : Int) := by omega
    have e2' : (R.length : Int) > 2 := by omega
    obtain ⟨x1, hx1⟩ := get_some (l := R) (j := 1) (by omega)
    obtain ⟨x2, hx2⟩ := get_some (l := R) (j := R.length - 2) (by omega)
    have o1 : okO 0 1 := by unfold okO; omega
    obtain ⟨b1, w1, sa, psa, y1, y2, y3, y4, y5, y6, ka, La⟩ := L2.did (wlock (t := 0) hR.hw L2.f L2.W hR.first rfl o1 (by unfold rec0; rw [if_pos rfl]))
    obtain ⟨b2, w2, sb, psb, z1, z2, z3, z4, z5, z6, kb, Lb⟩ := La.did (wright (t := 0) hR.hw La.f La.W hR.first (by unfold upd; rw [if_pos rfl]) rfl (ok_ref hR hx1) (up_at hR (by omega) hR.first hx1))
    rw [y6] at z2; cases z2
    obtain ⟨b3, w3, sc, psc, u1, u2, u3, u4, u5, u6, kc, Lc⟩ := Lb.did (wfree (t := 0) hR.hw Lb.f Lb.W hR.first (by unfold upd; rw [if_pos rfl]) o1 rfl)
    rw [z6] at u2; cases u2
    obtain ⟨b4, w4, sd, psd, v1, v2, v3, v4, v5, v6, kd', Ld⟩ := Lc.did (wleft (t := 0) (r := rec0 h wl wb R (R.length - 1)) hR.hw Lc.f Lc.W hR.last (by unfold upd; rw [if_neg (by omega), if_neg (by omega), if_neg (by omega)]) (ok_ref hR hx2) (up_at hR (by omega) hx2 hR.last))
    refine ⟨s0.n, rv, pv, psd, sd, ?_, Ld.cg fun j hj => ?_, (StpK.more (m0.trans M2.m) f).trans (ka.trans (kb.trans (kc.trans kd')))⟩
    · have c1 : IntKind.i64.wrap ((R.length : Int) - 1) = ((R.length - 1 : Nat) : Int) := by rw [wrap64 (by omega) (by omega)]; omega
      have c2 : IntKind.i64.wrap ((R.length : Int) - 2) = ((R.length - 2 : Nat) : Int) := by rw [wrap64 (by omega) (by omega)]; omega
      obtain ⟨_, _, i1, i2, i3⟩ := La.r.at2 (rf_get hx1)
      obtain ⟨_, _, j1, j2, j3⟩ := Lb.r.at2 (rf_get hx1)
      obtain ⟨_, _, k1, k2, k3⟩ := Lc.r.at2 (rf_get hx2)
      obtain ⟨_, _, l1, l2, l3⟩ := Ld.r.at2 (rf_get hx2)
      have sx1 := same5q x1
      have sx2 := same5q x2
      have sp := L2.W.p.same
      have sr := hr2.same
      have z0 : ((0 : Nat) : Int) = 0 := rfl
      have z1' : ((1 : Nat) : Int) = 1 := rfl
      simp only [AskP.cs, lockd, rec0, if_true] at y3 z3 u3 v3
      rw [z0] at y1 y5 z1 z5 u1 u5
      rw [z1'] at i1 j1
      simp only [leapfroglaw13x_Peers.v, leapfroglaw13x_Peers.t, leapfroglaw13x_Peers.t.p3, leapfroglaw13x_Peers.t.p2, leapfroglaw13x_Peers.t.p1, sy, reduceIte, Nat.reduceAdd, Nat.reduceLeDiff, Nat.reduceLT, Nat.reduceEqDiff, Int.reduceEq, Int.reduceLT, Int.reduceLE, Int.reduceNe, ly, e1, hbx, a1, it, ldc_row M2.x, ldc_row La.x, ldc_row Lb.x, ldc_row Lc.x, ldc_row Ld.x, hlen, e2, e2', y1, y2, y3, y5, y6, sp, samePj, z1, z3, z5, z6, i1, lda_row i2, i3, sr, j1, lda_row j2, j3, sx1, u1, u3, u5, u6, c1, c2, v1, v2, v3, v5, v6, k1, lda_row k2, k3, l1, lda_row l2, l3, sx2]
    · have rl : R.getD (R.length - 1 + 1) zR = zR := by rw [List.getD_eq_getElem?_getD, List.getElem?_eq_none_iff.2 (by omega)]; rfl
      unfold upd
      by_cases c1 : j = R.length - 1
      · rw [if_pos c1, c1]
        unfold rec0 recV
        rw [if_neg (by omega), if_neg (by omega), if_pos (by omega), rl, show R.length - 1 - 1 = R.length - 2 by omega, getD_some hx2]
      · rw [if_neg c1]
        by_cases c0 : j = 0
        · rw [if_pos c0, c0]
          unfold rec0 recV freed lockd
          rw [if_pos rfl, if_pos rfl, getD_some hx1]
        · rw [if_neg c0, if_neg c0, if_neg c0]
          show some (recV wl wb R j) = some (rec0 h wl wb R j)
          unfold rec0
          rw [if_neg c0, if_neg (by omega)]
end Go.Proofs.Yteiagjbjokldgaa
