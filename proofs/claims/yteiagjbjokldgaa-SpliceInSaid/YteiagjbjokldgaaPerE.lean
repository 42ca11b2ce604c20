/-
  The document's peer in memory: QRight, QLeft, QRec, QOut, QJoined; new ones.
-/
import Derived.Test.YteiagjbjokldgaaPerD
set_option linter.unusedSimpArgs false
set_option linter.unusedVariables false
set_option maxRecDepth 100000
set_option maxHeartbeats 2000000
namespace Go.Proofs.Yteiagjbjokldgaa
open Go.Sim Go.Sim.Bt
attribute [local congr] bdc cndc itec gdc gdSc gdUc

abbrev okA : Ans := ⟨1, false, zR, zR, .slice none 0 0⟩
/-- QRight, by who holds its lock. -/
theorem right_p {p : Pr} {s : St} {b : Nat} (f : Fresh s) (h : AtP p s b) {wl wb t : Int} {x : Rf} (hw : okV wl wb) (hx : okRef x) {r : Rc} (hg : getC p wl wb = some r) (hr : r.held = true) (hl : lessK p.me.rk p.me.n x.rk x.n)
    (hn : (setL p { r with r := x }).length ≤ 1000) (hok : ∀ y ∈ setL p { r with r := x }, okV y.wl y.wb) :
    ∃ v s', leapfrogref09x_Peer_Ask.v (PP b) (.int .i64 t) (.agg ⟨(⟨5, wl, wb, x, zR, r.ha, r.ho⟩ : AskP).cs⟩) s = some (.tuple ⟨[v, .int .i64 0]⟩, s') ∧ Told s' v t okA ∧ AtP { p with L := setL p { r with r := x } } s' b ∧ StB b s s' := by
  have ck := ask5_r (oa := r.ha) (oo := r.ho) hw hx s
  have rc := rec_r f h wl wb (okV_in hw).2.2
  rw [hg] at rc
  simp only [gotC, Option.getD_some, Option.isSome_some] at rc
  obtain ⟨w1, w2⟩ := getC_w hg
  obtain ⟨vv, lv, h1, h2, h3⟩ := h.ex
  have l1 := r9less_r p.me.rk p.me.n x.rk x.n s
  rw [decide_eq_true hl] at l1
  obtain ⟨s4, e4, h4, k4⟩ := set_r f h { r with r := x } (by show okV r.wl r.wb; rw [w1, w2]; exact hw) hn hok
  obtain ⟨v, s5, t1, t2, t3, t4⟩ := told_t t okA s4 (k4.fr f)
  refine ⟨v, s5, ?_, t2, h4.more t3 (k4.fr f), k4.trans (.more t3 (k4.fr f))⟩
  simp only [okA] at t1
  simp only [Rc.cs, hr] at e4
  simp only [leapfrogref09x_Peer_Ask.v, leapfrogref09x_Peer_Ask.t, leapfrogref09x_Peer_Ask.t.p2, leapfrogref09x_Peer_beside.v, leapfrogref09x_Peer_beside.t, leapfrogref09x_Peer_beside.t.p1, leapfrogref09x_ok.r, leapfrogref09x_ok.t, sy, reduceIte, Nat.reduceAdd, Nat.reduceLeDiff, Nat.reduceLT, Nat.reduceEqDiff, Int.reduceEq, Int.reduceLT, Int.reduceLE, Int.reduceNe, ly, ck, rc, hr, lda_row h1, l1, e4, t1]
/-- QLeft. -/
theorem left_p {p : Pr} {s : St} {b : Nat} (f : Fresh s) (h : AtP p s b) {wl wb t : Int} {x : Rf} (hw : okV wl wb) (hx : okRef x) {r : Rc} (hg : getC p wl wb = some r) (hl : lessK x.rk x.n p.me.rk p.me.n)
    (hn : (setL p { r with l := x }).length ≤ 1000) (hok : ∀ y ∈ setL p { r with l := x }, okV y.wl y.wb) :
    ∃ v s', leapfrogref09x_Peer_Ask.v (PP b) (.int .i64 t) (.agg ⟨(⟨6, wl, wb, x, zR, 0, 0⟩ : AskP).cs⟩) s = some (.tuple ⟨[v, .int .i64 0]⟩, s') ∧ Told s' v t okA ∧ AtP { p with L := setL p { r with l := x } } s' b ∧ StB b s s' := by
  have ck := ask6_r hw hx s
  have rc := rec_r f h wl wb (okV_in hw).2.2
  rw [hg] at rc
  simp only [gotC, Option.getD_some, Option.isSome_some] at rc
  obtain ⟨w1, w2⟩ := getC_w hg
  obtain ⟨vv, lv, h1, h2, h3⟩ := h.ex
  have l1 := r9less_r x.rk x.n p.me.rk p.me.n s
  rw [decide_eq_true hl] at l1
  obtain ⟨s4, e4, h4, k4⟩ := set_r f h { r with l := x } (by show okV r.wl r.wb; rw [w1, w2]; exact hw) hn hok
  obtain ⟨v, s5, t1, t2, t3, t4⟩ := told_t t okA s4 (k4.fr f)
  refine ⟨v, s5, ?_, t2, h4.more t3 (k4.fr f), k4.trans (.more t3 (k4.fr f))⟩
  simp only [okA] at t1
  simp only [leapfrogref09x_Peer_Ask.v, leapfrogref09x_Peer_Ask.t, leapfrogref09x_Peer_Ask.t.p2, leapfrogref09x_Peer_beside.v, leapfrogref09x_Peer_beside.t, leapfrogref09x_Peer_beside.t.p1, leapfrogref09x_ok.r, leapfrogref09x_ok.t, sy, reduceIte, Nat.reduceAdd, Nat.reduceLeDiff, Nat.reduceLT, Nat.reduceEqDiff, Int.reduceEq, Int.reduceLT, Int.reduceLE, Int.reduceNe, ly, ck, rc, lda_row h1, l1, e4, t1]
open Classical in
/-- QRec. -/
theorem enter_p {p : Pr} {s : St} {b : Nat} (f : Fresh s) (h : AtP p s b) {wl wb oa oo t : Int} {x y : Rf} (hw : okV wl wb) (hx : okRef x) (hy : okRef y) (ho : okO oa oo) (hg : getC p wl wb = none) (he : p.en = false) (hc : hasC p wl wb) (hl : lessK x.rk x.n p.me.rk p.me.n) (hl2 : lessK p.me.rk p.me.n y.rk y.n)
    (hn : (setL p ⟨wl, wb, x, y, true, oa, oo⟩).length ≤ 1000) (hok : ∀ z ∈ setL p ⟨wl, wb, x, y, true, oa, oo⟩, okV z.wl z.wb) :
    ∃ v s', leapfrogref09x_Peer_Ask.v (PP b) (.int .i64 t) (.agg ⟨(⟨7, wl, wb, x, y, oa, oo⟩ : AskP).cs⟩) s = some (.tuple ⟨[v, .int .i64 0]⟩, s') ∧ Told s' v t okA ∧ AtP { p with L := setL p ⟨wl, wb, x, y, true, oa, oo⟩ } s' b ∧ StB b s s' := by
  have ck := ask7_r (oa := oa) (oo := oo) hw hx hy s
  have rc := rec_r f h wl wb (okV_in hw).2.2
  rw [hg] at rc
  simp only [gotC, Option.getD_none, Option.isSome_none] at rc
  obtain ⟨vv, lv, h1, h2, h3⟩ := h.ex
  have ls := list9_r f h1 h.hm wl wb (okV_in hw).2.2
  rw [decide_eq_true hc] at ls
  have l1 := r9less_r x.rk x.n p.me.rk p.me.n s
  rw [decide_eq_true hl] at l1
  have l2 := r9less_r p.me.rk p.me.n y.rk y.n s
  rw [decide_eq_true hl2] at l2
  obtain ⟨s1, s2, e1, e2, b2, m2, f2⟩ := box_r f ⟨wl, wb, x, y, false, 0, 0⟩
  obtain ⟨s3, e3, b3, k3⟩ := lockask_r b2 ho (.inl rfl)
  have m3 : More s s3 := more_but m2 k3 (Nat.le_refl _)
  have f3 := m3.fresh f
  simp only [lockd] at b3
  obtain ⟨s4, e4, h4, k4⟩ := set_r f3 (h.more m3 f) ⟨wl, wb, x, y, true, oa, oo⟩ hw hn hok
  obtain ⟨v, s5, t1, t2, t3, t4⟩ := told_t t okA s4 (k4.fr f3)
  refine ⟨v, s5, ?_, t2, h4.more t3 (k4.fr f3), ((StB.more m3 f).trans k4).trans (.more t3 (k4.fr f3))⟩
  simp only [okA] at t1
  simp only [leapfrogref09x_Peer_Ask.v, leapfrogref09x_Peer_Ask.t, leapfrogref09x_Peer_Ask.t.p2, leapfrogref09x_Peer_enter.v, leapfrogref09x_Peer_enter.t, leapfrogref09x_Peer_enter.t.p1, leapfrogref09x_ok.r, leapfrogref09x_ok.t, sy, reduceIte, Nat.reduceAdd, Nat.reduceLeDiff, Nat.reduceLT, Nat.reduceEqDiff, Int.reduceEq, Int.reduceLT, Int.reduceLE, Int.reduceNe, ly, ck, rc, ldc_row h1, he, ls, lda_row h1, l1, l2, e1, e2, e3, lda_row b3, e4, t1]
def unsetL (p : Pr) (wl wb : Int) : List Rc := p.L.filter fun r => !isW wl wb r
theorem unset_r {p : Pr} {s : St} {b : Nat} (f : Fresh s) (h : AtP p s b) (wl wb : Int) :
    ∃ s', leapfrogref09x_Peer_unset.v (PP b) (VI wl wb) s = some (unitP, s') ∧ AtP { p with L := unsetL p wl wb } s' b ∧ StB b s s' := by
  obtain ⟨vv, lv, h1, h2, h3⟩ := id h.ex
  have hN := h.n
  have hlen := h2.len
  rw [List.length_map] at hlen
  have loop : ∃ v' s', iter (leapfrogref09x_Peer_unset.l3 std) BIG [PP b, .slice none 0 0, .int .i64 ((0 : Nat) : Int), VI wl wb] s = some ((0, [PP b, v'], s') : Cut) ∧ More s s' ∧ Fresh s' ∧ Ful s.n s' 16 v' ((unsetL p wl wb).map Rc.cs) := by
    refine iter_rel (fun d xs s' => ∃ i v, i + d = p.L.length ∧ More s s' ∧ Fresh s' ∧ Ful s.n s' 16 v (((p.L.take i).filter fun r => !isW wl wb r).map Rc.cs) ∧ xs = [PP b, v, .int .i64 (i : Int), VI wl wb])
      (fun y : Option Cut => ∃ v' s', y = some ((0, [PP b, v'], s') : Cut) ∧ More s s' ∧ Fresh s' ∧ Ful s.n s' 16 v' ((unsetL p wl wb).map Rc.cs)) ?_ BIG p.L.length _ s (by unfold BIG; omega) ⟨0, _, by omega, .refl _, f, .nil, rfl⟩
    rintro d xs s2 rec ⟨i, v, hi, hm, hf, hv, rfl⟩ ih
    have g1 : PRow s2 b (prow p vv lv) := hm.get f h1
    have g2 := h2.more hm f
    cases d with
    | zero =>
      have e1 : ¬ ((i : Int) < p.L.length) := by omega
      rw [List.take_of_length_le (by omega)] at hv
      exact ⟨v, s2, by simp only [leapfrogref09x_Peer_unset.l3, sy, reduceIte, Nat.reduceAdd, Nat.reduceLeDiff, Nat.reduceLT, Nat.reduceEqDiff, Int.reduceEq, Int.reduceLT, Int.reduceLE, Int.reduceNe, ly, ldc_row g1, hlen, e1], hm, hf, hv⟩
    | succ d =>
      have e1 : (i : Int) < p.L.length := by omega
      have e5 : IntKind.i64.wrap ((i : Int) + 1) = ((i + 1 : Nat) : Int) := by rw [wrap64 (by omega) (by omega)]; omega
      obtain ⟨x, hx⟩ := get_some (l := p.L) (j := i) (by omega)
      obtain ⟨o, al, ro, a1, a2, a3⟩ := g2.at (rc_get hx)
      have htk : p.L.take (i + 1) = p.L.take i ++ [x] := by rw [List.take_add_one, hx]; rfl
      have hfl : ((p.L.take i).filter fun r => !isW wl wb r).length ≤ 1000 := Nat.le_trans (List.length_filter_le _ _) (by rw [List.length_take]; omega)
      have out : isW wl wb x = false → ∃ v1 s3, app (s2.new (.row 16 [x.cs] false)) 16 144 v (.slice (some ⟨s2.n, 0, some 0⟩) 1 2) = some (v1, s3) ∧ (∃ v' s', rec [PP b, v1, .int .i64 ((i + 1 : Nat) : Int), VI wl wb] s3 = some ((0, [PP b, v'], s') : Cut) ∧ More s s' ∧ Fresh s' ∧ Ful s.n s' 16 v' ((unsetL p wl wb).map Rc.cs)) := by
        intro g
        obtain ⟨v1, s3, p1, p2, p3, p4⟩ := push_ends (n0 := 0) hf hv hm x (by omega)
        exact ⟨v1, s3, p1, ih d _ _ (by omega) ⟨i + 1, v1, by omega, p2, p4, by rw [htk, List.filter_append]; simp only [List.filter_cons, List.filter_nil, g, Bool.not_false, if_true]; exact p3, rfl⟩⟩
      rcases Classical.propComplete (x.wl = wl) with k1 | k1
      · rcases Classical.propComplete (x.wb = wb) with k2 | k2
        · have g : isW wl wb x = true := by unfold isW; exact decide_eq_true ⟨of_eq_true k1, of_eq_true k2⟩
          have := ih d [PP b, v, .int .i64 ((i + 1 : Nat) : Int), VI wl wb] s2 (by omega) ⟨i + 1, v, by omega, hm, hf, by rw [htk, List.filter_append]; simp only [List.filter_cons, List.filter_nil, g, Bool.not_true, Bool.false_eq_true, if_false, List.append_nil]; exact hv, rfl⟩
          obtain ⟨v', s', e, q⟩ := this
          refine ⟨v', s', ?_, q⟩
          rw [← e]
          simp only [leapfrogref09x_Peer_unset.l3, sy, reduceIte, Nat.reduceAdd, Nat.reduceLeDiff, Nat.reduceLT, Nat.reduceEqDiff, Int.reduceEq, Int.reduceLT, Int.reduceLE, Int.reduceNe, ly, ldc_row g1, hlen, e1, a1, lda_row a2, a3, k1, k2, e5]
        · have g : isW wl wb x = false := by unfold isW; exact decide_eq_false fun g => of_eq_false k2 g.2
          obtain ⟨v1, s3, p1, v', s', e, q⟩ := out g
          refine ⟨v', s', ?_, q⟩
          rw [← e]
          simp only [leapfrogref09x_Peer_unset.l3, sy, reduceIte, Nat.reduceAdd, Nat.reduceLeDiff, Nat.reduceLT, Nat.reduceEqDiff, Int.reduceEq, Int.reduceLT, Int.reduceLE, Int.reduceNe, ly, ldc_row g1, hlen, e1, a1, lda_row a2, a3, k1, k2, als_eq, Nat.reduceMul, p1, e5]
      · have g : isW wl wb x = false := by unfold isW; exact decide_eq_false fun g => of_eq_false k1 g.1
        obtain ⟨v1, s3, p1, v', s', e, q⟩ := out g
        refine ⟨v', s', ?_, q⟩
        rw [← e]
        simp only [leapfrogref09x_Peer_unset.l3, sy, reduceIte, Nat.reduceAdd, Nat.reduceLeDiff, Nat.reduceLT, Nat.reduceEqDiff, Int.reduceEq, Int.reduceLT, Int.reduceLE, Int.reduceNe, ly, ldc_row g1, hlen, e1, a1, lda_row a2, a3, k1, als_eq, Nat.reduceMul, p1, e5]
  obtain ⟨v, s1, e, m1, f1, hv⟩ := loop
  rw [show ((0 : Nat) : Int) = 0 from rfl] at e
  have g1 : PRow s1 b (prow p vv lv) := m1.get f h1
  have bxv := hv.isR.bx
  have k : StpK [11] s1 (s1.put b (.row 11 [prow { p with L := unsetL p wl wb } vv v] false)) := .put g1 (by simp [kd])
  refine ⟨s1.put b (.row 11 [prow { p with L := unsetL p wl wb } vv v] false), ?_, ⟨⟨vv, v, get_put_same g1, hv.isR.stp k (by simp), (h3.stp (StpK.more (ks := []) m1 f) (by simp)).stp k (by simp)⟩, Nat.le_trans (List.length_filter_le _ _) hN, fun r hr => h.ok r (List.mem_filter.1 hr).1, h.hm, h.hv⟩, (StB.more m1 f).trans .put⟩
  simp only [leapfrogref09x_Peer_unset.v, leapfrogref09x_Peer_unset.t, sy, reduceIte, Nat.reduceAdd, Nat.reduceLeDiff, Nat.reduceLT, Nat.reduceEqDiff, Int.reduceEq, Int.reduceLT, Int.reduceLE, Int.reduceNe, ly, e, stv_row g1, bxv]
/-- QOut, by who holds its lock. -/
theorem out_p {p : Pr} {s : St} {b : Nat} (f : Fresh s) (h : AtP p s b) {wl wb t : Int} (hw : okV wl wb) {r : Rc} (hg : getC p wl wb = some r) (hr : r.held = true) (he : p.en = false) :
    ∃ v s', leapfrogref09x_Peer_Ask.v (PP b) (.int .i64 t) (.agg ⟨(⟨8, wl, wb, zR, zR, r.ha, r.ho⟩ : AskP).cs⟩) s = some (.tuple ⟨[v, .int .i64 0]⟩, s') ∧ Told s' v t okA ∧ AtP { p with L := unsetL p wl wb } s' b ∧ StB b s s' := by
  have ck := ask3_r (oa := r.ha) (oo := r.ho) (.inr (.inr rfl)) hw s
  have rc := rec_r f h wl wb (okV_in hw).2.2
  rw [hg] at rc
  simp only [gotC, Option.getD_some, Option.isSome_some] at rc
  obtain ⟨vv, lv, h1, h2, h3⟩ := h.ex
  obtain ⟨s4, e4, h4, k4⟩ := unset_r f h wl wb
  obtain ⟨v, s5, t1, t2, t3, t4⟩ := told_t t okA s4 (k4.fr f)
  refine ⟨v, s5, ?_, t2, h4.more t3 (k4.fr f), k4.trans (.more t3 (k4.fr f))⟩
  have lp : iter (leapfrogref09x_Peer_out.l7 std) BIG [PP b, v, .int .i64 0, .agg ⟨(⟨8, wl, wb, zR, zR, r.ha, r.ho⟩ : AskP).cs⟩, .agg ⟨r.cs⟩] s5 = some ((0, [v], s5) : Cut) := by
    rw [show BIG = 4611686018427387903 + 1 from rfl, iter_succ]
    have e : ¬ ((0 : Int) < ((0 : Nat) : Int)) := by omega
    simp only [leapfrogref09x_Peer_out.l7, sy, reduceIte, Nat.reduceAdd, Nat.reduceLeDiff, Nat.reduceLT, Nat.reduceEqDiff, Int.reduceEq, Int.reduceLT, Int.reduceLE, Int.reduceNe, ly, e]
  simp only [AskP.cs, Rc.cs, hr] at lp
  simp only [okA] at t1
  simp only [leapfrogref09x_Peer_Ask.v, leapfrogref09x_Peer_Ask.t, leapfrogref09x_Peer_Ask.t.p2, leapfrogref09x_Peer_out.v, leapfrogref09x_Peer_out.t, leapfrogref09x_ok.r, leapfrogref09x_ok.t, sy, reduceIte, Nat.reduceAdd, Nat.reduceLeDiff, Nat.reduceLT, Nat.reduceEqDiff, Int.reduceEq, Int.reduceLT, Int.reduceLE, Int.reduceNe, ly, ck, rc, hr, ldc_row h1, he, e4, t1, lp]
/-- QJoined. -/
theorem joined_p {p : Pr} {s : St} {b : Nat} (f : Fresh s) (h : AtP p s b) {t : Int} (he : p.en = false) :
    ∃ v s', leapfrogref09x_Peer_Ask.v (PP b) (.int .i64 t) (.agg ⟨(⟨10, 0, 0, zR, zR, 0, 0⟩ : AskP).cs⟩) s = some (.tuple ⟨[v, .int .i64 0]⟩, s') ∧ Told s' v t okA ∧ AtP { p with jo := true } s' b ∧ StB b s s' := by
  have ck := ask9_r (.inr rfl : (10 : Int) = 9 ∨ (10 : Int) = 10) s
  obtain ⟨vv, lv, h1, h2, h3⟩ := id h.ex
  obtain ⟨s1, hs1⟩ : ∃ s1, s1 = s.put b (.row 11 [prow { p with jo := true } vv lv] false) := ⟨_, rfl⟩
  have k : StpK [11] s s1 := by rw [hs1]; exact .put h1 (by simp [kd])
  have g1 : PRow s1 b (prow { p with jo := true } vv lv) := by rw [hs1]; exact get_put_same h1
  have e1 : stv s 1 (.pointer (some ⟨b, 0, some 7⟩)) (.bool true) = some s1 := by rw [hs1]; simp only [stv_row h1, sy, reduceIte, Nat.reduceAdd, Nat.reduceLeDiff, Nat.reduceLT, Nat.reduceEqDiff, Int.reduceEq, Int.reduceLT, Int.reduceLE, Int.reduceNe, ly]
  have b1 : StB b s s1 := by rw [hs1]; exact .put
  have hA : AtP { p with jo := true } s1 b := ⟨⟨vv, lv, g1, h2.stp k (by simp), h3.stp k (by simp)⟩, h.n, h.ok, h.hm, h.hv⟩
  obtain ⟨v, s5, t1, t2, t3, t4⟩ := told_t t okA s1 (b1.fr f)
  have g5 : PRow s5 b (prow { p with jo := true } vv lv) := t3.get (b1.fr f) g1
  have lp : iter (leapfrogref09x_Peer_joined.l7 std) BIG [PP b, v, .slice none 0 0, .int .i64 0] s5 = some ((0, [PP b, v, .slice none 0 0], s5) : Cut) := by
    rw [show BIG = 4611686018427387903 + 1 from rfl, iter_succ]
    have e : ¬ ((0 : Int) < ((0 : Nat) : Int)) := by omega
    simp only [leapfrogref09x_Peer_joined.l7, sy, reduceIte, Nat.reduceAdd, Nat.reduceLeDiff, Nat.reduceLT, Nat.reduceEqDiff, Int.reduceEq, Int.reduceLT, Int.reduceLE, Int.reduceNe, ly, ldc_row g5, e]
  have k5 : StpK [11] s5 (s5.put b (.row 11 [prow { p with jo := true } vv lv] false)) := .put g5 (by simp [kd])
  have a5 := hA.more t3 (b1.fr f)
  obtain ⟨vv5, lv5, q1, q2, q3⟩ := a5.ex
  obtain ⟨x, hx1, hx2⟩ := t2
  refine ⟨v, s5.put b (.row 11 [prow { p with jo := true } vv lv] false), ?_, ⟨x, hx1, k5.row hx2 (by simp)⟩, ⟨⟨vv, lv, get_put_same g5, ((h2.stp k (by simp)).more t3 (b1.fr f)).stp k5 (by simp), ((h3.stp k (by simp)).stp (StpK.more (ks := []) t3 (b1.fr f)) (by simp)).stp k5 (by simp)⟩, h.n, h.ok, h.hm, h.hv⟩, (b1.trans (.more t3 (b1.fr f))).trans .put⟩
  simp only [okA] at t1
  simp only [leapfrogref09x_Peer_Ask.v, leapfrogref09x_Peer_Ask.t, leapfrogref09x_Peer_Ask.t.p2, leapfrogref09x_Peer_joined.v, leapfrogref09x_Peer_joined.t, leapfrogref09x_ok.r, leapfrogref09x_ok.t, sy, reduceIte, Nat.reduceAdd, Nat.reduceLeDiff, Nat.reduceLT, Nat.reduceEqDiff, Int.reduceEq, Int.reduceLT, Int.reduceLE, Int.reduceNe, ly, ck, ldc_row h1, he, e1, t1, lp, stv_row g5]
end Go.Proofs.Yteiagjbjokldgaa
