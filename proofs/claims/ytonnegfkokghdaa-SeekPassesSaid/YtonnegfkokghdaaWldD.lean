/-
  Worlds in the program's memory: they are made; a search is played in one; its result is looked at.
-/
import Derived.Test.YtonnegfkokghdaaWldC
set_option linter.unusedSimpArgs false
set_option linter.unusedVariables false
set_option maxRecDepth 100000
set_option maxHeartbeats 2000000
namespace Go.Proofs.Ytonnegfkokghdaa
open Go.Sim Go.Sim.Bt
attribute [local congr] bdc cndc itec gdc gdSc gdUc

/-! ### Its result is looked at -/

theorem last_loop {W : Wd} {ds : List Bool} {lv dv v : Value} {c : Cf} {m : Mm} {s : St} (h : WdAt W ds s lv dv) (hv : IsR s 5 v ((lst W 0 0).map Rf.cs)) (hF : FinW W c m) {p rest : List Rf} (hs : lst W 0 0 = p ++ m.ap :: rest) (hr : ∀ y ∈ rest, W.dead y.id = true ∨ ¬ lessK y.rk y.n c.tr c.tn) (X : List Value) :
    iter (leapfroglaw12x_World_right.l4 std) BIG [v, .int .i64 0, .int .i64 ((0 : Nat) : Int), WV W lv dv, .agg ⟨X⟩, KV c.tr c.tn] s = some ((0, [v, .int .i64 (p.length : Int), WV W lv dv, .agg ⟨X⟩, KV c.tr c.tn], s) : Cut) := by
  have hll := lst_len W 0 0
  have n20 := h.n20
  have hlen := hv.len
  rw [List.length_map] at hlen
  refine iter_rel (fun d xs s' => ∃ i last : Nat, (p.length < i → last = p.length) ∧ i + d = (lst W 0 0).length ∧ s' = s ∧ xs = [v, .int .i64 (last : Int), .int .i64 (i : Int), WV W lv dv, .agg ⟨X⟩, KV c.tr c.tn])
    (fun y : Option Cut => y = some ((0, [v, .int .i64 (p.length : Int), WV W lv dv, .agg ⟨X⟩, KV c.tr c.tn], s) : Cut)) ?_ BIG (lst W 0 0).length _ s (by unfold BIG; omega) ⟨0, 0, (fun e => by omega), by omega, rfl, rfl⟩
  rintro d xs s2 rec ⟨i, last, hl, hi, rfl, rfl⟩ ih
  have hlenp : (lst W 0 0).length = p.length + 1 + rest.length := by rw [hs]; simp; omega
  cases d with
  | zero =>
    have e1 : ¬ ((i : Int) < (lst W 0 0).length) := by omega
    have := hl (by omega)
    subst this
    simp only [leapfroglaw12x_World_right.l4, sy, reduceIte, Nat.reduceAdd, Nat.reduceLeDiff, Nat.reduceLT, Nat.reduceEqDiff, Int.reduceEq, Int.reduceLT, Int.reduceLE, Int.reduceNe, ly, hlen, e1]
  | succ d =>
    have e1 : (i : Int) < (lst W 0 0).length := by omega
    obtain ⟨x, hx⟩ := get_some (l := lst W 0 0) (j := i) (by omega)
    have e5 : IntKind.i64.wrap ((i : Int) + 1) = ((i + 1 : Nat) : Int) := by rw [wrap64 (by omega) (by omega)]; omega
    obtain ⟨b2, all2, ro2, c1, c2, c3⟩ := hv.at (cs_get hx)
    have l1 := rless_r x.rk x.n c.tr c.tn s2
    have hg := gone_r h x.id
    -- it is the last one
    have yes : (lessK x.rk x.n c.tr c.tn ∧ W.dead x.id = false) → (p.length < i + 1 → i = p.length) := by
      rintro ⟨g1, g2⟩ hpi
      apply Classical.byContradiction
      intro hne
      have hm : x ∈ rest := by
        rw [hs, List.getElem?_append_right (by omega)] at hx
        rw [show i - p.length = (i - p.length - 1) + 1 by omega, List.getElem?_cons_succ] at hx
        exact List.mem_of_getElem? hx
      rcases hr x hm with g | g
      · rw [g2] at g; cases g
      · exact g g1
    have no : ¬ (lessK x.rk x.n c.tr c.tn ∧ W.dead x.id = false) → (p.length < i + 1 → last = p.length) := by
      intro g hpi
      by_cases hpi' : p.length < i
      · exact hl hpi'
      · exfalso
        have : i = p.length := by omega
        subst this
        rw [hs, List.getElem?_append_right (Nat.le_refl _), Nat.sub_self, List.getElem?_cons_zero] at hx
        cases hx
        exact g ⟨hF.lf, hF.apd⟩
    rcases Classical.propComplete (lessK x.rk x.n c.tr c.tn) with k1 | k1
    · simp only [k1, decide_true] at l1
      cases hd : W.dead x.id with
      | true =>
        rw [hd] at hg
        have fin : leapfroglaw12x_World_right.l4 std rec [v, .int .i64 (last : Int), .int .i64 (i : Int), WV W lv dv, .agg ⟨X⟩, KV c.tr c.tn] s2 = rec [v, .int .i64 (last : Int), .int .i64 ((i + 1 : Nat) : Int), WV W lv dv, .agg ⟨X⟩, KV c.tr c.tn] s2 := by
          simp only [leapfroglaw12x_World_right.l4, sy, reduceIte, Nat.reduceAdd, Nat.reduceLeDiff, Nat.reduceLT, Nat.reduceEqDiff, Int.reduceEq, Int.reduceLT, Int.reduceLE, Int.reduceNe, ly, hlen, e1, c1, lda_row c2, ldc_row c2, c3, l1, hg, e5]
        rw [fin]
        exact ih d _ _ (by omega) ⟨i + 1, last, no (by rw [hd]; simp), by omega, rfl, rfl⟩
      | false =>
        rw [hd] at hg
        have fin : leapfroglaw12x_World_right.l4 std rec [v, .int .i64 (last : Int), .int .i64 (i : Int), WV W lv dv, .agg ⟨X⟩, KV c.tr c.tn] s2 = rec [v, .int .i64 (i : Int), .int .i64 ((i + 1 : Nat) : Int), WV W lv dv, .agg ⟨X⟩, KV c.tr c.tn] s2 := by
          simp only [leapfroglaw12x_World_right.l4, sy, reduceIte, Nat.reduceAdd, Nat.reduceLeDiff, Nat.reduceLT, Nat.reduceEqDiff, Int.reduceEq, Int.reduceLT, Int.reduceLE, Int.reduceNe, ly, hlen, e1, c1, lda_row c2, ldc_row c2, c3, l1, hg, e5]
        rw [fin]
        exact ih d _ _ (by omega) ⟨i + 1, i, yes ⟨of_eq_true k1, hd⟩, by omega, rfl, rfl⟩
    · simp only [k1, decide_false] at l1
      have fin : leapfroglaw12x_World_right.l4 std rec [v, .int .i64 (last : Int), .int .i64 (i : Int), WV W lv dv, .agg ⟨X⟩, KV c.tr c.tn] s2 = rec [v, .int .i64 (last : Int), .int .i64 ((i + 1 : Nat) : Int), WV W lv dv, .agg ⟨X⟩, KV c.tr c.tn] s2 := by
        simp only [leapfroglaw12x_World_right.l4, sy, reduceIte, Nat.reduceAdd, Nat.reduceLeDiff, Nat.reduceLT, Nat.reduceEqDiff, Int.reduceEq, Int.reduceLT, Int.reduceLE, Int.reduceNe, ly, hlen, e1, c1, lda_row c2, ldc_row c2, c3, l1, e5]
      rw [fin]
      exact ih d _ _ (by omega) ⟨i + 1, last, no (by rw [k1]; simp), by omega, rfl, rfl⟩
theorem next_loop {W : Wd} {ds : List Bool} {lv dv v : Value} {c : Cf} {m : Mm} {s : St} (h : WdAt W ds s lv dv) (hv : IsR s 5 v ((lst W 0 0).map Rf.cs)) (hF : FinW W c m) {p mid q : List Rf} (hs : lst W 0 0 = p ++ m.ap :: (mid ++ m.res.r :: q)) (hm : ∀ y ∈ mid, W.dead y.id = true) :
    iter (leapfroglaw12x_World_right.l11 std) BIG [v, .int .i64 ((p.length + 1 : Nat) : Int), WV W lv dv, .agg ⟨stepC 3 zR zAsk m.res⟩, KV c.tr c.tn] s = some ((1, [.bool true], s) : Cut) := by
  have hll := lst_len W 0 0
  have n20 := h.n20
  have hlen := hv.len
  rw [List.length_map] at hlen
  have hlenp : (lst W 0 0).length = p.length + 1 + mid.length + 1 + q.length := by rw [hs]; simp; omega
  refine iter_rel (fun d xs s' => ∃ k : Nat, k + d = mid.length ∧ s' = s ∧ xs = [v, .int .i64 ((p.length + 1 + k : Nat) : Int), WV W lv dv, .agg ⟨stepC 3 zR zAsk m.res⟩, KV c.tr c.tn])
    (fun y : Option Cut => y = some ((1, [.bool true], s) : Cut)) ?_ BIG mid.length _ s (by unfold BIG; omega) ⟨0, by omega, rfl, rfl⟩
  rintro d xs s2 rec ⟨k, hi, rfl, rfl⟩ ih
  have e1 : ((p.length + 1 + k : Nat) : Int) < (lst W 0 0).length := by omega
  have e5 : IntKind.i64.wrap (((p.length + 1 + k : Nat) : Int) + 1) = ((p.length + 1 + (k + 1) : Nat) : Int) := by rw [wrap64 (by omega) (by omega)]; omega
  have at' : (lst W 0 0)[p.length + 1 + k]? = (mid ++ m.res.r :: q)[k]? := by
    rw [hs, List.getElem?_append_right (by omega), show p.length + 1 + k - p.length = k + 1 by omega, List.getElem?_cons_succ]
  cases d with
  | zero =>
    have hx : (lst W 0 0)[p.length + 1 + k]? = some m.res.r := by
      rw [at', List.getElem?_append_right (by omega), show k - mid.length = 0 by omega]; rfl
    obtain ⟨b2, all2, ro2, c1, c2, c3⟩ := hv.at (cs_get hx)
    have l1 := rless_r m.res.r.rk m.res.r.n c.tr c.tn s2
    rw [decide_eq_false hF.ge] at l1
    have fd := hF.fd
    rcases Classical.propComplete (m.res.r.rk = c.tr) with k1 | k1 <;> rcases Classical.propComplete (m.res.r.n = c.tn) with k2 | k2 <;>
      (simp only [k1, k2, decide_true, decide_false, Bool.and_true, Bool.and_false, Bool.true_and, Bool.false_and] at fd
       simp only [leapfroglaw12x_World_right.l11, sy, reduceIte, Nat.reduceAdd, Nat.reduceLeDiff, Nat.reduceLT, Nat.reduceEqDiff, Int.reduceEq, Int.reduceLT, Int.reduceLE, Int.reduceNe, ly, hlen, e1, c1, lda_row c2, ldc_row c2, c3, l1, k1, k2, fd])
  | succ d =>
    obtain ⟨x, hxm⟩ := get_some (l := mid) (j := k) (by omega)
    have hx : (lst W 0 0)[p.length + 1 + k]? = some x := by rw [at', List.getElem?_append_left (by omega)]; exact hxm
    have hxm' := List.mem_of_getElem? hxm
    obtain ⟨b2, all2, ro2, c1, c2, c3⟩ := hv.at (cs_get hx)
    have hne : (x.id = m.res.r.id) = False := by
      refine eq_false ?_
      have hp := lst_inj h.ok 0 0
      rw [hs, List.pairwise_append, List.pairwise_cons, List.pairwise_append] at hp
      exact hp.2.1.2.2.2 x hxm' m.res.r (by simp)
    have hg := gone_r h x.id
    rw [hm x hxm'] at hg
    have fin : leapfroglaw12x_World_right.l11 std rec [v, .int .i64 ((p.length + 1 + k : Nat) : Int), WV W lv dv, .agg ⟨stepC 3 zR zAsk m.res⟩, KV c.tr c.tn] s2 = rec [v, .int .i64 ((p.length + 1 + (k + 1) : Nat) : Int), WV W lv dv, .agg ⟨stepC 3 zR zAsk m.res⟩, KV c.tr c.tn] s2 := by
      simp only [leapfroglaw12x_World_right.l11, sy, reduceIte, Nat.reduceAdd, Nat.reduceLeDiff, Nat.reduceLT, Nat.reduceEqDiff, Int.reduceEq, Int.reduceLT, Int.reduceLE, Int.reduceNe, ly, hlen, e1, c1, lda_row c2, ldc_row c2, c3, hne, hg, e5]
    rw [fin]
    exact ih d _ _ (by omega) ⟨k + 1, by omega, rfl, rfl⟩
theorem right_r {W : Wd} {ds : List Bool} {lv dv : Value} {c : Cf} {m : Mm} {s : St} (h : WdAt W ds s lv dv) (f : Fresh s) (hF : FinW W c m) :
    leapfroglaw12x_World_rightQ.r (WV W lv dv) (.agg ⟨stepC 3 zR zAsk m.res⟩) (KV c.tr c.tn) s = some (.bool true) := by
  obtain ⟨v, s1, e1, h1, m1, f1⟩ := list_r (wl := 0) (wb := 0) h.frz f.frz (Int.le_refl _)
  obtain ⟨p, mid, q, hs, hm⟩ := hF.sp
  have hw1 := h.frz.more m1 f.frz
  have ris := lst_ris h.ok 0 0
  have hr : ∀ y ∈ mid ++ m.res.r :: q, W.dead y.id = true ∨ ¬ lessK y.rk y.n c.tr c.tn := by
    intro y hy
    rw [List.mem_append, List.mem_cons] at hy
    rcases hy with hy | rfl | hy
    · exact .inl (hm y hy)
    · exact .inr hF.ge
    · right
      intro g
      rw [hs, List.pairwise_append, List.pairwise_cons, List.pairwise_append, List.pairwise_cons] at ris
      exact hF.ge (lessK_trans (ris.2.1.2.2.1.1 y hy) g)
  have e2 := last_loop hw1 h1 hF hs hr (stepC 3 zR zAsk m.res)
  have e3 := next_loop hw1 h1 hF hs hm
  have hap : (lst W 0 0)[p.length]? = some m.ap := by rw [hs, List.getElem?_append_right (Nat.le_refl _), Nat.sub_self]; rfl
  obtain ⟨b2, all2, ro2, c1, c2, c3⟩ := h1.at (cs_get hap)
  have hll := lst_len W 0 0
  have hlenp : (lst W 0 0).length = p.length + 1 + mid.length + 1 + q.length := by rw [hs]; simp; omega
  have n20 := h.n20
  have e5 : IntKind.i64.wrap ((p.length : Int) + 1) = ((p.length + 1 : Nat) : Int) := by rw [wrap64 (by omega) (by omega)]; omega
  have hl := hF.l
  have e4 : bld [Value.int .i64 0, .int .u64 0] [] = some (VI 0 0) := rfl
  rw [show ((0 : Nat) : Int) = 0 from rfl] at e2
  refine frzR_of (s' := s1) ?_ rfl
  simp only [leapfroglaw12x_World_right.v, leapfroglaw12x_World_right.t, sy, reduceIte, Nat.reduceAdd, Nat.reduceLeDiff, Nat.reduceLT, Nat.reduceEqDiff, Int.reduceEq, Int.reduceLT, Int.reduceLE, Int.reduceNe, ly, e1, e2, hl, c1, lda_row c2, c3, e5, e3, Nat.one_ne_zero]

/-! ### A search is played -/

theorem okV_pre {h bt : Nat} {wl wb : Int} (h32 : h ≤ 32) (hb : bt < 2 ^ h) (hp : ∃ k : Nat, k ≤ h ∧ wl = k ∧ wb = ((bt / 2 ^ (h - k) : Nat) : Int)) : okV wl wb := by
  obtain ⟨k, j1, j2, j3⟩ := hp
  refine ⟨k, bt / 2 ^ (h - k), j2, j3, by omega, ?_⟩
  rw [Nat.div_lt_iff_lt_mul (Nat.two_pow_pos _), ← Nat.pow_add, show k + (h - k) = h by omega]
  exact hb
theorem next_ov {m : Mm} (h : m.ov = true) : nextC m = stepC 3 zR zAsk m.res := by simp [nextC, h]
theorem next_go {m : Mm} (h : m.ov = false) : nextC m = stepC 1 (curF m) ⟨1, m.wl, m.wb, zR, zR, 0, 0⟩ zRes := by
  cases hk : m.lk <;> simp [nextC, h, curF, hk]
/-- One ask of the world. -/
theorem ask_w {W : Wd} {ds : List Bool} {lv dv : Value} {c : Cf} {m : Mm} {s : St} {b q : Nat} (h : WdAt W ds s lv dv) (f : Fresh s) (hA : At c m s b q) (hI : InvW W c m) (ht : c.tr = 2) (hb : c.st.bt.toNat < 2 ^ W.h) :
    ∃ m' s1 s2, leapfroglaw12x_World_Answer.v (WV W lv dv) (.agg ⟨(curF m).cs⟩) (VI m.wl m.wb) s = some (.agg ⟨(ansW W (curF m).id m.wl m.wb).cs⟩, s1) ∧ seek_Seek_Tell.v (P b) (.agg ⟨(ansW W (curF m).id m.wl m.wb).cs⟩) s1 = some (unit', s2) ∧
      At c m' s2 b q ∧ WdAt W ds s2 lv dv ∧ Fresh s2 ∧ StpK [40, 1000] s s2 ∧ (((InvW W c m' ∨ FinW W c m') ∧ muW W c m' < muW W c m) ∨ BusyW W m') := by
  have hwb : 0 ≤ m.wb := by obtain ⟨k, _, _, j3⟩ := hI.pre; rw [j3]; exact Int.natCast_nonneg _
  obtain ⟨s1, e1, m1, f1⟩ := answer_r (wl := m.wl) (to := curF m) h f hwb
  obtain ⟨D, x, g1, g2, g3⟩ := step_w h.ok ht hb hI
  have k1 : StpK [] s s1 := .more m1 f
  have hA1 := hA.stp k1 (by simp) (by simp)
  have n20 := h.n20
  obtain ⟨s2, e2, hA2, st2⟩ := tell_f hA1 hI.n0 (okV_pre h.ok.h32 hb hI.pre) _ g1 (by unfold BIG; omega)
  have k2 := Stq.stp hA1 st2
  exact ⟨_, s1, s2, e1, e2, hA2, (h.more m1 f).stp k2 (by simp) (by simp), k2.2.2 f1, (k1.mono (by simp)).trans k2, g3⟩
theorem play_r {W : Wd} {ds : List Bool} {lv dv : Value} {c : Cf} {s : St} (h : WdAt W ds s lv dv) (f : Fresh s) (hC : okC c) (hI : InvW W c (m0 c)) (ht : c.tr = 2) (hb : c.st.bt.toNat < 2 ^ W.h) (hbt : 0 ≤ c.st.bt) (hmu : muW W c (m0 c) ≤ 10000) :
    ∃ m n s', leapfroglaw12x_World_play.v (WV W lv dv) (.agg ⟨c.cs⟩) s = some (.tuple ⟨[.agg ⟨stepC 3 zR zAsk m.res⟩, .int .i64 ((n : Nat) : Int)]⟩, s') ∧ StpK [40, 1000] s s' ∧ ((FinW W c m ∧ n + muW W c m ≤ muW W c (m0 c)) ∨ (BusyW W m ∧ n ≤ 10001)) := by
  rcases new_r f c hbt with ⟨g, _⟩ | ⟨_, q1⟩
  · exact absurd hC g
  have hA := at_new f c
  have mo : More s (N2 s c) := More.new.trans .new
  have f1 := mo.fresh f
  have h1 := h.more mo f
  have k0 : StpK [40, 1000] s (N2 s c) := .more mo f
  generalize N2 s c = s1 at *
  have main : ∃ m n s' X, iter (leapfroglaw12x_World_play.l5 std) BIG [P (s.n + 1), .int .i64 ((0 : Nat) : Int), WV W lv dv, .agg ⟨stepC 0 zR zAsk zRes⟩] s1 = some ((1, [.int .i64 ((n : Nat) : Int), .agg ⟨stepC 3 zR zAsk m.res⟩], s') : Cut) ∧ X = m ∧ StpK [40, 1000] s s' ∧ ((FinW W c m ∧ n + muW W c m ≤ muW W c (m0 c)) ∨ (BusyW W m ∧ n ≤ 10001)) := by
    refine iter_rel (fun d xs s' => ∃ m n, At c m s' (s.n + 1) s.n ∧ WdAt W ds s' lv dv ∧ Fresh s' ∧ StpK [40, 1000] s s' ∧ xs = [P (s.n + 1), .int .i64 ((n : Nat) : Int), WV W lv dv, .agg ⟨stepC 0 zR zAsk zRes⟩] ∧ n + d ≤ 10001 ∧
        ((InvW W c m ∧ n + muW W c m ≤ muW W c (m0 c) ∧ d = muW W c m + 1) ∨ (FinW W c m ∧ n + muW W c m ≤ muW W c (m0 c)) ∨ BusyW W m))
      (fun y : Option Cut => ∃ m n s' X, y = some ((1, [.int .i64 ((n : Nat) : Int), .agg ⟨stepC 3 zR zAsk m.res⟩], s') : Cut) ∧ X = m ∧ StpK [40, 1000] s s' ∧ ((FinW W c m ∧ n + muW W c m ≤ muW W c (m0 c)) ∨ (BusyW W m ∧ n ≤ 10001))) ?_ BIG (muW W c (m0 c) + 1) _ s1 (by unfold BIG; omega) ⟨m0 c, 0, hA, h1, f1, k0, rfl, by omega, .inl ⟨hI, by omega, rfl⟩⟩
    rintro d xs s2 rec ⟨m, n, hA2, h2, f2, k2, rfl, hd, hx⟩ ih
    have e1 : ((n : Nat) : Int) < 20000 := by omega
    have n1 := next_r hA2
    have over : m.ov = true → leapfroglaw12x_World_play.l5 std rec [P (s.n + 1), .int .i64 ((n : Nat) : Int), WV W lv dv, .agg ⟨stepC 0 zR zAsk zRes⟩] s2 = some ((1, [.int .i64 ((n : Nat) : Int), .agg ⟨stepC 3 zR zAsk m.res⟩], s2) : Cut) := by
      intro ho
      rw [next_ov ho] at n1
      simp only [leapfroglaw12x_World_play.l5, leapfroglaw12x_World_play.l5.p1, sy, reduceIte, Nat.reduceAdd, Nat.reduceLeDiff, Nat.reduceLT, Nat.reduceEqDiff, Int.reduceEq, Int.reduceLT, Int.reduceLE, Int.reduceNe, ly, e1, n1]
    rcases hx with ⟨hI2, hmu2, hdm⟩ | hF | hB
    · rw [next_go hI2.ov] at n1
      obtain ⟨m', s3, s4, a1, a2, hA4, h4, f4, k4, hres⟩ := ask_w h2 f2 hA2 hI2 ht hb
      have e5 : IntKind.i64.wrap (((n : Nat) : Int) + 1) = ((n + 1 : Nat) : Int) := by rw [wrap64 (by omega) (by omega)]; omega
      generalize ansW W (curF m).id m.wl m.wb = aw at *
      have fin : leapfroglaw12x_World_play.l5 std rec [P (s.n + 1), .int .i64 ((n : Nat) : Int), WV W lv dv, .agg ⟨stepC 0 zR zAsk zRes⟩] s2 = rec [P (s.n + 1), .int .i64 ((n + 1 : Nat) : Int), WV W lv dv, .agg ⟨stepC 0 zR zAsk zRes⟩] s4 := by
        simp only [leapfroglaw12x_World_play.l5, leapfroglaw12x_World_play.l5.p1, sy, reduceIte, Nat.reduceAdd, Nat.reduceLeDiff, Nat.reduceLT, Nat.reduceEqDiff, Int.reduceEq, Int.reduceLT, Int.reduceLE, Int.reduceNe, ly, e1, n1, a1, a2, e5]
      rw [fin]
      rcases hres with ⟨hi | hi, hlt⟩ | hi
      · exact ih (muW W c m' + 1) _ _ (by omega) ⟨m', n + 1, hA4, h4, f4, k2.trans k4, rfl, by omega, .inl ⟨hi, by omega, rfl⟩⟩
      · exact ih (muW W c m' + 1) _ _ (by omega) ⟨m', n + 1, hA4, h4, f4, k2.trans k4, rfl, by omega, .inr (.inl ⟨hi, by omega⟩)⟩
      · have := (mu_go h.ok hI2).1
        exact ih (muW W c m) _ _ (by omega) ⟨m', n + 1, hA4, h4, f4, k2.trans k4, rfl, by omega, .inr (.inr hi)⟩
    · exact ⟨m, n, s2, m, over hF.1.ov, rfl, k2, .inl hF⟩
    · exact ⟨m, n, s2, m, over hB.ov, rfl, k2, .inr ⟨hB, by omega⟩⟩
  obtain ⟨m, n, s', X, e, _, k, hr⟩ := main
  rw [show ((0 : Nat) : Int) = 0 from rfl] at e
  exact ⟨m, n, s', by simp only [leapfroglaw12x_World_play.v, leapfroglaw12x_World_play.t, leapfroglaw12x_World_play.t.p1, sy, reduceIte, Nat.reduceAdd, Nat.reduceLeDiff, Nat.reduceLT, Nat.reduceEqDiff, Int.reduceEq, Int.reduceLT, Int.reduceLE, Int.reduceNe, ly, q1, e, Nat.one_ne_zero], k, hr⟩
end Go.Proofs.Ytonnegfkokghdaa
