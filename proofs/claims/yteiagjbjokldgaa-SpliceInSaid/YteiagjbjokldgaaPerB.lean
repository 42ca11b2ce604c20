/-
  The document's peer in memory: a record is set, or goes.
-/
import Derived.Test.YteiagjbjokldgaaPerA
set_option linter.unusedSimpArgs false
set_option linter.unusedVariables false
set_option maxRecDepth 100000
set_option maxHeartbeats 2000000
namespace Go.Proofs.Yteiagjbjokldgaa
open Go.Sim Go.Sim.Bt
attribute [local congr] bdc cndc itec gdc gdSc gdUc

abbrev unitP : Value := .tuple ⟨[]⟩
def cmpW (x r : Rc) : Int := cmpV x.wl.toNat x.wb.toNat r.wl.toNat r.wb.toNat
theorem cmp_r {x r : Rc} {s : St} (f : Fresh s) (hx : okV x.wl x.wb) (hr : okV r.wl r.wb) : leapfrogref01x_CompareQ.r (VI x.wl x.wb) (VI r.wl r.wb) s = some (.tuple ⟨[.int .i64 (cmpW x r), .int .i64 0]⟩) := by
  obtain ⟨n, b, e1, e2, h1, h2⟩ := hx
  obtain ⟨m, c, e3, e4, h3, h4⟩ := hr
  have := rCompare_ok s f h1 h2 h3 h4
  unfold cmpW
  rw [e1, e2, e3, e4]
  exact this
def setStep (r : Rc) (st : List Rc × Bool) (x : Rc) : List Rc × Bool :=
  let a := if 0 < cmpW x r ∧ st.2 = false then (st.1 ++ [r], true) else st
  let b := if cmpW x r ≠ 0 then (a.1 ++ [x], a.2) else a
  if cmpW x r = 0 ∧ b.2 = false then (b.1 ++ [r], true) else b
def setL (p : Pr) (r : Rc) : List Rc :=
  let o := p.L.foldl (setStep r) ([], plainC p r)
  if o.2 = true then o.1 else o.1 ++ [r]
theorem setStep_len (r : Rc) (st : List Rc × Bool) (x : Rc) : (setStep r st x).1.length ≤ st.1.length + 3 := by
  unfold setStep
  simp only []
  split <;> split <;> split <;> simp
theorem setStep_mem (r : Rc) (st : List Rc × Bool) (x : Rc) : ∀ y ∈ (setStep r st x).1, y ∈ st.1 ∨ y = r ∨ y = x := by
  intro y h
  unfold setStep at h
  simp only [] at h
  grind
theorem push_ends {n0 : Nat} {s0 s : St} {v : Value} {L : List Rc} (f : Fresh s) (h : Ful s0.n s 16 v (L.map Rc.cs)) (m : More s0 s) (r : Rc) (hl : L.length ≤ 5000) :
    ∃ v' s', app (s.new (.row 16 [r.cs] false)) 16 144 v (.slice (some ⟨s.n, 0, some 0⟩) 1 2) = some (v', s') ∧ More s0 s' ∧ Ful s0.n s' 16 v' ((L ++ [r]).map Rc.cs) ∧ Fresh s' := by
  obtain ⟨v', s', p1, p2, p3, p4, _⟩ := push f h m (by_ := 144) r.cs (by rw [List.length_map]; omega) (by rw [List.length_map]; omega)
  exact ⟨v', s', p1, p2, by rw [List.map_append]; exact p3, p4⟩
theorem set_step {p : Pr} {s0 s : St} {b : Nat} {r : Rc} {st : List Rc × Bool} {v : Value} {i : Nat} (f0 : Fresh s0) (h : AtP p s0 b) (hr : okV r.wl r.wb) (m : More s0 s) (f : Fresh s) (hv : Ful s0.n s 16 v (st.1.map Rc.cs)) (hl : st.1.length ≤ 4000) {x : Rc} (hx : p.L[i]? = some x) (rec : List Value → St → Option Cut) :
    ∃ v' s', leapfrogref09x_Peer_set.l4 std rec [PP b, v, .bool st.2, .int .i64 (i : Int), .agg ⟨r.cs⟩] s = rec [PP b, v', .bool (setStep r st x).2, .int .i64 ((i + 1 : Nat) : Int), .agg ⟨r.cs⟩] s' ∧ More s0 s' ∧ Fresh s' ∧ Ful s0.n s' 16 v' ((setStep r st x).1.map Rc.cs) := by
  obtain ⟨vv, lv, h1, h2, h3⟩ := h.ex
  have hn := h.n
  have hil : i < p.L.length := (List.getElem?_eq_some_iff.1 hx).1
  have e1 : (i : Int) < p.L.length := by omega
  have e5 : IntKind.i64.wrap ((i : Int) + 1) = ((i + 1 : Nat) : Int) := by rw [wrap64 (by omega) (by omega)]; omega
  have g1 : PRow s b (prow p vv lv) := m.get f0 h1
  have g2 := h2.more m f0
  have hlen := g2.len
  rw [List.length_map] at hlen
  obtain ⟨o, al, ro, a1, a2, a3⟩ := g2.at (rc_get hx)
  have hc := cmp_r f (h.ok x (List.mem_of_getElem? hx)) hr
  obtain ⟨c, hcc⟩ : ∃ c, c = cmpW x r := ⟨_, rfl⟩
  rw [← hcc] at hc
  unfold setStep
  rw [← hcc]
  rcases Int.lt_trichotomy c 0 with k | k | k
  · have c1 : ¬ (0 < c) := by omega
    have c2 : ¬ (c = 0) := by omega
    obtain ⟨v1, s1, p1, p2, p3, p4⟩ := push_ends (n0 := 0) f hv m x (by omega)
    refine ⟨v1, s1, ?_, p2, p4, ?_⟩
    · simp only [leapfrogref09x_Peer_set.l4, leapfrogref09x_Peer_set.l4.p1, sy, reduceIte, Nat.reduceAdd, Nat.reduceLeDiff, Nat.reduceLT, Nat.reduceEqDiff, Int.reduceEq, Int.reduceLT, Int.reduceLE, Int.reduceNe, ly, ldc_row g1, hlen, e1, a1, lda_row a2, a3, hc, c1, c2, als_eq, Nat.reduceMul, p1, e5]
    · simp only [c1, c2, false_and, if_false, not_false_eq_true, ne_eq, if_true]; exact p3
  · have c1 : ¬ (0 < c) := by omega
    cases hd : st.2 with
    | true =>
      refine ⟨v, s, ?_, m, f, ?_⟩
      · simp only [leapfrogref09x_Peer_set.l4, leapfrogref09x_Peer_set.l4.p1, sy, reduceIte, Nat.reduceAdd, Nat.reduceLeDiff, Nat.reduceLT, Nat.reduceEqDiff, Int.reduceEq, Int.reduceLT, Int.reduceLE, Int.reduceNe, ly, ldc_row g1, hlen, e1, a1, lda_row a2, a3, hc, c1, k, hd, Int.lt_irrefl, reduceCtorEq, and_false, e5]
      · simp only [k, hd, Int.lt_irrefl, false_and, if_false, ne_eq, not_true_eq_false, reduceCtorEq, and_false]; exact hv
    | false =>
      obtain ⟨v1, s1, p1, p2, p3, p4⟩ := push_ends (n0 := 0) f hv m r (by omega)
      refine ⟨v1, s1, ?_, p2, p4, ?_⟩
      · simp only [leapfrogref09x_Peer_set.l4, leapfrogref09x_Peer_set.l4.p1, sy, reduceIte, Nat.reduceAdd, Nat.reduceLeDiff, Nat.reduceLT, Nat.reduceEqDiff, Int.reduceEq, Int.reduceLT, Int.reduceLE, Int.reduceNe, ly, ldc_row g1, hlen, e1, a1, lda_row a2, a3, hc, c1, k, hd, Int.lt_irrefl, als_eq, Nat.reduceMul, p1, e5]
      · simp only [k, hd, Int.lt_irrefl, false_and, if_false, ne_eq, not_true_eq_false, and_self, if_true]; exact p3
  · have c2 : ¬ (c = 0) := by omega
    cases hd : st.2 with
    | true =>
      obtain ⟨v1, s1, p1, p2, p3, p4⟩ := push_ends (n0 := 0) f hv m x (by omega)
      refine ⟨v1, s1, ?_, p2, p4, ?_⟩
      · simp only [leapfrogref09x_Peer_set.l4, leapfrogref09x_Peer_set.l4.p1, sy, reduceIte, Nat.reduceAdd, Nat.reduceLeDiff, Nat.reduceLT, Nat.reduceEqDiff, Int.reduceEq, Int.reduceLT, Int.reduceLE, Int.reduceNe, ly, ldc_row g1, hlen, e1, a1, lda_row a2, a3, hc, k, c2, hd, reduceCtorEq, and_false, als_eq, Nat.reduceMul, p1, e5]
      · simp only [k, c2, hd, reduceCtorEq, and_false, false_and, if_false, not_false_eq_true, ne_eq, if_true]; exact p3
    | false =>
      obtain ⟨v1, s1, p1, p2, p3, p4⟩ := push_ends (n0 := 0) f hv m r (by omega)
      have q1 : PRow s1 b (prow p vv lv) := p2.get f0 h1
      have q2 := h2.more p2 f0
      obtain ⟨o2, al2, ro2, b1, b2, b3⟩ := q2.at (rc_get hx)
      obtain ⟨v2, s2, r1, r2, r3, r4⟩ := push_ends (n0 := 0) p4 p3 p2 x (by simp; omega)
      refine ⟨v2, s2, ?_, r2, r4, ?_⟩
      · simp only [leapfrogref09x_Peer_set.l4, leapfrogref09x_Peer_set.l4.p1, sy, reduceIte, Nat.reduceAdd, Nat.reduceLeDiff, Nat.reduceLT, Nat.reduceEqDiff, Int.reduceEq, Int.reduceLT, Int.reduceLE, Int.reduceNe, ly, ldc_row g1, hlen, e1, a1, lda_row a2, a3, hc, k, c2, hd, als_eq, Nat.reduceMul, p1, ldc_row q1, b1, lda_row b2, b3, r1, e5]
      · simp only [k, c2, hd, true_and, false_and, and_self, if_true, if_false, not_false_eq_true, ne_eq]; exact r3
/-- A record is set. -/
theorem set_r {p : Pr} {s : St} {b : Nat} (f : Fresh s) (h : AtP p s b) (r : Rc) (hr : okV r.wl r.wb) (hn : (setL p r).length ≤ 1000) (hok : ∀ y ∈ setL p r, okV y.wl y.wb) :
    ∃ s', leapfrogref09x_Peer_set.v (PP b) (.agg ⟨r.cs⟩) s = some (unitP, s') ∧ AtP { p with L := setL p r } s' b ∧ StB b s s' := by
  obtain ⟨vv, lv, h1, h2, h3⟩ := id h.ex
  have pl := plain_r h1 h.hm r
  have hN := h.n
  have loop : ∃ v' s', iter (leapfrogref09x_Peer_set.l4 std) BIG [PP b, .slice none 0 0, .bool (plainC p r), .int .i64 ((0 : Nat) : Int), .agg ⟨r.cs⟩] s = some ((0, [PP b, v', .bool (p.L.foldl (setStep r) ([], plainC p r)).2, .agg ⟨r.cs⟩], s') : Cut) ∧ More s s' ∧ Fresh s' ∧ Ful s.n s' 16 v' ((p.L.foldl (setStep r) ([], plainC p r)).1.map Rc.cs) ∧ (p.L.foldl (setStep r) ([], plainC p r)).1.length ≤ 3000 := by
    refine iter_rel (fun d xs s' => ∃ i v st, i + d = p.L.length ∧ More s s' ∧ Fresh s' ∧ Ful s.n s' 16 v (st.1.map Rc.cs) ∧ st.1.length ≤ 3 * i ∧ st = (p.L.take i).foldl (setStep r) ([], plainC p r) ∧ xs = [PP b, v, .bool st.2, .int .i64 (i : Int), .agg ⟨r.cs⟩])
      (fun y : Option Cut => ∃ v' s', y = some ((0, [PP b, v', .bool (p.L.foldl (setStep r) ([], plainC p r)).2, .agg ⟨r.cs⟩], s') : Cut) ∧ More s s' ∧ Fresh s' ∧ Ful s.n s' 16 v' ((p.L.foldl (setStep r) ([], plainC p r)).1.map Rc.cs) ∧ (p.L.foldl (setStep r) ([], plainC p r)).1.length ≤ 3000) ?_ BIG p.L.length _ s (by unfold BIG; omega) ⟨0, _, ([], plainC p r), by omega, .refl _, f, .nil, by simp, rfl, rfl⟩
    rintro d xs s2 rec ⟨i, v, st, hi, hm, hf, hv, hl, hst, rfl⟩ ih
    cases d with
    | zero =>
      have e1 : ¬ ((i : Int) < p.L.length) := by omega
      rw [List.take_of_length_le (by omega)] at hst
      have g1 : PRow s2 b (prow p vv lv) := hm.get f h1
      have hlen := h2.len
      rw [List.length_map] at hlen
      rw [← hst]
      exact ⟨v, s2, by simp only [leapfrogref09x_Peer_set.l4, sy, reduceIte, Nat.reduceAdd, Nat.reduceLeDiff, Nat.reduceLT, Nat.reduceEqDiff, Int.reduceEq, Int.reduceLT, Int.reduceLE, Int.reduceNe, ly, ldc_row g1, hlen, e1], hm, hf, hv, by omega⟩
    | succ d =>
      obtain ⟨x, hx⟩ := get_some (l := p.L) (j := i) (by omega)
      obtain ⟨v', s', e, g1, g2, g3⟩ := set_step f h hr hm hf hv (by omega) hx rec
      rw [e]
      refine ih d _ _ (by omega) ⟨i + 1, v', _, by omega, g1, g2, g3, ?_, ?_, rfl⟩
      · have := setStep_len r st x; omega
      · rw [List.take_add_one, hx, Option.toList_some, List.foldl_append, ← hst]; rfl
  obtain ⟨v, s1, e, m1, f1, hv, hl⟩ := loop
  rw [show ((0 : Nat) : Int) = 0 from rfl] at e
  have fin : ∀ {v' : Value} {s2 : St}, More s s2 → Fresh s2 → Ful s.n s2 16 v' ((setL p r).map Rc.cs) → ∃ s', stv s2 1 (.pointer (some ⟨b, 0, some 9⟩)) v' = some s' ∧ AtP { p with L := setL p r } s' b ∧ StB b s s' := by
    intro v' s2 m2 f2 hv2
    have g1 : PRow s2 b (prow p vv lv) := m2.get f h1
    have bxv := hv2.isR.bx
    have k : StpK [11] s2 (s2.put b (.row 11 [prow { p with L := setL p r } vv v'] false)) := .put g1 (by simp [kd])
    refine ⟨s2.put b (.row 11 [prow { p with L := setL p r } vv v'] false), by simp only [stv_row g1, sy, reduceIte, Nat.reduceAdd, Nat.reduceLeDiff, Nat.reduceLT, Nat.reduceEqDiff, Int.reduceEq, Int.reduceLT, Int.reduceLE, Int.reduceNe, ly, bxv], ⟨⟨vv, v', get_put_same g1, hv2.isR.stp k (by simp), (h3.stp (StpK.more (ks := []) m2 f) (by simp)).stp k (by simp)⟩, hn, hok, h.hm, h.hv⟩, (StB.more m2 f).trans .put⟩
  cases hd : (p.L.foldl (setStep r) ([], plainC p r)).2 with
  | true =>
    rw [hd] at e
    have hs : setL p r = (p.L.foldl (setStep r) ([], plainC p r)).1 := by unfold setL; simp only [hd, if_true]
    rw [← hs] at hv
    obtain ⟨s2, t1, t2, t3⟩ := fin m1 f1 hv
    exact ⟨s2, by simp only [leapfrogref09x_Peer_set.v, leapfrogref09x_Peer_set.t, sy, reduceIte, Nat.reduceAdd, Nat.reduceLeDiff, Nat.reduceLT, Nat.reduceEqDiff, Int.reduceEq, Int.reduceLT, Int.reduceLE, Int.reduceNe, ly, pl, e, t1], t2, t3⟩
  | false =>
    rw [hd] at e
    have hs : setL p r = (p.L.foldl (setStep r) ([], plainC p r)).1 ++ [r] := by unfold setL; simp only [hd, Bool.false_eq_true, if_false]
    obtain ⟨v2, s2, p1, p2, p3, p4⟩ := push_ends (n0 := 0) f1 hv m1 r (by omega)
    rw [← hs] at p3
    obtain ⟨s3, t1, t2, t3⟩ := fin p2 p4 p3
    exact ⟨s3, by simp only [leapfrogref09x_Peer_set.v, leapfrogref09x_Peer_set.t, sy, reduceIte, Nat.reduceAdd, Nat.reduceLeDiff, Nat.reduceLT, Nat.reduceEqDiff, Int.reduceEq, Int.reduceLT, Int.reduceLE, Int.reduceNe, ly, pl, e, als_eq, Nat.reduceMul, p1, t1], t2, t3⟩
end Go.Proofs.Yteiagjbjokldgaa
