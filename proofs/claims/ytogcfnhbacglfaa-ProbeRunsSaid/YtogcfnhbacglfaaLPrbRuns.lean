/-
  ProbeRuns, over abstract values.
-/
import Derived.Test.YtogcfnhbacglfaaPrbH
set_option linter.unusedSimpArgs false
set_option linter.unusedVariables false
set_option maxRecDepth 100000
set_option maxHeartbeats 4000000
namespace Go.Proofs.Ytogcfnhbacglfaa
open Go.Sim Go.Sim.Bt
attribute [local congr] bdc cndc itec gdc gdSc gdUc
namespace ProbeRuns

theorem awake_r (s : St) : leapfroglaw19x_awakeC.r s = some (.bool true) := rfl
theorem few_v {me : Rf} {s : St} {v : Value} (h : Leaf.Is s (.sl [.i .i64, .i .u64]) v) :
    ∃ L w, (∀ p ∈ L, 0 ≤ p.2) ∧ L.length ≤ 100 ∧ IsR s 2 w (L.map V2) ∧ bx v = some [v] ∧ leapfroglaw19x_few.r (.agg ⟨ccs ⟨me, []⟩ v⟩) s = some (.agg ⟨ccs ⟨me, L⟩ w⟩) := by
  obtain ⟨L, h0, h⟩ := isP_of h
  rcases h with ⟨rfl, rfl⟩ | ⟨b, cap, all, rfl, h1, h2, h3⟩
  · exact ⟨[], _, h0, by simp, .nil, rfl, rfl⟩
  · by_cases k : L.length ≤ 100
    · refine ⟨L, _, h0, k, .inr ⟨b, 2 * cap, all, true, by rw [List.length_map], h2, by rw [List.length_map]; exact h3⟩, rfl, ?_⟩
      have e1 : ¬ (100 : Int) < (L.length : Int) := by omega
      have e2 : ¬ (L.length : Int) > 100 := by omega
      simp only [leapfroglaw19x_few.r, leapfroglaw19x_few.t, sy, reduceIte, Nat.reduceAdd, Nat.reduceLeDiff, Nat.reduceLT, Nat.reduceEqDiff, Int.reduceEq, Int.reduceLT, Int.reduceLE, Int.reduceNe, ly, e1, e2]
    · have hl : (L.take 100).length = 100 := by rw [List.length_take]; omega
      refine ⟨L.take 100, .slice (some ⟨b, 0, some 0⟩) 100 (2 * cap), fun p hp => h0 p (List.mem_of_mem_take hp), by omega, .inr ⟨b, 2 * cap, all, true, by rw [List.length_map, hl], h2, ?_⟩, rfl, ?_⟩
      · rw [List.length_map, hl, List.map_take, ← h3, List.take_take]
        congr 1
        omega
      · have e1 : (100 : Int) < (L.length : Int) := by omega
        have e2 : (L.length : Int) > 100 := by omega
        have hs : slc s 2 (.slice (some ⟨b, 0, some 0⟩) L.length (2 * cap)) none (some (.int .i64 100)) none = some (.slice (some ⟨b, 0, some 0⟩) 100 (2 * cap)) := by
          unfold slc
          have z : optN none 0 = some 0 := rfl
          have z' : optN (some (.int .i64 100)) L.length = some 100 := rfl
          have n1 : 2 * cap ≠ 1 := by omega
          have n2 : 100 ≤ 2 * cap / 2 := by omega
          rw [z]
          simp [z', h2, n1, n2]
          omega
        simp only [leapfroglaw19x_few.r, leapfroglaw19x_few.t, sy, reduceIte, Nat.reduceAdd, Nat.reduceLeDiff, Nat.reduceLT, Nat.reduceEqDiff, Int.reduceEq, Int.reduceLT, Int.reduceLE, Int.reduceNe, ly, e1, e2, hs]
structure Here (c : Pc) (v : Value) (l : List Ans) (Q R : Nat) (m : Pm) (s : St) : Prop where
  hQ : AtQ c m s Q
  hR : AtK c m s R
  inv : InvP c m
  ho : IsA s v l
  fr : Fresh s
theorem step {c : Pc} {v : Value} {l : List Ans} {Q R j : Nat} {m : Pm} {s : St} (h : Here c v l Q R m s) (hj : j < 300) {a : Ans} (ha : l[j]? = some a) (rec : List Value → St → Option Cut) :
    ∃ m' s', leapfroglaw19x_ProbeRuns.l9 std rec [v, PU Q, PU R, .int .i64 (j : Int)] s = rec [v, PU Q, PU R, .int .i64 ((j + 1 : Nat) : Int)] s' ∧ Here c v l Q R m' s' := by
  have hjl : j < l.length := (List.getElem?_eq_some_iff.1 ha).1
  have e1 : (j : Int) < l.length := by omega
  have e2 : (j : Int) < 300 := by omega
  have e5 : IntKind.i64.wrap ((j : Int) + 1) = ((j + 1 : Nat) : Int) := by rw [wrap64 (by omega) (by omega)]; omega
  have hlen := h.ho.len
  obtain ⟨p, i1, i2⟩ := h.ho.load ha
  obtain ⟨s1, t1, t2, t3, t4⟩ := tell_v (a := a) h.hQ h.inv h.fr
  have o1 := h.ho.stp t3 (by decide)
  have r1 := h.hR.stp t3 (by decide) (by decide) (by decide)
  obtain ⟨p', j1, j2⟩ := o1.load ha
  obtain ⟨s2, u1, u2, u3, u4⟩ := rtell_v (a := a) r1 h.inv t4
  have q2 := t2.stp u3 (by decide) (by decide) (by decide)
  have I2 := inv_tell h.inv a
  have o2 := o1.stp u3 (by decide)
  have n1 := next_v q2 I2
  have n2 := rnext_v u2 I2
  have n3 := same_step c (tellC c m a) s2
  obtain ⟨w, s3, b1, b2, b3, b4⟩ := breaks_v q2 I2 u4
  have k3 : StpK [] s2 s3 := .more b2 u4
  have q3 := q2.stp k3 (by decide) (by decide) (by decide)
  have r3 := u2.stp k3 (by decide) (by decide) (by decide)
  obtain ⟨lv, bv, g1, g2, g3⟩ := u2.ex
  have G1 := k3.row g1 (by decide)
  have G3 := g3.stp k3 (by decide)
  have sm := G3.same
  have n4 := sameB_v b4 G3 (by have := I2.l; have := I2.a; have := I2.len; omega)
  have wk := wake_v Q s2
  generalize nextC c (tellC c m a) = nx at *
  refine ⟨tellC c m a, s3, ?_, ⟨q3, r3, I2, o2.stp k3 (by decide), b3⟩⟩
  simp only [leapfroglaw19x_ProbeRuns.l9, sy, reduceIte, Nat.reduceAdd, Nat.reduceLeDiff, Nat.reduceLT, Nat.reduceEqDiff, Int.reduceEq, Int.reduceLT, Int.reduceLE, Int.reduceNe, ly, hlen, e1, e2, i1, i2, t1, j1, j2, u1, wk, n1, n2, n3, b1, ldc_row g1, ldc_row G1, sm, n4, e5]
theorem loop {c : Pc} {v : Value} {l : List Ans} {Q R : Nat} {m : Pm} {s : St} (h : Here c v l Q R m s) :
    ∃ m' s', iter (leapfroglaw19x_ProbeRuns.l9 std) BIG [v, PU Q, PU R, .int .i64 ((0 : Nat) : Int)] s = some ((0, [PU Q, PU R], s') : Cut) ∧ Here c v l Q R m' s' := by
  refine iter_rel (fun k xs s' => ∃ m j, Here c v l Q R m s' ∧ j + k = 300 ∧ xs = [v, PU Q, PU R, .int .i64 ((j : Nat) : Int)])
    (fun y : Option Cut => ∃ m' s', y = some ((0, [PU Q, PU R], s') : Cut) ∧ Here c v l Q R m' s') ?_ BIG 300 _ s (by unfold BIG; omega) ⟨m, 0, h, by omega, rfl⟩
  rintro k xs s rec ⟨m, j, h, hj, rfl⟩ ih
  by_cases h1 : j < l.length
  · have e1 : (j : Int) < l.length := by omega
    cases k with
    | zero =>
      have e2 : ¬ ((j : Int) < 300) := by omega
      exact ⟨m, s, by simp only [leapfroglaw19x_ProbeRuns.l9, sy, reduceIte, Nat.reduceAdd, Nat.reduceLeDiff, Nat.reduceLT, Nat.reduceEqDiff, Int.reduceEq, Int.reduceLT, Int.reduceLE, Int.reduceNe, ly, h.ho.len, e1, e2], h⟩
    | succ k =>
      obtain ⟨a, ha⟩ : ∃ a, l[j]? = some a := ⟨_, List.getElem?_eq_getElem h1⟩
      obtain ⟨m', s', g1, g2⟩ := step h (by omega) ha rec
      rw [g1]
      exact ih k _ _ (by omega) ⟨m', j + 1, g2, by omega, rfl⟩
  · have e1 : ¬ ((j : Int) < l.length) := by omega
    exact ⟨m, s, by simp only [leapfroglaw19x_ProbeRuns.l9, sy, reduceIte, Nat.reduceAdd, Nat.reduceLeDiff, Nat.reduceLT, Nat.reduceEqDiff, Int.reduceEq, Int.reduceLT, Int.reduceLE, Int.reduceNe, ly, h.ho.len, e1], h⟩

theorem law (s : St) (us : List Value) (ha : AllRo s) (hf : ∀ b, s.n ≤ b → s.get b = none) (h : Args s [(true, [.i .i64, .i .i64, .i .u64, .i .i64, .i .u64, .sl [.i .i64, .i .u64]]), (false, [.sl [.i .i64, .b, .i .i64, .i .i64, .i .u64, .i .i64, .i .u64, .i .i64, .i .i64, .i .u64, .i .i64, .i .u64, .sl [.i .u8]]])] us) :
    ∃ s', leapfroglaw19x_ProbeRuns.w us s = some (.bool true, s') := by
  simp only [Args, Arg] at h
  obtain ⟨_, _, rfl, ⟨_, rfl, h1⟩, v, _, rfl, h2, rfl⟩ := h
  unfold Leaf.Are Leaf.Are at h2
  obtain ⟨v', _, g1, h2, rfl⟩ := h2
  obtain rfl : v = v' := (List.cons.inj g1).1
  unfold Leaf.Are Leaf.Are Leaf.Are Leaf.Are Leaf.Are Leaf.Are Leaf.Are at h1
  obtain ⟨_, _, rfl, q1, _, _, rfl, q2, _, _, rfl, q3, _, _, rfl, q4, _, _, rfl, q5, lv, _, rfl, q6, rfl⟩ := h1
  unfold Leaf.Is at q1 q2 q3 q4 q5
  obtain ⟨i1, rfl, _⟩ := q1
  obtain ⟨i2, rfl, _⟩ := q2
  obtain ⟨i3, rfl, _⟩ := q3
  obtain ⟨i4, rfl, _⟩ := q4
  obtain ⟨i5, rfl, hi5⟩ := q5
  obtain ⟨l, hl⟩ := isA_of h2
  have hm0 := (wf_u64 hi5).1
  show ∃ s', leapfroglaw19x_ProbeRuns.v (.agg ⟨ccs ⟨⟨i1, i2, i3, i4, i5⟩, []⟩ lv⟩) v s = some (.bool true, s')
  obtain ⟨L, w, p1, p2, p3, p4, p5⟩ := few_v (me := ⟨i1, i2, i3, i4, i5⟩) q6
  have hw := p3.bx
  generalize hc : (⟨i1, i2, i3, i4, i5⟩ : Rf) = me at *
  have hm0 : 0 ≤ me.bt := by rw [← hc]; exact hm0
  have n1 := new_v (c := ⟨me, L⟩) hf p3 p1 hm0 (by show L.length ≤ _; omega)
  have a0 := awake_r s
  by_cases ok : okP ⟨me, L⟩
  · obtain ⟨Q, s1, n2, n3, n4, n5, n6⟩ := n1.1 ok
    obtain ⟨R, s2, r2, r3, r4, r5, r6⟩ := (rnew_v (c := ⟨me, L⟩) n5 (p3.more n4 hf) p1 hm0 (by show L.length ≤ _; omega)).1 ok
    have H0 : Here ⟨me, L⟩ v l Q R p0 s2 := ⟨n3.stp (.more r4 n5) (by decide : 15 ∉ ([] : List Nat)) (by decide) (by decide), r3, inv_p0 (by show L.length ≤ _; omega), (hl.more n4 hf).more r4 n5, r5⟩
    obtain ⟨m', s', e, h'⟩ := loop H0
    rw [show ((0 : Nat) : Int) = 0 from rfl] at e
    have k1 := next_v h'.hQ h'.inv
    have k2 := rnext_v h'.hR h'.inv
    have k3 := same_step ⟨me, L⟩ m' s'
    generalize nextC ⟨me, L⟩ m' = nx at *
    exact ⟨s', by simp only [leapfroglaw19x_ProbeRuns.v, leapfroglaw19x_ProbeRuns.t, sy, reduceIte, Nat.reduceAdd, Nat.reduceLeDiff, Nat.reduceLT, Nat.reduceEqDiff, Int.reduceEq, Int.reduceLT, Int.reduceLE, Int.reduceNe, ly, p4, p5, hw, a0, n2, r2, e, k1, k2, k3]⟩
  · obtain ⟨s1, n2, n4, n5⟩ := n1.2 ok
    obtain ⟨s2, r2, r4, r5⟩ := (rnew_v (c := ⟨me, L⟩) n5 (p3.more n4 hf) p1 hm0 (by show L.length ≤ _; omega)).2 ok
    have hl2 := (hl.more n4 hf).more r4 n5
    have hlen := hl2.len
    have q0 : eqb [3] false true (.pointer none) (.pointer none) = some (.bool false) := rfl
    have q1 : eqb [3] false false (.pointer none) (.pointer none) = some (.bool true) := rfl
    have e : iter (leapfroglaw19x_ProbeRuns.l9 std) BIG [v, .pointer none, .pointer none, .int .i64 0] s2 = some ((0, [.pointer none, .pointer none], s2) : Cut) := by
      rw [show BIG = 4611686018427387903 + 1 from rfl, iter_succ]
      have d300 : (0 : Int) < 300 := by omega
      by_cases z : (0 : Int) < (l.length : Int)
      · simp only [leapfroglaw19x_ProbeRuns.l9, sy, reduceIte, Nat.reduceAdd, Nat.reduceLeDiff, Nat.reduceLT, Nat.reduceEqDiff, Int.reduceEq, Int.reduceLT, Int.reduceLE, Int.reduceNe, ly, hlen, z, q0, d300]
      · simp only [leapfroglaw19x_ProbeRuns.l9, sy, reduceIte, Nat.reduceAdd, Nat.reduceLeDiff, Nat.reduceLT, Nat.reduceEqDiff, Int.reduceEq, Int.reduceLT, Int.reduceLE, Int.reduceNe, ly, hlen, z, q0, d300]
    exact ⟨s2, by simp only [leapfroglaw19x_ProbeRuns.v, leapfroglaw19x_ProbeRuns.t, sy, reduceIte, Nat.reduceAdd, Nat.reduceLeDiff, Nat.reduceLT, Nat.reduceEqDiff, Int.reduceEq, Int.reduceLT, Int.reduceLE, Int.reduceNe, ly, p4, p5, hw, a0, n2, r2, q0, q1, e]⟩
end ProbeRuns
end Go.Proofs.Ytogcfnhbacglfaa
