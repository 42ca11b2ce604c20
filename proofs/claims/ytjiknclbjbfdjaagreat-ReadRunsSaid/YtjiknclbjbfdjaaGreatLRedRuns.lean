/-
  ReadRuns, over abstract values.
-/
import Derived.Test.YtjiknclbjbfdjaaGreatRedE
set_option linter.unusedSimpArgs false
set_option linter.unusedVariables false
set_option maxRecDepth 100000
set_option maxHeartbeats 2000000
namespace Go.Proofs.YtjiknclbjbfdjaaGreat
open Go.Sim Go.Sim.Bt
attribute [local congr] bdc cndc itec gdc gdSc gdUc
namespace ReadRuns

theorem alive_r (s : St) : leapfroglaw17x_aliveC.r s = some (.bool true) := rfl
theorem same_d (m : RM) (ms : Mm) {rv : Value} {s : St} (h : SameB s m.res.v rv) : leapfrogref12x_SameStep.r (.agg ⟨nextD m ms⟩) (.agg ⟨nextQ m ms rv⟩) s = some (.bool true) := by
  unfold nextD nextQ nextC
  split
  · split
    · exact sameStep_r _ _ _ _ s
    · exact sameStep_r _ _ _ _ s
  · split
    · exact sameStep_r _ _ _ _ s
    · split
      · exact sameStep_r _ _ _ _ s
      · exact sameStepV_r _ _ _ _ h
structure Here (c : RC) (v : Value) (l : List OpA) (p pr qc N : Nat) (s : St) : Prop where
  ex : ∃ m ms b q d, AtD c m s p N b q qc ms ∧ AtQ c m ms s pr d N ∧ InvD m
  ho : IsO s v l
  vals : ∀ (j : Nat) (o : OpA), l[j]? = some o → ValIs s o.a.v
  fr : Fresh s
theorem step {c : RC} {v : Value} {l : List OpA} {p pr qc j : Nat} {s : St} (hC : okC c.sk) (hb : 0 ≤ c.st.bt) (h : Here c v l p pr qc j s) (hj : j < 100) {o : OpA} (ha : l[j]? = some o) (rec : List Value → St → Option Cut) :
    ∃ s', leapfroglaw17x_ReadRuns.l8 std rec [v, P p, P pr, .int .i64 (j : Int)] s = rec [v, P p, P pr, .int .i64 ((j + 1 : Nat) : Int)] s' ∧ Here c v l p pr qc (j + 1) s' := by
  obtain ⟨m, ms, b, q, d, hA, hQ, hi⟩ := h.ex
  have n1 := next_d hA hi.at'
  obtain ⟨rv, hv, n2⟩ := next_q hQ hi.at'
  have n3 := same_d m ms hv
  have hjl : j < l.length := (List.getElem?_eq_some_iff.1 ha).1
  have e1 : (j : Int) < l.length := by omega
  have e2 : (j : Int) < 100 := by omega
  have e5 : IntKind.i64.wrap ((j : Int) + 1) = ((j + 1 : Nat) : Int) := by rw [wrap64 (by omega) (by omega)]; omega
  obtain ⟨b1, k1, rows1, ro1, a1, a2, a3⟩ := h.ho.at ha
  have hlen := h.ho.len
  have hval := h.vals j o ha
  obtain ⟨bl, hB⟩ := byt_val hval
  have hL := hB.lenL
  have bxo := hB.bx
  -- both steps
  have both : ∀ (a : Ans) (al : List (List Value)), Byt s a.v al → al.length ≤ 100000 → ∃ s1 s2, (o.wake = true → read_Read_Wake.v (P p) s = some (unit', s1) ∧ leapfrogref17x_Read_Wake.v (P pr) s1 = some (unit', s2)) ∧ (o.wake = false → read_Read_Tell.v (P p) (.agg ⟨a.cs⟩) s = some (unit', s1) ∧ leapfrogref17x_Read_Tell.v (P pr) (.agg ⟨a.cs⟩) s1 = some (unit', s2)) ∧ Here c v l p pr qc (j + 1) s2 := by
    intro a al hBa hal
    cases hwk : o.wake with
    | true =>
      obtain ⟨s1, b', q', w1, w2, w3⟩ := wake_d h.fr hC hb hi.tr hA
      have f1 := w3.2.2 h.fr
      obtain ⟨s2, d', r1, r2, r3⟩ := wake_q f1 hC hb hi.tr (hQ.stp w3 (by simp) (by simp) (by simp) (by simp) h.fr)
      refine ⟨s1, s2, fun _ => ⟨w1, r1⟩, (fun e => by cases e), ⟨_, _, b', q', d', ?_, r2.le (by omega), invD_wake hi⟩, (h.ho.stp w3 (by simp)).stp r3 (by simp), fun j o hj => val_stp (val_stp (h.vals j o hj) w3 (by simp)) r3 (by simp), r3.2.2 f1⟩
      have g := w2.stp r3 (by simp) (by simp) (by simp) (by simp)
      exact ⟨g.row, g.hA, g.inv, g.conf, by have := g.tab; omega⟩
    | false =>
      obtain ⟨D, x', hch, hD⟩ := chase_ex ms.tab ms.wl ms.wb (cnt ms.tab a.r + 1) (curF ms).rk (curF ms).n a.r (by omega)
      have hcn : cnt ms.tab a.r ≤ ms.tab.length := List.length_filter_le _ _
      have := hA.tab
      have hDB : D < BIG := by unfold BIG; omega
      obtain ⟨s1, w1, w2, w3⟩ := tell_d h.fr hC hA a hBa.bx hBa.same hch hDB
      have f1 := w3.2.2 h.fr
      obtain ⟨s2, r1, r2, r3⟩ := tell_q f1 hC (by omega) (hQ.stp w3 (by simp) (by simp) (by simp) (by simp) h.fr) a (hBa.stp w3 (by simp)) hal hch hDB
      exact ⟨s1, s2, (fun e => by cases e), fun _ => ⟨w1, r1⟩, ⟨_, _, b, q, d, w2.stp r3 (by simp) (by simp) (by simp) (by simp), r2, invD_tell hi⟩, (h.ho.stp w3 (by simp)).stp r3 (by simp), fun j o hj => val_stp (val_stp (h.vals j o hj) w3 (by simp)) r3 (by simp), r3.2.2 f1⟩
  generalize nextD m ms = nx at *
  generalize nextQ m ms rv = nq at *
  rcases Classical.propComplete ((300 : Int) < bl.length) with c1 | c1
  · obtain ⟨w, wl, q1, q2, q3⟩ := byt_cut hval hL (k := 300) (by have := of_eq_true c1; omega)
    rw [show ((300 : Nat) : Int) = 300 from rfl] at q1
    have bxw := q2.bx
    obtain ⟨s1, s2, g1, g2, g3⟩ := both { o.a with v := w } wl q2 (by omega)
    cases hwk : o.wake with
    | true =>
      obtain ⟨w1, w2⟩ := g1 hwk
      exact ⟨s2, by simp only [leapfroglaw17x_ReadRuns.l8, leapfroglaw17x_ReadRuns.l8.p1, sy, reduceIte, Nat.reduceAdd, Nat.reduceLeDiff, Nat.reduceLT, Nat.reduceEqDiff, Int.reduceEq, Int.reduceLT, Int.reduceLE, Int.reduceNe, ly, hlen, e1, e2, n1, n2, n3, a1, ldc_row a2, lda_row a2, a3, hL, c1, q1, bxw, hwk, w1, w2, e5], g3⟩
    | false =>
      obtain ⟨w1, w2⟩ := g2 hwk
      exact ⟨s2, by simp only [leapfroglaw17x_ReadRuns.l8, leapfroglaw17x_ReadRuns.l8.p1, sy, reduceIte, Nat.reduceAdd, Nat.reduceLeDiff, Nat.reduceLT, Nat.reduceEqDiff, Int.reduceEq, Int.reduceLT, Int.reduceLE, Int.reduceNe, ly, hlen, e1, e2, n1, n2, n3, a1, ldc_row a2, lda_row a2, a3, hL, c1, q1, bxw, hwk, w1, w2, e5], g3⟩
  · obtain ⟨s1, s2, g1, g2, g3⟩ := both o.a bl hB (by have := of_eq_false c1; omega)
    cases hwk : o.wake with
    | true =>
      obtain ⟨w1, w2⟩ := g1 hwk
      exact ⟨s2, by simp only [leapfroglaw17x_ReadRuns.l8, leapfroglaw17x_ReadRuns.l8.p1, sy, reduceIte, Nat.reduceAdd, Nat.reduceLeDiff, Nat.reduceLT, Nat.reduceEqDiff, Int.reduceEq, Int.reduceLT, Int.reduceLE, Int.reduceNe, ly, hlen, e1, e2, n1, n2, n3, a1, ldc_row a2, lda_row a2, a3, hL, c1, hwk, w1, w2, e5], g3⟩
    | false =>
      obtain ⟨w1, w2⟩ := g2 hwk
      exact ⟨s2, by simp only [leapfroglaw17x_ReadRuns.l8, leapfroglaw17x_ReadRuns.l8.p1, sy, reduceIte, Nat.reduceAdd, Nat.reduceLeDiff, Nat.reduceLT, Nat.reduceEqDiff, Int.reduceEq, Int.reduceLT, Int.reduceLE, Int.reduceNe, ly, hlen, e1, e2, n1, n2, n3, a1, ldc_row a2, lda_row a2, a3, hL, c1, hwk, w1, w2, e5], g3⟩
theorem loop {c : RC} {v : Value} {l : List OpA} {p pr qc : Nat} {s : St} (hC : okC c.sk) (hb : 0 ≤ c.st.bt) (h : Here c v l p pr qc 0 s) :
    ∃ s' N, iter (leapfroglaw17x_ReadRuns.l8 std) BIG [v, P p, P pr, .int .i64 ((0 : Nat) : Int)] s = some ((0, [P p, P pr], s') : Cut) ∧ Here c v l p pr qc N s' := by
  refine iter_rel (fun d xs s' => ∃ j, Here c v l p pr qc j s' ∧ j + d = 100 ∧ xs = [v, P p, P pr, .int .i64 (j : Int)])
    (fun y : Option Cut => ∃ s' N, y = some ((0, [P p, P pr], s') : Cut) ∧ Here c v l p pr qc N s') ?_ BIG 100 _ s (by unfold BIG; omega) ⟨0, h, by omega, rfl⟩
  rintro d xs s rec ⟨j, h, hj, rfl⟩ ih
  by_cases h1 : j < l.length
  · have e1 : (j : Int) < l.length := by omega
    cases d with
    | zero =>
      have e2 : ¬ ((j : Int) < 100) := by omega
      exact ⟨s, j, by simp only [leapfroglaw17x_ReadRuns.l8, sy, reduceIte, Nat.reduceAdd, Nat.reduceLeDiff, Nat.reduceLT, Nat.reduceEqDiff, Int.reduceEq, Int.reduceLT, Int.reduceLE, Int.reduceNe, ly, h.ho.len, e1, e2], h⟩
    | succ d =>
      obtain ⟨a, ha⟩ := get_some h1
      obtain ⟨s', g1, g2⟩ := step hC hb h (by omega) ha rec
      rw [g1]
      exact ih d _ _ (by omega) ⟨j + 1, g2, by omega, rfl⟩
  · have e1 : ¬ ((j : Int) < l.length) := by omega
    exact ⟨s, j, by simp only [leapfroglaw17x_ReadRuns.l8, sy, reduceIte, Nat.reduceAdd, Nat.reduceLeDiff, Nat.reduceLT, Nat.reduceEqDiff, Int.reduceEq, Int.reduceLT, Int.reduceLE, Int.reduceNe, ly, h.ho.len, e1], h⟩
theorem law (s : St) (us : List Value) (ha : AllRo s) (hf : ∀ b, s.n ≤ b → s.get b = none) (h : Args s [(true, [.i .i64, .i .i64, .i .i64, .i .u64, .i .i64, .i .u64, .i .u64, .b]), (false, [.sl [.b, .i .i64, .b, .i .i64, .i .i64, .i .u64, .i .i64, .i .u64, .i .i64, .i .i64, .i .u64, .i .i64, .i .u64, .sl [.i .u8]]])] us) :
    ∃ s', leapfroglaw17x_ReadRuns.w us s = some (.bool true, s') := by
  simp only [Args, Arg] at h
  obtain ⟨_, _, rfl, ⟨_, rfl, h1⟩, v, _, rfl, h2, rfl⟩ := h
  unfold Leaf.Are Leaf.Are at h2
  obtain ⟨v', _, g1, h2, rfl⟩ := h2
  obtain rfl : v = v' := (List.cons.inj g1).1
  simp only [Leaf.Are, Leaf.Is] at h1
  obtain ⟨_, _, rfl, ⟨hh, rfl, _⟩, _, _, rfl, ⟨i1, rfl, _⟩, _, _, rfl, ⟨i2, rfl, _⟩, _, _, rfl, ⟨i3, rfl, _⟩, _, _, rfl, ⟨i4, rfl, _⟩, _, _, rfl, ⟨i5, rfl, hi5⟩, _, _, rfl, ⟨ky, rfl, _⟩, _, _, rfl, ⟨cl, rfl⟩, rfl⟩ := h1
  obtain ⟨l, hl, hval⟩ := isO_of2 h2
  have hm0 := (wf_u64 hi5).1
  show ∃ s', leapfroglaw17x_ReadRuns.v (.agg ⟨(⟨hh, ⟨i1, i2, i3, i4, i5⟩, ky, cl⟩ : RC).cs⟩) v s = some (.bool true, s')
  generalize hc : (⟨hh, ⟨i1, i2, i3, i4, i5⟩, ky, cl⟩ : RC) = c
  have hm0 : 0 ≤ c.st.bt := by rw [← hc]; exact hm0
  have hf : Fresh s := hf
  rcases new_d hf c hm0 with ⟨hC, s1, q1, mo⟩ | ⟨hC, s1, q1, hA, mo⟩
  · rcases new_q (mo.fresh hf) c hm0 with ⟨_, s2, q2⟩ | ⟨g, _⟩
    · exact ⟨s2, by simp only [leapfroglaw17x_ReadRuns.v, leapfroglaw17x_ReadRuns.t, sy, reduceIte, Nat.reduceAdd, Nat.reduceLeDiff, Nat.reduceLT, Nat.reduceEqDiff, Int.reduceEq, Int.reduceLT, Int.reduceLE, Int.reduceNe, ly, q1, q2, alive_r]⟩
    · exact absurd g hC
  · have f1 := mo.fresh hf
    rcases new_q f1 c hm0 with ⟨g, _⟩ | ⟨_, s2, q2, hQ, k2⟩
    · exact absurd hC g
    have k1 : StpK [] s s1 := .more mo hf
    have H0 : Here c v l (s.n + 3) s1.n s.n 0 s2 := ⟨⟨_, _, _, _, _, hA.stp k2 (by simp) (by simp) (by simp) (by simp), hQ, ⟨by simp [mD], by simp [mD]⟩⟩, (hl.stp k1 (by simp)).stp k2 (by simp), fun j o hj => val_stp (val_stp (hval j o hj) k1 (by simp)) k2 (by simp), k2.2.2 f1⟩
    obtain ⟨s', N, e, h'⟩ := loop hC hm0 H0
    rw [show ((0 : Nat) : Int) = 0 from rfl] at e
    obtain ⟨m, ms, b, q, d, hA', hQ', hi⟩ := h'.ex
    have n1 := next_d hA' hi.at'
    obtain ⟨rv, hv, n2⟩ := next_q hQ' hi.at'
    have n3 := same_d m ms hv
    generalize nextD m ms = nx at *
    generalize nextQ m ms rv = nq at *
    exact ⟨s', by simp only [leapfroglaw17x_ReadRuns.v, leapfroglaw17x_ReadRuns.t, sy, reduceIte, Nat.reduceAdd, Nat.reduceLeDiff, Nat.reduceLT, Nat.reduceEqDiff, Int.reduceEq, Int.reduceLT, Int.reduceLE, Int.reduceNe, ly, q1, q2, e, n1, n2, n3, alive_r]⟩
end ReadRuns
end Go.Proofs.YtjiknclbjbfdjaaGreat
