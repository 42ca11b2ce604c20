/-
  InsertRuns, over abstract values.
-/
import Derived.Test.YteafgjpbfhjbjaaGreatInsE
set_option linter.unusedSimpArgs false
set_option linter.unusedVariables false
set_option maxRecDepth 100000
set_option maxHeartbeats 2000000
namespace Go.Proofs.YteafgjpbfhjbjaaGreat
open Go.Sim Go.Sim.Bt
attribute [local congr] bdc cndc itec gdc gdSc gdUc
namespace InsertRuns
theorem alive_r (s : St) : l15aliveC.r s = some (.bool true) := rfl
structure Here (c : IC) (v : Value) (l : List OpA) (p pr j : Nat) (s : St) : Prop where
  ex : ∃ m d, Pre c v l p j m s ∧ AtJ c s pr d j m
theorem step {c : IC} {v : Value} {l : List OpA} {p pr j : Nat} {s : St} (hC : okI c) (h : Here c v l p pr j s) (hj : j < 120) {o : OpA} (ho : l[j]? = some o) (rec : List Value → St → Option Cut) :
    ∃ s', l15InsertRuns.l8 std rec [v, P p, P pr, .int .i64 (j : Int)] s = rec [v, P p, P pr, .int .i64 ((j + 1 : Nat) : Int)] s' ∧ Here c v l p pr (j + 1) s' := by
  obtain ⟨m, d, G, J⟩ := h.ex
  have n1 := G.next hC
  have n2 := next_j hC J G.inv
  have n3 := same_I c m s
  have hjl : j < l.length := (List.getElem?_eq_some_iff.1 ho).1
  have e1 : (j : Int) < l.length := by omega
  have e2 : (j : Int) < 120 := by omega
  have e5 : IntKind.i64.wrap ((j : Int) + 1) = ((j + 1 : Nat) : Int) := by rw [wrap64 (by omega) (by omega)]; omega
  obtain ⟨b1, k1, rows1, ro1, a1, a2, a3⟩ := G.ho.at ho
  have hlen := G.ho.len
  obtain ⟨pa, bxa⟩ := G.pos j o ho
  generalize nextI c m = nx at *
  cases hwk : o.wake with
  | true =>
    obtain ⟨s1, w1, w2, w3⟩ := G.wake
    obtain ⟨s2, r1, r2, r3⟩ := wake_j (w3.2.2 G.fr) (J.stp w3 G.fr (by simp) (by simp) (by simp) (by simp)) G.inv
    refine ⟨s2, by simp only [l15InsertRuns.l8, sy, reduceIte, Nat.reduceAdd, Nat.reduceLeDiff, Nat.reduceLT, Nat.reduceEqDiff, Int.reduceEq, Int.reduceLT, Int.reduceLE, Int.reduceNe, ly, hlen, e1, e2, n1, n2, n3, a1, ldc_row a2, a3, hwk, w1, r1, e5], ⟨_, d, w2.stp r3 (by simp) (by simp) (by simp) (by simp) (by simp) (by simp) (by simp) (by simp), r2.le (by omega)⟩⟩
  | false =>
    obtain ⟨s1, xo, w1, w2, w3, hx⟩ := G.tell hC (by omega) pa
    obtain ⟨s2, d', r1, r2, r3⟩ := tell_j (w3.2.2 G.fr) (by omega) hC (J.stp w3 G.fr (by simp) (by simp) (by simp) (by simp)) G.inv o.a pa.1 bxa hx
    obtain ⟨b2, k2, rows2, ro2, c1, c2, c3⟩ := w2.ho.at ho
    refine ⟨s2, by simp only [l15InsertRuns.l8, sy, reduceIte, Nat.reduceAdd, Nat.reduceLeDiff, Nat.reduceLT, Nat.reduceEqDiff, Int.reduceEq, Int.reduceLT, Int.reduceLE, Int.reduceNe, ly, hlen, e1, e2, n1, n2, n3, a1, ldc_row a2, lda_row a2, a3, hwk, w1, c1, lda_row c2, c3, r1, e5], ⟨_, d', w2.stp r3 (by simp) (by simp) (by simp) (by simp) (by simp) (by simp) (by simp) (by simp), r2⟩⟩
theorem loop {c : IC} {v : Value} {l : List OpA} {p pr : Nat} {s : St} (hC : okI c) (h : Here c v l p pr 0 s) :
    ∃ s' N, iter (l15InsertRuns.l8 std) BIG [v, P p, P pr, .int .i64 ((0 : Nat) : Int)] s = some ((0, [P p, P pr], s') : Cut) ∧ Here c v l p pr N s' := by
  refine iter_rel (fun d xs s' => ∃ j, Here c v l p pr j s' ∧ j + d = 120 ∧ xs = [v, P p, P pr, .int .i64 (j : Int)])
    (fun y : Option Cut => ∃ s' N, y = some ((0, [P p, P pr], s') : Cut) ∧ Here c v l p pr N s') ?_ BIG 120 _ s (by unfold BIG; omega) ⟨0, h, by omega, rfl⟩
  rintro d xs s rec ⟨j, h, hj, rfl⟩ ih
  obtain ⟨m, dd, G, J⟩ := h.ex
  have hlen := G.ho.len
  by_cases h1 : j < l.length
  · have e1 : (j : Int) < l.length := by omega
    cases d with
    | zero =>
      have e2 : ¬ ((j : Int) < 120) := by omega
      exact ⟨s, j, by simp only [l15InsertRuns.l8, sy, reduceIte, Nat.reduceAdd, Nat.reduceLeDiff, Nat.reduceLT, Nat.reduceEqDiff, Int.reduceEq, Int.reduceLT, Int.reduceLE, Int.reduceNe, ly, hlen, e1, e2], h⟩
    | succ d =>
      obtain ⟨a, ha⟩ := get_some h1
      obtain ⟨s', g1, g2⟩ := step hC h (by omega) ha rec
      rw [g1]
      exact ih d _ _ (by omega) ⟨j + 1, g2, by omega, rfl⟩
  · have e1 : ¬ ((j : Int) < l.length) := by omega
    exact ⟨s, j, by simp only [l15InsertRuns.l8, sy, reduceIte, Nat.reduceAdd, Nat.reduceLeDiff, Nat.reduceLT, Nat.reduceEqDiff, Int.reduceEq, Int.reduceLT, Int.reduceLE, Int.reduceNe, ly, hlen, e1], h⟩
theorem law (s : St) (us : List Value) (ha : AllRo s) (hf : ∀ b, s.n ≤ b → s.get b = none) (h : Args s [(true, [.i .i64, .i .i64, .i .i64, .i .u64, .i .i64, .i .u64, .i .i64, .i .i64, .i .u64, .i .i64, .i .u64, .i .i64, .i .i64]), (false, [.sl [.b, .i .i64, .b, .i .i64, .i .i64, .i .u64, .i .i64, .i .u64, .i .i64, .i .i64, .i .u64, .i .i64, .i .u64, .sl [.i .u8]]])] us) :
    ∃ s', l15InsertRuns.w us s = some (.bool true, s') := by
  simp only [Args, Arg] at h
  obtain ⟨_, _, rfl, ⟨_, rfl, h1⟩, v, _, rfl, h2, rfl⟩ := h
  unfold Leaf.Are Leaf.Are at h2
  obtain ⟨v', _, g1, h2, rfl⟩ := h2
  obtain rfl : v = v' := (List.cons.inj g1).1
  simp only [Leaf.Are, Leaf.Is] at h1
  obtain ⟨_, _, rfl, ⟨hh, rfl, _⟩, _, _, rfl, ⟨i1, rfl, _⟩, _, _, rfl, ⟨i2, rfl, _⟩, _, _, rfl, ⟨i3, rfl, _⟩, _, _, rfl, ⟨i4, rfl, _⟩, _, _, rfl, ⟨i5, rfl, hi5⟩, _, _, rfl, ⟨f1, rfl, _⟩, _, _, rfl, ⟨f2, rfl, _⟩, _, _, rfl, ⟨f3, rfl, _⟩, _, _, rfl, ⟨f4, rfl, _⟩, _, _, rfl, ⟨f5, rfl, hf5⟩, _, _, rfl, ⟨oa, rfl, _⟩, _, _, rfl, ⟨oo, rfl, _⟩, rfl⟩ := h1
  obtain ⟨l, hl, pos⟩ := isO_of3 h2
  have hm0 := (wf_u64 hi5).1
  have hb0 := (wf_u64 hf5).1
  have hf : Fresh s := hf
  show ∃ s', l15InsertRuns.v (.agg ⟨(⟨hh, ⟨i1, i2, i3, i4, i5⟩, ⟨f1, f2, f3, f4, f5⟩, oa, oo⟩ : IC).cs⟩) v s = some (.bool true, s')
  generalize hc : (⟨hh, ⟨i1, i2, i3, i4, i5⟩, ⟨f1, f2, f3, f4, f5⟩, oa, oo⟩ : IC) = c
  have hm0 : 0 ≤ c.me.bt := by rw [← hc]; exact hm0
  have hb0 : 0 ≤ c.st.bt := by rw [← hc]; exact hb0
  have hn1 : ∀ x : Nat, eqb [3] false false (P x) (.pointer none) = some (.bool false) := fun _ => rfl
  rcases new_i hf c hb0 hm0 with ⟨hC, s1, q1, mo⟩ | ⟨hC, s1, b, q, q1, hA, mo⟩
  · rcases new_j (mo.fresh hf) c hb0 hm0 with ⟨_, s2, q2, _⟩ | ⟨g, _⟩
    · exact ⟨s2, by simp only [l15InsertRuns.v, l15InsertRuns.t, sy, reduceIte, Nat.reduceAdd, Nat.reduceLeDiff, Nat.reduceLT, Nat.reduceEqDiff, Int.reduceEq, Int.reduceLT, Int.reduceLE, Int.reduceNe, ly, q1, q2, alive_r]⟩
    · exact absurd g hC
  · have f1 := mo.fresh hf
    rcases new_j f1 c hb0 hm0 with ⟨g, _⟩ | ⟨_, s2, pr, d, q2, hJ, mo2⟩
    · exact absurd hC g
    · have k1 : StpK [] s s1 := .more mo hf
      have k2 : StpK [] s1 s2 := .more mo2 f1
      have H0 : Here c v l s.n pr 0 s2 := ⟨⟨_, d, ⟨⟨b, q, 0, hA.stp k2 (by simp) (by simp) (by simp) (by simp) (by simp) (by simp) (by simp)⟩, inv_start hC, (hl.stp k1 (by simp)).stp k2 (by simp), pos, k2.2.2 f1⟩, hJ⟩⟩
      obtain ⟨s', N, e, h'⟩ := loop hC H0
      rw [show ((0 : Nat) : Int) = 0 from rfl] at e
      obtain ⟨m, d', G, J⟩ := h'.ex
      have n1 := G.next hC
      have n2 := next_j hC J G.inv
      have n3 := same_I c m s'
      generalize nextI c m = nx at *
      exact ⟨s', by simp only [l15InsertRuns.v, l15InsertRuns.t, sy, reduceIte, Nat.reduceAdd, Nat.reduceLeDiff, Nat.reduceLT, Nat.reduceEqDiff, Int.reduceEq, Int.reduceLT, Int.reduceLE, Int.reduceNe, ly, q1, q2, hn1, e, n1, n2, n3, alive_r]⟩
end InsertRuns
end Go.Proofs.YteafgjpbfhjbjaaGreat
