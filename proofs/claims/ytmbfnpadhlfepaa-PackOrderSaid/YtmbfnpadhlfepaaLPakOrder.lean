/-
  PackOrder, over abstract values.
-/
import Derived.Test.YtmbfnpadhlfepaaPakF
set_option linter.unusedSimpArgs false
set_option linter.unusedVariables false
set_option maxRecDepth 100000
set_option maxHeartbeats 4000000
namespace Go.Proofs.Ytmbfnpadhlfepaa
open Go.Sim Go.Sim.Bt
attribute [local congr] bdc cndc itec gdc gdSc gdUc
namespace PackOrder

theorem packK {s : St} (r : Int) (n : Nat) (hf : Fresh s) : ∃ v s' e, pack_Pack.v (.slice (some ⟨s.n, 0, some 0⟩) 1 2) (s.new (.row 14 [(keyF r n).cs] false)) = some (.tuple ⟨[v, .int .i64 e]⟩, s') ∧ Fresh s' ∧ s.n ≤ s'.n ∧
    (∀ x, x < s.n → s'.get x = s.get x) ∧ (okK r n → e = 0 ∧ Ful s.n s' 1 v (br (keyB r n))) ∧ (¬ okK r n → e = 30) := by
  have hf1 : Fresh (s.new (.row 14 [(keyF r n).cs] false)) := hf.new
  have hn : (s.new (.row 14 [(keyF r n).cs] false)).n = s.n + 1 := rfl
  obtain ⟨h1, h2⟩ := packKey (c := s.n) r n hf1 get_new_same
  by_cases hk : okK r n
  · obtain ⟨v, s', n0, g1, g2, g3, g4, g5, g6⟩ := h1 hk
    refine ⟨v, s', 0, g1, g6, by omega, fun x hx => ?_, fun _ => ⟨rfl, g3.le (by omega)⟩, fun h => absurd hk h⟩
    rw [g5 x (by omega), get_new_ne (by omega)]
  · exact ⟨nilB, _, 30, h2 hk, hf1, by omega, fun x hx => get_new_ne (by omega), fun h => absurd h hk, fun _ => rfl⟩
theorem ful_keep {n0 : Nat} {s s' : St} {v : Value} {l : List (List Value)} (h : Ful n0 s 1 v l) (hf : Fresh s) (hk : ∀ x, x < s.n → s'.get x = s.get x) : Ful n0 s' 1 v l := by
  rcases h with h | ⟨b, e, h1, h2, h3, h4⟩
  · exact .inl h
  · exact .inr ⟨b, e, h1, h2, by rw [hk b (hf.lt h3)]; exact h3, h4⟩

theorem law (s : St) (us : List Value) (ha : AllRo s) (hf : ∀ b, s.n ≤ b → s.get b = none) (h : Args s [(true, [.i .i64, .i .u64]), (true, [.i .i64, .i .u64])] us) : ∃ s', leapfroglaw03x_PackOrder.w us s = some (.bool true, s') := by
  simp only [Args, Arg, Leaf.Are, Leaf.Is] at h
  obtain ⟨_, _, rfl, ⟨_, rfl, _, _, rfl, ⟨r1, rfl, hr1⟩, _, _, rfl, ⟨n1', rfl, hn1⟩, rfl⟩, _, _, rfl, ⟨_, rfl, _, _, rfl, ⟨r2, rfl, hr2⟩, _, _, rfl, ⟨n2', rfl, hn2⟩, rfl⟩, rfl⟩ := h
  obtain ⟨p1, q1⟩ := wf_u64 hn1
  obtain ⟨p2, q2⟩ := wf_u64 hn2
  obtain ⟨n1, rfl⟩ : ∃ n : Nat, n1' = n := ⟨n1'.toNat, by omega⟩
  obtain ⟨n2, rfl⟩ : ∃ n : Nat, n2' = n := ⟨n2'.toNat, by omega⟩
  obtain ⟨v1, s2, e1, g1, g2, g3, g4, g5, g6⟩ := packK r1 n1 (show Fresh s from hf)
  obtain ⟨v2, s4, e2, k1, k2, k3, k4, k5, k6⟩ := packK r2 n2 g2
  refine ⟨s4, ?_⟩
  simp only [keyF, Fd.cs, nilB] at g1 k1
  have as1 : ∀ (s : St) (r : List Value), als s 14 1 [r] = some (.slice (some ⟨s.n, 0, some 0⟩) 1 2, s.new (.row 14 [r] false)) := fun _ _ => rfl
  have i1 := isKey_r r1 n1 s4
  have i2 := isKey_r r2 n2 s4
  simp only [KV] at i1 i2
  have al : leapfroglaw03x_aliveC.r s4 = some (.bool true) := rfl
  show leapfroglaw03x_PackOrder.v _ _ s = _
  by_cases o1 : okK r1 n1
  · obtain ⟨rfl, f1⟩ := g5 o1
    have c1 := ful_b2s (ful_keep f1 g2 k4)
    by_cases o2 : okK r2 n2
    · obtain ⟨rfl, f2⟩ := k5 o2
      have c2 := ful_b2s f2
      have m1 := keyB_less o1 o2 (n := n1) (m := n2) (by omega) (by omega)
      have m2 := keyB_eq o1 o2 (n := n1) (m := n2) (by omega) (by omega)
      have ls : bin .lss (.string ⟨⟨bts (keyB r1 n1)⟩⟩) (.string ⟨⟨bts (keyB r2 n2)⟩⟩) = some (.bool (decide (r1 < r2 ∨ (r1 = r2 ∧ n1 < n2)))) := by
        show some (Value.bool (Op.bytesLess _ _)) = _
        rw [m1]
      have es : eqb [2] false false (.string ⟨⟨bts (keyB r1 n1)⟩⟩) (.string ⟨⟨bts (keyB r2 n2)⟩⟩) = some (.bool (decide (r1 = r2 ∧ n1 = n2))) := by
        rw [eqb2]
        have : ((⟨⟨bts (keyB r1 n1)⟩⟩ : ByteArray) = ⟨⟨bts (keyB r2 n2)⟩⟩) ↔ (r1 = r2 ∧ n1 = n2) := by
          rw [← m2]
          constructor
          · intro h; injection h with h; injection h
          · intro h; rw [h]
        simp only [this]
      have y1 : ((n1 : Int) < (n2 : Int)) = (n1 < n2) := propext (by omega)
      have y2 : ((n1 : Int) = (n2 : Int)) = (n1 = n2) := propext (by omega)
      rcases Classical.propComplete (r1 < r2) with z1 | z1
      · have z2 : (r1 = r2) = False := eq_false (by have := of_eq_true z1; omega)
        simp only [leapfroglaw03x_PackOrder.v, leapfroglaw03x_PackOrder.t, leapfroglaw03x_PackOrder.t.p1, sy, reduceIte, Nat.reduceAdd, Nat.reduceLeDiff, Nat.reduceLT, Nat.reduceEqDiff, Int.reduceEq, Int.reduceLT, Int.reduceLE, Int.reduceNe, ly, as1, g1, k1, c1, c2, ls, es, y1, y2, z1, z2, al]
      · rcases Classical.propComplete (r1 = r2) with z2 | z2
        · rcases Classical.propComplete (n1 < n2) with z3 | z3
          · have z4 : (n1 = n2) = False := eq_false (by have := of_eq_true z3; omega)
            simp only [leapfroglaw03x_PackOrder.v, leapfroglaw03x_PackOrder.t, leapfroglaw03x_PackOrder.t.p1, sy, reduceIte, Nat.reduceAdd, Nat.reduceLeDiff, Nat.reduceLT, Nat.reduceEqDiff, Int.reduceEq, Int.reduceLT, Int.reduceLE, Int.reduceNe, ly, as1, g1, k1, c1, c2, ls, es, y1, y2, z1, z2, z3, z4, al]
          · rcases Classical.propComplete (n1 = n2) with z4 | z4
            · simp only [leapfroglaw03x_PackOrder.v, leapfroglaw03x_PackOrder.t, leapfroglaw03x_PackOrder.t.p1, sy, reduceIte, Nat.reduceAdd, Nat.reduceLeDiff, Nat.reduceLT, Nat.reduceEqDiff, Int.reduceEq, Int.reduceLT, Int.reduceLE, Int.reduceNe, ly, as1, g1, k1, c1, c2, ls, es, y1, y2, z1, z2, z3, z4, al]
            · simp only [leapfroglaw03x_PackOrder.v, leapfroglaw03x_PackOrder.t, leapfroglaw03x_PackOrder.t.p1, sy, reduceIte, Nat.reduceAdd, Nat.reduceLeDiff, Nat.reduceLT, Nat.reduceEqDiff, Int.reduceEq, Int.reduceLT, Int.reduceLE, Int.reduceNe, ly, as1, g1, k1, c1, c2, ls, es, y1, y2, z1, z2, z3, z4, al]
        · simp only [leapfroglaw03x_PackOrder.v, leapfroglaw03x_PackOrder.t, leapfroglaw03x_PackOrder.t.p1, sy, reduceIte, Nat.reduceAdd, Nat.reduceLeDiff, Nat.reduceLT, Nat.reduceEqDiff, Int.reduceEq, Int.reduceLT, Int.reduceLE, Int.reduceNe, ly, as1, g1, k1, c1, c2, ls, es, y1, y2, z1, z2, al]
    · have := k6 o2
      subst this
      rw [decide_eq_false o2] at i2
      simp only [leapfroglaw03x_PackOrder.v, leapfroglaw03x_PackOrder.t, leapfroglaw03x_PackOrder.t.p1, sy, reduceIte, Nat.reduceAdd, Nat.reduceLeDiff, Nat.reduceLT, Nat.reduceEqDiff, Int.reduceEq, Int.reduceLT, Int.reduceLE, Int.reduceNe, ly, as1, g1, k1, i1, i2, al]
  · have := g6 o1
    subst this
    rw [decide_eq_false o1] at i1
    by_cases o2 : okK r2 n2
    · obtain ⟨rfl, f2⟩ := k5 o2
      simp only [leapfroglaw03x_PackOrder.v, leapfroglaw03x_PackOrder.t, leapfroglaw03x_PackOrder.t.p1, sy, reduceIte, Nat.reduceAdd, Nat.reduceLeDiff, Nat.reduceLT, Nat.reduceEqDiff, Int.reduceEq, Int.reduceLT, Int.reduceLE, Int.reduceNe, ly, as1, g1, k1, i1, i2, al]
    · have := k6 o2
      subst this
      rw [decide_eq_false o2] at i2
      simp only [leapfroglaw03x_PackOrder.v, leapfroglaw03x_PackOrder.t, leapfroglaw03x_PackOrder.t.p1, sy, reduceIte, Nat.reduceAdd, Nat.reduceLeDiff, Nat.reduceLT, Nat.reduceEqDiff, Int.reduceEq, Int.reduceLT, Int.reduceLE, Int.reduceNe, ly, as1, g1, k1, i1, i2, al]
end PackOrder
end Go.Proofs.Ytmbfnpadhlfepaa
