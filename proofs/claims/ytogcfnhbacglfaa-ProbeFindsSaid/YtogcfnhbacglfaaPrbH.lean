/-
  Breaks are told alike; a step with an answer.
-/
import Derived.Test.YtogcfnhbacglfaaPrbG
set_option linter.unusedSimpArgs false
set_option linter.unusedVariables false
set_option maxRecDepth 100000
set_option maxHeartbeats 4000000
namespace Go.Proofs.Ytogcfnhbacglfaa
open Go.Sim Go.Sim.Bt
attribute [local congr] bdc cndc itec gdc gdSc gdUc

theorem sameB_v {s : St} {v w : Value} {L : List Bk} (h : IsR s 8 v (L.map Bk.c8)) (g : IsR s 8 w (L.map Bk.c8)) (hl : L.length ≤ 1000000) : leapfrogref19x_Same.r v w s = some (.bool true) := by
  have e1 := h.len
  have e2 := g.len
  rw [List.length_map] at e1 e2
  have hi : iter (leapfrogref19x_Same.l4 std) BIG [v, w, .int .i64 ((0 : Nat) : Int)] s = some ((0, [], s) : Cut) := by
    refine iter_rel (fun d xs s' => ∃ i : Nat, i + d = L.length ∧ s' = s ∧ xs = [v, w, .int .i64 (i : Int)])
      (fun y : Option Cut => y = some ((0, [], s) : Cut)) ?_ BIG L.length _ s (by unfold BIG; omega) ⟨0, by omega, rfl, rfl⟩
    rintro d xs s2 rec ⟨i, hi, rfl, rfl⟩ ih
    cases d with
    | zero =>
      have e3 : ¬ ((i : Int) < (L.length : Int)) := by omega
      simp only [leapfrogref19x_Same.l4, sy, reduceIte, Nat.reduceAdd, Nat.reduceLeDiff, Nat.reduceLT, Nat.reduceEqDiff, Int.reduceEq, Int.reduceLT, Int.reduceLE, Int.reduceNe, ly, e1, e3]
    | succ d =>
      have e3 : (i : Int) < (L.length : Int) := by omega
      have e5 : IntKind.i64.wrap ((i : Int) + 1) = ((i + 1 : Nat) : Int) := by rw [wrap64 (by omega) (by omega)]; omega
      have hx : L[i]? = some (L[i]'(by omega)) := List.getElem?_eq_getElem (by omega)
      generalize L[i]'(by omega) = x at hx
      obtain ⟨all, ro, a1, a2, a3⟩ := h.atB (r := x.c8) (by rw [List.getElem?_map, hx]; rfl)
      obtain ⟨all', ro', b1, b2, b3⟩ := g.atB (r := x.c8) (by rw [List.getElem?_map, hx]; rfl)
      have fin := ih d [v, w, .int .i64 ((i + 1 : Nat) : Int)] s2 (by omega) ⟨i + 1, by omega, rfl, rfl⟩
      rw [← fin]
      simp only [leapfrogref19x_Same.l4, sy, reduceIte, Nat.reduceAdd, Nat.reduceLeDiff, Nat.reduceLT, Nat.reduceEqDiff, Int.reduceEq, Int.reduceLT, Int.reduceLE, Int.reduceNe, ly, e1, e3, a1, b1, lda_row a2, a3, lda_row b2, b3, e5]
  have hi : iter (leapfrogref19x_Same.l4 std) BIG [v, w, .int .i64 0] s = _ := hi
  simp only [leapfrogref19x_Same.r, leapfrogref19x_Same.t, sy, reduceIte, Nat.reduceAdd, Nat.reduceLeDiff, Nat.reduceLT, Nat.reduceEqDiff, Int.reduceEq, Int.reduceLT, Int.reduceLE, Int.reduceNe, ly, e1, e2, hi]
theorem next_step (c : Pc) (m : Pm) : ∃ k t a r, nextC c m = stepC k t a r := by
  unfold nextC
  split
  · exact ⟨_, _, _, _, rfl⟩
  · exact ⟨_, _, _, _, rfl⟩
theorem same_step (c : Pc) (m : Pm) (s : St) : leapfrogref12x_SameStep.r (.agg ⟨nextC c m⟩) (.agg ⟨nextC c m⟩) s = some (.bool true) := by
  obtain ⟨k, t, a, r, e⟩ := next_step c m
  rw [e]
  exact sameStep_r k t a r s
theorem AtQ.stp {c : Pc} {m : Pm} {s s' : St} {U : Nat} {ks : List Nat} (h : AtQ c m s U) (k : StpK ks s s') (h1 : 15 ∉ ks) (h2 : 2 ∉ ks) (h3 : 9 ∉ ks) : AtQ c m s' U := by
  obtain ⟨lv, bv, g1, g2, g3⟩ := h.ex
  exact ⟨lv, bv, k.row g1 h1, g2.stp k h2, g3.stp k h3⟩
theorem AtK.stp {c : Pc} {m : Pm} {s s' : St} {U : Nat} {ks : List Nat} (h : AtK c m s U) (k : StpK ks s s') (h1 : 14 ∉ ks) (h2 : 2 ∉ ks) (h3 : 8 ∉ ks) : AtK c m s' U := by
  obtain ⟨lv, bv, g1, g2, g3⟩ := h.ex
  exact ⟨lv, bv, k.row g1 h1, g2.stp k h2, g3.stp k h3⟩
theorem wake_v (b : Nat) (s : St) : probe_Probe_Wake.r (PU b) s = some unitB := rfl

def pairOf : List Value → Int × Int
  | [.int _ a, .int _ b] => (a, b)
  | _ => (0, 0)
theorem isP_of {s : St} {v : Value} (h : Leaf.Is s (.sl [.i .i64, .i .u64]) v) : ∃ L : List (Int × Int), (∀ p ∈ L, 0 ≤ p.2) ∧ ((v = .slice none 0 0 ∧ L = []) ∨ ∃ b cap all, v = .slice (some ⟨b, 0, some 0⟩) L.length (2 * cap) ∧ L.length ≤ cap ∧ s.get b = some (.row 2 all true) ∧ all.take L.length = L.map V2) := by
  unfold Leaf.Is at h
  rcases h with rfl | ⟨b, len, cap, rows, rfl, h1, h2, h3, h4, h5⟩
  · exact ⟨[], fun p hp => (by cases hp), .inl ⟨rfl, rfl⟩⟩
  · have hrow : ∀ r ∈ rows, r = V2 (pairOf r) ∧ 0 ≤ (pairOf r).2 := by
      intro r hr
      have := h5 r hr
      simp only [Leaf.Are, Leaf.Is] at this
      obtain ⟨_, _, rfl, ⟨a, rfl, ha⟩, _, _, rfl, ⟨c, rfl, hc⟩, rfl⟩ := this
      exact ⟨rfl, (wf_u64 hc).1⟩
    have hlen : ((rows.take len).map pairOf).length = len := by simp; omega
    refine ⟨(rows.take len).map pairOf, fun p hp => ?_, .inr ⟨b, cap, rows, by rw [hlen], by rw [hlen]; exact h1, h3, ?_⟩⟩
    · simp only [List.mem_map] at hp
      obtain ⟨r, hr, rfl⟩ := hp
      exact (hrow r (List.mem_of_mem_take hr)).2
    · rw [hlen, List.map_map]
      refine (List.map_id _).symm.trans (List.map_congr_left fun r hr => ?_)
      exact (hrow r (List.mem_of_mem_take hr)).1
end Go.Proofs.Ytogcfnhbacglfaa
