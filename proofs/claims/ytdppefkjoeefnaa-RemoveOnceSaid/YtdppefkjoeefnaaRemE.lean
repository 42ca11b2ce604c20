/-
  The two machines of package remove side by side: what a step of one leaves of the other.
-/
import Derived.Test.YtdppefkjoeefnaaRemD
import Derived.Test.YtdppefkjoeefnaaMachE
set_option linter.unusedSimpArgs false
set_option linter.unusedVariables false
set_option maxRecDepth 100000
set_option maxHeartbeats 2000000
namespace Go.Proofs.Ytdppefkjoeefnaa
open Go.Sim Go.Sim.Bt
attribute [local congr] bdc cndc itec gdc gdSc gdUc

theorem ans_pos {s : St} {r : List Value} (h : Leaf.Are s [.i .i64, .b, .i .i64, .i .i64, .i .u64, .i .i64, .i .u64, .i .i64, .i .i64, .i .u64, .i .i64, .i .u64, .sl [.i .u8]] r) : PosA (ansOf r) := by
  unfold Leaf.Are Leaf.Are Leaf.Are Leaf.Are Leaf.Are Leaf.Are Leaf.Are Leaf.Are Leaf.Are Leaf.Are Leaf.Are Leaf.Are Leaf.Are Leaf.Are at h
  obtain ⟨_, _, rfl, q1, _, _, rfl, q2, _, _, rfl, q3, _, _, rfl, q4, _, _, rfl, q5, _, _, rfl, q6, _, _, rfl, q7, _, _, rfl, q8, _, _, rfl, q9, _, _, rfl, q10, _, _, rfl, q11, _, _, rfl, q12, v, _, rfl, q13, rfl⟩ := h
  unfold Leaf.Is at q1 q2 q3 q4 q5 q6 q7 q8 q9 q10 q11 q12
  obtain ⟨_, rfl, _⟩ := q1
  obtain ⟨_, rfl⟩ := q2
  obtain ⟨_, rfl, _⟩ := q3
  obtain ⟨_, rfl, _⟩ := q4
  obtain ⟨_, rfl, _⟩ := q5
  obtain ⟨_, rfl, _⟩ := q6
  obtain ⟨_, rfl, w7⟩ := q7
  obtain ⟨_, rfl, _⟩ := q8
  obtain ⟨_, rfl, _⟩ := q9
  obtain ⟨_, rfl, _⟩ := q10
  obtain ⟨_, rfl, _⟩ := q11
  obtain ⟨_, rfl, w12⟩ := q12
  exact ⟨(wf_u64 w7).1, (wf_u64 w12).1⟩
theorem isA_of3 {s : St} {v : Value} (h : Leaf.Is s (.sl [.i .i64, .b, .i .i64, .i .i64, .i .u64, .i .i64, .i .u64, .i .i64, .i .i64, .i .u64, .i .i64, .i .u64, .sl [.i .u8]]) v) : ∃ l, IsA s v l ∧ (∀ (j : Nat) (a : Ans), l[j]? = some a → PosA a) ∧ l.length ≤ 9223372036854775807 := by
  unfold Leaf.Is at h
  rcases h with rfl | ⟨b, len, cap, rows, rfl, h1, h2, h3, h4, h5⟩
  · exact ⟨[], .inl ⟨rfl, rfl⟩, fun j a h => by simp at h, by simp⟩
  · have g : ∀ (j : Nat) a, ((rows.take len).map ansOf)[j]? = some a → rows[j]? = some a.cs ∧ PosA a := by
      intro j a ha
      rw [List.getElem?_map, Option.map_eq_some_iff] at ha
      obtain ⟨r, hr, rfl⟩ := ha
      rw [List.getElem?_take] at hr
      split at hr
      · have := (ans_of (h5 r (List.mem_of_getElem? hr))).1
        have := ans_pos (h5 r (List.mem_of_getElem? hr))
        rw [hr, ← (ans_of (h5 r (List.mem_of_getElem? hr))).1]
        exact ⟨rfl, this⟩
      · cases hr
    refine ⟨(rows.take len).map ansOf, .inr ⟨b, 0, 2 * cap, rows, true, by rw [List.length_map, List.length_take]; congr 1; omega, h3, fun j a ha => by rw [Nat.zero_add]; exact (g j a ha).1⟩, fun j a ha => (g j a ha).2, ?_⟩
    rw [List.length_map, List.length_take]
    unfold maxLen at h2
    omega
theorem IsA.stx {B : Nat → Nat → Prop} {s s' : St} {v : Value} {l : List Ans} {n0 : Nat} (h : IsA s v l) (hv : ∀ b i len e, v = .slice (some ⟨b, i, some 0⟩) len e → b < n0) (k : StpX B s s') (hB : ∀ x, x < n0 → ¬ B x 13) : IsA s' v l := by
  rcases h with h | ⟨b, i, e, rows, ro, h0, hg, h1⟩
  · exact .inl h
  · exact .inr ⟨b, i, e, rows, ro, h0, k.2.1 _ _ hg (hB b (hv _ _ _ _ h0)), h1⟩
def isLv : RS → Bool
  | .leave _ _ _ => true
  | _ => false
theorem AtP.any {c : RC} {s : St} {p b q U : Nat} {m : RS} (h : AtP c s p b q U m) (hm : isLv m = false) (U2 : Nat) : AtP c s p b q U2 m := by
  cases m with
  | leave x lv mu => simp [isLv] at hm
  | _ => exact h
theorem AtQ.any {c : RC} {s : St} {n0 p d V N : Nat} {m : RS} (h : AtQ c s n0 p d V N m) (hm : isLv m = false) (V2 : Nat) : AtQ c s n0 p d V2 N m := by
  cases m with
  | leave x lv mu => simp [isLv] at hm
  | _ => exact h
theorem AtP.lt {c : RC} {s : St} {p b q U : Nat} {m : RS} (h : AtP c s p b q U m) (f : Fresh s) (hm : isLv m = true) : U < s.n := by
  cases m with
  | leave x lv mu => exact f.lt h.2
  | _ => simp [isLv] at hm
theorem AtQ.lt {c : RC} {s : St} {n0 p d V N : Nat} {m : RS} (h : AtQ c s n0 p d V N m) (f : Fresh s) (hm : isLv m = true) : V < s.n := by
  cases m with
  | leave x lv mu => obtain ⟨sp, mr, _, h2, _⟩ := h; exact f.lt h2
  | _ => simp [isLv] at hm
theorem AtP.stx {c : RC} {s s' : St} {p b q U n0 pr V : Nat} {m : RS} (h : AtP c s p b q U m) (k : StpX (Bq n0 pr V) s s') (hp : p ≠ pr) (hU : U ≠ V) : AtP c s' p b q U m := by
  have hP : ¬ Bq n0 pr V p 20 := by simp [hp]
  cases m with
  | seek ms => exact ⟨k.2.1 _ _ h.1 hP, h.2.stx k (by simp) (by simp)⟩
  | ask x => exact k.2.1 _ _ h hP
  | leave x lv mu => exact ⟨k.2.1 _ _ h.1 hP, k.2.1 _ _ h.2 (by simp [kd, hU])⟩
  | over mk e => obtain ⟨pl, x, lv, h1⟩ := h; exact ⟨pl, x, lv, k.2.1 _ _ h1 hP⟩
theorem AtQ.stx {c : RC} {s s' : St} {n0 pr d V N p U : Nat} {m : RS} (h : AtQ c s n0 pr d V N m) (k : StpX (Bp p U) s s') (hp : p ≠ pr) (hU : U ≠ V) : AtQ c s' n0 pr d V N m := by
  have hP : ¬ Bp p U pr 20 := by simp [Ne.symm hp]
  cases m with
  | seek ms => obtain ⟨ws, h1, h2, h3⟩ := h; exact ⟨ws, k.2.1 _ _ h1 hP, h2.stx k (by simp) (by simp), h3⟩
  | ask x => obtain ⟨sp, h1⟩ := h; exact ⟨sp, k.2.1 _ _ h1 hP⟩
  | leave x lv mu => obtain ⟨sp, mr, h1, h2, h3⟩ := h; exact ⟨sp, mr, k.2.1 _ _ h1 hP, k.2.1 _ _ h2 (by simp [kd, Ne.symm hU]), h3⟩
  | over mk e => obtain ⟨sp, x, asks, up, h1⟩ := h; exact ⟨sp, x, asks, up, k.2.1 _ _ h1 hP⟩
/-- There is a chase. -/
theorem has_ex {c : RC} {N : Nat} {m : RS} (hi : InvR c N m) (hN : N ≤ 90000) {a : Ans} (ha : PosA a) : ∃ xo, HasC m a xo ∧ PosX xo := by
  cases m with
  | seek ms =>
    obtain ⟨D, x', hch, hD⟩ := chase_ex ms.tab ms.wl ms.wb (cnt ms.tab a.r + 1) (curF ms).rk (curF ms).n a.r (by omega)
    have hcn : cnt ms.tab a.r ≤ ms.tab.length := List.length_filter_le _ _
    have := hi.2.2.1
    exact ⟨x', fun m2 e => by cases e; exact ⟨D, hch, by unfold BIG; omega⟩, chase_pos hch hi.2.2.2.tab ha.2⟩
  | ask x => exact ⟨none, fun m2 e => (by cases e), fun r e => (by cases e)⟩
  | leave x lv mu => exact ⟨none, fun m2 e => (by cases e), fun r e => (by cases e)⟩
  | over mk e => exact ⟨none, fun m2 e => (by cases e), fun r e => (by cases e)⟩
theorem same_S (c : RC) (m : RS) (s : St) : leapfrogref12x_SameStep.r (.agg ⟨nextS c m⟩) (.agg ⟨nextS c m⟩) s = some (.bool true) := by
  cases m with
  | seek ms =>
    obtain ⟨k, t, a, r, g⟩ : ∃ k t a r, nextC ms = stepC k t a r := by unfold nextC; split <;> exact ⟨_, _, _, _, rfl⟩
    show leapfrogref12x_SameStep.r (.agg ⟨nextC ms⟩) (.agg ⟨nextC ms⟩) s = some (.bool true)
    rw [g]
    exact sameStep_r _ _ _ _ s
  | ask x => exact sameStep_r _ _ _ _ s
  | leave x lv mu =>
    show leapfrogref12x_SameStep.r (.agg ⟨Un.nextC (cuC c x lv) mu⟩) (.agg ⟨Un.nextC (cuC c x lv) mu⟩) s = some (.bool true)
    unfold Un.nextC Un.askC
    repeat' split
    all_goals exact sameStep_r _ _ _ _ s
  | over mk e => exact sameStep_r _ _ _ _ s
end Go.Proofs.Ytdppefkjoeefnaa
