/-
  What a splice holds, and that the locks it asks for rise: in plain Lean.
-/
import Derived.Test.YteafgjpbfhjbjaaGreatSpmA
set_option linter.unusedSimpArgs false
set_option linter.unusedVariables false
set_option maxRecDepth 100000
set_option maxHeartbeats 2000000
namespace Go.Proofs.YteafgjpbfhjbjaaGreat.Sp
open Go.Sim Go.Sim.Bt
attribute [local congr] bdc cndc itec gdc gdSc gdUc
def askT (c : Cf) (m : Mm) : Rf := if m.at' = 1 ∨ m.at' = 4 ∨ m.at' = 8 then m.p else if m.at' = 2 ∨ m.at' = 5 then m.r else c.me
def askK (m : Mm) : Int := if m.at' = 1 then 3 else if m.at' = 2 then 1 else if m.at' = 3 then 7 else if m.at' = 4 then 5 else if m.at' = 5 then 6 else if m.at' = 6 then 4 else if m.at' = 7 then 8 else 4
def heldL (l : List Int) (t k ak : Int) : List Int :=
  (l.filter fun y => decide (y ≠ t ∨ (ak ≠ 3 ∧ k ≠ 4 ∧ k ≠ 8))) ++ (if ak = 1 ∧ (k = 3 ∨ k = 7) then [t] else [])
def allow (c : Cf) (m : Mm) (x : Int) : Prop :=
  if m.at' = 2 ∨ m.at' = 3 ∨ m.at' = 8 then x = m.p.id
  else if m.at' = 4 then (x = m.p.id ∨ x = c.me.id)
  else if 5 ≤ m.at' ∧ m.at' ≤ 7 then (x = c.me.id ∨ (x = m.p.id ∧ m.pd = false))
  else False
theorem allow_wake {c : Cf} {m : Mm} {x : Int} (h : allow c m x) : allow c (wakeC m) x := by
  unfold wakeC
  split
  · rename_i h9
    unfold allow at h
    simp [h9] at h
  · exact h
theorem allow_tell {c : Cf} {m : Mm} (hi : InvM m) {l : List Int} (hl : ∀ x ∈ l, allow c m x) (a : Ans) (h8 : m.at' ≤ 8) : ∀ x ∈ heldL l (askT c m).id (askK m) a.k, allow c (tellC c m a) x := by
  obtain ⟨h1, h2, h3, h4⟩ := hi
  have hp : m.at' = 1 ∨ m.at' = 2 ∨ m.at' = 3 ∨ m.at' = 4 ∨ m.at' = 5 ∨ m.at' = 6 ∨ m.at' = 7 ∨ m.at' = 8 := by omega
  have hd : m.at' ≤ 4 ∨ m.at' = 8 ∨ m.at' = 9 → m.pd = false := by
    intro g
    cases hb : m.pd
    · rfl
    · have := h3 hb; omega
  intro x hx
  unfold heldL at hx
  rw [List.mem_append, List.mem_filter] at hx
  have hl' := hl x
  rcases hp with hp | hp | hp | hp | hp | hp | hp | hp
  · have hd := hd (by omega)
    simp only [allow, hp, sy, reduceIte, Nat.reduceAdd, Nat.reduceLeDiff, Nat.reduceLT, Nat.reduceEqDiff, Int.reduceEq, Int.reduceLT, Int.reduceLE, Int.reduceNe] at hl'
    simp only [askT, askK, hp, sy, reduceIte, Nat.reduceAdd, Nat.reduceLeDiff, Nat.reduceLT, Nat.reduceEqDiff, Int.reduceEq, Int.reduceLT, Int.reduceLE, Int.reduceNe] at hx
    by_cases k1 : a.k = 1
    · simp only [k1, sy, reduceIte, Nat.reduceAdd, Nat.reduceLeDiff, Nat.reduceLT, Nat.reduceEqDiff, Int.reduceEq, Int.reduceLT, Int.reduceLE, Int.reduceNe, List.mem_singleton] at hx
      have hx : x = m.p.id := by rcases hx with hx | hx; first | exact (hl' hx.1).elim | exact (hl' hx).elim; exact hx
      simp only [tellC, hp, sy, reduceIte, Nat.reduceAdd, Nat.reduceLeDiff, Nat.reduceLT, Nat.reduceEqDiff, Int.reduceEq, Int.reduceLT, Int.reduceLE, Int.reduceNe, lookC, freeC, hd, k1]
      repeat' split
      all_goals (simp [allow, hx])
    · simp only [k1, sy, reduceIte, Nat.reduceAdd, Nat.reduceLeDiff, Nat.reduceLT, Nat.reduceEqDiff, Int.reduceEq, Int.reduceLT, Int.reduceLE, Int.reduceNe, List.not_mem_nil] at hx
      exact (hl' hx.1).elim
  · have hd := hd (by omega)
    simp only [allow, hp, sy, reduceIte, Nat.reduceAdd, Nat.reduceLeDiff, Nat.reduceLT, Nat.reduceEqDiff, Int.reduceEq, Int.reduceLT, Int.reduceLE, Int.reduceNe] at hl'
    simp only [askT, askK, hp, sy, reduceIte, Nat.reduceAdd, Nat.reduceLeDiff, Nat.reduceLT, Nat.reduceEqDiff, Int.reduceEq, Int.reduceLT, Int.reduceLE, Int.reduceNe, List.not_mem_nil] at hx
    have hx := hl' hx.1
    simp only [tellC, hp, sy, reduceIte, Nat.reduceAdd, Nat.reduceLeDiff, Nat.reduceLT, Nat.reduceEqDiff, Int.reduceEq, Int.reduceLT, Int.reduceLE, Int.reduceNe, freeC, hd]
    repeat' split
    all_goals (simp [allow, hx])
  · have hd := hd (by omega)
    simp only [allow, hp, sy, reduceIte, Nat.reduceAdd, Nat.reduceLeDiff, Nat.reduceLT, Nat.reduceEqDiff, Int.reduceEq, Int.reduceLT, Int.reduceLE, Int.reduceNe] at hl'
    simp only [askT, askK, hp, sy, reduceIte, Nat.reduceAdd, Nat.reduceLeDiff, Nat.reduceLT, Nat.reduceEqDiff, Int.reduceEq, Int.reduceLT, Int.reduceLE, Int.reduceNe] at hx
    by_cases k1 : a.k = 1
    · simp only [k1, sy, reduceIte, Nat.reduceAdd, Nat.reduceLeDiff, Nat.reduceLT, Nat.reduceEqDiff, Int.reduceEq, Int.reduceLT, Int.reduceLE, Int.reduceNe, List.mem_singleton] at hx
      simp only [tellC, hp, sy, reduceIte, Nat.reduceAdd, Nat.reduceLeDiff, Nat.reduceLT, Nat.reduceEqDiff, Int.reduceEq, Int.reduceLT, Int.reduceLE, Int.reduceNe, k1]
      rcases hx with hx | hx
      · have hx : x = m.p.id := by first | exact hl' hx.1 | exact hl' hx
        simp [allow, hx]
      · simp [allow, hx]
    · simp only [k1, sy, reduceIte, Nat.reduceAdd, Nat.reduceLeDiff, Nat.reduceLT, Nat.reduceEqDiff, Int.reduceEq, Int.reduceLT, Int.reduceLE, Int.reduceNe, List.not_mem_nil] at hx
      have hx := hl' hx.1
      simp only [tellC, hp, sy, reduceIte, Nat.reduceAdd, Nat.reduceLeDiff, Nat.reduceLT, Nat.reduceEqDiff, Int.reduceEq, Int.reduceLT, Int.reduceLE, Int.reduceNe, k1, freeC, hd]
      repeat' split
      all_goals (simp [allow, hx])
  · simp only [allow, hp, sy, reduceIte, Nat.reduceAdd, Nat.reduceLeDiff, Nat.reduceLT, Nat.reduceEqDiff, Int.reduceEq, Int.reduceLT, Int.reduceLE, Int.reduceNe] at hl'
    simp only [askT, askK, hp, sy, reduceIte, Nat.reduceAdd, Nat.reduceLeDiff, Nat.reduceLT, Nat.reduceEqDiff, Int.reduceEq, Int.reduceLT, Int.reduceLE, Int.reduceNe, List.not_mem_nil] at hx
    have hx1 := hl' hx.1
    by_cases k3 : a.k = 3
    · have hx2 : x ≠ m.p.id := by simpa [k3] using hx.2
      have hx3 : x = c.me.id := by rcases hx1 with g | g; exact absurd g hx2; exact g
      simp only [tellC, hp, sy, reduceIte, Nat.reduceAdd, Nat.reduceLeDiff, Nat.reduceLT, Nat.reduceEqDiff, Int.reduceEq, Int.reduceLT, Int.reduceLE, Int.reduceNe]
      split <;> simp [allow, hx3]
    · simp only [tellC, hp, sy, reduceIte, Nat.reduceAdd, Nat.reduceLeDiff, Nat.reduceLT, Nat.reduceEqDiff, Int.reduceEq, Int.reduceLT, Int.reduceLE, Int.reduceNe, k3]
      split <;> (simp only [allow, sy, reduceIte, Nat.reduceAdd, Nat.reduceLeDiff, Nat.reduceLT, Nat.reduceEqDiff, Int.reduceEq, Int.reduceLT, Int.reduceLE, Int.reduceNe]; omega)
  · simp only [allow, hp, sy, reduceIte, Nat.reduceAdd, Nat.reduceLeDiff, Nat.reduceLT, Nat.reduceEqDiff, Int.reduceEq, Int.reduceLT, Int.reduceLE, Int.reduceNe] at hl'
    simp only [askT, askK, hp, sy, reduceIte, Nat.reduceAdd, Nat.reduceLeDiff, Nat.reduceLT, Nat.reduceEqDiff, Int.reduceEq, Int.reduceLT, Int.reduceLE, Int.reduceNe, List.not_mem_nil] at hx
    have hx1 := hl' hx.1
    simp only [tellC, hp, sy, reduceIte, Nat.reduceAdd, Nat.reduceLeDiff, Nat.reduceLT, Nat.reduceEqDiff, Int.reduceEq, Int.reduceLT, Int.reduceLE, Int.reduceNe, allow]
    exact hx1
  · simp only [allow, hp, sy, reduceIte, Nat.reduceAdd, Nat.reduceLeDiff, Nat.reduceLT, Nat.reduceEqDiff, Int.reduceEq, Int.reduceLT, Int.reduceLE, Int.reduceNe] at hl'
    simp only [askT, askK, hp, sy, reduceIte, Nat.reduceAdd, Nat.reduceLeDiff, Nat.reduceLT, Nat.reduceEqDiff, Int.reduceEq, Int.reduceLT, Int.reduceLE, Int.reduceNe, List.not_mem_nil] at hx
    have hx1 := hl' hx.1
    have hx2 : x ≠ c.me.id := by simpa using hx.2
    have hx3 : x = m.p.id ∧ m.pd = false := by rcases hx1 with g | g; exact absurd g hx2; exact g
    simp only [tellC, hp, sy, reduceIte, Nat.reduceAdd, Nat.reduceLeDiff, Nat.reduceLT, Nat.reduceEqDiff, Int.reduceEq, Int.reduceLT, Int.reduceLE, Int.reduceNe, freeC, hx3.2]
    split <;> simp [allow, hx3.1]
  · simp only [allow, hp, sy, reduceIte, Nat.reduceAdd, Nat.reduceLeDiff, Nat.reduceLT, Nat.reduceEqDiff, Int.reduceEq, Int.reduceLT, Int.reduceLE, Int.reduceNe] at hl'
    simp only [askT, askK, hp, sy, reduceIte, Nat.reduceAdd, Nat.reduceLeDiff, Nat.reduceLT, Nat.reduceEqDiff, Int.reduceEq, Int.reduceLT, Int.reduceLE, Int.reduceNe, List.not_mem_nil] at hx
    have hx1 := hl' hx.1
    have hx2 : x ≠ c.me.id := by simpa using hx.2
    have hx3 : x = m.p.id ∧ m.pd = false := by rcases hx1 with g | g; exact absurd g hx2; exact g
    simp only [tellC, hp, sy, reduceIte, Nat.reduceAdd, Nat.reduceLeDiff, Nat.reduceLT, Nat.reduceEqDiff, Int.reduceEq, Int.reduceLT, Int.reduceLE, Int.reduceNe, freeC, hx3.2]
    split <;> simp [allow, hx3.1]
  · simp only [allow, hp, sy, reduceIte, Nat.reduceAdd, Nat.reduceLeDiff, Nat.reduceLT, Nat.reduceEqDiff, Int.reduceEq, Int.reduceLT, Int.reduceLE, Int.reduceNe] at hl'
    simp only [askT, askK, hp, sy, reduceIte, Nat.reduceAdd, Nat.reduceLeDiff, Nat.reduceLT, Nat.reduceEqDiff, Int.reduceEq, Int.reduceLT, Int.reduceLE, Int.reduceNe, List.not_mem_nil] at hx
    have hx1 := hl' hx.1
    have hx2 : x ≠ m.p.id := by simpa using hx.2
    exact absurd hx1 hx2
theorem heldL_length (l : List Int) (t k ak : Int) : (heldL l t k ak).length ≤ l.length + 1 := by
  unfold heldL
  rw [List.length_append]
  have := List.length_filter_le (fun y => decide (y ≠ t ∨ (ak ≠ 3 ∧ k ≠ 4 ∧ k ≠ 8))) l
  generalize (l.filter fun y => decide (y ≠ t ∨ (ak ≠ 3 ∧ k ≠ 4 ∧ k ≠ 8))).length = q at *
  split
  · simp only [List.length_cons, List.length_nil]; omega
  · simp only [List.length_nil]; omega
end Go.Proofs.YteafgjpbfhjbjaaGreat.Sp
