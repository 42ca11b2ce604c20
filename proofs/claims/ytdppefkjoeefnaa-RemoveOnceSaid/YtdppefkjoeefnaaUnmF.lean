/-
  The locks that a machine of chapter 14 holds.
-/
import Derived.Test.YtdppefkjoeefnaaUnmE
set_option linter.unusedSimpArgs false
set_option linter.unusedVariables false
set_option maxRecDepth 100000
set_option maxHeartbeats 2000000
namespace Go.Proofs.Ytdppefkjoeefnaa.Un
open Go.Sim Go.Sim.Bt
attribute [local congr] bdc cndc itec gdc gdSc gdUc

def rowsR (l : List Rf) : List (List Value) := l.map Rf.cs
theorem rowsR_length (l : List Rf) : (rowsR l).length = l.length := by simp [rowsR]
theorem rowsR_get {l : List Rf} {j : Nat} {r : Rf} (h : l[j]? = some r) : (rowsR l)[j]? = some r.cs := by simp [rowsR, h]

theorem eqR_refl (x : Rf) : eqR x x = true := by simp [eqR]
theorem eqR_less {x y : Rf} (h : lessR x y) : eqR x y = false := by
  unfold eqR
  unfold lessR lessK at h
  by_cases h1 : x.rk = y.rk
  · by_cases h2 : x.n = y.n
    · omega
    · simp [h2]
  · simp [h1]
/-- The locks that are held, by the phase. -/
def held (c : Cf) (m : Mm) : List Rf :=
  if m.at' = 3 ∨ m.at' = 8 then [m.p] else if 4 ≤ m.at' ∧ m.at' ≤ 7 then [m.p, c.me] else []
def Low (c : Cf) (m : Mm) : Prop := 2 ≤ m.at' ∧ m.at' ≤ 8 → lessR m.p c.me
theorem p_tell {c : Cf} {m : Mm} (h : m.at' ≠ 1) (a : Ans) : (tellC c m a).p = m.p := by
  unfold tellC frees
  rw [if_neg h]
  repeat' split
  all_goals rfl
theorem low_tell {c : Cf} {m : Mm} (hi : InvM m) (h : Low c m) (a : Ans) : Low c (tellC c m a) := by
  obtain ⟨i1, i2, i3, i4, i5⟩ := hi
  unfold Low at *
  by_cases h1 : m.at' = 1
  · simp only [tellC, h1, sy, reduceIte, Nat.reduceAdd, Nat.reduceLeDiff, Nat.reduceLT, Nat.reduceEqDiff, Int.reduceEq, Int.reduceLT, Int.reduceLE, Int.reduceNe]
    repeat' split
    all_goals (intro h2; first | assumption | (simp at h2))
  · intro h2
    rw [p_tell h1]
    by_cases h8 : m.at' ≤ 8
    · exact h ⟨by omega, h8⟩
    · have : tellC c m a = m := by
        unfold tellC
        rw [if_neg h1, if_neg (by omega), if_neg (by omega), if_neg (by omega), if_neg (by omega), if_neg (by omega), if_neg (by omega), if_neg (by omega)]
      rw [this] at h2
      exact h h2
theorem low_wake {c : Cf} {m : Mm} : Low c m → Low c (wakeC m) := by
  unfold Low wakeC
  split
  · intro _ h; simp at h
  · exact id
/-- The locks behind the ask and its answer. -/
def held2 (c : Cf) (m : Mm) (a : Ans) : List Rf :=
  if m.at' = 2 then (if a.k = 1 then [m.p] else []) else if m.at' = 3 then (if a.k = 1 then [m.p, c.me] else [m.p])
  else if m.at' = 4 ∨ m.at' = 5 then [m.p, c.me] else if m.at' = 6 ∨ m.at' = 7 then [m.p] else []
theorem held_tell {c : Cf} {m : Mm} (hi : InvM m) (a : Ans) (h : m.at' ≤ 8) : held c (tellC c m a) = held2 c m a := by
  obtain ⟨i1, i2, i3, i4, i5⟩ := hi
  have hp : m.at' = 1 ∨ m.at' = 2 ∨ m.at' = 3 ∨ m.at' = 4 ∨ m.at' = 5 ∨ m.at' = 6 ∨ m.at' = 7 ∨ m.at' = 8 := by omega
  rcases hp with hp | hp | hp | hp | hp | hp | hp | hp
  · simp only [tellC, held2, hp, sy, reduceIte, Nat.reduceAdd, Nat.reduceLeDiff, Nat.reduceLT, Nat.reduceEqDiff, Int.reduceEq, Int.reduceLT, Int.reduceLE, Int.reduceNe]
    repeat' split
    all_goals simp [held]
  · simp only [tellC, held2, hp, sy, reduceIte, Nat.reduceAdd, Nat.reduceLeDiff, Nat.reduceLT, Nat.reduceEqDiff, Int.reduceEq, Int.reduceLT, Int.reduceLE, Int.reduceNe, frees]
    by_cases k1 : a.k = 1
    · by_cases k2 : eqR a.r c.me = true <;> simp [k1, k2, held]
    · simp [k1, held]
  · simp only [tellC, held2, hp, sy, reduceIte, Nat.reduceAdd, Nat.reduceLeDiff, Nat.reduceLT, Nat.reduceEqDiff, Int.reduceEq, Int.reduceLT, Int.reduceLE, Int.reduceNe, frees]
    by_cases k1 : a.k = 1
    · by_cases k2 : lessR c.me a.r <;> simp [k1, k2, held]
    · by_cases k2 : a.k = 2
      · simp [k2, held]
      · by_cases k3 : a.k = 3
        · simp [k3, held]
        · simp [k1, k2, k3, held]
  · simp only [tellC, held2, hp, sy, reduceIte, Nat.reduceAdd, Nat.reduceLeDiff, Nat.reduceLT, Nat.reduceEqDiff, Int.reduceEq, Int.reduceLT, Int.reduceLE, Int.reduceNe, frees]
    split <;> simp [held]
  · simp only [tellC, held2, hp, sy, reduceIte, Nat.reduceAdd, Nat.reduceLeDiff, Nat.reduceLT, Nat.reduceEqDiff, Int.reduceEq, Int.reduceLT, Int.reduceLE, Int.reduceNe, frees]; simp [held]
  · simp only [tellC, held2, hp, sy, reduceIte, Nat.reduceAdd, Nat.reduceLeDiff, Nat.reduceLT, Nat.reduceEqDiff, Int.reduceEq, Int.reduceLT, Int.reduceLE, Int.reduceNe, frees]
    split <;> simp [held]
  · simp only [tellC, held2, hp, sy, reduceIte, Nat.reduceAdd, Nat.reduceLeDiff, Nat.reduceLT, Nat.reduceEqDiff, Int.reduceEq, Int.reduceLT, Int.reduceLE, Int.reduceNe, frees]; simp [held]
  · simp only [tellC, held2, hp, sy, reduceIte, Nat.reduceAdd, Nat.reduceLeDiff, Nat.reduceLT, Nat.reduceEqDiff, Int.reduceEq, Int.reduceLT, Int.reduceLE, Int.reduceNe, frees]
    have := i4 hp
    rcases this with h | h <;> simp [held, h]
end Go.Proofs.Ytdppefkjoeefnaa.Un
