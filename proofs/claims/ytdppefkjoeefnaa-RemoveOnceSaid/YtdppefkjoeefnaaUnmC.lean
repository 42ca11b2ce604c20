/-
  The machines of chapter 14: Next, Tell, Wake, New.
-/
import Derived.Test.YtdppefkjoeefnaaUnmB
set_option linter.unusedSimpArgs false
set_option linter.unusedVariables false
set_option maxRecDepth 100000
namespace Go.Proofs.Ytdppefkjoeefnaa.Un
open Go.Sim Go.Sim.Bt
attribute [local congr] bdc cndc itec gdc gdSc gdUc

theorem stepC_in (k : Int) (t : Rf) (a : AskP) (r : Res) : True := trivial
theorem next_r {s : St} {b : Nat} {c : Cf} {m : Mm} (h : Row s b (urow c m)) (h1 : 1 ≤ m.at') (h2 : m.at' ≤ 10) : unsplice_Unsplice_Next.r (P b) s = some (.agg ⟨nextC c m⟩) := by
  have e1 := fun t r : Rf => asks_r h 1 t r (by omega)
  have e3 := fun t r : Rf => asks_r h 3 t r (by omega)
  have e4 := fun t r : Rf => asks_r h 4 t r (by omega)
  have e5 := fun t r : Rf => asks_r h 5 t r (by omega)
  have e6 := fun t r : Rf => asks_r h 6 t r (by omega)
  have e8 := fun t r : Rf => asks_r h 8 t r (by omega)
  have g1 := e1 c.me zR
  have g2 := e3 m.p zR
  have g3 := e3 c.me zR
  have g4 := e5 m.p m.q
  have g5 := e6 m.q m.p
  have g6 := e8 c.me zR
  have g7 := e4 c.me zR
  have g8 := e4 m.p zR
  clear e1 e3 e4 e5 e6 e8
  have hi := is_r h (by omega)
  have hp : m.at' = 1 ∨ m.at' = 2 ∨ m.at' = 3 ∨ m.at' = 4 ∨ m.at' = 5 ∨ m.at' = 6 ∨ m.at' = 7 ∨ m.at' = 8 ∨ m.at' = 9 ∨ m.at' = 10 := by omega
  rcases hp with hp | hp | hp | hp | hp | hp | hp | hp | hp | hp <;> simp only [unsplice_Unsplice_Next.r, unsplice_Unsplice_Next.t, unsplice_Unsplice_Next.t.p1, unsplice_Unsplice_Next.t.p2, unsplice_Unsplice_Next.t.p3,  sy, reduceIte, Nat.reduceAdd, Nat.reduceLeDiff, Nat.reduceLT, Nat.reduceEqDiff, Int.reduceEq, Int.reduceLT, Int.reduceLE, Int.reduceNe, ly, hi, ldc_row h, lda_row h, g1, g2, g3, g4, g5, g6, g7, g8, nextC, hp, askC, stepC]
theorem rnext_r {s : St} {b : Nat} {c : Cf} {m : Mm} (h : Row s b (rrow c m)) (h1 : 1 ≤ m.at') (h2 : m.at' ≤ 10) : leapfrogref14x_Unsplice_Next.r (P b) s = some (.agg ⟨nextC c m⟩) := by
  have e1 := fun t r : Rf => rask_r h 1 t r (by omega)
  have e3 := fun t r : Rf => rask_r h 3 t r (by omega)
  have e4 := fun t r : Rf => rask_r h 4 t r (by omega)
  have e5 := fun t r : Rf => rask_r h 5 t r (by omega)
  have e6 := fun t r : Rf => rask_r h 6 t r (by omega)
  have e8 := fun t r : Rf => rask_r h 8 t r (by omega)
  have g1 := e1 c.me zR
  have g2 := e3 m.p zR
  have g3 := e3 c.me zR
  have g4 := e5 m.p m.q
  have g5 := e6 m.q m.p
  have g6 := e8 c.me zR
  have g7 := e4 c.me zR
  have g8 := e4 m.p zR
  clear e1 e3 e4 e5 e6 e8
  have hp : m.at' = 1 ∨ m.at' = 2 ∨ m.at' = 3 ∨ m.at' = 4 ∨ m.at' = 5 ∨ m.at' = 6 ∨ m.at' = 7 ∨ m.at' = 8 ∨ m.at' = 9 ∨ m.at' = 10 := by omega
  rcases hp with hp | hp | hp | hp | hp | hp | hp | hp | hp | hp <;> simp only [leapfrogref14x_Unsplice_Next.r, leapfrogref14x_Unsplice_Next.t, leapfrogref14x_Unsplice_Next.t.p1, leapfrogref14x_Unsplice_Next.t.p2, leapfrogref14x_Unsplice_Next.t.p3,  sy, reduceIte, Nat.reduceAdd, Nat.reduceLeDiff, Nat.reduceLT, Nat.reduceEqDiff, Int.reduceEq, Int.reduceLT, Int.reduceLE, Int.reduceNe, ly, ldc_row h, lda_row h, g1, g2, g3, g4, g5, g6, g7, g8, nextC, hp, askC, stepC]
end Go.Proofs.Ytdppefkjoeefnaa.Un
