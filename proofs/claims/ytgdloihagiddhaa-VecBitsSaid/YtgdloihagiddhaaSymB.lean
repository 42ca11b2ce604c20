/-
  Readings as functions of the heap; a closed call known as a reading.
-/
import Derived.Test.YtgdloihagiddhaaSymA
set_option linter.unusedSimpArgs false
set_option linter.unusedVariables false
namespace Go.Sim
open Go.RowKit (Below)

/-- A reading, seen as a function that hands the heap on. -/
def asSt (g : List Value → St → Option Value) (args : List Value) (s : St) : Option (Value × St) := (g args s).map fun v => (v, s)

theorem FnOk.rd_st {P : Program} {f : FuncId} {g : List Value → St → Option Value} (h : FnOk P f (.rd g)) : FnOk P f (.st (asSt g)) := by
  intro φ s w args args' r s' hr ha hg
  unfold asSt at hg
  rw [Option.map_eq_some_iff] at hg
  obtain ⟨v, h1, h2⟩ := hg
  cases h2
  refine (h φ s w args args' _ hr ha h1).mono fun e w' he => ?_
  cases e with
  | returned u => exact ⟨φ, Step.of_below hr he.1.1 he.1.2, he.2⟩
  | _ => exact he.elim

theorem FnOk.closedR {P : Program} {f : FuncId} {g : List Value → St → Option Value} {v : Value} (h : FnOk P f (.rd g)) (he : g [] ⟨[], 0⟩ = some v) (hp : plainV v = true) : FnOk P f (.rd (closedW v)) := by
  intro φ s w args args' r hr ha hg
  unfold closedW at hg
  split at hg
  · cases hg
    cases ha
    refine (h (fun _ => none) ⟨[], 0⟩ w [] [] _ (rel_nil w) .nil he).mono fun e w' he => ?_
    cases e with
    | returned u =>
      refine ⟨he.1, ?_⟩
      rw [VRel.plain_eq he.2 hp]
      exact VRel.of_plain φ hp
    | _ => exact he.elim
  · simp at hg

theorem asSt_of {g : List Value → St → Option Value} {args : List Value} {s : St} {v : Value} (h : g args s = some v) : ∃ s', asSt g args s = some (v, s') := ⟨s, by simp [asSt, h]⟩
end Go.Sim
