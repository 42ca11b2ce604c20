/-
  Readings as functions of the heap; a closed call known as a reading.
-/
import Derived.Test.YtgdloihagiddhaaSymA
set_option linter.unusedSimpArgs false
set_option linter.unusedVariables false
namespace Go.Sim
open Go.RowKit (Below)

/-- A reading, seen as a function that hands the heap on. -/
def asSt (g : List Value → St → Option Value) (args : List Value) (s : St) : Option (Value × St) := (g args s).map fun v => (v, s)

theorem FnOk.rd_st {P : Program} {f : FuncId} {g : List Value → St → Option Value} (h : FnOk P f (.rd g)) : FnOk P f (.st (asSt g)) := by
  intro φ s w args args' r s' hr ha hg
  unfold asSt at hg
  rw [Option.map_eq_some_iff] at hg
  obtain ⟨v, h1, h2⟩ := hg
  cases h2
  refine (h φ s w args args' _ hr ha h1).mono fun e w' he => ?_
  cases e with
  | returned u => exact ⟨φ, Step.of_below hr he.1.1 he.1.2, he.2⟩
  | _ => exact he.elim

theorem FnOk.closedR {P : Program} {f : FuncId} {g : List Value → St → Option Value} {v : Value} (h : FnOk P f (.rd g)) (he : g [] ⟨[], 0⟩ = some v) (hp : plainV v = true) : FnOk P f (.rd (closedW v)) := by
  intro φ s w args args' r hr ha hg
  unfold closedW at hg
  split at hg
  · cases hg
    cases ha
    refine (h (fun _ => none) ⟨[], 0⟩ w [] [] _ (rel_nil w) .nil he).mono fun e w' he => ?_
    cases e with
    | returned u =>
      refine ⟨he.1, ?_⟩
      rw [VRel.plain_eq he.2 hp]
      exact VRel.of_plain φ hp
    | _ => exact he.elim
  · simp at hg

theorem asSt_of {g : List Value → St → Option Value} {args : List Value} {s : St} {v : Value} (h : g args s = some v) : ∃ s', asSt g args s = some (v, s') := ⟨s, by simp [asSt, h]⟩

/-! ### Slices of one's own -/

/-- A slice that is nil, or all of a row of its own from number `n0` on, of which no room is known. -/
def Own (n0 : Nat) (s : St) (sz : Nat) (v : Value) (rows : List (List Value)) : Prop :=
  (v = .slice none 0 0 ∧ rows = []) ∨ ∃ b, n0 ≤ b ∧ v = .slice (some ⟨b, 0, some 0⟩) rows.length 1 ∧ s.get b = some (.row sz rows false)

theorem Own.nil {n0 : Nat} {s : St} {sz : Nat} : Own n0 s sz (.slice none 0 0) [] := .inl ⟨rfl, rfl⟩
theorem Own.len {n0 : Nat} {s : St} {sz : Nat} {v : Value} {rows : List (List Value)} (h : Own n0 s sz v rows) : lenL v = some (.int .i64 rows.length) := by
  rcases h with ⟨rfl, rfl⟩ | ⟨b, _, rfl, _⟩ <;> rfl
theorem Own.app {s0 s : St} {sz by_ : Nat} {v x : Value} {rows news : List (List Value)} (h : Own s0.n s sz v rows) (hm : More s0 s) (hn : lenV x = some news.length) (hr : rowsOf s sz news.length x = some news)
    (hb : (rows.length + news.length) * by_ ≤ 140737488355328) (hle : rows.length + news.length ≤ 9223372036854775807) :
    ∃ v' s', Sim.app s sz by_ v x = some (v', s') ∧ More s0 s' ∧ Own s0.n s' sz v' (rows ++ news) ∧ (∀ c, c < s.n → (∀ len e, v ≠ .slice (some ⟨c, 0, some 0⟩) len e) → s'.get c = s.get c) := by
  rcases h with ⟨rfl, rfl⟩ | ⟨b, hb0, rfl, hg⟩
  · by_cases h0 : news.length = 0
    · have : news = [] := List.eq_nil_of_length_eq_zero h0
      subst this
      exact ⟨_, s, app_nil0 hn hr, hm, .inl ⟨rfl, rfl⟩, fun c hc _ => rfl⟩
    · refine ⟨_, _, app_nil hn hr (by omega) (by simpa using hb) (by simpa using hle), hm.trans .new, .inr ⟨s.n, hm.n, rfl, ?_⟩, fun c hc _ => get_new_ne (by omega)⟩
      exact get_new_same
  · by_cases h0 : news.length = 0
    · have : news = [] := List.eq_nil_of_length_eq_zero h0
      subst this
      refine ⟨.slice (some ⟨b, 0, some 0⟩) rows.length 1, s, ?_, hm, .inr ⟨b, hb0, by simp, by simpa using hg⟩, fun c hc _ => rfl⟩
      simp only [List.length_nil] at hn hr hb hle
      simp only [Sim.app, hn, hr, hg]
      rw [if_pos ⟨trivial, by omega⟩, if_pos ⟨hb, hle⟩]
      simp
    · refine ⟨_, _, app_own hn hr hg (Nat.le_refl _) (by omega) hb hle, (hm.del hb0).trans .new, .inr ⟨s.n, hm.n, by simp, ?_⟩, fun c hc hne => ?_⟩
      · rw [List.take_length]; exact get_new_same (s := s.del b)
      · rw [get_new_ne (by rw [del_n]; omega), get_del_ne]
        rintro rfl
        exact hne _ _ rfl
theorem rowsOf_one {s : St} {sz : Nat} {r : List Value} {e : Nat} : rowsOf (s.new (.row sz [r] false)) sz 1 (.slice (some ⟨s.n, 0, some 0⟩) 1 e) = some [r] := by
  rw [rowsOf_row get_new_same (Nat.le_refl _) (by simp)]; rfl
end Go.Sim
