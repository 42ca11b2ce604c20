/-
  Keys sorted, each once: the plain part.
-/
import Derived.Test.YtogcfnhbacglfaaMachF
set_option linter.unusedSimpArgs false
set_option linter.unusedVariables false
set_option maxRecDepth 100000
set_option maxHeartbeats 2000000
namespace Go.Proofs.Ytogcfnhbacglfaa
open Go.Sim Go.Sim.Bt

/-- The rest of a row, when a key is put in. -/
def insGo (x : Int) : Bool → List Int → List Int
  | put, [] => if put = true then [] else [x]
  | put, y :: ys => (if put = false ∧ ¬ y < x then [x] else []) ++ ((if y ≠ x then [y] else []) ++ insGo x (put || !decide (y < x)) ys)
def srtN (l : List Int) : List Int := l.foldl (fun out x => insGo x false out) []
theorem insGo_true {x : Int} : ∀ {ys : List Int}, (∀ y ∈ ys, x < y) → insGo x true ys = ys
  | [], _ => rfl
  | y :: ys, h => by
    have h1 := h y (by simp)
    simp only [insGo, Bool.true_or]
    rw [insGo_true fun z hz => h z (by simp [hz])]
    simp only [Bool.true_eq_false, false_and, if_false, List.nil_append]
    rw [if_pos (by omega)]
    rfl
theorem insGo_sorted {x : Int} : ∀ {out : List Int}, out.Pairwise (· < ·) → (insGo x false out).Pairwise (· < ·) ∧ (∀ y ∈ insGo x false out, y ∈ out ∨ y = x) ∧ (insGo x false out).length ≤ out.length + 1
  | [], _ => by simp [insGo]
  | y :: ys, h => by
    rw [List.pairwise_cons] at h
    by_cases h1 : y < x
    · obtain ⟨g1, g2, g3⟩ := insGo_sorted (x := x) h.2
      have e : insGo x false (y :: ys) = y :: insGo x false ys := by
        simp only [insGo, h1, not_true_eq_false, and_false, if_false, List.nil_append, decide_true, Bool.not_true, Bool.or_false]
        rw [if_pos (by omega)]
        rfl
      rw [e]
      refine ⟨List.pairwise_cons.2 ⟨fun z hz => ?_, g1⟩, fun z hz => ?_, by simp only [List.length_cons]; omega⟩
      · rcases g2 z hz with g | rfl
        · exact h.1 z g
        · exact h1
      · rcases List.mem_cons.1 hz with rfl | hz
        · simp
        · rcases g2 z hz with g | g
          · simp [g]
          · exact .inr g
    · have e : insGo x false (y :: ys) = x :: ((if y ≠ x then [y] else []) ++ ys) := by
        simp only [insGo, h1, not_false_eq_true, and_self, if_true, decide_false, Bool.not_false, Bool.or_true]
        rw [insGo_true fun z hz => by have := h.1 z hz; omega]
        rfl
      rw [e]
      by_cases h2 : y = x
      · subst h2
        simp only [ne_eq, not_true_eq_false, if_false, List.nil_append]
        exact ⟨List.pairwise_cons.2 h, fun z hz => .inl hz, by simp⟩
      · rw [if_pos h2]
        refine ⟨List.pairwise_cons.2 ⟨fun z hz => ?_, List.pairwise_cons.2 h⟩, fun z hz => ?_, by simp⟩
        · rcases List.mem_cons.1 hz with rfl | hz
          · omega
          · have := h.1 z hz; omega
        · rcases List.mem_cons.1 hz with rfl | hz
          · exact .inr rfl
          · exact .inl hz
theorem srtN_spec (l : List Int) : (srtN l).Pairwise (· < ·) ∧ (∀ y ∈ srtN l, y ∈ l) ∧ (srtN l).length ≤ l.length := by
  have gen : ∀ (l out : List Int), out.Pairwise (· < ·) → (l.foldl (fun out x => insGo x false out) out).Pairwise (· < ·) ∧ (∀ y ∈ l.foldl (fun out x => insGo x false out) out, y ∈ out ∨ y ∈ l) ∧ (l.foldl (fun out x => insGo x false out) out).length ≤ out.length + l.length := by
    intro l
    induction l with
    | nil => intro out h; exact ⟨h, fun y hy => .inl hy, by simp⟩
    | cons x l ih =>
      intro out h
      obtain ⟨g1, g2, g3⟩ := insGo_sorted (x := x) h
      obtain ⟨f1, f2, f3⟩ := ih _ g1
      refine ⟨f1, fun y hy => ?_, by simp only [List.foldl_cons, List.length_cons]; omega⟩
      rcases f2 y hy with g | g
      · rcases g2 y g with g | rfl
        · exact .inl g
        · simp
      · simp [g]
  obtain ⟨h1, h2, h3⟩ := gen l [] List.Pairwise.nil
  refine ⟨h1, fun y hy => ?_, by rw [List.length_nil, Nat.zero_add] at h3; exact h3⟩
  rcases h2 y hy with g | g
  · cases g
  · exact g
end Go.Proofs.Ytogcfnhbacglfaa
