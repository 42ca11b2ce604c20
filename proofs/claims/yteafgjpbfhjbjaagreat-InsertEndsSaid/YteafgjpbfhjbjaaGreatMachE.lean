/-
  Rows of ticks and answers, with what their values are.
-/
import Derived.Test.YteafgjpbfhjbjaaGreatMachF
set_option linter.unusedSimpArgs false
set_option linter.unusedVariables false
set_option maxRecDepth 100000
namespace Go.Proofs.YteafgjpbfhjbjaaGreat
open Go.Sim
abbrev ValIs (s : St) (v : Value) : Prop := Leaf.Is s (.sl [.i .u8]) v
theorem val_bx {s : St} {v : Value} (h : ValIs s v) : bx v = some [v] := by
  unfold ValIs Leaf.Is at h
  rcases h with rfl | ⟨b, len, cap, rows, rfl, _⟩ <;> rfl
theorem ans_of {s : St} {r : List Value} (h : Leaf.Are s [.i .i64, .b, .i .i64, .i .i64, .i .u64, .i .i64, .i .u64, .i .i64, .i .i64, .i .u64, .i .i64, .i .u64, .sl [.i .u8]] r) : r = (ansOf r).cs ∧ ValIs s (ansOf r).v := by
  unfold Leaf.Are Leaf.Are Leaf.Are Leaf.Are Leaf.Are Leaf.Are Leaf.Are Leaf.Are Leaf.Are Leaf.Are Leaf.Are Leaf.Are Leaf.Are Leaf.Are at h
  obtain ⟨_, _, rfl, q1, _, _, rfl, q2, _, _, rfl, q3, _, _, rfl, q4, _, _, rfl, q5, _, _, rfl, q6, _, _, rfl, q7, _, _, rfl, q8, _, _, rfl, q9, _, _, rfl, q10, _, _, rfl, q11, _, _, rfl, q12, v, _, rfl, q13, rfl⟩ := h
  unfold Leaf.Is at q1 q2 q3 q4 q5 q6 q7 q8 q9 q10 q11 q12
  obtain ⟨_, rfl, _⟩ := q1
  obtain ⟨_, rfl⟩ := q2
  obtain ⟨_, rfl, _⟩ := q3
  obtain ⟨_, rfl, _⟩ := q4
  obtain ⟨_, rfl, _⟩ := q5
  obtain ⟨_, rfl, _⟩ := q6
  obtain ⟨_, rfl, _⟩ := q7
  obtain ⟨_, rfl, _⟩ := q8
  obtain ⟨_, rfl, _⟩ := q9
  obtain ⟨_, rfl, _⟩ := q10
  obtain ⟨_, rfl, _⟩ := q11
  obtain ⟨_, rfl, _⟩ := q12
  exact ⟨rfl, q13⟩
end Go.Proofs.YteafgjpbfhjbjaaGreat
