/-
  What is read, where it is small.
-/
import Derived.Test.YtmobdijoaebilaaSmA
import Derived.Test.YtmobdijoaebilaaMachV
set_option linter.unusedSimpArgs false
set_option linter.unusedVariables false
set_option maxRecDepth 100000
set_option maxHeartbeats 2000000
namespace Go.Sim
theorem smallM_le : smallM ≤ maxLen := by unfold smallM maxLen; omega
mutual
theorem Leaf.Sm.is {s : St} : ∀ {x : Leaf} {v : Value}, Leaf.Sm s x v → Leaf.Is s x v
  | .b, v, h => by unfold Leaf.Sm at h; unfold Leaf.Is; exact h
  | .i k, v, h => by unfold Leaf.Sm at h; unfold Leaf.Is; exact h
  | .str, v, h => by
    unfold Leaf.Sm at h
    unfold Leaf.Is
    obtain ⟨x, h1, h2⟩ := h
    exact ⟨x, h1, Nat.le_trans h2 smallM_le⟩
  | .sl row, v, h => by
    unfold Leaf.Sm at h
    unfold Leaf.Is
    rcases h with h | ⟨b, len, cap, rows, h1, h2, h3, h4, h5, h6⟩
    · exact .inl h
    · exact .inr ⟨b, len, cap, rows, h1, h2, Nat.le_trans h3 smallM_le, h4, h5, fun r hr => Leaf.Sms.are (h6 r hr)⟩
theorem Leaf.Sms.are {s : St} : ∀ {l : List Leaf} {cs : List Value}, Leaf.Sms s l cs → Leaf.Are s l cs
  | [], cs, h => by unfold Leaf.Sms at h; unfold Leaf.Are; exact h
  | x :: l, cs, h => by
    unfold Leaf.Sms at h
    unfold Leaf.Are
    obtain ⟨v, r, h1, h2, h3⟩ := h
    exact ⟨v, r, h1, Leaf.Sm.is h2, Leaf.Sms.are h3⟩
end
end Go.Sim
namespace Go.Proofs.Ytmobdijoaebilaa
open Go.Sim Go.Sim.Bt
abbrev ValS (s : St) (v : Value) : Prop := Leaf.Sm s (.sl [.i .u8]) v
theorem ValS.is {s : St} {v : Value} (h : ValS s v) : ValIs s v := Leaf.Sm.is h
theorem ValS.len {s : St} {v : Value} (h : ValS s v) {l : List (List Value)} (hB : Byt s v l) : l.length ≤ smallM := by
  unfold ValS Leaf.Sm at h
  have hl := hB.len
  rcases h with rfl | ⟨b, len, cap, rows, rfl, h1, h2, _⟩
  · simp only [lenV, Option.some.injEq] at hl; omega
  · simp only [lenV, Option.some.injEq] at hl; omega
theorem valS_stp {ks : List Nat} {s s' : St} {v : Value} (h : ValS s v) (k : StpK ks s s') (hn : 1 ∉ ks) : ValS s' v := by
  unfold ValS Leaf.Sm at h ⊢
  rcases h with rfl | ⟨b, len, cap, rows, rfl, h1, h2, h3, h4, h5⟩
  · exact .inl rfl
  · refine .inr ⟨b, len, cap, rows, rfl, h1, h2, k.row h3 hn, h4, fun r hr => ?_⟩
    have := h5 r hr
    unfold Leaf.Sms Leaf.Sms Leaf.Sm at this ⊢
    exact this
theorem ansS_of {s : St} {r : List Value} (h : Leaf.Sms s [.i .i64, .b, .i .i64, .i .i64, .i .u64, .i .i64, .i .u64, .i .i64, .i .i64, .i .u64, .i .i64, .i .u64, .sl [.i .u8]] r) : ValS s (ansOf r).v := by
  unfold Leaf.Sms Leaf.Sms Leaf.Sms Leaf.Sms Leaf.Sms Leaf.Sms Leaf.Sms Leaf.Sms Leaf.Sms Leaf.Sms Leaf.Sms Leaf.Sms Leaf.Sms Leaf.Sms at h
  obtain ⟨_, _, rfl, q1, _, _, rfl, q2, _, _, rfl, q3, _, _, rfl, q4, _, _, rfl, q5, _, _, rfl, q6, _, _, rfl, q7, _, _, rfl, q8, _, _, rfl, q9, _, _, rfl, q10, _, _, rfl, q11, _, _, rfl, q12, v, _, rfl, q13, rfl⟩ := h
  unfold Leaf.Sm at q1 q2 q3 q4 q5 q6 q7 q8 q9 q10 q11 q12
  obtain ⟨_, rfl, _⟩ := q1
  obtain ⟨_, rfl⟩ := q2
  obtain ⟨_, rfl, _⟩ := q3
  obtain ⟨_, rfl, _⟩ := q4
  obtain ⟨_, rfl, _⟩ := q5
  obtain ⟨_, rfl, _⟩ := q6
  obtain ⟨_, rfl, _⟩ := q7
  obtain ⟨_, rfl, _⟩ := q8
  obtain ⟨_, rfl, _⟩ := q9
  obtain ⟨_, rfl, _⟩ := q10
  obtain ⟨_, rfl, _⟩ := q11
  obtain ⟨_, rfl, _⟩ := q12
  exact q13
end Go.Proofs.Ytmobdijoaebilaa
