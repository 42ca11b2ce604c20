/-
  Rows of ticks and answers, with what their values are.
-/
import Derived.Test.YteiagjbjokldgaaMachF
set_option linter.unusedSimpArgs false
set_option linter.unusedVariables false
set_option maxRecDepth 100000
namespace Go.Proofs.Yteiagjbjokldgaa
open Go.Sim

/-- A value as it is handed in. -/
abbrev ValIs (s : St) (v : Value) : Prop := Leaf.Is s (.sl [.i .u8]) v
theorem val_bx {s : St} {v : Value} (h : ValIs s v) : bx v = some [v] := by
  unfold ValIs Leaf.Is at h
  rcases h with rfl | ⟨b, len, cap, rows, rfl, _⟩ <;> rfl
theorem val_same {s : St} {v : Value} (h : ValIs s v) : sameV v v = true := by
  unfold ValIs Leaf.Is at h
  rcases h with rfl | ⟨b, len, cap, rows, rfl, _⟩ <;> simp [sameV]
theorem ans_of {s : St} {r : List Value} (h : Leaf.Are s [.i .i64, .b, .i .i64, .i .i64, .i .u64, .i .i64, .i .u64, .i .i64, .i .i64, .i .u64, .i .i64, .i .u64, .sl [.i .u8]] r) : r = (ansOf r).cs ∧ ValIs s (ansOf r).v := by
  unfold Leaf.Are Leaf.Are Leaf.Are Leaf.Are Leaf.Are Leaf.Are Leaf.Are Leaf.Are Leaf.Are Leaf.Are Leaf.Are Leaf.Are Leaf.Are Leaf.Are at h
  obtain ⟨_, _, rfl, q1, _, _, rfl, q2, _, _, rfl, q3, _, _, rfl, q4, _, _, rfl, q5, _, _, rfl, q6, _, _, rfl, q7, _, _, rfl, q8, _, _, rfl, q9, _, _, rfl, q10, _, _, rfl, q11, _, _, rfl, q12, v, _, rfl, q13, rfl⟩ := h
  unfold Leaf.Is at q1 q2 q3 q4 q5 q6 q7 q8 q9 q10 q11 q12
  obtain ⟨_, rfl, _⟩ := q1
  obtain ⟨_, rfl⟩ := q2
  obtain ⟨_, rfl, _⟩ := q3
  obtain ⟨_, rfl, _⟩ := q4
  obtain ⟨_, rfl, _⟩ := q5
  obtain ⟨_, rfl, _⟩ := q6
  obtain ⟨_, rfl, _⟩ := q7
  obtain ⟨_, rfl, _⟩ := q8
  obtain ⟨_, rfl, _⟩ := q9
  obtain ⟨_, rfl, _⟩ := q10
  obtain ⟨_, rfl, _⟩ := q11
  obtain ⟨_, rfl, _⟩ := q12
  exact ⟨rfl, q13⟩
theorem isA_of2 {s : St} {v : Value} (h : Leaf.Is s (.sl [.i .i64, .b, .i .i64, .i .i64, .i .u64, .i .i64, .i .u64, .i .i64, .i .i64, .i .u64, .i .i64, .i .u64, .sl [.i .u8]]) v) : ∃ l, IsA s v l ∧ ∀ (j : Nat) (a : Ans), l[j]? = some a → ValIs s a.v := by
  unfold Leaf.Is at h
  rcases h with rfl | ⟨b, len, cap, rows, rfl, h1, h2, h3, h4, h5⟩
  · exact ⟨[], .inl ⟨rfl, rfl⟩, fun j a h => by simp at h⟩
  · have g : ∀ (j : Nat) a, ((rows.take len).map ansOf)[j]? = some a → rows[j]? = some a.cs ∧ ValIs s a.v := by
      intro j a ha
      rw [List.getElem?_map, Option.map_eq_some_iff] at ha
      obtain ⟨r, hr, rfl⟩ := ha
      rw [List.getElem?_take] at hr
      split at hr
      · have := ans_of (h5 r (List.mem_of_getElem? hr))
        rw [hr, ← this.1]
        exact ⟨rfl, this.2⟩
      · cases hr
    exact ⟨(rows.take len).map ansOf, .inr ⟨b, 0, 2 * cap, rows, true, by rw [List.length_map, List.length_take]; congr 1; omega, h3, fun j a ha => by rw [Nat.zero_add]; exact (g j a ha).1⟩, fun j a ha => (g j a ha).2⟩
theorem isO_of2 {s : St} {v : Value} (h : Leaf.Is s (.sl [.b, .i .i64, .b, .i .i64, .i .i64, .i .u64, .i .i64, .i .u64, .i .i64, .i .i64, .i .u64, .i .i64, .i .u64, .sl [.i .u8]]) v) : ∃ l, IsO s v l ∧ ∀ (j : Nat) (o : OpA), l[j]? = some o → ValIs s o.a.v := by
  unfold Leaf.Is at h
  rcases h with rfl | ⟨b, len, cap, rows, rfl, h1, h2, h3, h4, h5⟩
  · exact ⟨[], .inl ⟨rfl, rfl⟩, fun j a h => by simp at h⟩
  · have g : ∀ (j : Nat) a, ((rows.take len).map opOf)[j]? = some a → rows[j]? = some a.cs ∧ ValIs s a.a.v := by
      intro j a ha
      rw [List.getElem?_map, Option.map_eq_some_iff] at ha
      obtain ⟨r, hr, rfl⟩ := ha
      rw [List.getElem?_take] at hr
      split at hr
      · have hh := h5 r (List.mem_of_getElem? hr)
        unfold Leaf.Are at hh
        obtain ⟨w, r', rfl, q0, hh⟩ := hh
        unfold Leaf.Is at q0
        obtain ⟨w', rfl⟩ := q0
        obtain ⟨g1, g2⟩ := ans_of hh
        refine ⟨?_, g2⟩
        show rows[j]? = some (.bool w' :: (ansOf r').cs)
        rw [hr]
        congr 2
      · cases hr
    exact ⟨(rows.take len).map opOf, .inr ⟨b, 0, 2 * cap, rows, true, by rw [List.length_map, List.length_take]; congr 1; omega, h3, fun j a ha => by rw [Nat.zero_add]; exact (g j a ha).1⟩, fun j a ha => (g j a ha).2⟩
theorem val_stp {ks : List Nat} {s s' : St} {v : Value} (h : ValIs s v) (k : StpK ks s s') (hn : 1 ∉ ks) : ValIs s' v := by
  unfold ValIs Leaf.Is at h ⊢
  rcases h with rfl | ⟨b, len, cap, rows, rfl, h1, h2, h3, h4, h5⟩
  · exact .inl rfl
  · refine .inr ⟨b, len, cap, rows, rfl, h1, h2, k.row h3 hn, h4, fun r hr => ?_⟩
    have := h5 r hr
    unfold Leaf.Are Leaf.Are Leaf.Is at this ⊢
    exact this
end Go.Proofs.Yteiagjbjokldgaa
