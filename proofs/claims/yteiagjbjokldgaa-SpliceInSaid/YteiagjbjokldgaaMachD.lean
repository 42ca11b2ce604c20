/-
  Rows of ticks and answers.
-/
import Derived.Test.YteiagjbjokldgaaMachB
set_option linter.unusedSimpArgs false
set_option linter.unusedVariables false
set_option maxRecDepth 100000
namespace Go.Proofs.Yteiagjbjokldgaa
open Go.Sim

structure OpA where
  wake : Bool
  a : Ans
abbrev OpA.cs (o : OpA) : List Value := .bool o.wake :: o.a.cs
/-- A slice of these. -/
def IsO (s : St) (v : Value) (l : List OpA) : Prop :=
  (v = .slice none 0 0 ∧ l = []) ∨ ∃ b i e rows ro, v = .slice (some ⟨b, i, some 0⟩) l.length e ∧ s.get b = some (.row 14 rows ro) ∧ ∀ (j : Nat) a, l[j]? = some a → rows[i + j]? = some a.cs
theorem IsO.len {s : St} {v : Value} {l : List OpA} (h : IsO s v l) : lenL v = some (.int .i64 l.length) := by
  rcases h with ⟨rfl, rfl⟩ | ⟨b, i, e, rows, ro, rfl, _, _⟩ <;> rfl
theorem IsO.at {s : St} {v : Value} {l : List OpA} (h : IsO s v l) {j : Nat} {a : OpA} (hj : l[j]? = some a) :
    ∃ b k rows ro, idx s 14 v (.int .i64 (j : Int)) = some (.pointer (some ⟨b, k, some 0⟩)) ∧ s.get b = some (.row 14 rows ro) ∧ rows[k]? = some a.cs := by
  rcases h with ⟨rfl, rfl⟩ | ⟨b, i, e, rows, ro, rfl, hg, hr⟩
  · simp at hj
  · have hlt : j < l.length := (List.getElem?_eq_some_iff.1 hj).1
    refine ⟨b, i + j, rows, ro, ?_, hg, hr j a hj⟩
    have := idx_row (k := .i64) (i := i) (n := (j : Int)) (len := l.length) (e := e) hg (by omega) (by omega)
    rwa [Int.toNat_natCast] at this
/-- Where the row stays, and the pointers into it. -/
theorem IsO.keep {s s' : St} {v : Value} {l : List OpA} (h : IsO s v l) (hk : ∀ b rows ro, s.get b = some (.row 14 rows ro) → s'.get b = some (.row 14 rows ro)) : IsO s' v l ∧ ∀ j : Nat, j < l.length → idx s' 14 v (.int .i64 (j : Int)) = idx s 14 v (.int .i64 (j : Int)) := by
  rcases h with ⟨rfl, rfl⟩ | ⟨b, i, e, rows, ro, rfl, hg, hr⟩
  · exact ⟨.inl ⟨rfl, rfl⟩, fun j hj => absurd hj (Nat.not_lt_zero _)⟩
  · refine ⟨.inr ⟨b, i, e, rows, ro, rfl, hk _ _ _ hg, hr⟩, fun j hj => ?_⟩
    rw [idx_row (k := .i64) (i := i) (n := (j : Int)) (len := l.length) (e := e) hg (by omega) (by omega), idx_row (k := .i64) (i := i) (n := (j : Int)) (len := l.length) (e := e) (hk _ _ _ hg) (by omega) (by omega)]

def opOf : List Value → OpA
  | .bool w :: r => ⟨w, ansOf r⟩
  | _ => ⟨false, ⟨0, false, zR, zR, .nilIface⟩⟩
theorem isO_of {s : St} {v : Value} {row : List Leaf} (h : Leaf.Is s (.sl [.b, .i .i64, .b, .i .i64, .i .i64, .i .u64, .i .i64, .i .u64, .i .i64, .i .i64, .i .u64, .i .i64, .i .u64, .sl row]) v) : ∃ l, IsO s v l := by
  unfold Leaf.Is at h
  rcases h with rfl | ⟨b, len, cap, rows, rfl, h1, h2, h3, h4, h5⟩
  · exact ⟨[], .inl ⟨rfl, rfl⟩⟩
  · have hrow : ∀ r ∈ rows, r = (opOf r).cs := by
      intro r hr
      have := h5 r hr
      unfold Leaf.Are Leaf.Are Leaf.Are Leaf.Are Leaf.Are Leaf.Are Leaf.Are Leaf.Are Leaf.Are Leaf.Are Leaf.Are Leaf.Are Leaf.Are Leaf.Are Leaf.Are at this
      obtain ⟨_, _, rfl, q0, _, _, rfl, q1, _, _, rfl, q2, _, _, rfl, q3, _, _, rfl, q4, _, _, rfl, q5, _, _, rfl, q6, _, _, rfl, q7, _, _, rfl, q8, _, _, rfl, q9, _, _, rfl, q10, _, _, rfl, q11, _, _, rfl, q12, _, _, rfl, _, rfl⟩ := this
      unfold Leaf.Is at q0 q1 q2 q3 q4 q5 q6 q7 q8 q9 q10 q11 q12
      obtain ⟨_, rfl⟩ := q0
      obtain ⟨_, rfl, _⟩ := q1
      obtain ⟨_, rfl⟩ := q2
      obtain ⟨_, rfl, _⟩ := q3
      obtain ⟨_, rfl, _⟩ := q4
      obtain ⟨_, rfl, _⟩ := q5
      obtain ⟨_, rfl, _⟩ := q6
      obtain ⟨_, rfl, _⟩ := q7
      obtain ⟨_, rfl, _⟩ := q8
      obtain ⟨_, rfl, _⟩ := q9
      obtain ⟨_, rfl, _⟩ := q10
      obtain ⟨_, rfl, _⟩ := q11
      obtain ⟨_, rfl, _⟩ := q12
      rfl
    refine ⟨(rows.take len).map opOf, .inr ⟨b, 0, 2 * cap, rows, true, by rw [List.length_map, List.length_take]; congr 1; omega, h3, fun j a ha => ?_⟩⟩
    rw [List.getElem?_map, Option.map_eq_some_iff] at ha
    obtain ⟨r, hr, rfl⟩ := ha
    rw [List.getElem?_take] at hr
    split at hr
    · rw [Nat.zero_add, hr, ← hrow r (List.mem_of_getElem? hr)]
    · cases hr
end Go.Proofs.Yteiagjbjokldgaa
