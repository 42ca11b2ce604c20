/-
  Rows of answers.
-/
import Derived.Test.YteiagjbjokldgaaMachA
set_option linter.unusedSimpArgs false
set_option linter.unusedVariables false
set_option maxRecDepth 100000
namespace Go.Proofs.Yteiagjbjokldgaa
open Go.Sim

/-- A slice of answers. -/
def IsA (s : St) (v : Value) (l : List Ans) : Prop :=
  (v = .slice none 0 0 ∧ l = []) ∨ ∃ b i e rows ro, v = .slice (some ⟨b, i, some 0⟩) l.length e ∧ s.get b = some (.row 13 rows ro) ∧ ∀ (j : Nat) a, l[j]? = some a → rows[i + j]? = some a.cs

theorem IsA.len {s : St} {v : Value} {l : List Ans} (h : IsA s v l) : lenL v = some (.int .i64 l.length) := by
  rcases h with ⟨rfl, rfl⟩ | ⟨b, i, e, rows, ro, rfl, _, _⟩ <;> rfl
theorem IsA.at {s : St} {v : Value} {l : List Ans} (h : IsA s v l) {j : Nat} {a : Ans} (hj : l[j]? = some a) :
    ∃ b k rows ro, idx s 13 v (.int .i64 (j : Int)) = some (.pointer (some ⟨b, k, some 0⟩)) ∧ s.get b = some (.row 13 rows ro) ∧ rows[k]? = some a.cs := by
  rcases h with ⟨rfl, rfl⟩ | ⟨b, i, e, rows, ro, rfl, hg, hr⟩
  · simp at hj
  · have hlt : j < l.length := (List.getElem?_eq_some_iff.1 hj).1
    refine ⟨b, i + j, rows, ro, ?_, hg, hr j a hj⟩
    have := idx_row (k := .i64) (i := i) (n := (j : Int)) (len := l.length) (e := e) hg (by omega) (by omega)
    rwa [Int.toNat_natCast] at this
theorem IsA.load {s : St} {v : Value} {l : List Ans} (h : IsA s v l) {j : Nat} {a : Ans} (hj : l[j]? = some a) :
    ∃ p, idx s 13 v (.int .i64 (j : Int)) = some p ∧ lda s 13 p = some (.agg ⟨a.cs⟩) := by
  obtain ⟨b, k, rows, ro, h1, h2, h3⟩ := h.at hj
  refine ⟨_, h1, ?_⟩
  rw [lda_row h2, h3]
  rfl
theorem IsA.more {s s' : St} {v : Value} {l : List Ans} (h : IsA s v l) (hm : More s s') (hf : Fresh s) : IsA s' v l := by
  rcases h with ⟨rfl, rfl⟩ | ⟨b, i, e, rows, ro, rfl, hg, hr⟩
  · exact .inl ⟨rfl, rfl⟩
  · exact .inr ⟨b, i, e, rows, ro, rfl, hm.get hf hg, hr⟩
theorem IsA.but {s s' : St} {v : Value} {l : List Ans} {c n : Nat} {rows' : List (List Value)} {ro' : Bool} (h : IsA s v l) (hb : But c s s') (hc : s.get c = some (.row n rows' ro')) (hn : n ≠ 13) : IsA s' v l := by
  rcases h with ⟨rfl, rfl⟩ | ⟨b, i, e, rows, ro, rfl, hg, hr⟩
  · exact .inl ⟨rfl, rfl⟩
  · refine .inr ⟨b, i, e, rows, ro, rfl, ?_, hr⟩
    rw [hb.1 b (by rintro rfl; rw [hc] at hg; simp at hg; exact hn hg.1)]
    exact hg

theorem IsA.keep {s s' : St} {v : Value} {l : List Ans} {n0 : Nat} (h : IsA s v l) (hn : ∀ b i len e, v = .slice (some ⟨b, i, some 0⟩) len e → b < n0) (hk : Keep n0 s s') : IsA s' v l := by
  rcases h with ⟨rfl, rfl⟩ | ⟨b, i, e, rows, ro, rfl, hg, hr⟩
  · exact .inl ⟨rfl, rfl⟩
  · exact .inr ⟨b, i, e, rows, ro, rfl, by rw [hk.old b (hn _ _ _ _ rfl)]; exact hg, hr⟩

def ansOf : List Value → Ans
  | [.int _ k, .bool f, .int _ a1, .int _ a2, .int _ a3, .int _ a4, .int _ a5, .int _ b1, .int _ b2, .int _ b3, .int _ b4, .int _ b5, v] => ⟨k, f, ⟨a1, a2, a3, a4, a5⟩, ⟨b1, b2, b3, b4, b5⟩, v⟩
  | _ => ⟨0, false, zR, zR, .nilIface⟩

theorem isA_of {s : St} {v : Value} {row : List Leaf} (h : Leaf.Is s (.sl [.i .i64, .b, .i .i64, .i .i64, .i .u64, .i .i64, .i .u64, .i .i64, .i .i64, .i .u64, .i .i64, .i .u64, .sl row]) v) : ∃ l, IsA s v l := by
  unfold Leaf.Is at h
  rcases h with rfl | ⟨b, len, cap, rows, rfl, h1, h2, h3, h4, h5⟩
  · exact ⟨[], .inl ⟨rfl, rfl⟩⟩
  · have hrow : ∀ r ∈ rows, r = (ansOf r).cs := by
      intro r hr
      have := h5 r hr
      unfold Leaf.Are Leaf.Are Leaf.Are Leaf.Are Leaf.Are Leaf.Are Leaf.Are Leaf.Are Leaf.Are Leaf.Are Leaf.Are Leaf.Are Leaf.Are Leaf.Are at this
      obtain ⟨_, _, rfl, q1, _, _, rfl, q2, _, _, rfl, q3, _, _, rfl, q4, _, _, rfl, q5, _, _, rfl, q6, _, _, rfl, q7, _, _, rfl, q8, _, _, rfl, q9, _, _, rfl, q10, _, _, rfl, q11, _, _, rfl, q12, _, _, rfl, _, rfl⟩ := this
      unfold Leaf.Is at q1 q2 q3 q4 q5 q6 q7 q8 q9 q10 q11 q12
      obtain ⟨_, rfl, _⟩ := q1
      obtain ⟨_, rfl⟩ := q2
      obtain ⟨_, rfl, _⟩ := q3
      obtain ⟨_, rfl, _⟩ := q4
      obtain ⟨_, rfl, _⟩ := q5
      obtain ⟨_, rfl, _⟩ := q6
      obtain ⟨_, rfl, _⟩ := q7
      obtain ⟨_, rfl, _⟩ := q8
      obtain ⟨_, rfl, _⟩ := q9
      obtain ⟨_, rfl, _⟩ := q10
      obtain ⟨_, rfl, _⟩ := q11
      obtain ⟨_, rfl, _⟩ := q12
      rfl
    refine ⟨(rows.take len).map ansOf, .inr ⟨b, 0, 2 * cap, rows, true, by rw [List.length_map, List.length_take]; congr 1; omega, h3, fun j a ha => ?_⟩⟩
    rw [List.getElem?_map, Option.map_eq_some_iff] at ha
    obtain ⟨r, hr, rfl⟩ := ha
    rw [List.getElem?_take] at hr
    split at hr
    · rw [Nat.zero_add, hr, ← hrow r (List.mem_of_getElem? hr)]
    · cases hr
end Go.Proofs.Yteiagjbjokldgaa
