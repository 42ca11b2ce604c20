/-
  Keys that may be; vectors that begin another; both for any numbers.
-/
import Derived.Test.YteiagjbjokldgaaUnsA
set_option linter.unusedSimpArgs false
set_option linter.unusedVariables false
set_option maxRecDepth 100000
namespace Go.Proofs.Yteiagjbjokldgaa
open Go.Sim Go.Sim.Bt
attribute [local congr] bdc cndc itec gdc gdSc gdUc
/-! ### Keys that may be -/

def okK (r n : Int) : Prop := r = 2 ∨ ((r = 1 ∨ r = 3) ∧ n = 0)
instance (r n : Int) : Decidable (okK r n) := by unfold okK; infer_instance
theorem kcheck_r (r n : Int) (s : St) : key_Check.r (KV r n) s = some (.int .i64 (if okK r n then 0 else 20)) := by
  unfold okK
  by_cases h1 : r = 2
  · simp only [key_Check.r, key_Check.t, sy, reduceIte, Nat.reduceAdd, Nat.reduceLeDiff, Nat.reduceLT, Nat.reduceEqDiff, Int.reduceEq, Int.reduceLT, Int.reduceLE, Int.reduceNe, ly, h1]
  · by_cases h2 : r = 1
    · by_cases h4 : n = 0
      · simp only [key_Check.r, key_Check.t, sy, reduceIte, Nat.reduceAdd, Nat.reduceLeDiff, Nat.reduceLT, Nat.reduceEqDiff, Int.reduceEq, Int.reduceLT, Int.reduceLE, Int.reduceNe, ly, h1, h2, h4]
      · simp only [key_Check.r, key_Check.t, sy, reduceIte, Nat.reduceAdd, Nat.reduceLeDiff, Nat.reduceLT, Nat.reduceEqDiff, Int.reduceEq, Int.reduceLT, Int.reduceLE, Int.reduceNe, ly, h1, h2, h4]
    · by_cases h3 : r = 3
      · by_cases h4 : n = 0
        · simp only [key_Check.r, key_Check.t, sy, reduceIte, Nat.reduceAdd, Nat.reduceLeDiff, Nat.reduceLT, Nat.reduceEqDiff, Int.reduceEq, Int.reduceLT, Int.reduceLE, Int.reduceNe, ly, h1, h2, h3, h4]
        · simp only [key_Check.r, key_Check.t, sy, reduceIte, Nat.reduceAdd, Nat.reduceLeDiff, Nat.reduceLT, Nat.reduceEqDiff, Int.reduceEq, Int.reduceLT, Int.reduceLE, Int.reduceNe, ly, h1, h2, h3, h4]
      · simp only [key_Check.r, key_Check.t, sy, reduceIte, Nat.reduceAdd, Nat.reduceLeDiff, Nat.reduceLT, Nat.reduceEqDiff, Int.reduceEq, Int.reduceLT, Int.reduceLE, Int.reduceNe, ly, h1, h2, h3]
theorem isKey_r (r n : Int) (s : St) : leapfrogref03x_IsKey.r (KV r n) s = some (.bool (decide (okK r n))) := by
  unfold okK
  by_cases h1 : r = 2
  · simp only [leapfrogref03x_IsKey.r, leapfrogref03x_IsKey.t, sy, reduceIte, Nat.reduceAdd, Nat.reduceLeDiff, Nat.reduceLT, Nat.reduceEqDiff, Int.reduceEq, Int.reduceLT, Int.reduceLE, Int.reduceNe, ly, h1]
  · by_cases h2 : r = 1
    · by_cases h4 : n = 0
      · simp only [leapfrogref03x_IsKey.r, leapfrogref03x_IsKey.t, sy, reduceIte, Nat.reduceAdd, Nat.reduceLeDiff, Nat.reduceLT, Nat.reduceEqDiff, Int.reduceEq, Int.reduceLT, Int.reduceLE, Int.reduceNe, ly, h1, h2, h4]
      · simp only [leapfrogref03x_IsKey.r, leapfrogref03x_IsKey.t, sy, reduceIte, Nat.reduceAdd, Nat.reduceLeDiff, Nat.reduceLT, Nat.reduceEqDiff, Int.reduceEq, Int.reduceLT, Int.reduceLE, Int.reduceNe, ly, h1, h2, h4]
    · by_cases h3 : r = 3
      · by_cases h4 : n = 0
        · simp only [leapfrogref03x_IsKey.r, leapfrogref03x_IsKey.t, sy, reduceIte, Nat.reduceAdd, Nat.reduceLeDiff, Nat.reduceLT, Nat.reduceEqDiff, Int.reduceEq, Int.reduceLT, Int.reduceLE, Int.reduceNe, ly, h1, h2, h3, h4]
        · simp only [leapfrogref03x_IsKey.r, leapfrogref03x_IsKey.t, sy, reduceIte, Nat.reduceAdd, Nat.reduceLeDiff, Nat.reduceLT, Nat.reduceEqDiff, Int.reduceEq, Int.reduceLT, Int.reduceLE, Int.reduceNe, ly, h1, h2, h3, h4]
      · by_cases h4 : n = 0
        · simp only [leapfrogref03x_IsKey.r, leapfrogref03x_IsKey.t, sy, reduceIte, Nat.reduceAdd, Nat.reduceLeDiff, Nat.reduceLT, Nat.reduceEqDiff, Int.reduceEq, Int.reduceLT, Int.reduceLE, Int.reduceNe, ly, h1, h2, h3, h4]
        · simp only [leapfrogref03x_IsKey.r, leapfrogref03x_IsKey.t, sy, reduceIte, Nat.reduceAdd, Nat.reduceLeDiff, Nat.reduceLT, Nat.reduceEqDiff, Int.reduceEq, Int.reduceLT, Int.reduceLE, Int.reduceNe, ly, h1, h2, h3, h4]
def BG (L B M C : Int) : Prop := okV L B ∧ okV M C ∧ M ≤ L ∧ B.toNat / 2 ^ (L.toNat - M.toNat) = C.toNat
open Classical in
theorem begins_i (L B M C : Int) (hB : 0 ≤ B) (hC : 0 ≤ C) (s : St) : vec_Begins.r (VI L B) (VI M C) s = some (.bool (decide (BG L B M C))) := by
  by_cases h : okV L B ∧ okV M C
  · obtain ⟨⟨n, b, rfl, rfl, h1, h2⟩, ⟨m, d, rfl, rfl, h3, h4⟩⟩ := h
    rw [begins_r s h1 h2 h3 h4]
    have e : (m ≤ n ∧ b / 2 ^ (n - m) = d) = BG (n : Int) (b : Int) (m : Int) (d : Int) := by
      apply propext
      constructor
      · rintro ⟨a, b'⟩; exact ⟨⟨n, b, rfl, rfl, h1, h2⟩, ⟨m, d, rfl, rfl, h3, h4⟩, by omega, b'⟩
      · intro g; exact ⟨by have := g.2.2.1; omega, g.2.2.2⟩
    by_cases g : m ≤ n ∧ b / 2 ^ (n - m) = d
    · rw [decide_eq_true g, decide_eq_true (e ▸ g)]
    · rw [decide_eq_false g, decide_eq_false (e ▸ g)]
  · rw [begins_no s h hB hC, decide_eq_false (fun g : BG L B M C => h ⟨g.1, g.2.1⟩)]
open Classical in
theorem rbegins_i (L B M C : Int) (hB : 0 ≤ B) (hC : 0 ≤ C) (s : St) (hf : Fresh s) : leapfrogref01x_BeginsQ.r (VI L B) (VI M C) s = some (.bool (decide (BG L B M C))) := by
  by_cases h : okV L B ∧ okV M C
  · obtain ⟨⟨n, b, rfl, rfl, h1, h2⟩, ⟨m, d, rfl, rfl, h3, h4⟩⟩ := h
    rw [rBegins_ok s hf h1 h2 h3 h4]
    have e : (m ≤ n ∧ b / 2 ^ (n - m) = d) = BG (n : Int) (b : Int) (m : Int) (d : Int) := by
      apply propext
      constructor
      · rintro ⟨a, b'⟩; exact ⟨⟨n, b, rfl, rfl, h1, h2⟩, ⟨m, d, rfl, rfl, h3, h4⟩, by omega, b'⟩
      · intro g; exact ⟨by have := g.2.2.1; omega, g.2.2.2⟩
    by_cases g : m ≤ n ∧ b / 2 ^ (n - m) = d
    · rw [decide_eq_true g, decide_eq_true (e ▸ g)]
    · rw [decide_eq_false g, decide_eq_false (e ▸ g)]
  · rw [rBegins_no s h hB hC, decide_eq_false (fun g : BG L B M C => h ⟨g.1, g.2.1⟩)]
open Classical in
theorem right_i (L B : Int) (hB : 0 ≤ B) (s : St) : vec_Right.r (VI L B) s = some (.int .i64 (if okV L B then 0 else 10)) := by
  by_cases h : okV L B
  · obtain ⟨n, b, rfl, rfl, h1, h2⟩ := id h
    rw [right_ok s h1 h2, if_pos h]
  · rw [right_no s h hB, if_neg h]
open Classical in
theorem rright_i (L B : Int) (hB : 0 ≤ B) (s : St) : leapfrogref01x_Right.r (VI L B) s = some (.bool (decide (okV L B))) := by
  by_cases h : okV L B
  · obtain ⟨n, b, rfl, rfl, h1, h2⟩ := id h
    rw [rright_ok s h1 h2, decide_eq_true h]
  · rw [rright_no s h hB, decide_eq_false h]

theorem r9less_r (r n r' n' : Int) (s : St) : leapfrogref09x_Less.r (KV r n) (KV r' n') s = some (.bool (decide (lessK r n r' n'))) := by
  unfold lessK
  by_cases h1 : r < r'
  · simp only [leapfrogref09x_Less.r, leapfrogref09x_Less.t, sy, reduceIte, Nat.reduceAdd, Nat.reduceLeDiff, Nat.reduceLT, Nat.reduceEqDiff, Int.reduceEq, Int.reduceLT, Int.reduceLE, Int.reduceNe, ly, h1]
  · by_cases h2 : r = r'
    · by_cases h3 : n < n'
      · simp only [leapfrogref09x_Less.r, leapfrogref09x_Less.t, sy, reduceIte, Nat.reduceAdd, Nat.reduceLeDiff, Nat.reduceLT, Nat.reduceEqDiff, Int.reduceEq, Int.reduceLT, Int.reduceLE, Int.reduceNe, ly, h1, h2, h3, Int.lt_irrefl]
      · simp only [leapfrogref09x_Less.r, leapfrogref09x_Less.t, sy, reduceIte, Nat.reduceAdd, Nat.reduceLeDiff, Nat.reduceLT, Nat.reduceEqDiff, Int.reduceEq, Int.reduceLT, Int.reduceLE, Int.reduceNe, ly, h1, h2, h3, Int.lt_irrefl]
    · simp only [leapfrogref09x_Less.r, leapfrogref09x_Less.t, sy, reduceIte, Nat.reduceAdd, Nat.reduceLeDiff, Nat.reduceLT, Nat.reduceEqDiff, Int.reduceEq, Int.reduceLT, Int.reduceLE, Int.reduceNe, ly, h1, h2]
end Go.Proofs.Yteiagjbjokldgaa
