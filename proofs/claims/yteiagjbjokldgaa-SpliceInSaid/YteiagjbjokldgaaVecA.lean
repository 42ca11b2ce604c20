/-
  The functions of package vec over unknown numbers.
-/
import Derived.Test.YteiagjbjokldgaaSymA
import Derived.Test.YteiagjbjokldgaaVecM
import Derived.Test.YteiagjbjokldgaaGW1
set_option linter.unusedSimpArgs false
set_option linter.unusedVariables false
set_option maxRecDepth 100000
namespace Go.Proofs.Yteiagjbjokldgaa
open Go.Sim Go.Sim.Bt
attribute [local congr] bdc cndc itec gdc gdSc gdUc

/-- A vector that may be. -/
abbrev VV (n b : Nat) : Value := .agg ⟨[.int .i64 n, .int .u64 b]⟩
/-- Any. -/
abbrev VI (L B : Int) : Value := .agg ⟨[.int .i64 L, .int .u64 B]⟩

def okV (L B : Int) : Prop := ∃ n b : Nat, L = n ∧ B = b ∧ n ≤ 32 ∧ b < 2 ^ n

theorem pow32 {n : Nat} (h : n ≤ 32) : 2 ^ n ≤ 4294967296 := by
  have := Nat.pow_le_pow_right (n := 2) (by omega) h
  simpa using this
theorem ipow (n : Nat) : (2 : Int) ^ n = ((2 ^ n : Nat) : Int) := by simp

theorem low_r (n : Nat) (s : St) (h1 : n ≤ 32) : vec_low.r (.int .i64 n) s = some (.int .u64 ((2 ^ n - 1 : Nat) : Int)) := by
  have e1 : IntKind.u64.wrap (n : Int) = n := wrapu64 (by omega) (by omega)
  have e2 := pow32 h1
  have e3 := Nat.two_pow_pos n
  have e4 := @shl_u64 1 n .u64 (by omega) (by omega)
  simp only [Nat.one_mul] at e4
  simp only [vec_low.r, vec_low.t, sy, reduceIte, Nat.reduceAdd, Nat.reduceLeDiff, Nat.reduceLT, Nat.reduceEqDiff, Int.reduceEq, Int.reduceLT, Int.reduceLE, Int.reduceNe, ly, e1]
  rw [show (1 : Int) = ((1 : Nat) : Int) from rfl, e4]
  simp only [sy, reduceIte, Nat.reduceAdd, Nat.reduceLeDiff, Nat.reduceLT, Nat.reduceEqDiff, Int.reduceEq, Int.reduceLT, Int.reduceLE, Int.reduceNe]
  generalize 2 ^ n = P at *
  rw [wrapu64 (by omega) (by omega)]
  omega
theorem right_ok {n b : Nat} (s : St) (h1 : n ≤ 32) (h2 : b < 2 ^ n) : vec_Right.r (VV n b) s = some (.int .i64 0) := by
  have h3 : ¬ ((n : Int) < 0) := by omega
  have h4 : ¬ ((32 : Int) < n) := by omega
  have h5 : ¬ (((2 ^ n - 1 : Nat) : Int) < b) := by omega
  simp only [vec_Right.r, vec_Right.t, sy, reduceIte, Nat.reduceAdd, Nat.reduceLeDiff, Nat.reduceLT, Nat.reduceEqDiff, Int.reduceEq, Int.reduceLT, Int.reduceLE, Int.reduceNe, ly, h3, h4, low_r n s h1, h5]
theorem right_no {L B : Int} (s : St) (h : ¬ okV L B) (hB : 0 ≤ B) : vec_Right.r (VI L B) s = some (.int .i64 10) := by
  by_cases h0 : L < 0
  · simp only [vec_Right.r, vec_Right.t, sy, reduceIte, Nat.reduceAdd, Nat.reduceLeDiff, Nat.reduceLT, Nat.reduceEqDiff, Int.reduceEq, Int.reduceLT, Int.reduceLE, Int.reduceNe, ly, h0]
  · by_cases h1 : 32 < L
    · simp only [vec_Right.r, vec_Right.t, sy, reduceIte, Nat.reduceAdd, Nat.reduceLeDiff, Nat.reduceLT, Nat.reduceEqDiff, Int.reduceEq, Int.reduceLT, Int.reduceLE, Int.reduceNe, ly, h0, h1]
    · obtain ⟨n, rfl⟩ : ∃ n : Nat, L = n := ⟨L.toNat, by omega⟩
      obtain ⟨b, rfl⟩ : ∃ b : Nat, B = b := ⟨B.toNat, by omega⟩
      have h5 : ((2 ^ n - 1 : Nat) : Int) < b := by
        have : ¬ b < 2 ^ n := fun hb => h ⟨n, b, rfl, rfl, by omega, hb⟩
        have e3 := Nat.two_pow_pos n
        generalize 2 ^ n = P at *
        omega
      simp only [vec_Right.r, vec_Right.t, sy, reduceIte, Nat.reduceAdd, Nat.reduceLeDiff, Nat.reduceLT, Nat.reduceEqDiff, Int.reduceEq, Int.reduceLT, Int.reduceLE, Int.reduceNe, ly, h0, h1, low_r n s (by omega), h5]
theorem prefix_r {n b k : Nat} (s : St) (h1 : n ≤ 32) (hk : k ≤ n) : vec_prefix.r (VV n b) (.int .i64 k) s = some (VV k (b / 2 ^ (n - k))) := by
  have e1 : IntKind.i64.wrap ((n : Int) - k) = (n - k : Nat) := by rw [wrap64 (by omega) (by omega)]; omega
  have e2 : IntKind.u64.wrap ((n - k : Nat) : Int) = (n - k : Nat) := wrapu64 (by omega) (by omega)
  have e3 := @shr_u64 b (n - k) .u64 (by omega)
  simp only [vec_prefix.r, vec_prefix.t, sy, reduceIte, Nat.reduceAdd, Nat.reduceLeDiff, Nat.reduceLT, Nat.reduceEqDiff, Int.reduceEq, Int.reduceLT, Int.reduceLE, Int.reduceNe, ly, e1, e2, e3]
end Go.Proofs.Yteiagjbjokldgaa
