/-
  Keys, owners and the machine of package unsplice over unknown numbers.
-/
import Derived.Test.YteiagjbjokldgaaSymB
import Derived.Test.YteiagjbjokldgaaVecE
set_option linter.unusedSimpArgs false
set_option linter.unusedVariables false
set_option maxRecDepth 100000
namespace Go.Proofs.Yteiagjbjokldgaa
open Go.Sim Go.Sim.Bt
attribute [local congr] bdc cndc itec gdc gdSc gdUc

/-! ### Keys -/

/-- Which key stands below: by rank, then by number. -/
def lessK (r n r' n' : Int) : Prop := r < r' ∨ (r = r' ∧ n < n')
instance (r n r' n' : Int) : Decidable (lessK r n r' n') := by unfold lessK; infer_instance
abbrev KV (r n : Int) : Value := .agg ⟨[.int .i64 r, .int .u64 n]⟩

def cmpZ (a b : Int) : Int := if a < b then -1 else if b < a then 1 else 0
theorem crank_r (a b : Int) (s : St) : cmp_Compare_api_Rank.r (.int .i64 a) (.int .i64 b) s = some (.int .i64 (cmpZ a b)) := by
  have e : ∀ x : Int, cmp_isNaN_api_Rank.r (.int .i64 x) s = some (.bool false) := fun x => by
    simp only [cmp_isNaN_api_Rank.r, cmp_isNaN_api_Rank.t, sy, reduceIte, Nat.reduceAdd, Nat.reduceLeDiff, Nat.reduceLT, Nat.reduceEqDiff, Int.reduceEq, Int.reduceLT, Int.reduceLE, Int.reduceNe]
  unfold cmpZ
  by_cases h1 : a < b
  · simp only [cmp_Compare_api_Rank.r, cmp_Compare_api_Rank.t, sy, reduceIte, Nat.reduceAdd, Nat.reduceLeDiff, Nat.reduceLT, Nat.reduceEqDiff, Int.reduceEq, Int.reduceLT, Int.reduceLE, Int.reduceNe, e, h1]
  · by_cases h2 : b < a
    · simp only [cmp_Compare_api_Rank.r, cmp_Compare_api_Rank.t, sy, reduceIte, Nat.reduceAdd, Nat.reduceLeDiff, Nat.reduceLT, Nat.reduceEqDiff, Int.reduceEq, Int.reduceLT, Int.reduceLE, Int.reduceNe, e, h1, h2]
    · simp only [cmp_Compare_api_Rank.r, cmp_Compare_api_Rank.t, sy, reduceIte, Nat.reduceAdd, Nat.reduceLeDiff, Nat.reduceLT, Nat.reduceEqDiff, Int.reduceEq, Int.reduceLT, Int.reduceLE, Int.reduceNe, e, h1, h2]
theorem cnum_r (a b : Int) (s : St) : cmp_Compare_uint64.r (.int .u64 a) (.int .u64 b) s = some (.int .i64 (cmpZ a b)) := by
  have e : ∀ x : Int, cmp_isNaN_uint64.r (.int .u64 x) s = some (.bool false) := fun x => by
    simp only [cmp_isNaN_uint64.r, cmp_isNaN_uint64.t, sy, reduceIte, Nat.reduceAdd, Nat.reduceLeDiff, Nat.reduceLT, Nat.reduceEqDiff, Int.reduceEq, Int.reduceLT, Int.reduceLE, Int.reduceNe]
  unfold cmpZ
  by_cases h1 : a < b
  · simp only [cmp_Compare_uint64.r, cmp_Compare_uint64.t, sy, reduceIte, Nat.reduceAdd, Nat.reduceLeDiff, Nat.reduceLT, Nat.reduceEqDiff, Int.reduceEq, Int.reduceLT, Int.reduceLE, Int.reduceNe, e, h1]
  · by_cases h2 : b < a
    · simp only [cmp_Compare_uint64.r, cmp_Compare_uint64.t, sy, reduceIte, Nat.reduceAdd, Nat.reduceLeDiff, Nat.reduceLT, Nat.reduceEqDiff, Int.reduceEq, Int.reduceLT, Int.reduceLE, Int.reduceNe, e, h1, h2]
    · simp only [cmp_Compare_uint64.r, cmp_Compare_uint64.t, sy, reduceIte, Nat.reduceAdd, Nat.reduceLeDiff, Nat.reduceLT, Nat.reduceEqDiff, Int.reduceEq, Int.reduceLT, Int.reduceLE, Int.reduceNe, e, h1, h2]
theorem or_r (x y : Int) (s : St) : cmp_Or_int.r (.slice (some ⟨s.n, 0, some 0⟩) 2 4) (s.new (.row 1 [[.int .i64 x], [.int .i64 y]] false)) = some (.int .i64 (if x = 0 then y else x)) := by
  have hg : (s.new (.row 1 [[.int .i64 x], [.int .i64 y]] false)).get s.n = some (.row 1 [[.int .i64 x], [.int .i64 y]] false) := get_new_same
  have i0 : idx (s.new (.row 1 [[.int .i64 x], [.int .i64 y]] false)) 1 (.slice (some ⟨s.n, 0, some 0⟩) 2 4) (.int .i64 0) = some (.pointer (some ⟨s.n, 0, some 0⟩)) := idx_row hg (by omega) (by omega)
  have i1 : idx (s.new (.row 1 [[.int .i64 x], [.int .i64 y]] false)) 1 (.slice (some ⟨s.n, 0, some 0⟩) 2 4) (.int .i64 1) = some (.pointer (some ⟨s.n, 1, some 0⟩)) := idx_row hg (by omega) (by omega)
  have e2 : ((2 : Nat) : Int) = 2 := rfl
  have e3 : (0 : Int) < 2 := by omega
  have e4 : (1 : Int) < 2 := by omega
  have e5 : IntKind.i64.wrap (0 + 1) = 1 := rfl
  have e6 : IntKind.i64.wrap (1 + 1) = 2 := rfl
  have e7 : ¬ ((2 : Int) < 2) := by omega
  simp only [cmp_Or_int.r, cmp_Or_int.t, sy, reduceIte, Nat.reduceAdd, Nat.reduceLeDiff, Nat.reduceLT, Nat.reduceEqDiff, Int.reduceEq, Int.reduceLT, Int.reduceLE, Int.reduceNe, ly, e2]
  rw [show BIG = 4611686018427387901 + 1 + 1 + 1 from rfl, iter_succ]
  by_cases hx : x = 0
  · subst hx
    simp only [cmp_Or_int.l3, sy, reduceIte, Nat.reduceAdd, Nat.reduceLeDiff, Nat.reduceLT, Nat.reduceEqDiff, Int.reduceEq, Int.reduceLT, Int.reduceLE, Int.reduceNe, ly, e3, i0, ldc_row hg, e5]
    rw [iter_succ]
    by_cases hy : y = 0
    · subst hy
      simp only [cmp_Or_int.l3, sy, reduceIte, Nat.reduceAdd, Nat.reduceLeDiff, Nat.reduceLT, Nat.reduceEqDiff, Int.reduceEq, Int.reduceLT, Int.reduceLE, Int.reduceNe, ly, e4, i1, ldc_row hg, e6]
      rw [iter_succ]
      simp only [cmp_Or_int.l3, sy, reduceIte, Nat.reduceAdd, Nat.reduceLeDiff, Nat.reduceLT, Nat.reduceEqDiff, Int.reduceEq, Int.reduceLT, Int.reduceLE, Int.reduceNe, ly, e7]
    · simp only [cmp_Or_int.l3, sy, reduceIte, Nat.reduceAdd, Nat.reduceLeDiff, Nat.reduceLT, Nat.reduceEqDiff, Int.reduceEq, Int.reduceLT, Int.reduceLE, Int.reduceNe, ly, e4, i1, ldc_row hg, hy, Nat.one_ne_zero]
  · simp only [cmp_Or_int.l3, sy, reduceIte, Nat.reduceAdd, Nat.reduceLeDiff, Nat.reduceLT, Nat.reduceEqDiff, Int.reduceEq, Int.reduceLT, Int.reduceLE, Int.reduceNe, ly, e3, i0, ldc_row hg, hx, Nat.one_ne_zero]
theorem less_r (r n r' n' : Int) (s : St) : key_Less.r (KV r n) (KV r' n') s = some (.bool (decide (lessK r n r' n'))) := by
  have e : key_CompareQ.r (KV r n) (KV r' n') s = some (.int .i64 (if cmpZ r r' = 0 then cmpZ n n' else cmpZ r r')) := by
    refine frzR_of (s' := s.frz.new (.row 1 [[.int .i64 (cmpZ r r')], [.int .i64 (cmpZ n n')]] false)) ?_ rfl
    simp only [key_Compare.v, key_Compare.t, sy, reduceIte, Nat.reduceAdd, Nat.reduceLeDiff, Nat.reduceLT, Nat.reduceEqDiff, Int.reduceEq, Int.reduceLT, Int.reduceLE, Int.reduceNe, ly, crank_r, cnum_r, als_eq, Nat.zero_lt_succ, Nat.one_lt_two, Nat.reduceMul, or_r]
  have e2 : ((if cmpZ r r' = 0 then cmpZ n n' else cmpZ r r') < 0) = lessK r n r' n' := by
    apply propext
    unfold cmpZ lessK
    by_cases h1 : r < r'
    · simp only [if_pos h1]; simp [h1]
    · by_cases h2 : r' < r
      · simp only [if_neg h1, if_pos h2]; simp; omega
      · simp only [if_neg h1, if_neg h2, if_true]
        have : r = r' := by omega
        subst this
        split
        · simp_all
        · split <;> simp_all
  simp only [key_Less.r, key_Less.t, sy, reduceIte, Nat.reduceAdd, Nat.reduceLeDiff, Nat.reduceLT, Nat.reduceEqDiff, Int.reduceEq, Int.reduceLT, Int.reduceLE, Int.reduceNe, ly, e, e2]
/-! ### Owners -/

def okO (a o : Int) : Prop := 0 ≤ a ∧ a < 1024 ∧ 1 ≤ o ∧ o ≤ 1073741824
instance (a o : Int) : Decidable (okO a o) := by unfold okO; infer_instance
abbrev OV (a o : Int) : Value := .agg ⟨[.int .i64 a, .int .i64 o]⟩
theorem check_r (a o : Int) (s : St) : lock_Check.r (OV a o) s = some (.int .i64 (if okO a o then 0 else 70)) := by
  unfold okO
  by_cases h1 : a < 0
  · have e : ¬ (0 ≤ a) := by omega
    simp only [lock_Check.r, lock_Check.t, sy, reduceIte, Nat.reduceAdd, Nat.reduceLeDiff, Nat.reduceLT, Nat.reduceEqDiff, Int.reduceEq, Int.reduceLT, Int.reduceLE, Int.reduceNe, ly, h1, e]
  · have e : 0 ≤ a := by omega
    by_cases h2 : 1024 ≤ a
    · have e2 : ¬ (a < 1024) := by omega
      simp only [lock_Check.r, lock_Check.t, sy, reduceIte, Nat.reduceAdd, Nat.reduceLeDiff, Nat.reduceLT, Nat.reduceEqDiff, Int.reduceEq, Int.reduceLT, Int.reduceLE, Int.reduceNe, ly, h1, e, h2, e2]
    · have e2 : a < 1024 := by omega
      by_cases h3 : o < 1
      · have e3 : ¬ (1 ≤ o) := by omega
        simp only [lock_Check.r, lock_Check.t, sy, reduceIte, Nat.reduceAdd, Nat.reduceLeDiff, Nat.reduceLT, Nat.reduceEqDiff, Int.reduceEq, Int.reduceLT, Int.reduceLE, Int.reduceNe, ly, h1, e, h2, e2, h3, e3]
      · have e3 : 1 ≤ o := by omega
        by_cases h4 : 1073741824 < o
        · have e4 : ¬ (o ≤ 1073741824) := by omega
          simp only [lock_Check.r, lock_Check.t, sy, reduceIte, Nat.reduceAdd, Nat.reduceLeDiff, Nat.reduceLT, Nat.reduceEqDiff, Int.reduceEq, Int.reduceLT, Int.reduceLE, Int.reduceNe, ly, h1, e, h2, e2, h3, e3, h4, e4]
        · have e4 : o ≤ 1073741824 := by omega
          simp only [lock_Check.r, lock_Check.t, sy, reduceIte, Nat.reduceAdd, Nat.reduceLeDiff, Nat.reduceLT, Nat.reduceEqDiff, Int.reduceEq, Int.reduceLT, Int.reduceLE, Int.reduceNe, ly, h1, e, h2, e2, h3, e3, h4, e4]
theorem isOwner_r (a o : Int) (s : St) : leapfrogref07x_IsOwner.r (OV a o) s = some (.bool (decide (okO a o))) := by
  unfold okO
  by_cases h1 : 0 ≤ a
  · by_cases h2 : a < 1024
    · by_cases h3 : 1 ≤ o
      · by_cases h4 : o ≤ 1073741824
        · simp only [leapfrogref07x_IsOwner.r, leapfrogref07x_IsOwner.t, sy, reduceIte, Nat.reduceAdd, Nat.reduceLeDiff, Nat.reduceLT, Nat.reduceEqDiff, Int.reduceEq, Int.reduceLT, Int.reduceLE, Int.reduceNe, ly, h1, h2, h3, h4]
        · simp only [leapfrogref07x_IsOwner.r, leapfrogref07x_IsOwner.t, sy, reduceIte, Nat.reduceAdd, Nat.reduceLeDiff, Nat.reduceLT, Nat.reduceEqDiff, Int.reduceEq, Int.reduceLT, Int.reduceLE, Int.reduceNe, ly, h1, h2, h3, h4]
      · simp only [leapfrogref07x_IsOwner.r, leapfrogref07x_IsOwner.t, sy, reduceIte, Nat.reduceAdd, Nat.reduceLeDiff, Nat.reduceLT, Nat.reduceEqDiff, Int.reduceEq, Int.reduceLT, Int.reduceLE, Int.reduceNe, ly, h1, h2, h3]
    · simp only [leapfrogref07x_IsOwner.r, leapfrogref07x_IsOwner.t, sy, reduceIte, Nat.reduceAdd, Nat.reduceLeDiff, Nat.reduceLT, Nat.reduceEqDiff, Int.reduceEq, Int.reduceLT, Int.reduceLE, Int.reduceNe, ly, h1, h2]
  · simp only [leapfrogref07x_IsOwner.r, leapfrogref07x_IsOwner.t, sy, reduceIte, Nat.reduceAdd, Nat.reduceLeDiff, Nat.reduceLT, Nat.reduceEqDiff, Int.reduceEq, Int.reduceLT, Int.reduceLE, Int.reduceNe, ly, h1]
end Go.Proofs.Yteiagjbjokldgaa
