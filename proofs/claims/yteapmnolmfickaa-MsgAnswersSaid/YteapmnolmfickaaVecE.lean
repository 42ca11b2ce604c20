/-
  Rows of bits: plain law, no program in sight.
-/
import Derived.Test.YteapmnolmfickaaSymA
import Derived.Test.YteapmnolmfickaaGW1
set_option linter.unusedSimpArgs false
set_option linter.unusedVariables false
namespace Go.Sim.Bt
end Go.Sim.Bt
/-
  The functions of package vec over unknown numbers.
-/
set_option linter.unusedSimpArgs false
set_option linter.unusedVariables false
set_option maxRecDepth 100000
namespace Go.Proofs.Yteapmnolmfickaa
open Go.Sim Go.Sim.Bt
attribute [local congr] bdc cndc itec gdc gdSc gdUc
abbrev VV (n b : Nat) : Value := .agg ⟨[.int .i64 n, .int .u64 b]⟩
abbrev VI (L B : Int) : Value := .agg ⟨[.int .i64 L, .int .u64 B]⟩
def okV (L B : Int) : Prop := ∃ n b : Nat, L = n ∧ B = b ∧ n ≤ 32 ∧ b < 2 ^ n
theorem pow32 {n : Nat} (h : n ≤ 32) : 2 ^ n ≤ 4294967296 := by
  have := Nat.pow_le_pow_right (n := 2) (by omega) h
  simpa using this
theorem low_r (n : Nat) (s : St) (h1 : n ≤ 32) : vec_low.r (.int .i64 n) s = some (.int .u64 ((2 ^ n - 1 : Nat) : Int)) := by
  have e1 : IntKind.u64.wrap (n : Int) = n := wrapu64 (by omega) (by omega)
  have e2 := pow32 h1
  have e3 := Nat.two_pow_pos n
  have e4 := @shl_u64 1 n .u64 (by omega) (by omega)
  simp only [Nat.one_mul] at e4
  simp only [vec_low.r, vec_low.t, sy, reduceIte, Nat.reduceAdd, Nat.reduceLeDiff, Nat.reduceLT, Nat.reduceEqDiff, Int.reduceEq, Int.reduceLT, Int.reduceLE, Int.reduceNe, ly, e1]
  rw [show (1 : Int) = ((1 : Nat) : Int) from rfl, e4]
  simp only [sy, reduceIte, Nat.reduceAdd, Nat.reduceLeDiff, Nat.reduceLT, Nat.reduceEqDiff, Int.reduceEq, Int.reduceLT, Int.reduceLE, Int.reduceNe]
  generalize 2 ^ n = P at *
  rw [wrapu64 (by omega) (by omega)]
  omega
theorem right_ok {n b : Nat} (s : St) (h1 : n ≤ 32) (h2 : b < 2 ^ n) : vec_Right.r (VV n b) s = some (.int .i64 0) := by
  have h3 : ¬ ((n : Int) < 0) := by omega
  have h4 : ¬ ((32 : Int) < n) := by omega
  have h5 : ¬ (((2 ^ n - 1 : Nat) : Int) < b) := by omega
  simp only [vec_Right.r, vec_Right.t, sy, reduceIte, Nat.reduceAdd, Nat.reduceLeDiff, Nat.reduceLT, Nat.reduceEqDiff, Int.reduceEq, Int.reduceLT, Int.reduceLE, Int.reduceNe, ly, h3, h4, low_r n s h1, h5]
theorem right_no {L B : Int} (s : St) (h : ¬ okV L B) (hB : 0 ≤ B) : vec_Right.r (VI L B) s = some (.int .i64 10) := by
  by_cases h0 : L < 0
  · simp only [vec_Right.r, vec_Right.t, sy, reduceIte, Nat.reduceAdd, Nat.reduceLeDiff, Nat.reduceLT, Nat.reduceEqDiff, Int.reduceEq, Int.reduceLT, Int.reduceLE, Int.reduceNe, ly, h0]
  · by_cases h1 : 32 < L
    · simp only [vec_Right.r, vec_Right.t, sy, reduceIte, Nat.reduceAdd, Nat.reduceLeDiff, Nat.reduceLT, Nat.reduceEqDiff, Int.reduceEq, Int.reduceLT, Int.reduceLE, Int.reduceNe, ly, h0, h1]
    · obtain ⟨n, rfl⟩ : ∃ n : Nat, L = n := ⟨L.toNat, by omega⟩
      obtain ⟨b, rfl⟩ : ∃ b : Nat, B = b := ⟨B.toNat, by omega⟩
      have h5 : ((2 ^ n - 1 : Nat) : Int) < b := by
        have : ¬ b < 2 ^ n := fun hb => h ⟨n, b, rfl, rfl, by omega, hb⟩
        have e3 := Nat.two_pow_pos n
        generalize 2 ^ n = P at *
        omega
      simp only [vec_Right.r, vec_Right.t, sy, reduceIte, Nat.reduceAdd, Nat.reduceLeDiff, Nat.reduceLT, Nat.reduceEqDiff, Int.reduceEq, Int.reduceLT, Int.reduceLE, Int.reduceNe, ly, h0, h1, low_r n s (by omega), h5]
end Go.Proofs.Yteapmnolmfickaa
/-
  The reference's functions on vectors over unknown numbers.
-/
set_option linter.unusedSimpArgs false
set_option linter.unusedVariables false
set_option maxRecDepth 100000
namespace Go.Proofs.Yteapmnolmfickaa
open Go.Sim Go.Sim.Bt
attribute [local congr] bdc cndc itec gdc gdSc gdUc
theorem power_r (n : Nat) (s : St) (h : n ≤ 63) : r01Power.r (.int .i64 n) s = some (.int .u64 ((2 ^ n : Nat) : Int)) := by
  have hl : iter (r01Power.l2 std) BIG [Value.int .i64 n, Value.int .u64 ((1 : Nat) : Int)] s = some (0, [Value.int .u64 ((2 ^ n : Nat) : Int)], s) := by
    refine iter_rel (fun d xs s' => s' = s ∧ d ≤ 63 ∧ ∃ x : Nat, xs = [Value.int .i64 d, Value.int .u64 (x : Int)] ∧ x * 2 ^ d = 2 ^ n) (fun r : Option Cut => r = some (0, [Value.int .u64 ((2 ^ n : Nat) : Int)], s)) ?_ BIG n _ s (by unfold BIG; omega) ⟨rfl, h, 1, rfl, by omega⟩
    rintro d xs s' rec ⟨rfl, hd, x, rfl, hx⟩ ih
    cases d with
    | zero =>
      simp only [r01Power.l2, sy, reduceIte, Nat.reduceAdd, Nat.reduceLeDiff, Nat.reduceLT, Nat.reduceEqDiff, Int.reduceEq, Int.reduceLT, Int.reduceLE, Int.reduceNe, ly, Int.natCast_zero, Int.lt_irrefl] at hx ⊢
      simp at hx
      rw [hx]
    | succ d =>
      have e1 : (0 : Int) < ((d + 1 : Nat) : Int) := by omega
      have e2 : IntKind.i64.wrap (((d + 1 : Nat) : Int) - 1) = d := by rw [wrap64 (by omega) (by omega)]; omega
      have e3 : x * 2 ≤ 2 ^ 63 := by
        have : x * 2 ^ (d + 1) = x * 2 * 2 ^ d := by rw [Nat.pow_succ]; ac_rfl
        have h2 : 2 ^ n ≤ 2 ^ 63 := Nat.pow_le_pow_right (by omega) h
        have h3 := Nat.le_mul_of_pos_right (x * 2) (Nat.two_pow_pos d)
        omega
      have e4 : IntKind.u64.wrap ((x : Int) * 2) = ((x * 2 : Nat) : Int) := by rw [wrapu64 (by omega) (by omega)]; omega
      simp only [r01Power.l2, sy, reduceIte, Nat.reduceAdd, Nat.reduceLeDiff, Nat.reduceLT, Nat.reduceEqDiff, Int.reduceEq, Int.reduceLT, Int.reduceLE, Int.reduceNe, ly, e1, e2, e4]
      refine ih d _ _ (by omega) ⟨rfl, by omega, x * 2, rfl, ?_⟩
      rw [← hx, Nat.pow_succ]; ac_rfl
  simp only [r01Power.r, r01Power.t]
  change ((iter (r01Power.l2 std) BIG [Value.int .i64 n, Value.int .u64 ((1 : Nat) : Int)] s).bind fun r => some (r.2.1.getD 0 undef)) = _
  rw [hl]; rfl
theorem rright_ok {n b : Nat} (s : St) (h1 : n ≤ 32) (h2 : b < 2 ^ n) : r01Right.r (VV n b) s = some (.bool true) := by
  have h3 : (0 : Int) ≤ n := by omega
  have h4 : (n : Int) ≤ 32 := by omega
  have h5 : (b : Int) < ((2 ^ n : Nat) : Int) := by omega
  simp only [r01Right.r, r01Right.t, sy, reduceIte, Nat.reduceAdd, Nat.reduceLeDiff, Nat.reduceLT, Nat.reduceEqDiff, Int.reduceEq, Int.reduceLT, Int.reduceLE, Int.reduceNe, ly, h3, h4, power_r n s (by omega), h5]
theorem rright_no {L B : Int} (s : St) (h : ¬ okV L B) (hB : 0 ≤ B) : r01Right.r (VI L B) s = some (.bool false) := by
  by_cases h0 : 0 ≤ L
  · by_cases h1 : L ≤ 32
    · obtain ⟨n, rfl⟩ : ∃ n : Nat, L = n := ⟨L.toNat, by omega⟩
      obtain ⟨b, rfl⟩ : ∃ b : Nat, B = b := ⟨B.toNat, by omega⟩
      have h5 : ¬ ((b : Int) < ((2 ^ n : Nat) : Int)) := by
        have : ¬ b < 2 ^ n := fun hb => h ⟨n, b, rfl, rfl, by omega, hb⟩
        generalize 2 ^ n = P at *
        omega
      simp only [r01Right.r, r01Right.t, sy, reduceIte, Nat.reduceAdd, Nat.reduceLeDiff, Nat.reduceLT, Nat.reduceEqDiff, Int.reduceEq, Int.reduceLT, Int.reduceLE, Int.reduceNe, ly, h0, h1, power_r n s (by omega), h5]
    · simp only [r01Right.r, r01Right.t, sy, reduceIte, Nat.reduceAdd, Nat.reduceLeDiff, Nat.reduceLT, Nat.reduceEqDiff, Int.reduceEq, Int.reduceLT, Int.reduceLE, Int.reduceNe, ly, h0, h1]
  · simp only [r01Right.r, r01Right.t, sy, reduceIte, Nat.reduceAdd, Nat.reduceLeDiff, Nat.reduceLT, Nat.reduceEqDiff, Int.reduceEq, Int.reduceLT, Int.reduceLE, Int.reduceNe, ly, h0]
def rowsI (l : List Nat) : List (List Value) := l.map fun d : Nat => [Value.int .i64 (d : Int)]
theorem rowsI_get {l : List Nat} {j d : Nat} (h : l[j]? = some d) : (rowsI l)[j]? = some [Value.int .i64 (d : Int)] := by simp [rowsI, h]
end Go.Proofs.Yteapmnolmfickaa
/-
  Rows of bits read: Of, common, Begins.
-/
set_option linter.unusedSimpArgs false
set_option linter.unusedVariables false
set_option maxRecDepth 100000
namespace Go.Proofs.Yteapmnolmfickaa
open Go.Sim Go.Sim.Bt
attribute [local congr] bdc cndc itec gdc gdSc gdUc
def IsI (s : St) (v : Value) (l : List Nat) : Prop :=
  (v = .slice none 0 0 ∧ l = []) ∨ ∃ b i e rows ro, v = .slice (some ⟨b, i, some 0⟩) l.length e ∧ s.get b = some (.row 1 rows ro) ∧ ∀ (j d : Nat), l[j]? = some d → rows[i + j]? = some [.int .i64 (d : Int)]
theorem IsI.len {s : St} {v : Value} {l : List Nat} (h : IsI s v l) : lenL v = some (.int .i64 l.length) := by
  rcases h with ⟨rfl, rfl⟩ | ⟨b, i, e, rows, ro, rfl, _, _⟩ <;> rfl
theorem IsI.at {s : St} {v : Value} {l : List Nat} (h : IsI s v l) {j d : Nat} (hj : l[j]? = some d) : ∃ p, idx s 1 v (.int .i64 (j : Int)) = some p ∧ ldc s p = some (.int .i64 (d : Int)) := by
  rcases h with ⟨rfl, rfl⟩ | ⟨b, i, e, rows, ro, rfl, hg, hr⟩
  · simp at hj
  · have hlt : j < l.length := by
      rcases Nat.lt_or_ge j l.length with h | h
      · exact h
      · rw [List.getElem?_eq_none h] at hj; cases hj
    refine ⟨_, idx_row hg (by omega) (by omega), ?_⟩
    rw [ldc_row hg, show i + (j : Int).toNat = i + j by omega, hr j d hj]
    rfl
theorem IsI.new {s : St} {l : List Nat} {e : Nat} : IsI (s.new (.row 1 (rowsI l) false)) (.slice (some ⟨s.n, 0, some 0⟩) l.length e) l :=
  .inr ⟨s.n, 0, e, _, _, rfl, get_new_same, fun j d h => by rw [Nat.zero_add]; exact rowsI_get h⟩
theorem IsI.more {s s' : St} {v : Value} {l : List Nat} (h : IsI s v l) (hm : More s s') (hf : Fresh s) : IsI s' v l := by
  rcases h with ⟨rfl, rfl⟩ | ⟨b, i, e, rows, ro, rfl, hg, hr⟩
  · exact .inl ⟨rfl, rfl⟩
  · exact .inr ⟨b, i, e, rows, ro, rfl, hm.get hf hg, hr⟩
end Go.Proofs.Yteapmnolmfickaa
/-
  Bit, Prefix, Rest, Flip: the program's and the reference's.
-/
set_option linter.unusedSimpArgs false
set_option linter.unusedVariables false
set_option maxRecDepth 100000
namespace Go.Proofs.Yteapmnolmfickaa
open Go.Sim Go.Sim.Bt
attribute [local congr] bdc cndc itec gdc gdSc gdUc
theorem i5 : ¬ ((5 : Int) = 0) := by omega
end Go.Proofs.Yteapmnolmfickaa
/-
  Common, Compare, Begins: the program's and the reference's.
-/
set_option linter.unusedSimpArgs false
set_option linter.unusedVariables false
set_option maxRecDepth 100000
namespace Go.Proofs.Yteapmnolmfickaa
open Go.Sim Go.Sim.Bt
attribute [local congr] bdc cndc itec gdc gdSc gdUc
def nb (x : Nat) : Nat := ((List.range 9).find? fun k => decide (x < 2 ^ k)).getD 9
end Go.Proofs.Yteapmnolmfickaa
