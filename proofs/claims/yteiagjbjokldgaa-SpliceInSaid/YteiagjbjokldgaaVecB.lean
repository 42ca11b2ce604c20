/-
  The reference's functions on vectors over unknown numbers.
-/
import Derived.Test.YteiagjbjokldgaaVecA
set_option linter.unusedSimpArgs false
set_option linter.unusedVariables false
set_option maxRecDepth 100000
namespace Go.Proofs.Yteiagjbjokldgaa
open Go.Sim Go.Sim.Bt
attribute [local congr] bdc cndc itec gdc gdSc gdUc

theorem power_r (n : Nat) (s : St) (h : n ≤ 63) : leapfrogref01x_Power.r (.int .i64 n) s = some (.int .u64 ((2 ^ n : Nat) : Int)) := by
  have hl : iter (leapfrogref01x_Power.l2 std) BIG [Value.int .i64 n, Value.int .u64 ((1 : Nat) : Int)] s = some (0, [Value.int .u64 ((2 ^ n : Nat) : Int)], s) := by
    refine iter_rel (fun d xs s' => s' = s ∧ d ≤ 63 ∧ ∃ x : Nat, xs = [Value.int .i64 d, Value.int .u64 (x : Int)] ∧ x * 2 ^ d = 2 ^ n) (fun r : Option Cut => r = some (0, [Value.int .u64 ((2 ^ n : Nat) : Int)], s)) ?_ BIG n _ s (by unfold BIG; omega) ⟨rfl, h, 1, rfl, by omega⟩
    rintro d xs s' rec ⟨rfl, hd, x, rfl, hx⟩ ih
    cases d with
    | zero =>
      simp only [leapfrogref01x_Power.l2, sy, reduceIte, Nat.reduceAdd, Nat.reduceLeDiff, Nat.reduceLT, Nat.reduceEqDiff, Int.reduceEq, Int.reduceLT, Int.reduceLE, Int.reduceNe, ly, Int.natCast_zero, Int.lt_irrefl] at hx ⊢
      simp at hx
      rw [hx]
    | succ d =>
      have e1 : (0 : Int) < ((d + 1 : Nat) : Int) := by omega
      have e2 : IntKind.i64.wrap (((d + 1 : Nat) : Int) - 1) = d := by rw [wrap64 (by omega) (by omega)]; omega
      have e3 : x * 2 ≤ 2 ^ 63 := by
        have : x * 2 ^ (d + 1) = x * 2 * 2 ^ d := by rw [Nat.pow_succ]; ac_rfl
        have h2 : 2 ^ n ≤ 2 ^ 63 := Nat.pow_le_pow_right (by omega) h
        have h3 := Nat.le_mul_of_pos_right (x * 2) (Nat.two_pow_pos d)
        omega
      have e4 : IntKind.u64.wrap ((x : Int) * 2) = ((x * 2 : Nat) : Int) := by rw [wrapu64 (by omega) (by omega)]; omega
      simp only [leapfrogref01x_Power.l2, sy, reduceIte, Nat.reduceAdd, Nat.reduceLeDiff, Nat.reduceLT, Nat.reduceEqDiff, Int.reduceEq, Int.reduceLT, Int.reduceLE, Int.reduceNe, ly, e1, e2, e4]
      refine ih d _ _ (by omega) ⟨rfl, by omega, x * 2, rfl, ?_⟩
      rw [← hx, Nat.pow_succ]; ac_rfl
  simp only [leapfrogref01x_Power.r, leapfrogref01x_Power.t]
  change ((iter (leapfrogref01x_Power.l2 std) BIG [Value.int .i64 n, Value.int .u64 ((1 : Nat) : Int)] s).bind fun r => some (r.2.1.getD 0 undef)) = _
  rw [hl]; rfl
theorem rright_ok {n b : Nat} (s : St) (h1 : n ≤ 32) (h2 : b < 2 ^ n) : leapfrogref01x_Right.r (VV n b) s = some (.bool true) := by
  have h3 : (0 : Int) ≤ n := by omega
  have h4 : (n : Int) ≤ 32 := by omega
  have h5 : (b : Int) < ((2 ^ n : Nat) : Int) := by omega
  simp only [leapfrogref01x_Right.r, leapfrogref01x_Right.t, sy, reduceIte, Nat.reduceAdd, Nat.reduceLeDiff, Nat.reduceLT, Nat.reduceEqDiff, Int.reduceEq, Int.reduceLT, Int.reduceLE, Int.reduceNe, ly, h3, h4, power_r n s (by omega), h5]
theorem rright_no {L B : Int} (s : St) (h : ¬ okV L B) (hB : 0 ≤ B) : leapfrogref01x_Right.r (VI L B) s = some (.bool false) := by
  by_cases h0 : 0 ≤ L
  · by_cases h1 : L ≤ 32
    · obtain ⟨n, rfl⟩ : ∃ n : Nat, L = n := ⟨L.toNat, by omega⟩
      obtain ⟨b, rfl⟩ : ∃ b : Nat, B = b := ⟨B.toNat, by omega⟩
      have h5 : ¬ ((b : Int) < ((2 ^ n : Nat) : Int)) := by
        have : ¬ b < 2 ^ n := fun hb => h ⟨n, b, rfl, rfl, by omega, hb⟩
        generalize 2 ^ n = P at *
        omega
      simp only [leapfrogref01x_Right.r, leapfrogref01x_Right.t, sy, reduceIte, Nat.reduceAdd, Nat.reduceLeDiff, Nat.reduceLT, Nat.reduceEqDiff, Int.reduceEq, Int.reduceLT, Int.reduceLE, Int.reduceNe, ly, h0, h1, power_r n s (by omega), h5]
    · simp only [leapfrogref01x_Right.r, leapfrogref01x_Right.t, sy, reduceIte, Nat.reduceAdd, Nat.reduceLeDiff, Nat.reduceLT, Nat.reduceEqDiff, Int.reduceEq, Int.reduceLT, Int.reduceLE, Int.reduceNe, ly, h0, h1]
  · simp only [leapfrogref01x_Right.r, leapfrogref01x_Right.t, sy, reduceIte, Nat.reduceAdd, Nat.reduceLeDiff, Nat.reduceLT, Nat.reduceEqDiff, Int.reduceEq, Int.reduceLT, Int.reduceLE, Int.reduceNe, ly, h0]

/-- Whole numbers as rows of one cell. -/
def rowsI (l : List Nat) : List (List Value) := l.map fun d : Nat => [Value.int .i64 (d : Int)]
theorem rowsI_length (l : List Nat) : (rowsI l).length = l.length := by simp [rowsI]
theorem rowsI_get {l : List Nat} {j d : Nat} (h : l[j]? = some d) : (rowsI l)[j]? = some [Value.int .i64 (d : Int)] := by simp [rowsI, h]

theorem bits_v {n b : Nat} (s : St) (h1 : n ≤ 32) (hb : b < 2 ^ n) : leapfrogref01x_Bits.v (VV n b) s = some (.slice (some ⟨s.n, 0, some 0⟩) n (2 * n), s.new (.row 1 (rowsI (bl n b)) false)) := by
  have e1 : IntKind.i64.wrap ((n : Int) - 1) = (n : Int) - 1 := wrap64 (by omega) (by omega)
  have hm : mks s 1 8 [Value.int .i64 0] (.int .i64 n) (.int .i64 n) = some (.slice (some ⟨s.n, 0, some 0⟩) n (2 * n), s.new (.row 1 (List.replicate n [Value.int .i64 0]) false)) := by
    simp only [mks]
    rw [if_pos (by omega)]
    simp [als]
  have hl : iter (leapfrogref01x_Bits.l4 std) BIG [Value.slice (some ⟨s.n, 0, some 0⟩) n (2 * n), Value.int .u64 b, Value.int .i64 ((n : Int) - 1)] (s.new (.row 1 (List.replicate n [Value.int .i64 0]) false)) = some (0, [Value.slice (some ⟨s.n, 0, some 0⟩) n (2 * n)], s.new (.row 1 (rowsI (bl n b)) false)) := by
    refine iter_rel (fun d xs s' => d ≤ n ∧ xs = [Value.slice (some ⟨s.n, 0, some 0⟩) n (2 * n), Value.int .u64 ((b / 2 ^ (n - d) : Nat) : Int), Value.int .i64 ((d : Int) - 1)] ∧
      s' = s.new (.row 1 (List.replicate d [Value.int .i64 0] ++ (rowsI (bl n b)).drop d) false)) (fun r : Option Cut => r = some (0, [Value.slice (some ⟨s.n, 0, some 0⟩) n (2 * n)], s.new (.row 1 (rowsI (bl n b)) false))) ?_ BIG n _ _ (by unfold BIG; omega) ⟨Nat.le_refl _, by simp, by rw [List.drop_of_length_le (by simp [rowsI_length, bl_length])]; simp⟩
    rintro d xs s' rec ⟨hd, rfl, rfl⟩ ih
    cases d with
    | zero =>
      have : ¬ ((0 : Int) ≤ ((0 : Nat) : Int) - 1) := by omega
      simp only [leapfrogref01x_Bits.l4, sy, reduceIte, Nat.reduceAdd, Nat.reduceLeDiff, Nat.reduceLT, Nat.reduceEqDiff, Int.reduceEq, Int.reduceLT, Int.reduceLE, Int.reduceNe, ly, this]
      rfl
    | succ d =>
      have g1 : (0 : Int) ≤ ((d + 1 : Nat) : Int) - 1 := by omega
      have hg : (s.new (.row 1 (List.replicate (d + 1) [Value.int .i64 0] ++ (rowsI (bl n b)).drop (d + 1)) false)).get s.n = some (.row 1 (List.replicate (d + 1) [Value.int .i64 0] ++ (rowsI (bl n b)).drop (d + 1)) false) := get_new_same
      have g2 : (((d + 1 : Nat) : Int) - 1).toNat = d := by omega
      have hi : idx (s.new (.row 1 (List.replicate (d + 1) [Value.int .i64 0] ++ (rowsI (bl n b)).drop (d + 1)) false)) 1 (.slice (some ⟨s.n, 0, some 0⟩) n (2 * n)) (.int .i64 (((d + 1 : Nat) : Int) - 1)) = some (.pointer (some ⟨s.n, d, some 0⟩)) := by
        have := idx_row (k := .i64) (i := 0) (len := n) (e := 2 * n) hg g1 (by omega)
        rwa [g2, Nat.zero_add] at this
      have hr : ((List.replicate (d + 1) [Value.int .i64 0] ++ (rowsI (bl n b)).drop (d + 1)))[d]? = some [Value.int .i64 0] := by
        rw [List.getElem?_append_left (by simp)]; simp
      have g3 : IntKind.i64.wrap ((((d + 1 : Nat) : Int) - 1) - 1) = (d : Int) - 1 := by rw [wrap64 (by omega) (by omega)]; omega
      have g4 : IntKind.i64.wrap (((b / 2 ^ (n - (d + 1)) % 2 : Nat) : Int)) = ((b / 2 ^ (n - (d + 1)) % 2 : Nat) : Int) := by
        have := Nat.mod_lt (b / 2 ^ (n - (d + 1))) (show 2 > 0 by omega)
        exact wrap64 (by omega) (by omega)
      have g5 : bin .rem (.int .u64 ((b / 2 ^ (n - (d + 1)) : Nat) : Int)) (.int .u64 2) = some (.int .u64 ((b / 2 ^ (n - (d + 1)) % 2 : Nat) : Int)) := by
        rw [bin_rem (by omega)]; rfl
      have g6 : bin .quo (.int .u64 ((b / 2 ^ (n - (d + 1)) : Nat) : Int)) (.int .u64 2) = some (.int .u64 ((b / 2 ^ (n - d) : Nat) : Int)) := by
        have e7 := pow32 h1
        have e5 : b / 2 ^ (n - (d + 1)) ≤ b := Nat.div_le_self _ _
        rw [bin_quo (by omega), show n - d = (n - (d + 1)) + 1 by omega, Nat.pow_succ, ← Nat.div_div_eq_div_mul]
        generalize b / 2 ^ (n - (d + 1)) = q at *
        rw [show ((q : Int)).tdiv 2 = ((q / 2 : Nat) : Int) by rfl, wrapu64 (by omega) (by omega)]
      have hst : stv (s.new (.row 1 (List.replicate (d + 1) [Value.int .i64 0] ++ (rowsI (bl n b)).drop (d + 1)) false)) 1 (.pointer (some ⟨s.n, d, some 0⟩)) (.int .i64 ((b / 2 ^ (n - (d + 1)) % 2 : Nat) : Int)) = some (s.new (.row 1 (List.replicate d [Value.int .i64 0] ++ (rowsI (bl n b)).drop d) false)) := by
        rw [stv_row hg]
        simp only [sy, reduceIte, Nat.reduceAdd, Nat.reduceLeDiff, Nat.reduceLT, Nat.reduceEqDiff, Int.reduceEq, Int.reduceLT, Int.reduceLE, Int.reduceNe, ly, hr]
        congr 1
        have : List.set (List.replicate (d + 1) [Value.int .i64 0] ++ (rowsI (bl n b)).drop (d + 1)) d [Value.int .i64 ((b / 2 ^ (n - (d + 1)) % 2 : Nat) : Int)] = List.replicate d [Value.int .i64 0] ++ (rowsI (bl n b)).drop d := by
          have hdl : d < (rowsI (bl n b)).length := by rw [rowsI_length, bl_length]; omega
          have hx : (rowsI (bl n b))[d]? = some [Value.int .i64 ((b / 2 ^ (n - 1 - d) % 2 : Nat) : Int)] := rowsI_get (bl_get (by omega))
          rw [List.drop_eq_getElem_cons hdl, List.replicate_succ', List.append_assoc, List.set_append_right _ _ (by simp)]
          rw [List.getElem?_eq_getElem hdl] at hx
          simp only [Option.some.injEq] at hx
          rw [hx, show n - (d + 1) = n - 1 - d by omega]
          simp
        rw [this]
        simp [St.new, St.put, putH]
      simp only [leapfrogref01x_Bits.l4, sy, reduceIte, Nat.reduceAdd, Nat.reduceLeDiff, Nat.reduceLT, Nat.reduceEqDiff, Int.reduceEq, Int.reduceLT, Int.reduceLE, Int.reduceNe, ly, g1, hi, g5, g4, hst, g6, g3]
      exact ih d _ _ (by omega) ⟨by omega, rfl, rfl⟩
  simp only [leapfrogref01x_Bits.v, leapfrogref01x_Bits.t, sy, reduceIte, Nat.reduceAdd, Nat.reduceLeDiff, Nat.reduceLT, Nat.reduceEqDiff, Int.reduceEq, Int.reduceLT, Int.reduceLE, Int.reduceNe, ly, e1, hm, hl]
end Go.Proofs.Yteiagjbjokldgaa
