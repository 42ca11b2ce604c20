/-
  Rows of bits read: Of, common, Begins.
-/
import Derived.Test.YteiagjbjokldgaaVecB
set_option linter.unusedSimpArgs false
set_option linter.unusedVariables false
set_option maxRecDepth 100000
namespace Go.Proofs.Yteiagjbjokldgaa
open Go.Sim Go.Sim.Bt
attribute [local congr] bdc cndc itec gdc gdSc gdUc

/-- A slice that holds whole numbers. -/
def IsI (s : St) (v : Value) (l : List Nat) : Prop :=
  (v = .slice none 0 0 ∧ l = []) ∨ ∃ b i e rows ro, v = .slice (some ⟨b, i, some 0⟩) l.length e ∧ s.get b = some (.row 1 rows ro) ∧ ∀ (j d : Nat), l[j]? = some d → rows[i + j]? = some [.int .i64 (d : Int)]

theorem IsI.len {s : St} {v : Value} {l : List Nat} (h : IsI s v l) : lenL v = some (.int .i64 l.length) := by
  rcases h with ⟨rfl, rfl⟩ | ⟨b, i, e, rows, ro, rfl, _, _⟩ <;> rfl
theorem IsI.at {s : St} {v : Value} {l : List Nat} (h : IsI s v l) {j d : Nat} (hj : l[j]? = some d) : ∃ p, idx s 1 v (.int .i64 (j : Int)) = some p ∧ ldc s p = some (.int .i64 (d : Int)) := by
  rcases h with ⟨rfl, rfl⟩ | ⟨b, i, e, rows, ro, rfl, hg, hr⟩
  · simp at hj
  · have hlt : j < l.length := by
      rcases Nat.lt_or_ge j l.length with h | h
      · exact h
      · rw [List.getElem?_eq_none h] at hj; cases hj
    refine ⟨_, idx_row hg (by omega) (by omega), ?_⟩
    rw [ldc_row hg, show i + (j : Int).toNat = i + j by omega, hr j d hj]
    rfl
theorem IsI.new {s : St} {l : List Nat} {e : Nat} : IsI (s.new (.row 1 (rowsI l) false)) (.slice (some ⟨s.n, 0, some 0⟩) l.length e) l :=
  .inr ⟨s.n, 0, e, _, _, rfl, get_new_same, fun j d h => by rw [Nat.zero_add]; exact rowsI_get h⟩
theorem IsI.more {s s' : St} {v : Value} {l : List Nat} (h : IsI s v l) (hm : More s s') (hf : Fresh s) : IsI s' v l := by
  rcases h with ⟨rfl, rfl⟩ | ⟨b, i, e, rows, ro, rfl, hg, hr⟩
  · exact .inl ⟨rfl, rfl⟩
  · exact .inr ⟨b, i, e, rows, ro, rfl, hm.get hf hg, hr⟩

theorem bits_is {n b : Nat} (s : St) (h1 : n ≤ 32) (hb : b < 2 ^ n) : ∃ v s', leapfrogref01x_Bits.v (VV n b) s = some (v, s') ∧ More s s' ∧ IsI s' v (bl n b) := by
  refine ⟨_, _, bits_v s h1 hb, .new, ?_⟩
  have := @IsI.new s (bl n b) (2 * n)
  rwa [bl_length] at this

theorem of_r {s : St} {v : Value} {l : List Nat} (h : IsI s v l) (hd : ∀ d ∈ l, d < 2) (hl : l.length ≤ 40) : leapfrogref01x_Of.r v s = some (VV l.length (ofBits l)) := by
  have hloop : iter (leapfrogref01x_Of.l3 std) BIG [v, Value.int .i64 ((0 : Nat) : Int), .agg ⟨[.int .i64 0, .int .u64 0]⟩, .agg ⟨[.int .i64 l.length, .int .u64 ((0 : Nat) : Int)]⟩] s = some (0, [Value.agg ⟨[.int .i64 0, .int .u64 0]⟩, .agg ⟨[.int .i64 l.length, .int .u64 (ofBits l : Int)]⟩], s) := by
    refine iter_rel (fun d xs s' => s' = s ∧ ∃ j, j + d = l.length ∧ xs = [v, Value.int .i64 (j : Int), .agg ⟨[.int .i64 0, .int .u64 0]⟩, .agg ⟨[.int .i64 l.length, .int .u64 (ofBits (l.take j) : Int)]⟩]) (fun r : Option Cut => r = some (0, [Value.agg ⟨[.int .i64 0, .int .u64 0]⟩, .agg ⟨[.int .i64 l.length, .int .u64 (ofBits l : Int)]⟩], s)) ?_ BIG l.length _ s (by unfold BIG; omega) ⟨rfl, 0, by omega, by simp [ofBits]⟩
    rintro d xs s' rec ⟨rfl, j, hj, rfl⟩ ih
    cases d with
    | zero =>
      have e1 : ¬ ((j : Int) < l.length) := by omega
      simp only [leapfrogref01x_Of.l3, sy, reduceIte, Nat.reduceAdd, Nat.reduceLeDiff, Nat.reduceLT, Nat.reduceEqDiff, Int.reduceEq, Int.reduceLT, Int.reduceLE, Int.reduceNe, ly, h.len, e1]
      rw [List.take_of_length_le (by omega)]
    | succ d =>
      have e1 : (j : Int) < l.length := by omega
      obtain ⟨x, hx⟩ : ∃ x, l[j]? = some x := ⟨_, List.getElem?_eq_getElem (by omega)⟩
      obtain ⟨p, hp1, hp2⟩ := h.at hx
      have hx2 : x < 2 := hd x (List.mem_of_getElem? hx)
      have htk : l.take (j + 1) = l.take j ++ [x] := by rw [List.take_add_one, hx]; rfl
      have hb : ofBits (l.take j) < 2 ^ 40 := Nat.lt_of_lt_of_le (ofBits_lt rfl fun y hy => hd y (List.mem_of_mem_take hy)) (Nat.pow_le_pow_right (by omega) (by rw [List.length_take]; omega))
      have e2 : IntKind.u64.wrap ((ofBits (l.take j) : Int) * 2) = ((ofBits (l.take j) * 2 : Nat) : Int) := by rw [wrapu64 (by omega) (by omega)]; omega
      have e3 : IntKind.u64.wrap (x : Int) = x := wrapu64 (by omega) (by omega)
      have e4 : IntKind.u64.wrap (((ofBits (l.take j) * 2 : Nat) : Int) + x) = (ofBits (l.take (j + 1)) : Int) := by rw [wrapu64 (by omega) (by omega), htk, ofBits_snoc]; omega
      have e5 : IntKind.i64.wrap ((j : Int) + 1) = ((j + 1 : Nat) : Int) := by rw [wrap64 (by omega) (by omega)]; omega
      simp only [leapfrogref01x_Of.l3, sy, reduceIte, Nat.reduceAdd, Nat.reduceLeDiff, Nat.reduceLT, Nat.reduceEqDiff, Int.reduceEq, Int.reduceLT, Int.reduceLE, Int.reduceNe, ly, h.len, e1, hp1, hp2, e2, e3, e4, e5]
      exact ih d _ _ (by omega) ⟨rfl, j + 1, by omega, rfl⟩
  simp only [leapfrogref01x_Of.r, leapfrogref01x_Of.t, sy, reduceIte, Nat.reduceAdd, Nat.reduceLeDiff, Nat.reduceLT, Nat.reduceEqDiff, Int.reduceEq, Int.reduceLT, Int.reduceLE, Int.reduceNe, ly, h.len]
  rw [show (Value.int .i64 0) = Value.int .i64 ((0 : Nat) : Int) from rfl, show (Value.int .u64 0) = Value.int .u64 ((0 : Nat) : Int) from rfl] 
  erw [hloop]
  simp only [sy, reduceIte, Nat.reduceAdd, Nat.reduceLeDiff, Nat.reduceLT, Nat.reduceEqDiff, Int.reduceEq, Int.reduceLT, Int.reduceLE, Int.reduceNe, ly]

theorem common_r {s : St} {u v : Value} {l m : List Nat} (h : IsI s u l) (k : IsI s v m) (hl : l.length ≤ 40) : leapfrogref01x_common.r u v s = some (.int .i64 (lcp l m)) := by
  have hloop : iter (leapfrogref01x_common.l2 std) BIG [u, v, Value.int .i64 ((0 : Nat) : Int)] s = some (0, [Value.int .i64 (lcp l m : Int)], s) := by
    refine iter_rel (fun d xs s' => s' = s ∧ ∃ j, j + d = l.length ∧ xs = [u, v, Value.int .i64 (j : Int)] ∧ j ≤ m.length ∧ lcp (l.drop j) (m.drop j) + j = lcp l m) (fun r : Option Cut => r = some (0, [Value.int .i64 (lcp l m : Int)], s)) ?_ BIG l.length _ s (by unfold BIG; omega) ⟨rfl, 0, by omega, rfl, by omega, by simp⟩
    rintro d xs s' rec ⟨rfl, j, hj, rfl, hjm, he⟩ ih
    cases d with
    | zero =>
      have e1 : ¬ ((j : Int) < l.length) := by omega
      rw [List.drop_of_length_le (by omega)] at he
      simp only [lcp] at he
      simp only [leapfrogref01x_common.l2, sy, reduceIte, Nat.reduceAdd, Nat.reduceLeDiff, Nat.reduceLT, Nat.reduceEqDiff, Int.reduceEq, Int.reduceLT, Int.reduceLE, Int.reduceNe, ly, h.len, e1]
      rw [← he, Nat.zero_add]
    | succ d =>
      have e1 : (j : Int) < l.length := by omega
      by_cases hm : j < m.length
      · have e2 : (j : Int) < m.length := by omega
        obtain ⟨x, hx⟩ : ∃ x, l[j]? = some x := ⟨_, List.getElem?_eq_getElem (by omega)⟩
        obtain ⟨y, hy⟩ : ∃ y, m[j]? = some y := ⟨_, List.getElem?_eq_getElem (by omega)⟩
        obtain ⟨p, hp1, hp2⟩ := h.at hx
        obtain ⟨q, hq1, hq2⟩ := k.at hy
        have dx : l.drop j = x :: l.drop (j + 1) := by
          rw [List.drop_eq_getElem_cons (by omega)]; rw [List.getElem?_eq_getElem (by omega)] at hx; cases hx; rfl
        have dy : m.drop j = y :: m.drop (j + 1) := by
          rw [List.drop_eq_getElem_cons (by omega)]; rw [List.getElem?_eq_getElem (by omega)] at hy; cases hy; rfl
        rw [dx, dy] at he
        by_cases hxy : x = y
        · have e3 : (x : Int) = y := by omega
          have e5 : IntKind.i64.wrap ((j : Int) + 1) = ((j + 1 : Nat) : Int) := by rw [wrap64 (by omega) (by omega)]; omega
          simp only [lcp, if_pos hxy] at he
          simp only [leapfrogref01x_common.l2, sy, reduceIte, Nat.reduceAdd, Nat.reduceLeDiff, Nat.reduceLT, Nat.reduceEqDiff, Int.reduceEq, Int.reduceLT, Int.reduceLE, Int.reduceNe, ly, h.len, k.len, e1, e2, hp1, hp2, hq1, hq2, e3, e5]
          exact ih d _ _ (by omega) ⟨rfl, j + 1, by omega, rfl, by omega, by omega⟩
        · have e3 : ¬ ((x : Int) = y) := by omega
          simp only [lcp, if_neg hxy] at he
          simp only [leapfrogref01x_common.l2, sy, reduceIte, Nat.reduceAdd, Nat.reduceLeDiff, Nat.reduceLT, Nat.reduceEqDiff, Int.reduceEq, Int.reduceLT, Int.reduceLE, Int.reduceNe, ly, h.len, k.len, e1, e2, hp1, hp2, hq1, hq2, e3]
          rw [← he, Nat.zero_add]
      · have e2 : ¬ ((j : Int) < m.length) := by omega
        rw [List.drop_of_length_le (l := m) (by omega)] at he
        have he : lcp l m = j := by rw [← he]; cases l.drop j <;> simp [lcp]
        simp only [leapfrogref01x_common.l2, sy, reduceIte, Nat.reduceAdd, Nat.reduceLeDiff, Nat.reduceLT, Nat.reduceEqDiff, Int.reduceEq, Int.reduceLT, Int.reduceLE, Int.reduceNe, ly, h.len, k.len, e1, e2]
        rw [he]
  simp only [leapfrogref01x_common.r, leapfrogref01x_common.t, sy, reduceIte, Nat.reduceAdd, Nat.reduceLeDiff, Nat.reduceLT, Nat.reduceEqDiff, Int.reduceEq, Int.reduceLT, Int.reduceLE, Int.reduceNe]
  rw [show (Value.int .i64 0) = Value.int .i64 ((0 : Nat) : Int) from rfl, hloop]
  simp only [sy, reduceIte, Nat.reduceAdd, Nat.reduceLeDiff, Nat.reduceLT, Nat.reduceEqDiff, Int.reduceEq, Int.reduceLT, Int.reduceLE, Int.reduceNe, ly]

theorem okV_nat {n b : Nat} : okV n b ↔ n ≤ 32 ∧ b < 2 ^ n :=
  ⟨fun ⟨m, c, h1, h2, h3, h4⟩ => by
    obtain rfl : n = m := by omega
    obtain rfl : b = c := by omega
    exact ⟨h3, h4⟩, fun h => ⟨n, b, rfl, rfl, h.1, h.2⟩⟩

theorem begins_r {n b m c : Nat} (s : St) (h1 : n ≤ 32) (h2 : b < 2 ^ n) (h3 : m ≤ 32) (h4 : c < 2 ^ m) : vec_Begins.r (VV n b) (VV m c) s = some (.bool (decide (m ≤ n ∧ b / 2 ^ (n - m) = c))) := by
  by_cases h5 : m ≤ n
  · have e1 : (m : Int) ≤ n := by omega
    by_cases h6 : b / 2 ^ (n - m) = c
    · have e2 : ((b / 2 ^ (n - m) : Nat) : Int) = c := by omega
      simp only [vec_Begins.r, vec_Begins.t, sy, reduceIte, Nat.reduceAdd, Nat.reduceLeDiff, Nat.reduceLT, Nat.reduceEqDiff, Int.reduceEq, Int.reduceLT, Int.reduceLE, Int.reduceNe, ly, right_ok s h1 h2, right_ok s h3 h4, e1, prefix_r s h1 h5, e2, h5, h6]
    · have e2 : ¬ (((b / 2 ^ (n - m) : Nat) : Int) = c) := by omega
      simp only [vec_Begins.r, vec_Begins.t, sy, reduceIte, Nat.reduceAdd, Nat.reduceLeDiff, Nat.reduceLT, Nat.reduceEqDiff, Int.reduceEq, Int.reduceLT, Int.reduceLE, Int.reduceNe, ly, right_ok s h1 h2, right_ok s h3 h4, e1, prefix_r s h1 h5, e2, h5, h6]
  · have e1 : ¬ ((m : Int) ≤ n) := by omega
    simp only [vec_Begins.r, vec_Begins.t, sy, reduceIte, Nat.reduceAdd, Nat.reduceLeDiff, Nat.reduceLT, Nat.reduceEqDiff, Int.reduceEq, Int.reduceLT, Int.reduceLE, Int.reduceNe, ly, right_ok s h1 h2, right_ok s h3 h4, e1, h5]
theorem begins_no1 {L B : Int} {w : Value} {cw : List Value} (s : St) (hw : w = .agg ⟨cw⟩) (h : ¬ okV L B) (hB : 0 ≤ B) : vec_Begins.r (VI L B) w s = some (.bool false) := by
  subst hw
  simp only [vec_Begins.r, vec_Begins.t, sy, reduceIte, Nat.reduceAdd, Nat.reduceLeDiff, Nat.reduceLT, Nat.reduceEqDiff, Int.reduceEq, Int.reduceLT, Int.reduceLE, Int.reduceNe, ly, right_no s h hB, show ¬ ((10 : Int) = 0) by omega]
theorem begins_no2 {n b : Nat} {L B : Int} (s : St) (h1 : n ≤ 32) (h2 : b < 2 ^ n) (h : ¬ okV L B) (hB : 0 ≤ B) : vec_Begins.r (VV n b) (VI L B) s = some (.bool false) := by
  simp only [vec_Begins.r, vec_Begins.t, sy, reduceIte, Nat.reduceAdd, Nat.reduceLeDiff, Nat.reduceLT, Nat.reduceEqDiff, Int.reduceEq, Int.reduceLT, Int.reduceLE, Int.reduceNe, ly, right_ok s h1 h2, right_no s h hB, show ¬ ((10 : Int) = 0) by omega]
end Go.Proofs.Yteiagjbjokldgaa
