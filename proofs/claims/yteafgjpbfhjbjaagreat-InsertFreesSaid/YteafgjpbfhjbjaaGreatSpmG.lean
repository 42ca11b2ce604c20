/-
  The list of what is held.
-/
import Derived.Test.YteafgjpbfhjbjaaGreatSpmB
set_option linter.unusedSimpArgs false
set_option linter.unusedVariables false
set_option maxRecDepth 100000
set_option maxHeartbeats 2000000
namespace Go.Proofs.YteafgjpbfhjbjaaGreat.Sp
open Go.Sim Go.Sim.Bt
attribute [local congr] bdc cndc itec gdc gdSc gdUc
def rowsZ (l : List Int) : List (List Value) := l.map fun x => [.int .i64 x]
theorem rowsZ_length (l : List Int) : (rowsZ l).length = l.length := by simp [rowsZ]
theorem rowsZ_get {l : List Int} {j : Nat} {r : Int} (h : l[j]? = some r) : (rowsZ l)[j]? = some [.int .i64 r] := by simp [rowsZ, h]
def keepB (t k ak y : Int) : Bool := decide (y ≠ t ∨ (ak ≠ 3 ∧ k ≠ 4 ∧ k ≠ 8))
theorem held_r {n0 : Nat} {s : St} {v : Value} {l : List Int} (hf : Fresh s) (h : Own n0 s 1 v (rowsZ l)) (t : Rf) (ak : AskP) (a : Ans) (hl : l.length ≤ 1000) :
    ∃ u s', l15held.v v (.agg ⟨stepC 1 t ak zRes⟩) (.agg ⟨a.cs⟩) s = some (u, s') ∧ Keep s.n s s' ∧ Own s.n s' 1 u (rowsZ (heldL l t.id ak.k a.k)) := by
  have hloop : ∃ u s', iter (l15held.l3 std) BIG [v, .slice none 0 0, Value.int .i64 ((0 : Nat) : Int), .agg ⟨stepC 1 t ak zRes⟩, .agg ⟨a.cs⟩] s = some ((0, [u, .agg ⟨stepC 1 t ak zRes⟩, .agg ⟨a.cs⟩], s') : Cut) ∧ Keep s.n s s' ∧ Own s.n s' 1 u (rowsZ (l.filter (keepB t.id ak.k a.k))) := by
    refine iter_rel (fun d xs s' => ∃ j u, j + d = l.length ∧ Keep s.n s s' ∧ Own s.n s' 1 u (rowsZ ((l.take j).filter (keepB t.id ak.k a.k))) ∧ xs = [v, u, Value.int .i64 (j : Int), .agg ⟨stepC 1 t ak zRes⟩, .agg ⟨a.cs⟩])
      (fun x : Option Cut => ∃ u s', x = some ((0, [u, .agg ⟨stepC 1 t ak zRes⟩, .agg ⟨a.cs⟩], s') : Cut) ∧ Keep s.n s s' ∧ Own s.n s' 1 u (rowsZ (l.filter (keepB t.id ak.k a.k)))) ?_ BIG l.length _ s (by unfold BIG; omega) ⟨0, _, by omega, .refl _ _, .inl ⟨rfl, rfl⟩, rfl⟩
    rintro d xs s' rec ⟨j, u, hj, hk, ho, rfl⟩ ih
    have hlen := h.len
    rw [rowsZ_length] at hlen
    cases d with
    | zero =>
      have e1 : ¬ ((j : Int) < l.length) := by omega
      rw [List.take_of_length_le (by omega)] at ho
      exact ⟨u, s', by simp only [l15held.l3, sy, reduceIte, Nat.reduceAdd, Nat.reduceLeDiff, Nat.reduceLT, Nat.reduceEqDiff, Int.reduceEq, Int.reduceLT, Int.reduceLE, Int.reduceNe, ly, hlen, e1], hk, ho⟩
    | succ d =>
      have e1 : (j : Int) < l.length := by omega
      obtain ⟨x, hx⟩ := get_some (show j < l.length by omega)
      obtain ⟨b, ro, h1, h2⟩ := h.idx (rowsZ_get hx)
      have h2' : s'.get b = some (.row 1 (rowsZ l) ro) := by rw [hk.old b (hf.lt h2)]; exact h2
      have h1' : idx s' 1 v (.int .i64 (j : Int)) = some (.pointer (some ⟨b, j, some 0⟩)) := by
        rcases h with ⟨rfl, h0⟩ | ⟨q, hq, rfl, hg⟩
        · have := congrArg List.length h0
          rw [rowsZ_length] at this
          simp only [List.length_nil] at this
          omega
        · have hg' : s'.get q = some (.row 1 (rowsZ l) false) := by rw [hk.old q (hf.lt hg)]; exact hg
          have := idx_row (k := .i64) (i := 0) (n := (j : Int)) (len := (rowsZ l).length) (e := 1) hg' (by omega) (by rw [rowsZ_length]; omega)
          rw [Int.toNat_natCast, Nat.zero_add] at this
          rw [this]
          rw [idx_row (k := .i64) (i := 0) (n := (j : Int)) (len := (rowsZ l).length) (e := 1) hg (by omega) (by rw [rowsZ_length]; omega)] at h1
          rw [Int.toNat_natCast, Nat.zero_add] at h1
          exact h1
      have hx' := rowsZ_get hx
      have e5 : IntKind.i64.wrap ((j : Int) + 1) = ((j + 1 : Nat) : Int) := by rw [wrap64 (by omega) (by omega)]; omega
      have htk : l.take (j + 1) = l.take j ++ [x] := by rw [List.take_add_one, hx]; rfl
      have yes : keepB t.id ak.k a.k x = true → ∃ u' s2, app (s'.new (.row 1 [[.int .i64 x]] false)) 1 8 u (.slice (some ⟨s'.n, 0, some 0⟩) 1 2) = some (u', s2) ∧ Keep s.n s s2 ∧ Own s.n s2 1 u' (rowsZ ((l.take (j + 1)).filter (keepB t.id ak.k a.k))) := by
        intro hq
        have e6 : ((l.take (j + 1)).filter (keepB t.id ak.k a.k)) = ((l.take j).filter (keepB t.id ak.k a.k)) ++ [x] := by rw [htk]; simp [hq]
        have hfl : ((l.take j).filter (keepB t.id ak.k a.k)).length ≤ 1000 := by
          have := List.length_filter_le (keepB t.id ak.k a.k) (l.take j)
          rw [List.length_take] at this
          omega
        obtain ⟨u', s2, g1, g2, g3⟩ := (ho.new (x := .row 1 [[.int .i64 x]] false) (hk.fresh hf)).app2 (by_ := 8) (news := [[.int .i64 x]]) (x := .slice (some ⟨s'.n, 0, some 0⟩) 1 2) (by rw [new_n]; have := hk.n; omega) rfl rowsOf_one (by rw [rowsZ_length]; simp; omega) (by rw [rowsZ_length]; simp; omega)
        have e7 : rowsZ ((l.take j).filter (keepB t.id ak.k a.k)) ++ [[.int .i64 x]] = rowsZ ((l.take (j + 1)).filter (keepB t.id ak.k a.k)) := by rw [e6]; simp [rowsZ]
        rw [e7] at g3
        exact ⟨u', s2, g1, hk.trans ((Keep.new hk.n).trans g2), g3⟩
      rcases Classical.propComplete (x = t.id) with q1 | q1
      · by_cases q2 : a.k ≠ 3 ∧ ak.k ≠ 4 ∧ ak.k ≠ 8
        · have q2a : (a.k = 3) = False := eq_false q2.1
          have q2b : (ak.k = 4) = False := eq_false q2.2.1
          have q2c : (ak.k = 8) = False := eq_false q2.2.2
          obtain ⟨u', s2, g1, g2, g3⟩ := yes (decide_eq_true (.inr q2))
          simp only [l15held.l3, sy, reduceIte, Nat.reduceAdd, Nat.reduceLeDiff, Nat.reduceLT, Nat.reduceEqDiff, Int.reduceEq, Int.reduceLT, Int.reduceLE, Int.reduceNe, ly, hlen, e1, h1', ldc_row h2', hx', q1, q2a, q2b, q2c, e5, als_eq, Nat.zero_lt_succ, Nat.reduceMul, g1]
          exact ih d _ _ (by omega) ⟨j + 1, u', by omega, g2, g3, rfl⟩
        · have hq : keepB t.id ak.k a.k x = false := decide_eq_false fun g => g.elim (fun g => g (of_eq_true q1)) q2
          have e6 : ((l.take (j + 1)).filter (keepB t.id ak.k a.k)) = ((l.take j).filter (keepB t.id ak.k a.k)) := by rw [htk]; simp [hq]
          have fin : l15held.l3 std rec [v, u, Value.int .i64 (j : Int), .agg ⟨stepC 1 t ak zRes⟩, .agg ⟨a.cs⟩] s' = rec [v, u, Value.int .i64 ((j + 1 : Nat) : Int), .agg ⟨stepC 1 t ak zRes⟩, .agg ⟨a.cs⟩] s' := by
            rcases Classical.propComplete (a.k = 3) with q3 | q3
            · simp only [l15held.l3, sy, reduceIte, Nat.reduceAdd, Nat.reduceLeDiff, Nat.reduceLT, Nat.reduceEqDiff, Int.reduceEq, Int.reduceLT, Int.reduceLE, Int.reduceNe, ly, hlen, e1, h1', ldc_row h2', hx', q1, q3, e5]
            · rcases Classical.propComplete (ak.k = 4) with q4 | q4
              · simp only [l15held.l3, sy, reduceIte, Nat.reduceAdd, Nat.reduceLeDiff, Nat.reduceLT, Nat.reduceEqDiff, Int.reduceEq, Int.reduceLT, Int.reduceLE, Int.reduceNe, ly, hlen, e1, h1', ldc_row h2', hx', q1, q3, q4, e5]
              · have q5 : (ak.k = 8) = True := eq_true (Classical.not_not.1 fun g => q2 ⟨of_eq_false q3, of_eq_false q4, g⟩)
                simp only [l15held.l3, sy, reduceIte, Nat.reduceAdd, Nat.reduceLeDiff, Nat.reduceLT, Nat.reduceEqDiff, Int.reduceEq, Int.reduceLT, Int.reduceLE, Int.reduceNe, ly, hlen, e1, h1', ldc_row h2', hx', q1, q3, q4, q5, e5]
          rw [fin]
          exact ih d _ _ (by omega) ⟨j + 1, u, by omega, hk, by rw [e6]; exact ho, rfl⟩
      · obtain ⟨u', s2, g1, g2, g3⟩ := yes (decide_eq_true (.inl (of_eq_false q1)))
        simp only [l15held.l3, sy, reduceIte, Nat.reduceAdd, Nat.reduceLeDiff, Nat.reduceLT, Nat.reduceEqDiff, Int.reduceEq, Int.reduceLT, Int.reduceLE, Int.reduceNe, ly, hlen, e1, h1', ldc_row h2', hx', q1, e5, als_eq, Nat.zero_lt_succ, Nat.reduceMul, g1]
        exact ih d _ _ (by omega) ⟨j + 1, u', by omega, g2, g3, rfl⟩
  obtain ⟨u, s', g1, g2, g3⟩ := hloop
  rw [show ((0 : Nat) : Int) = 0 from rfl] at g1
  have hfl : (l.filter (keepB t.id ak.k a.k)).length ≤ 1000 := by
    have := List.length_filter_le (keepB t.id ak.k a.k) l
    omega
  unfold heldL
  by_cases hc : a.k = 1 ∧ (ak.k = 3 ∨ ak.k = 7)
  · rw [if_pos hc]
    obtain ⟨u', s2, a1, a2, a3⟩ := (g3.new (x := .row 1 [[.int .i64 t.id]] false) (g2.fresh hf)).app2 (by_ := 8) (news := [[.int .i64 t.id]]) (x := .slice (some ⟨s'.n, 0, some 0⟩) 1 2) (by rw [new_n]; have := g2.n; omega) rfl rowsOf_one (by rw [rowsZ_length]; simp; omega) (by rw [rowsZ_length]; simp; omega)
    have e7 : rowsZ (l.filter (keepB t.id ak.k a.k)) ++ [[.int .i64 t.id]] = rowsZ ((l.filter fun y => decide (y ≠ t.id ∨ (a.k ≠ 3 ∧ ak.k ≠ 4 ∧ ak.k ≠ 8))) ++ [t.id]) := by
      show _ = rowsZ (l.filter (keepB t.id ak.k a.k) ++ [t.id])
      simp [rowsZ]
    rw [e7] at a3
    have hc1 : (a.k = 1) = True := eq_true hc.1
    refine ⟨u', s2, ?_, g2.trans ((Keep.new g2.n).trans a2), a3⟩
    rcases hc.2 with k | k
    · have k' : (ak.k = 3) = True := eq_true k
      simp only [l15held.v, l15held.t, sy, reduceIte, Nat.reduceAdd, Nat.reduceLeDiff, Nat.reduceLT, Nat.reduceEqDiff, Int.reduceEq, Int.reduceLT, Int.reduceLE, Int.reduceNe, ly, g1, hc1, k', als_eq, Nat.zero_lt_succ, Nat.reduceMul, a1]
    · have k' : (ak.k = 7) = True := eq_true k
      have k'' : (ak.k = 3) = False := eq_false (by omega)
      simp only [l15held.v, l15held.t, sy, reduceIte, Nat.reduceAdd, Nat.reduceLeDiff, Nat.reduceLT, Nat.reduceEqDiff, Int.reduceEq, Int.reduceLT, Int.reduceLE, Int.reduceNe, ly, g1, hc1, k', k'', als_eq, Nat.zero_lt_succ, Nat.reduceMul, a1]
  · rw [if_neg hc, List.append_nil]
    refine ⟨u, s', ?_, g2, g3⟩
    rcases Classical.propComplete (a.k = 1) with q1 | q1
    · have k' : (ak.k = 3) = False := eq_false fun g => hc ⟨of_eq_true q1, .inl g⟩
      have k'' : (ak.k = 7) = False := eq_false fun g => hc ⟨of_eq_true q1, .inr g⟩
      simp only [l15held.v, l15held.t, sy, reduceIte, Nat.reduceAdd, Nat.reduceLeDiff, Nat.reduceLT, Nat.reduceEqDiff, Int.reduceEq, Int.reduceLT, Int.reduceLE, Int.reduceNe, ly, g1, q1, k', k'']
    · simp only [l15held.v, l15held.t, sy, reduceIte, Nat.reduceAdd, Nat.reduceLeDiff, Nat.reduceLT, Nat.reduceEqDiff, Int.reduceEq, Int.reduceLT, Int.reduceLE, Int.reduceNe, ly, g1, q1]
end Go.Proofs.YteafgjpbfhjbjaaGreat.Sp
