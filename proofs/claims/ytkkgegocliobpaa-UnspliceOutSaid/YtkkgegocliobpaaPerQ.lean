/-
  Law 14: a reference's place.
-/
import Derived.Test.YtkkgegocliobpaaPerP
set_option linter.unusedSimpArgs false
set_option linter.unusedVariables false
set_option maxRecDepth 100000
set_option maxHeartbeats 2000000
namespace Go.Proofs.Ytkkgegocliobpaa
open Go.Sim Go.Sim.Bt
attribute [local congr] bdc cndc itec gdc gdSc gdUc

theorem OkR.id {R : List Rf} (h : OkR R) {j : Nat} {r : Rf} (hr : R[j]? = some r) : r.id = if j = 0 then 0 else if j + 1 = R.length then 1 else (j : Int) + 1 := by
  have hjl : j < R.length := (List.getElem?_eq_some_iff.1 hr).1
  by_cases h0 : j = 0
  · subst h0; rw [h.first] at hr; cases hr; rw [if_pos rfl]
  · rw [if_neg h0]
    by_cases h1 : j + 1 = R.length
    · have := h.last
      rw [show R.length - 1 = j by omega] at this
      rw [this] at hr
      cases hr
      rw [if_pos h1]
    · rw [if_neg h1]
      exact (h.inner j r (by omega) (by omega) hr).2.2.2
theorem OkR.inj {R : List Rf} (h : OkR R) {i j : Nat} {r q : Rf} (hi : R[i]? = some r) (hj : R[j]? = some q) (e : r.id = q.id) : i = j := by
  have h1 : i < R.length := (List.getElem?_eq_some_iff.1 hi).1
  have h2 : j < R.length := (List.getElem?_eq_some_iff.1 hj).1
  rw [h.id hi, h.id hj] at e
  split at e <;> split at e <;> (try split at e) <;> (try split at e) <;> omega
theorem sameF_ne {a b : Rf} (h : a.id ≠ b.id) : sameF a b = false := by unfold sameF; simp [h]
theorem find14_r {R : List Rf} (hR : OkR R) {rv : Value} {s : St} (hr : IsR s 5 rv (R.map Rf.cs)) {k : Nat} {r : Rf} (hk : R[k]? = some r) : leapfroglaw14x_find.r rv (.agg ⟨r.cs⟩) s = some (.int .i64 (k : Int)) := by
  have hkl : k < R.length := (List.getElem?_eq_some_iff.1 hk).1
  have h900 := hR.len
  have hlen := hr.len
  rw [List.length_map] at hlen
  have loop : iter (leapfroglaw14x_find.l2 std) BIG [rv, .int .i64 ((0 : Nat) : Int), .agg ⟨r.cs⟩] s = some ((1, [.int .i64 (k : Int)], s) : Cut) := by
    refine iter_rel (fun d xs s' => ∃ i : Nat, i + d = R.length ∧ i ≤ k ∧ s' = s ∧ xs = [rv, .int .i64 (i : Int), .agg ⟨r.cs⟩]) (fun y : Option Cut => y = some ((1, [.int .i64 (k : Int)], s) : Cut)) ?_ BIG R.length _ s (by unfold BIG; omega) ⟨0, by omega, by omega, rfl, rfl⟩
    rintro d xs s' rec ⟨i, hi, hik, rfl, rfl⟩ ih
    cases d with
    | zero => omega
    | succ d =>
      have e1 : (i : Int) < R.length := by omega
      have e5 : IntKind.i64.wrap ((i : Int) + 1) = ((i + 1 : Nat) : Int) := by rw [wrap64 (by omega) (by omega)]; omega
      obtain ⟨z, hz⟩ := get_some (l := R) (j := i) (by omega)
      obtain ⟨al, ro, a1, a2, a3⟩ := hr.at2 (rf_get hz)
      have eq := eqks_f z r
      simp only [Rf.cs] at eq
      by_cases h : i = k
      · subst h
        rw [hk] at hz
        cases hz
        rw [sameF_self] at eq
        simp only [leapfroglaw14x_find.l2, eqb_agg, sy, reduceIte, Nat.reduceAdd, Nat.reduceLeDiff, Nat.reduceLT, Nat.reduceEqDiff, Int.reduceEq, Int.reduceLT, Int.reduceLE, Int.reduceNe, ly, hlen, e1, a1, lda_row a2, a3, eq]
      · rw [sameF_ne (fun e => h (hR.inj hz hk e))] at eq
        have go := ih d [rv, .int .i64 ((i + 1 : Nat) : Int), .agg ⟨r.cs⟩] s' (by omega) ⟨i + 1, by omega, by omega, rfl, rfl⟩
        rw [← go]
        simp only [leapfroglaw14x_find.l2, eqb_agg, sy, reduceIte, Nat.reduceAdd, Nat.reduceLeDiff, Nat.reduceLT, Nat.reduceEqDiff, Int.reduceEq, Int.reduceLT, Int.reduceLE, Int.reduceNe, ly, hlen, e1, a1, lda_row a2, a3, eq, e5]
  rw [show ((0 : Nat) : Int) = 0 from rfl] at loop
  simp only [leapfroglaw14x_find.r, leapfroglaw14x_find.t, sy, reduceIte, Nat.reduceAdd, Nat.reduceLeDiff, Nat.reduceLT, Nat.reduceEqDiff, Int.reduceEq, Int.reduceLT, Int.reduceLE, Int.reduceNe, ly, loop]
end Go.Proofs.Ytkkgegocliobpaa
