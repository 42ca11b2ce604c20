/-
  Answers and packets: which may be, which are the same.
-/
import Derived.Test.YteapmnolmfickaaMsgD
set_option linter.unusedSimpArgs false
set_option linter.unusedVariables false
set_option maxRecDepth 100000
set_option maxHeartbeats 4000000
namespace Go.Proofs.Yteapmnolmfickaa
open Go.Sim Go.Sim.Bt
attribute [local congr] bdc cndc itec gdc gdSc gdUc

/-- What an answer's value is: its bytes, and how many. -/
structure VB (s : St) (v : Value) (x : ByteArray) (n : Nat) : Prop where
  bx : bx v = some [v]
  str : b2s s v = some (.string x)
  len : lenL v = some (.int .i64 (n : Int))
theorem VB.nil (s : St) : VB s nilB noB 0 := ⟨rfl, rfl, rfl⟩
def sameN (a b : Ans) (x y : ByteArray) : Prop := a.k = b.k ∧ a.f = b.f ∧ a.l = b.l ∧ a.r = b.r ∧ x = y
open Classical in
theorem psameN (a b : Ans) {x y : ByteArray} {n m : Nat} (s : St) (ha : VB s a.v x n) (hb : VB s b.v y m) : msg_SameAnswer.r (.agg ⟨a.cs⟩) (.agg ⟨b.cs⟩) s = some (.bool (decide (sameN a b x y))) := by
  have e1 := eqR a.l b.l
  have e2 := eqR a.r b.r
  obtain ⟨v1, v2, _⟩ := ha
  obtain ⟨w1, w2, _⟩ := hb
  simp only [Rf.cs] at e1 e2
  by_cases h0 : a.k = b.k
  · by_cases h1 : a.f = b.f
    · by_cases h2 : a.l = b.l
      · rw [decide_eq_true h2] at e1
        by_cases h3 : a.r = b.r
        · rw [decide_eq_true h3] at e2
          by_cases h4 : x = y
          · rw [decide_eq_true (show sameN a b x y from ⟨h0, h1, h2, h3, h4⟩)]
            simp only [msg_SameAnswer.r, msg_SameAnswer.t, Ans.cs, Rf.cs, v1, v2, w1, w2, bytes_Equal.r, bytes_Equal.t, sy, reduceIte, Nat.reduceAdd, Nat.reduceLeDiff, Nat.reduceLT, Nat.reduceEqDiff, Int.reduceEq, Int.reduceLT, Int.reduceLE, Int.reduceNe, ly, eq_true h0, eq_true h1, e1, e2, eq_true h4]
          · rw [decide_eq_false (show ¬ sameN a b x y from fun e => h4 e.2.2.2.2)]
            simp only [msg_SameAnswer.r, msg_SameAnswer.t, Ans.cs, Rf.cs, v1, v2, w1, w2, bytes_Equal.r, bytes_Equal.t, sy, reduceIte, Nat.reduceAdd, Nat.reduceLeDiff, Nat.reduceLT, Nat.reduceEqDiff, Int.reduceEq, Int.reduceLT, Int.reduceLE, Int.reduceNe, ly, eq_true h0, eq_true h1, e1, e2, eq_false h4]
        · rw [decide_eq_false h3] at e2
          rw [decide_eq_false (show ¬ sameN a b x y from fun e => h3 e.2.2.2.1)]
          simp only [msg_SameAnswer.r, msg_SameAnswer.t, Ans.cs, Rf.cs, v1, v2, w1, w2, bytes_Equal.r, bytes_Equal.t, sy, reduceIte, Nat.reduceAdd, Nat.reduceLeDiff, Nat.reduceLT, Nat.reduceEqDiff, Int.reduceEq, Int.reduceLT, Int.reduceLE, Int.reduceNe, ly, eq_true h0, eq_true h1, e1, e2]
      · rw [decide_eq_false h2] at e1
        rw [decide_eq_false (show ¬ sameN a b x y from fun e => h2 e.2.2.1)]
        simp only [msg_SameAnswer.r, msg_SameAnswer.t, Ans.cs, Rf.cs, v1, v2, w1, w2, bytes_Equal.r, bytes_Equal.t, sy, reduceIte, Nat.reduceAdd, Nat.reduceLeDiff, Nat.reduceLT, Nat.reduceEqDiff, Int.reduceEq, Int.reduceLT, Int.reduceLE, Int.reduceNe, ly, eq_true h0, eq_true h1, e1]
    · rw [decide_eq_false (show ¬ sameN a b x y from fun e => h1 e.2.1)]
      simp only [msg_SameAnswer.r, msg_SameAnswer.t, Ans.cs, Rf.cs, v1, v2, w1, w2, bytes_Equal.r, bytes_Equal.t, sy, reduceIte, Nat.reduceAdd, Nat.reduceLeDiff, Nat.reduceLT, Nat.reduceEqDiff, Int.reduceEq, Int.reduceLT, Int.reduceLE, Int.reduceNe, ly, eq_true h0, eq_false h1]
  · rw [decide_eq_false (show ¬ sameN a b x y from fun e => h0 e.1)]
    simp only [msg_SameAnswer.r, msg_SameAnswer.t, Ans.cs, Rf.cs, v1, v2, w1, w2, bytes_Equal.r, bytes_Equal.t, sy, reduceIte, Nat.reduceAdd, Nat.reduceLeDiff, Nat.reduceLT, Nat.reduceEqDiff, Int.reduceEq, Int.reduceLT, Int.reduceLE, Int.reduceNe, ly, eq_false h0]
open Classical in
theorem rsameN (a b : Ans) {x y : ByteArray} {n m : Nat} (s : St) (ha : VB s a.v x n) (hb : VB s b.v y m) : leapfrogref04x_SameAnswer.r (.agg ⟨a.cs⟩) (.agg ⟨b.cs⟩) s = some (.bool (decide (sameN a b x y))) := by
  have e1 := eqR a.l b.l
  have e2 := eqR a.r b.r
  obtain ⟨v1, v2, _⟩ := ha
  obtain ⟨w1, w2, _⟩ := hb
  simp only [Rf.cs] at e1 e2
  by_cases h0 : a.k = b.k
  · by_cases h1 : a.f = b.f
    · by_cases h2 : a.l = b.l
      · rw [decide_eq_true h2] at e1
        by_cases h3 : a.r = b.r
        · rw [decide_eq_true h3] at e2
          by_cases h4 : x = y
          · rw [decide_eq_true (show sameN a b x y from ⟨h0, h1, h2, h3, h4⟩)]
            simp only [leapfrogref04x_SameAnswer.r, leapfrogref04x_SameAnswer.t, Ans.cs, Rf.cs, v1, v2, w1, w2, sy, reduceIte, Nat.reduceAdd, Nat.reduceLeDiff, Nat.reduceLT, Nat.reduceEqDiff, Int.reduceEq, Int.reduceLT, Int.reduceLE, Int.reduceNe, ly, eq_true h0, eq_true h1, e1, e2, eq_true h4]
          · rw [decide_eq_false (show ¬ sameN a b x y from fun e => h4 e.2.2.2.2)]
            simp only [leapfrogref04x_SameAnswer.r, leapfrogref04x_SameAnswer.t, Ans.cs, Rf.cs, v1, v2, w1, w2, sy, reduceIte, Nat.reduceAdd, Nat.reduceLeDiff, Nat.reduceLT, Nat.reduceEqDiff, Int.reduceEq, Int.reduceLT, Int.reduceLE, Int.reduceNe, ly, eq_true h0, eq_true h1, e1, e2, eq_false h4]
        · rw [decide_eq_false h3] at e2
          rw [decide_eq_false (show ¬ sameN a b x y from fun e => h3 e.2.2.2.1)]
          simp only [leapfrogref04x_SameAnswer.r, leapfrogref04x_SameAnswer.t, Ans.cs, Rf.cs, v1, v2, w1, w2, sy, reduceIte, Nat.reduceAdd, Nat.reduceLeDiff, Nat.reduceLT, Nat.reduceEqDiff, Int.reduceEq, Int.reduceLT, Int.reduceLE, Int.reduceNe, ly, eq_true h0, eq_true h1, e1, e2]
      · rw [decide_eq_false h2] at e1
        rw [decide_eq_false (show ¬ sameN a b x y from fun e => h2 e.2.2.1)]
        simp only [leapfrogref04x_SameAnswer.r, leapfrogref04x_SameAnswer.t, Ans.cs, Rf.cs, v1, v2, w1, w2, sy, reduceIte, Nat.reduceAdd, Nat.reduceLeDiff, Nat.reduceLT, Nat.reduceEqDiff, Int.reduceEq, Int.reduceLT, Int.reduceLE, Int.reduceNe, ly, eq_true h0, eq_true h1, e1]
    · rw [decide_eq_false (show ¬ sameN a b x y from fun e => h1 e.2.1)]
      simp only [leapfrogref04x_SameAnswer.r, leapfrogref04x_SameAnswer.t, Ans.cs, Rf.cs, v1, v2, w1, w2, sy, reduceIte, Nat.reduceAdd, Nat.reduceLeDiff, Nat.reduceLT, Nat.reduceEqDiff, Int.reduceEq, Int.reduceLT, Int.reduceLE, Int.reduceNe, ly, eq_true h0, eq_false h1]
  · rw [decide_eq_false (show ¬ sameN a b x y from fun e => h0 e.1)]
    simp only [leapfrogref04x_SameAnswer.r, leapfrogref04x_SameAnswer.t, Ans.cs, Rf.cs, v1, v2, w1, w2, sy, reduceIte, Nat.reduceAdd, Nat.reduceLeDiff, Nat.reduceLT, Nat.reduceEqDiff, Int.reduceEq, Int.reduceLT, Int.reduceLE, Int.reduceNe, ly, eq_false h0]

/-- May a reference stand beside? -/
def okS (r : Rf) : Prop := r = zR ∨ okRf r
open Classical in
theorem pside (r : Rf) (hb : 0 ≤ r.bt) (s : St) : msg_side.r (.agg ⟨r.cs⟩) s = some (.bool (decide (okS r))) := by
  have e1 := eqR r zR
  have e2 := chkM (mR r) rfl (Int.le_refl _) hb s
  simp only [Rf.cs, zR] at e1
  by_cases h1 : r = zR
  · rw [decide_eq_true h1] at e1
    rw [decide_eq_true (show okS r from .inl h1)]
    simp only [msg_side.r, msg_side.t, Rf.cs, sy, reduceIte, Nat.reduceAdd, Nat.reduceLeDiff, Nat.reduceLT, Nat.reduceEqDiff, Int.reduceEq, Int.reduceLT, Int.reduceLE, Int.reduceNe, ly, e1]
  · rw [decide_eq_false h1] at e1
    by_cases h2 : okRf r
    · rw [if_pos ((okM_R r).2 h2)] at e2
      rw [decide_eq_true (show okS r from .inr h2)]
      simp only [Fd.v, Fd.cs, mR, nilB] at e2
      simp only [msg_side.r, msg_side.t, Rf.cs, sy, reduceIte, Nat.reduceAdd, Nat.reduceLeDiff, Nat.reduceLT, Nat.reduceEqDiff, Int.reduceEq, Int.reduceLT, Int.reduceLE, Int.reduceNe, ly, e1, e2]
    · rw [if_neg (fun e => h2 ((okM_R r).1 e))] at e2
      rw [decide_eq_false (show ¬ okS r from fun e => e.elim h1 h2)]
      simp only [Fd.v, Fd.cs, mR, nilB] at e2
      simp only [msg_side.r, msg_side.t, Rf.cs, sy, reduceIte, Nat.reduceAdd, Nat.reduceLeDiff, Nat.reduceLT, Nat.reduceEqDiff, Int.reduceEq, Int.reduceLT, Int.reduceLE, Int.reduceNe, ly, e1, e2]
open Classical in
theorem rside (r : Rf) (hb : 0 ≤ r.bt) (s : St) : leapfrogref04x_side.r (.agg ⟨r.cs⟩) s = some (.bool (decide (okS r))) := by
  have e1 := eqR r zR
  have e2 := isRef_d r hb s
  simp only [Rf.cs, zR] at e1 e2
  by_cases h1 : r = zR
  · rw [decide_eq_true h1] at e1
    rw [decide_eq_true (show okS r from .inl h1)]
    simp only [leapfrogref04x_side.r, leapfrogref04x_side.t, Rf.cs, sy, reduceIte, Nat.reduceAdd, Nat.reduceLeDiff, Nat.reduceLT, Nat.reduceEqDiff, Int.reduceEq, Int.reduceLT, Int.reduceLE, Int.reduceNe, ly, e1]
  · rw [decide_eq_false h1] at e1
    by_cases h2 : okRf r
    · rw [decide_eq_true h2] at e2
      rw [decide_eq_true (show okS r from .inr h2)]
      simp only [leapfrogref04x_side.r, leapfrogref04x_side.t, Rf.cs, sy, reduceIte, Nat.reduceAdd, Nat.reduceLeDiff, Nat.reduceLT, Nat.reduceEqDiff, Int.reduceEq, Int.reduceLT, Int.reduceLE, Int.reduceNe, ly, e1, e2]
    · rw [decide_eq_false h2] at e2
      rw [decide_eq_false (show ¬ okS r from fun e => e.elim h1 h2)]
      simp only [leapfrogref04x_side.r, leapfrogref04x_side.t, Rf.cs, sy, reduceIte, Nat.reduceAdd, Nat.reduceLeDiff, Nat.reduceLT, Nat.reduceEqDiff, Int.reduceEq, Int.reduceLT, Int.reduceLE, Int.reduceNe, ly, e1, e2]
def zN (k : Int) : Ans := ⟨k, false, zR, zR, nilB⟩
/-- May an answer be? -/
def okN (a : Ans) (x : ByteArray) (n : Nat) : Prop := (a.k = 1 ∧ okS a.l ∧ okS a.r ∧ (n : Int) ≤ 1024) ∨ (a.k = 3 ∧ okS a.l ∧ okS a.r ∧ (n : Int) = 0) ∨ ((a.k = 2 ∨ a.k = 4) ∧ sameN a (zN a.k) x noB)
theorem okN1 {a : Ans} {x : ByteArray} {n : Nat} (h : a.k = 1) : okN a x n ↔ okS a.l ∧ okS a.r ∧ (n : Int) ≤ 1024 := by
  unfold okN
  constructor
  · rintro (e | e | e)
    · exact e.2
    · have := e.1; omega
    · have := e.1; omega
  · exact fun e => .inl ⟨h, e⟩
theorem okN3 {a : Ans} {x : ByteArray} {n : Nat} (h : a.k = 3) : okN a x n ↔ okS a.l ∧ okS a.r ∧ (n : Int) = 0 := by
  unfold okN
  constructor
  · rintro (e | e | e)
    · have := e.1; omega
    · exact e.2
    · have := e.1; omega
  · exact fun e => .inr (.inl ⟨h, e⟩)
open Classical in
theorem pcheckN (a : Ans) {x : ByteArray} {n : Nat} (s : St) (h : VB s a.v x n) (hl : 0 ≤ a.l.bt) (hr : 0 ≤ a.r.bt) : msg_CheckAnswer.r (.agg ⟨a.cs⟩) s = some (.int .i64 (if okN a x n then 0 else 40)) := by
  have e1 := pside a.l hl s
  have e2 := pside a.r hr s
  have e3 := psameN a (zN a.k) s h (VB.nil s)
  have v1 := h.bx
  have v3 := h.len
  simp only [Rf.cs] at e1 e2
  by_cases h1 : a.k = 1
  · by_cases g0 : okS a.l
    · rw [decide_eq_true g0] at e1
      by_cases g1 : okS a.r
      · rw [decide_eq_true g1] at e2
        by_cases g2 : (n : Int) ≤ 1024
        · rw [if_pos (show okN a x n from .inl ⟨h1, g0, g1, g2⟩)]
          simp only [msg_CheckAnswer.r, msg_CheckAnswer.t, Ans.cs, Rf.cs, v1, v3, sy, reduceIte, Nat.reduceAdd, Nat.reduceLeDiff, Nat.reduceLT, Nat.reduceEqDiff, Int.reduceEq, Int.reduceLT, Int.reduceLE, Int.reduceNe, ly, eq_true h1, e1, e2, eq_true g2, h1]
        · rw [if_neg (show ¬ okN a x n from fun e => g2 ((okN1 h1).1 e).2.2)]
          simp only [msg_CheckAnswer.r, msg_CheckAnswer.t, Ans.cs, Rf.cs, v1, v3, sy, reduceIte, Nat.reduceAdd, Nat.reduceLeDiff, Nat.reduceLT, Nat.reduceEqDiff, Int.reduceEq, Int.reduceLT, Int.reduceLE, Int.reduceNe, ly, e1, e2, eq_false g2, h1]
      · rw [decide_eq_false g1] at e2
        rw [if_neg (show ¬ okN a x n from fun e => g1 ((okN1 h1).1 e).2.1)]
        simp only [msg_CheckAnswer.r, msg_CheckAnswer.t, Ans.cs, Rf.cs, v1, v3, sy, reduceIte, Nat.reduceAdd, Nat.reduceLeDiff, Nat.reduceLT, Nat.reduceEqDiff, Int.reduceEq, Int.reduceLT, Int.reduceLE, Int.reduceNe, ly, e1, e2, h1]
    · rw [decide_eq_false g0] at e1
      rw [if_neg (show ¬ okN a x n from fun e => g0 ((okN1 h1).1 e).1)]
      simp only [msg_CheckAnswer.r, msg_CheckAnswer.t, Ans.cs, Rf.cs, v1, v3, sy, reduceIte, Nat.reduceAdd, Nat.reduceLeDiff, Nat.reduceLT, Nat.reduceEqDiff, Int.reduceEq, Int.reduceLT, Int.reduceLE, Int.reduceNe, ly, e1, h1]
  by_cases h3 : a.k = 3
  · by_cases g0 : okS a.l
    · rw [decide_eq_true g0] at e1
      by_cases g1 : okS a.r
      · rw [decide_eq_true g1] at e2
        by_cases g2 : (n : Int) = 0
        · rw [if_pos (show okN a x n from .inr (.inl ⟨h3, g0, g1, g2⟩))]
          simp only [msg_CheckAnswer.r, msg_CheckAnswer.t, Ans.cs, Rf.cs, v1, v3, sy, reduceIte, Nat.reduceAdd, Nat.reduceLeDiff, Nat.reduceLT, Nat.reduceEqDiff, Int.reduceEq, Int.reduceLT, Int.reduceLE, Int.reduceNe, ly, eq_true h3, e1, e2, eq_true g2, h3]
        · rw [if_neg (show ¬ okN a x n from fun e => g2 ((okN3 h3).1 e).2.2)]
          simp only [msg_CheckAnswer.r, msg_CheckAnswer.t, Ans.cs, Rf.cs, v1, v3, sy, reduceIte, Nat.reduceAdd, Nat.reduceLeDiff, Nat.reduceLT, Nat.reduceEqDiff, Int.reduceEq, Int.reduceLT, Int.reduceLE, Int.reduceNe, ly, e1, e2, eq_false g2, h3]
      · rw [decide_eq_false g1] at e2
        rw [if_neg (show ¬ okN a x n from fun e => g1 ((okN3 h3).1 e).2.1)]
        simp only [msg_CheckAnswer.r, msg_CheckAnswer.t, Ans.cs, Rf.cs, v1, v3, sy, reduceIte, Nat.reduceAdd, Nat.reduceLeDiff, Nat.reduceLT, Nat.reduceEqDiff, Int.reduceEq, Int.reduceLT, Int.reduceLE, Int.reduceNe, ly, e1, e2, h3]
    · rw [decide_eq_false g0] at e1
      rw [if_neg (show ¬ okN a x n from fun e => g0 ((okN3 h3).1 e).1)]
      simp only [msg_CheckAnswer.r, msg_CheckAnswer.t, Ans.cs, Rf.cs, v1, v3, sy, reduceIte, Nat.reduceAdd, Nat.reduceLeDiff, Nat.reduceLT, Nat.reduceEqDiff, Int.reduceEq, Int.reduceLT, Int.reduceLE, Int.reduceNe, ly, e1, h3]
  by_cases h24 : a.k = 2 ∨ a.k = 4
  · by_cases g : sameN a (zN a.k) x noB
    · rw [if_pos (show okN a x n from .inr (.inr ⟨h24, g⟩))]
      rw [decide_eq_true g] at e3
      simp only [Ans.cs, Rf.cs, zN, zR, nilB] at e3
      rcases h24 with k2 | k4
      · simp only [k2] at e3
        simp only [msg_CheckAnswer.r, msg_CheckAnswer.t, Ans.cs, Rf.cs, v1, v3, sy, reduceIte, Nat.reduceAdd, Nat.reduceLeDiff, Nat.reduceLT, Nat.reduceEqDiff, Int.reduceEq, Int.reduceLT, Int.reduceLE, Int.reduceNe, ly, k2, e3]
      · simp only [k4] at e3
        simp only [msg_CheckAnswer.r, msg_CheckAnswer.t, Ans.cs, Rf.cs, v1, v3, sy, reduceIte, Nat.reduceAdd, Nat.reduceLeDiff, Nat.reduceLT, Nat.reduceEqDiff, Int.reduceEq, Int.reduceLT, Int.reduceLE, Int.reduceNe, ly, k4, e3]
    · rw [if_neg (show ¬ okN a x n from fun e => by
        rcases e with e | e | e
        · exact h1 e.1
        · exact h3 e.1
        · exact g e.2)]
      rw [decide_eq_false g] at e3
      simp only [Ans.cs, Rf.cs, zN, zR, nilB] at e3
      rcases h24 with k2 | k4
      · simp only [k2] at e3
        simp only [msg_CheckAnswer.r, msg_CheckAnswer.t, Ans.cs, Rf.cs, v1, v3, sy, reduceIte, Nat.reduceAdd, Nat.reduceLeDiff, Nat.reduceLT, Nat.reduceEqDiff, Int.reduceEq, Int.reduceLT, Int.reduceLE, Int.reduceNe, ly, k2, e3]
      · simp only [k4] at e3
        simp only [msg_CheckAnswer.r, msg_CheckAnswer.t, Ans.cs, Rf.cs, v1, v3, sy, reduceIte, Nat.reduceAdd, Nat.reduceLeDiff, Nat.reduceLT, Nat.reduceEqDiff, Int.reduceEq, Int.reduceLT, Int.reduceLE, Int.reduceNe, ly, k4, e3]
  · rw [if_neg (show ¬ okN a x n from fun e => by
      rcases e with e | e | e
      · exact h1 e.1
      · exact h3 e.1
      · exact h24 e.1)]
    have k2 : ¬ a.k = 2 := fun e => h24 (.inl e)
    have k4 : ¬ a.k = 4 := fun e => h24 (.inr e)
    simp only [msg_CheckAnswer.r, msg_CheckAnswer.t, Ans.cs, Rf.cs, v1, v3, sy, reduceIte, Nat.reduceAdd, Nat.reduceLeDiff, Nat.reduceLT, Nat.reduceEqDiff, Int.reduceEq, Int.reduceLT, Int.reduceLE, Int.reduceNe, ly, h1, h3, k2, k4]
open Classical in
theorem rcheckN (a : Ans) {x : ByteArray} {n : Nat} (s : St) (h : VB s a.v x n) (hl : 0 ≤ a.l.bt) (hr : 0 ≤ a.r.bt) : leapfrogref04x_CheckAnswer.r (.agg ⟨a.cs⟩) s = some (.int .i64 (if okN a x n then 0 else 40)) := by
  have e1 := rside a.l hl s
  have e2 := rside a.r hr s
  have e3 := rsameN a (zN a.k) s h (VB.nil s)
  have v1 := h.bx
  have v3 := h.len
  simp only [Rf.cs] at e1 e2
  by_cases h1 : a.k = 1
  · by_cases g0 : okS a.l
    · rw [decide_eq_true g0] at e1
      by_cases g1 : okS a.r
      · rw [decide_eq_true g1] at e2
        by_cases g2 : (n : Int) ≤ 1024
        · rw [if_pos (show okN a x n from .inl ⟨h1, g0, g1, g2⟩)]
          simp only [leapfrogref04x_CheckAnswer.r, leapfrogref04x_CheckAnswer.t, Ans.cs, Rf.cs, v1, v3, sy, reduceIte, Nat.reduceAdd, Nat.reduceLeDiff, Nat.reduceLT, Nat.reduceEqDiff, Int.reduceEq, Int.reduceLT, Int.reduceLE, Int.reduceNe, ly, eq_true h1, e1, e2, eq_true g2, h1]
        · rw [if_neg (show ¬ okN a x n from fun e => g2 ((okN1 h1).1 e).2.2)]
          simp only [leapfrogref04x_CheckAnswer.r, leapfrogref04x_CheckAnswer.t, Ans.cs, Rf.cs, v1, v3, sy, reduceIte, Nat.reduceAdd, Nat.reduceLeDiff, Nat.reduceLT, Nat.reduceEqDiff, Int.reduceEq, Int.reduceLT, Int.reduceLE, Int.reduceNe, ly, e1, e2, eq_false g2, h1]
      · rw [decide_eq_false g1] at e2
        rw [if_neg (show ¬ okN a x n from fun e => g1 ((okN1 h1).1 e).2.1)]
        simp only [leapfrogref04x_CheckAnswer.r, leapfrogref04x_CheckAnswer.t, Ans.cs, Rf.cs, v1, v3, sy, reduceIte, Nat.reduceAdd, Nat.reduceLeDiff, Nat.reduceLT, Nat.reduceEqDiff, Int.reduceEq, Int.reduceLT, Int.reduceLE, Int.reduceNe, ly, e1, e2, h1]
    · rw [decide_eq_false g0] at e1
      rw [if_neg (show ¬ okN a x n from fun e => g0 ((okN1 h1).1 e).1)]
      simp only [leapfrogref04x_CheckAnswer.r, leapfrogref04x_CheckAnswer.t, Ans.cs, Rf.cs, v1, v3, sy, reduceIte, Nat.reduceAdd, Nat.reduceLeDiff, Nat.reduceLT, Nat.reduceEqDiff, Int.reduceEq, Int.reduceLT, Int.reduceLE, Int.reduceNe, ly, e1, h1]
  by_cases h3 : a.k = 3
  · by_cases g0 : okS a.l
    · rw [decide_eq_true g0] at e1
      by_cases g1 : okS a.r
      · rw [decide_eq_true g1] at e2
        by_cases g2 : (n : Int) = 0
        · rw [if_pos (show okN a x n from .inr (.inl ⟨h3, g0, g1, g2⟩))]
          simp only [leapfrogref04x_CheckAnswer.r, leapfrogref04x_CheckAnswer.t, Ans.cs, Rf.cs, v1, v3, sy, reduceIte, Nat.reduceAdd, Nat.reduceLeDiff, Nat.reduceLT, Nat.reduceEqDiff, Int.reduceEq, Int.reduceLT, Int.reduceLE, Int.reduceNe, ly, eq_true h3, e1, e2, eq_true g2, h3]
        · rw [if_neg (show ¬ okN a x n from fun e => g2 ((okN3 h3).1 e).2.2)]
          simp only [leapfrogref04x_CheckAnswer.r, leapfrogref04x_CheckAnswer.t, Ans.cs, Rf.cs, v1, v3, sy, reduceIte, Nat.reduceAdd, Nat.reduceLeDiff, Nat.reduceLT, Nat.reduceEqDiff, Int.reduceEq, Int.reduceLT, Int.reduceLE, Int.reduceNe, ly, e1, e2, eq_false g2, h3]
      · rw [decide_eq_false g1] at e2
        rw [if_neg (show ¬ okN a x n from fun e => g1 ((okN3 h3).1 e).2.1)]
        simp only [leapfrogref04x_CheckAnswer.r, leapfrogref04x_CheckAnswer.t, Ans.cs, Rf.cs, v1, v3, sy, reduceIte, Nat.reduceAdd, Nat.reduceLeDiff, Nat.reduceLT, Nat.reduceEqDiff, Int.reduceEq, Int.reduceLT, Int.reduceLE, Int.reduceNe, ly, e1, e2, h3]
    · rw [decide_eq_false g0] at e1
      rw [if_neg (show ¬ okN a x n from fun e => g0 ((okN3 h3).1 e).1)]
      simp only [leapfrogref04x_CheckAnswer.r, leapfrogref04x_CheckAnswer.t, Ans.cs, Rf.cs, v1, v3, sy, reduceIte, Nat.reduceAdd, Nat.reduceLeDiff, Nat.reduceLT, Nat.reduceEqDiff, Int.reduceEq, Int.reduceLT, Int.reduceLE, Int.reduceNe, ly, e1, h3]
  by_cases h24 : a.k = 2 ∨ a.k = 4
  · by_cases g : sameN a (zN a.k) x noB
    · rw [if_pos (show okN a x n from .inr (.inr ⟨h24, g⟩))]
      rw [decide_eq_true g] at e3
      simp only [Ans.cs, Rf.cs, zN, zR, nilB] at e3
      rcases h24 with k2 | k4
      · simp only [k2] at e3
        simp only [leapfrogref04x_CheckAnswer.r, leapfrogref04x_CheckAnswer.t, Ans.cs, Rf.cs, v1, v3, sy, reduceIte, Nat.reduceAdd, Nat.reduceLeDiff, Nat.reduceLT, Nat.reduceEqDiff, Int.reduceEq, Int.reduceLT, Int.reduceLE, Int.reduceNe, ly, k2, e3]
      · simp only [k4] at e3
        simp only [leapfrogref04x_CheckAnswer.r, leapfrogref04x_CheckAnswer.t, Ans.cs, Rf.cs, v1, v3, sy, reduceIte, Nat.reduceAdd, Nat.reduceLeDiff, Nat.reduceLT, Nat.reduceEqDiff, Int.reduceEq, Int.reduceLT, Int.reduceLE, Int.reduceNe, ly, k4, e3]
    · rw [if_neg (show ¬ okN a x n from fun e => by
        rcases e with e | e | e
        · exact h1 e.1
        · exact h3 e.1
        · exact g e.2)]
      rw [decide_eq_false g] at e3
      simp only [Ans.cs, Rf.cs, zN, zR, nilB] at e3
      rcases h24 with k2 | k4
      · simp only [k2] at e3
        simp only [leapfrogref04x_CheckAnswer.r, leapfrogref04x_CheckAnswer.t, Ans.cs, Rf.cs, v1, v3, sy, reduceIte, Nat.reduceAdd, Nat.reduceLeDiff, Nat.reduceLT, Nat.reduceEqDiff, Int.reduceEq, Int.reduceLT, Int.reduceLE, Int.reduceNe, ly, k2, e3]
      · simp only [k4] at e3
        simp only [leapfrogref04x_CheckAnswer.r, leapfrogref04x_CheckAnswer.t, Ans.cs, Rf.cs, v1, v3, sy, reduceIte, Nat.reduceAdd, Nat.reduceLeDiff, Nat.reduceLT, Nat.reduceEqDiff, Int.reduceEq, Int.reduceLT, Int.reduceLE, Int.reduceNe, ly, k4, e3]
  · rw [if_neg (show ¬ okN a x n from fun e => by
      rcases e with e | e | e
      · exact h1 e.1
      · exact h3 e.1
      · exact h24 e.1)]
    have k2 : ¬ a.k = 2 := fun e => h24 (.inl e)
    have k4 : ¬ a.k = 4 := fun e => h24 (.inr e)
    simp only [leapfrogref04x_CheckAnswer.r, leapfrogref04x_CheckAnswer.t, Ans.cs, Rf.cs, v1, v3, sy, reduceIte, Nat.reduceAdd, Nat.reduceLeDiff, Nat.reduceLT, Nat.reduceEqDiff, Int.reduceEq, Int.reduceLT, Int.reduceLE, Int.reduceNe, ly, h1, h3, k2, k4]

/-! ### Packets -/

structure Pk where
  rep : Bool
  fa : Bool
  fn : Int
  ta : Bool
  tn : Int
  id : Int
  ask : AskP
  ans : Ans
def Pk.cs (p : Pk) : List Value := [.bool p.rep, .bool p.fa, .int .i64 p.fn, .bool p.ta, .int .i64 p.tn, .int .i64 p.id] ++ aC p.ask ++ p.ans.cs
/-- The numbers of a packet are ones that the language has. -/
structure PkA (p : Pk) : Prop where
  wb : 0 ≤ p.ask.wb
  r : 0 ≤ p.ask.r.bt
  r2 : 0 ≤ p.ask.r2.bt
  l : 0 ≤ p.ans.l.bt
  ar : 0 ≤ p.ans.r.bt
def okPk (p : Pk) (x : ByteArray) (n : Nat) : Prop := (1 ≤ p.id ∧ p.id ≤ 4611686018427387904) ∧ ((p.rep = true ∧ p.ask = a0K 0 ∧ okN p.ans x n) ∨ (p.rep = false ∧ sameN p.ans (zN 0) x noB ∧ okA p.ask))
def sameK (p q : Pk) (x y : ByteArray) : Prop := p.rep = q.rep ∧ (p.fa = q.fa ∧ p.fn = q.fn) ∧ (p.ta = q.ta ∧ p.tn = q.tn) ∧ p.id = q.id ∧ p.ask = q.ask ∧ sameN p.ans q.ans x y
end Go.Proofs.Yteapmnolmfickaa
