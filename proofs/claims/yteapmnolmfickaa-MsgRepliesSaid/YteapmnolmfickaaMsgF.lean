/-
  Packets: which may be, which are the same; what is handed in.
-/
import Derived.Test.YteapmnolmfickaaMsgE
set_option linter.unusedSimpArgs false
set_option linter.unusedVariables false
set_option maxRecDepth 100000
set_option maxHeartbeats 4000000
namespace Go.Proofs.Yteapmnolmfickaa
open Go.Sim Go.Sim.Bt
attribute [local congr] bdc cndc itec gdc gdSc gdUc

open Classical in
theorem eqAd (b c : Bool) (x y : Int) : eqb [0, 1] true false (.agg ⟨[.bool b, .int .i64 x]⟩) (.agg ⟨[.bool c, .int .i64 y]⟩) = some (.bool (decide (b = c ∧ x = y))) := by
  rw [eqb_agg]
  have e0 : eqk 0 (.bool b) (.bool c) = some (decide (b = c)) := by cases b <;> cases c <;> rfl
  simp only [eqks_cons, eqks_nil, eqk1, e0, bds, Option.map_some]
  have : ∀ b c : Bool, b = c → some (Value.bool b) = some (Value.bool c) := fun _ _ h => by rw [h]
  apply this
  rw [Bool.eq_iff_iff]
  simp
open Classical in
theorem psameAsk (a b : AskP) (s : St) : msg_SameAsk.r (.agg ⟨aC a⟩) (.agg ⟨aC b⟩) s = some (.bool (decide (a = b))) := by
  have e := eqA a b
  simp only [aC] at e ⊢
  simp only [msg_SameAsk.r, msg_SameAsk.t, sy, reduceIte, Nat.reduceAdd, Nat.reduceLeDiff, Nat.reduceLT, Nat.reduceEqDiff, Int.reduceEq, Int.reduceLT, Int.reduceLE, Int.reduceNe, ly, e]
open Classical in
theorem rsameAsk (a b : AskP) (s : St) : leapfrogref04x_SameAsk.r (.agg ⟨aC a⟩) (.agg ⟨aC b⟩) s = some (.bool (decide (a = b))) := by
  have e := eqA a b
  simp only [aC] at e ⊢
  simp only [leapfrogref04x_SameAsk.r, leapfrogref04x_SameAsk.t, sy, reduceIte, Nat.reduceAdd, Nat.reduceLeDiff, Nat.reduceLT, Nat.reduceEqDiff, Int.reduceEq, Int.reduceLT, Int.reduceLE, Int.reduceNe, ly, e]
open Classical in
theorem psameK (p q : Pk) {x y : ByteArray} {n m : Nat} (s : St) (hp : VB s p.ans.v x n) (hq : VB s q.ans.v y m) : msg_Same.r (.agg ⟨p.cs⟩) (.agg ⟨q.cs⟩) s = some (.bool (decide (sameK p q x y))) := by
  have e1 := eqAd p.fa q.fa p.fn q.fn
  have e2 := eqAd p.ta q.ta p.tn q.tn
  have e3 := psameAsk p.ask q.ask s
  have e4 := psameN p.ans q.ans s hp hq
  simp only [aC] at e3
  simp only [Ans.cs, Rf.cs] at e4
  by_cases h0 : p.rep = q.rep
  · by_cases h1 : p.fa = q.fa ∧ p.fn = q.fn
    · rw [decide_eq_true h1] at e1
      by_cases h2 : p.ta = q.ta ∧ p.tn = q.tn
      · rw [decide_eq_true h2] at e2
        by_cases h3 : p.id = q.id
        · by_cases h4 : p.ask = q.ask
          · rw [decide_eq_true h4] at e3
            by_cases h5 : sameN p.ans q.ans x y
            · rw [decide_eq_true h5] at e4
              rw [decide_eq_true (show sameK p q x y from ⟨h0, h1, h2, h3, h4, h5⟩)]
              simp only [msg_Same.r, msg_Same.t, Pk.cs, aC, Ans.cs, Rf.cs, sy, reduceIte, Nat.reduceAdd, Nat.reduceLeDiff, Nat.reduceLT, Nat.reduceEqDiff, Int.reduceEq, Int.reduceLT, Int.reduceLE, Int.reduceNe, ly, eq_true h0, e1, e2, eq_true h3, e3, e4]
            · rw [decide_eq_false h5] at e4
              rw [decide_eq_false (show ¬ sameK p q x y from fun e => h5 e.2.2.2.2.2)]
              simp only [msg_Same.r, msg_Same.t, Pk.cs, aC, Ans.cs, Rf.cs, sy, reduceIte, Nat.reduceAdd, Nat.reduceLeDiff, Nat.reduceLT, Nat.reduceEqDiff, Int.reduceEq, Int.reduceLT, Int.reduceLE, Int.reduceNe, ly, eq_true h0, e1, e2, eq_true h3, e3, e4]
          · rw [decide_eq_false h4] at e3
            rw [decide_eq_false (show ¬ sameK p q x y from fun e => h4 e.2.2.2.2.1)]
            simp only [msg_Same.r, msg_Same.t, Pk.cs, aC, Ans.cs, Rf.cs, sy, reduceIte, Nat.reduceAdd, Nat.reduceLeDiff, Nat.reduceLT, Nat.reduceEqDiff, Int.reduceEq, Int.reduceLT, Int.reduceLE, Int.reduceNe, ly, eq_true h0, e1, e2, eq_true h3, e3]
        · rw [decide_eq_false (show ¬ sameK p q x y from fun e => h3 e.2.2.2.1)]
          simp only [msg_Same.r, msg_Same.t, Pk.cs, aC, Ans.cs, Rf.cs, sy, reduceIte, Nat.reduceAdd, Nat.reduceLeDiff, Nat.reduceLT, Nat.reduceEqDiff, Int.reduceEq, Int.reduceLT, Int.reduceLE, Int.reduceNe, ly, eq_true h0, e1, e2, eq_false h3]
      · rw [decide_eq_false h2] at e2
        rw [decide_eq_false (show ¬ sameK p q x y from fun e => h2 e.2.2.1)]
        simp only [msg_Same.r, msg_Same.t, Pk.cs, aC, Ans.cs, Rf.cs, sy, reduceIte, Nat.reduceAdd, Nat.reduceLeDiff, Nat.reduceLT, Nat.reduceEqDiff, Int.reduceEq, Int.reduceLT, Int.reduceLE, Int.reduceNe, ly, eq_true h0, e1, e2]
    · rw [decide_eq_false h1] at e1
      rw [decide_eq_false (show ¬ sameK p q x y from fun e => h1 e.2.1)]
      simp only [msg_Same.r, msg_Same.t, Pk.cs, aC, Ans.cs, Rf.cs, sy, reduceIte, Nat.reduceAdd, Nat.reduceLeDiff, Nat.reduceLT, Nat.reduceEqDiff, Int.reduceEq, Int.reduceLT, Int.reduceLE, Int.reduceNe, ly, eq_true h0, e1]
  · rw [decide_eq_false (show ¬ sameK p q x y from fun e => h0 e.1)]
    simp only [msg_Same.r, msg_Same.t, Pk.cs, aC, Ans.cs, Rf.cs, sy, reduceIte, Nat.reduceAdd, Nat.reduceLeDiff, Nat.reduceLT, Nat.reduceEqDiff, Int.reduceEq, Int.reduceLT, Int.reduceLE, Int.reduceNe, ly, eq_false h0]
open Classical in
theorem rsameK (p q : Pk) {x y : ByteArray} {n m : Nat} (s : St) (hp : VB s p.ans.v x n) (hq : VB s q.ans.v y m) : leapfrogref04x_Same.r (.agg ⟨p.cs⟩) (.agg ⟨q.cs⟩) s = some (.bool (decide (sameK p q x y))) := by
  have e1 := eqAd p.fa q.fa p.fn q.fn
  have e2 := eqAd p.ta q.ta p.tn q.tn
  have e3 := eqA p.ask q.ask
  have e4 := rsameN p.ans q.ans s hp hq
  simp only [aC] at e3
  simp only [Ans.cs, Rf.cs] at e4
  by_cases h0 : p.rep = q.rep
  · by_cases h1 : p.fa = q.fa ∧ p.fn = q.fn
    · rw [decide_eq_true h1] at e1
      by_cases h2 : p.ta = q.ta ∧ p.tn = q.tn
      · rw [decide_eq_true h2] at e2
        by_cases h3 : p.id = q.id
        · by_cases h4 : p.ask = q.ask
          · rw [decide_eq_true h4] at e3
            by_cases h5 : sameN p.ans q.ans x y
            · rw [decide_eq_true h5] at e4
              rw [decide_eq_true (show sameK p q x y from ⟨h0, h1, h2, h3, h4, h5⟩)]
              simp only [leapfrogref04x_Same.r, leapfrogref04x_Same.t, Pk.cs, aC, Ans.cs, Rf.cs, sy, reduceIte, Nat.reduceAdd, Nat.reduceLeDiff, Nat.reduceLT, Nat.reduceEqDiff, Int.reduceEq, Int.reduceLT, Int.reduceLE, Int.reduceNe, ly, eq_true h0, e1, e2, eq_true h3, e3, e4]
            · rw [decide_eq_false h5] at e4
              rw [decide_eq_false (show ¬ sameK p q x y from fun e => h5 e.2.2.2.2.2)]
              simp only [leapfrogref04x_Same.r, leapfrogref04x_Same.t, Pk.cs, aC, Ans.cs, Rf.cs, sy, reduceIte, Nat.reduceAdd, Nat.reduceLeDiff, Nat.reduceLT, Nat.reduceEqDiff, Int.reduceEq, Int.reduceLT, Int.reduceLE, Int.reduceNe, ly, eq_true h0, e1, e2, eq_true h3, e3, e4]
          · rw [decide_eq_false h4] at e3
            rw [decide_eq_false (show ¬ sameK p q x y from fun e => h4 e.2.2.2.2.1)]
            simp only [leapfrogref04x_Same.r, leapfrogref04x_Same.t, Pk.cs, aC, Ans.cs, Rf.cs, sy, reduceIte, Nat.reduceAdd, Nat.reduceLeDiff, Nat.reduceLT, Nat.reduceEqDiff, Int.reduceEq, Int.reduceLT, Int.reduceLE, Int.reduceNe, ly, eq_true h0, e1, e2, eq_true h3, e3]
        · rw [decide_eq_false (show ¬ sameK p q x y from fun e => h3 e.2.2.2.1)]
          simp only [leapfrogref04x_Same.r, leapfrogref04x_Same.t, Pk.cs, aC, Ans.cs, Rf.cs, sy, reduceIte, Nat.reduceAdd, Nat.reduceLeDiff, Nat.reduceLT, Nat.reduceEqDiff, Int.reduceEq, Int.reduceLT, Int.reduceLE, Int.reduceNe, ly, eq_true h0, e1, e2, eq_false h3]
      · rw [decide_eq_false h2] at e2
        rw [decide_eq_false (show ¬ sameK p q x y from fun e => h2 e.2.2.1)]
        simp only [leapfrogref04x_Same.r, leapfrogref04x_Same.t, Pk.cs, aC, Ans.cs, Rf.cs, sy, reduceIte, Nat.reduceAdd, Nat.reduceLeDiff, Nat.reduceLT, Nat.reduceEqDiff, Int.reduceEq, Int.reduceLT, Int.reduceLE, Int.reduceNe, ly, eq_true h0, e1, e2]
    · rw [decide_eq_false h1] at e1
      rw [decide_eq_false (show ¬ sameK p q x y from fun e => h1 e.2.1)]
      simp only [leapfrogref04x_Same.r, leapfrogref04x_Same.t, Pk.cs, aC, Ans.cs, Rf.cs, sy, reduceIte, Nat.reduceAdd, Nat.reduceLeDiff, Nat.reduceLT, Nat.reduceEqDiff, Int.reduceEq, Int.reduceLT, Int.reduceLE, Int.reduceNe, ly, eq_true h0, e1]
  · rw [decide_eq_false (show ¬ sameK p q x y from fun e => h0 e.1)]
    simp only [leapfrogref04x_Same.r, leapfrogref04x_Same.t, Pk.cs, aC, Ans.cs, Rf.cs, sy, reduceIte, Nat.reduceAdd, Nat.reduceLeDiff, Nat.reduceLT, Nat.reduceEqDiff, Int.reduceEq, Int.reduceLT, Int.reduceLE, Int.reduceNe, ly, eq_false h0]
open Classical in
theorem pcheckP (p : Pk) {x : ByteArray} {n : Nat} (s : St) (hf : Fresh s) (hA : PkA p) (hp : VB s p.ans.v x n) : msg_Check.r (.agg ⟨p.cs⟩) s = some (.int .i64 (if okPk p x n then 0 else 40)) := by
  have e1 := eqA p.ask (a0K 0)
  have e2 := psameN p.ans (zN 0) s hp (VB.nil s)
  have e3 := pcheckN p.ans s hp hA.l hA.ar
  have e4 := checkAsk_r p.ask hA.wb hA.r hA.r2 hf
  by_cases h0 : p.id < 1
  · rw [if_neg (show ¬ okPk p x n from fun e => by have := e.1.1; omega)]
    simp only [msg_Check.r, msg_Check.t, Pk.cs, aC, Ans.cs, Rf.cs, sy, reduceIte, Nat.reduceAdd, Nat.reduceLeDiff, Nat.reduceLT, Nat.reduceEqDiff, Int.reduceEq, Int.reduceLT, Int.reduceLE, Int.reduceNe, ly, h0]
  by_cases h1 : 4611686018427387904 < p.id
  · rw [if_neg (show ¬ okPk p x n from fun e => by have := e.1.2; omega)]
    simp only [msg_Check.r, msg_Check.t, Pk.cs, aC, Ans.cs, Rf.cs, sy, reduceIte, Nat.reduceAdd, Nat.reduceLeDiff, Nat.reduceLT, Nat.reduceEqDiff, Int.reduceEq, Int.reduceLT, Int.reduceLE, Int.reduceNe, ly, h0, h1]
  have hid : 1 ≤ p.id ∧ p.id ≤ 4611686018427387904 := by omega
  cases hr : p.rep
  · by_cases h2 : sameN p.ans (zN 0) x noB
    · rw [decide_eq_true h2] at e2
      by_cases h4 : okA p.ask
      · rw [if_pos (show okPk p x n from ⟨hid, .inr ⟨hr, h2, h4⟩⟩)]
        rw [if_pos h4] at e4
        simp only [aC, Ans.cs, Rf.cs, zN, zR, nilB] at e2 e4
        simp only [msg_Check.r, msg_Check.t, Pk.cs, aC, Ans.cs, Rf.cs, sy, reduceIte, Nat.reduceAdd, Nat.reduceLeDiff, Nat.reduceLT, Nat.reduceEqDiff, Int.reduceEq, Int.reduceLT, Int.reduceLE, Int.reduceNe, ly, h0, h1, hr, e2, e4]
      · rw [if_neg (show ¬ okPk p x n from fun e => e.2.elim (fun e => by rw [hr] at e; cases e.1) (fun e => h4 e.2.2))]
        rw [if_neg h4] at e4
        simp only [aC, Ans.cs, Rf.cs, zN, zR, nilB] at e2 e4
        simp only [msg_Check.r, msg_Check.t, Pk.cs, aC, Ans.cs, Rf.cs, sy, reduceIte, Nat.reduceAdd, Nat.reduceLeDiff, Nat.reduceLT, Nat.reduceEqDiff, Int.reduceEq, Int.reduceLT, Int.reduceLE, Int.reduceNe, ly, h0, h1, hr, e2, e4]
    · rw [decide_eq_false h2] at e2
      rw [if_neg (show ¬ okPk p x n from fun e => e.2.elim (fun e => by rw [hr] at e; cases e.1) (fun e => h2 e.2.1))]
      simp only [Ans.cs, Rf.cs, zN, zR, nilB] at e2
      simp only [msg_Check.r, msg_Check.t, Pk.cs, aC, Ans.cs, Rf.cs, sy, reduceIte, Nat.reduceAdd, Nat.reduceLeDiff, Nat.reduceLT, Nat.reduceEqDiff, Int.reduceEq, Int.reduceLT, Int.reduceLE, Int.reduceNe, ly, h0, h1, hr, e2]
  · by_cases h3 : p.ask = a0K 0
    · rw [decide_eq_true h3] at e1
      by_cases h5 : okN p.ans x n
      · rw [if_pos (show okPk p x n from ⟨hid, .inl ⟨hr, h3, h5⟩⟩)]
        rw [if_pos h5] at e3
        simp only [aC, Ans.cs, Rf.cs, a0K, zR] at e1 e3
        simp only [msg_Check.r, msg_Check.t, Pk.cs, aC, Ans.cs, Rf.cs, sy, reduceIte, Nat.reduceAdd, Nat.reduceLeDiff, Nat.reduceLT, Nat.reduceEqDiff, Int.reduceEq, Int.reduceLT, Int.reduceLE, Int.reduceNe, ly, h0, h1, hr, e1, e3]
      · rw [if_neg (show ¬ okPk p x n from fun e => e.2.elim (fun e => h5 e.2.2) (fun e => by rw [hr] at e; cases e.1))]
        rw [if_neg h5] at e3
        simp only [aC, Ans.cs, Rf.cs, a0K, zR] at e1 e3
        simp only [msg_Check.r, msg_Check.t, Pk.cs, aC, Ans.cs, Rf.cs, sy, reduceIte, Nat.reduceAdd, Nat.reduceLeDiff, Nat.reduceLT, Nat.reduceEqDiff, Int.reduceEq, Int.reduceLT, Int.reduceLE, Int.reduceNe, ly, h0, h1, hr, e1, e3]
    · rw [decide_eq_false h3] at e1
      rw [if_neg (show ¬ okPk p x n from fun e => e.2.elim (fun e => h3 e.2.1) (fun e => by rw [hr] at e; cases e.1))]
      simp only [aC, a0K, zR] at e1
      simp only [msg_Check.r, msg_Check.t, Pk.cs, aC, Ans.cs, Rf.cs, sy, reduceIte, Nat.reduceAdd, Nat.reduceLeDiff, Nat.reduceLT, Nat.reduceEqDiff, Int.reduceEq, Int.reduceLT, Int.reduceLE, Int.reduceNe, ly, h0, h1, hr, e1]
open Classical in
theorem rcheckP (p : Pk) {x : ByteArray} {n : Nat} (s : St) (hf : Fresh s) (hA : PkA p) (hp : VB s p.ans.v x n) : leapfrogref04x_Check.r (.agg ⟨p.cs⟩) s = some (.int .i64 (if okPk p x n then 0 else 40)) := by
  have e1 := neA p.ask (a0K 0)
  have e2 := rsameN p.ans (zN 0) s hp (VB.nil s)
  have e3 := rcheckN p.ans s hp hA.l hA.ar
  have e4 := rcheckAsk p.ask hA.wb hA.r hA.r2 s
  by_cases h0 : p.id < 1
  · rw [if_neg (show ¬ okPk p x n from fun e => by have := e.1.1; omega)]
    simp only [leapfrogref04x_Check.r, leapfrogref04x_Check.t, Pk.cs, aC, Ans.cs, Rf.cs, sy, reduceIte, Nat.reduceAdd, Nat.reduceLeDiff, Nat.reduceLT, Nat.reduceEqDiff, Int.reduceEq, Int.reduceLT, Int.reduceLE, Int.reduceNe, ly, h0]
  by_cases h1 : 4611686018427387904 < p.id
  · rw [if_neg (show ¬ okPk p x n from fun e => by have := e.1.2; omega)]
    simp only [leapfrogref04x_Check.r, leapfrogref04x_Check.t, Pk.cs, aC, Ans.cs, Rf.cs, sy, reduceIte, Nat.reduceAdd, Nat.reduceLeDiff, Nat.reduceLT, Nat.reduceEqDiff, Int.reduceEq, Int.reduceLT, Int.reduceLE, Int.reduceNe, ly, h0, h1]
  have hid : 1 ≤ p.id ∧ p.id ≤ 4611686018427387904 := by omega
  cases hr : p.rep
  · by_cases h2 : sameN p.ans (zN 0) x noB
    · rw [decide_eq_true h2] at e2
      by_cases h4 : okA p.ask
      · rw [if_pos (show okPk p x n from ⟨hid, .inr ⟨hr, h2, h4⟩⟩)]
        rw [if_pos h4] at e4
        simp only [aC, Ans.cs, Rf.cs, zN, zR, nilB] at e2 e4
        simp only [leapfrogref04x_Check.r, leapfrogref04x_Check.t, Pk.cs, aC, Ans.cs, Rf.cs, sy, reduceIte, Nat.reduceAdd, Nat.reduceLeDiff, Nat.reduceLT, Nat.reduceEqDiff, Int.reduceEq, Int.reduceLT, Int.reduceLE, Int.reduceNe, ly, h0, h1, hr, e2, e4]
      · rw [if_neg (show ¬ okPk p x n from fun e => e.2.elim (fun e => by rw [hr] at e; cases e.1) (fun e => h4 e.2.2))]
        rw [if_neg h4] at e4
        simp only [aC, Ans.cs, Rf.cs, zN, zR, nilB] at e2 e4
        simp only [leapfrogref04x_Check.r, leapfrogref04x_Check.t, Pk.cs, aC, Ans.cs, Rf.cs, sy, reduceIte, Nat.reduceAdd, Nat.reduceLeDiff, Nat.reduceLT, Nat.reduceEqDiff, Int.reduceEq, Int.reduceLT, Int.reduceLE, Int.reduceNe, ly, h0, h1, hr, e2, e4]
    · rw [decide_eq_false h2] at e2
      rw [if_neg (show ¬ okPk p x n from fun e => e.2.elim (fun e => by rw [hr] at e; cases e.1) (fun e => h2 e.2.1))]
      simp only [Ans.cs, Rf.cs, zN, zR, nilB] at e2
      simp only [leapfrogref04x_Check.r, leapfrogref04x_Check.t, Pk.cs, aC, Ans.cs, Rf.cs, sy, reduceIte, Nat.reduceAdd, Nat.reduceLeDiff, Nat.reduceLT, Nat.reduceEqDiff, Int.reduceEq, Int.reduceLT, Int.reduceLE, Int.reduceNe, ly, h0, h1, hr, e2]
  · by_cases h3 : p.ask = a0K 0
    · rw [decide_eq_false (fun e : p.ask ≠ a0K 0 => e h3)] at e1
      by_cases h5 : okN p.ans x n
      · rw [if_pos (show okPk p x n from ⟨hid, .inl ⟨hr, h3, h5⟩⟩)]
        rw [if_pos h5] at e3
        simp only [aC, Ans.cs, Rf.cs, a0K, zR] at e1 e3
        simp only [leapfrogref04x_Check.r, leapfrogref04x_Check.t, Pk.cs, aC, Ans.cs, Rf.cs, sy, reduceIte, Nat.reduceAdd, Nat.reduceLeDiff, Nat.reduceLT, Nat.reduceEqDiff, Int.reduceEq, Int.reduceLT, Int.reduceLE, Int.reduceNe, ly, h0, h1, hr, e1, e3]
      · rw [if_neg (show ¬ okPk p x n from fun e => e.2.elim (fun e => h5 e.2.2) (fun e => by rw [hr] at e; cases e.1))]
        rw [if_neg h5] at e3
        simp only [aC, Ans.cs, Rf.cs, a0K, zR] at e1 e3
        simp only [leapfrogref04x_Check.r, leapfrogref04x_Check.t, Pk.cs, aC, Ans.cs, Rf.cs, sy, reduceIte, Nat.reduceAdd, Nat.reduceLeDiff, Nat.reduceLT, Nat.reduceEqDiff, Int.reduceEq, Int.reduceLT, Int.reduceLE, Int.reduceNe, ly, h0, h1, hr, e1, e3]
    · rw [decide_eq_true (show p.ask ≠ a0K 0 from h3)] at e1
      rw [if_neg (show ¬ okPk p x n from fun e => e.2.elim (fun e => h3 e.2.1) (fun e => by rw [hr] at e; cases e.1))]
      simp only [aC, a0K, zR] at e1
      simp only [leapfrogref04x_Check.r, leapfrogref04x_Check.t, Pk.cs, aC, Ans.cs, Rf.cs, sy, reduceIte, Nat.reduceAdd, Nat.reduceLeDiff, Nat.reduceLT, Nat.reduceEqDiff, Int.reduceEq, Int.reduceLT, Int.reduceLE, Int.reduceNe, ly, h0, h1, hr, e1]

/-! ### What is handed in -/

theorem byt_vb {s : St} {v : Value} {l : List (List Value)} (h : Byt s v l) : ∃ x n, VB s v x n := by
  obtain ⟨bs, hb⟩ := h.ok
  exact ⟨_, _, h.bx, h.b2s bs hb, h.lenL⟩
theorem pk_arg {s : St} {r : List Value} (h : Leaf.Are s [.b, .b, .i .i64, .b, .i .i64, .i .i64, .i .i64, .i .i64, .i .u64, .i .i64, .i .i64, .i .u64, .i .i64, .i .u64, .i .i64, .i .i64, .i .u64, .i .i64, .i .u64, .i .i64, .i .i64, .i .i64, .b, .i .i64, .i .i64, .i .u64, .i .i64, .i .u64, .i .i64, .i .i64, .i .u64, .i .i64, .i .u64, .sl [.i .u8]] r) : ∃ p : Pk, r = p.cs ∧ PkA p ∧ ValIs s p.ans.v := by
  have e : ∀ v, Leaf.Is s (.sl [.i .u8]) v → ValIs s v := fun _ h => h
  obtain ⟨_, _, rfl, k1, _, _, rfl, k2, _, _, rfl, k3, _, _, rfl, k4, _, _, rfl, k5, _, _, rfl, k6, _, _, rfl, k7, _, _, rfl, k8, _, _, rfl, k9, _, _, rfl, k10, _, _, rfl, k11, _, _, rfl, k12, _, _, rfl, k13, _, _, rfl, k14, _, _, rfl, k15, _, _, rfl, k16, _, _, rfl, k17, _, _, rfl, k18, _, _, rfl, k19, _, _, rfl, k20, _, _, rfl, k21, _, _, rfl, k22, _, _, rfl, k23, _, _, rfl, k24, _, _, rfl, k25, _, _, rfl, k26, _, _, rfl, k27, _, _, rfl, k28, _, _, rfl, k29, _, _, rfl, k30, _, _, rfl, k31, _, _, rfl, k32, _, _, rfl, k33, v, _, rfl, hv, rfl⟩ := h
  simp only [Leaf.Is] at k1 k2 k3 k4 k5 k6 k7 k8 k9 k10 k11 k12 k13 k14 k15 k16 k17 k18 k19 k20 k21 k22 k23 k24 k25 k26 k27 k28 k29 k30 k31 k32 k33
  obtain ⟨a1, rfl⟩ := k1
  obtain ⟨a2, rfl⟩ := k2
  obtain ⟨a3, rfl, _⟩ := k3
  obtain ⟨a4, rfl⟩ := k4
  obtain ⟨a5, rfl, w5⟩ := k5
  obtain ⟨a6, rfl, w6⟩ := k6
  obtain ⟨a7, rfl, w7⟩ := k7
  obtain ⟨a8, rfl, w8⟩ := k8
  obtain ⟨a9, rfl, w9⟩ := k9
  obtain ⟨a10, rfl, w10⟩ := k10
  obtain ⟨a11, rfl, w11⟩ := k11
  obtain ⟨a12, rfl, w12⟩ := k12
  obtain ⟨a13, rfl, w13⟩ := k13
  obtain ⟨a14, rfl, w14⟩ := k14
  obtain ⟨a15, rfl, w15⟩ := k15
  obtain ⟨a16, rfl, w16⟩ := k16
  obtain ⟨a17, rfl, w17⟩ := k17
  obtain ⟨a18, rfl, w18⟩ := k18
  obtain ⟨a19, rfl, w19⟩ := k19
  obtain ⟨a20, rfl, w20⟩ := k20
  obtain ⟨a21, rfl, w21⟩ := k21
  obtain ⟨a22, rfl, w22⟩ := k22
  obtain ⟨a23, rfl⟩ := k23
  obtain ⟨a24, rfl, w24⟩ := k24
  obtain ⟨a25, rfl, w25⟩ := k25
  obtain ⟨a26, rfl, w26⟩ := k26
  obtain ⟨a27, rfl, w27⟩ := k27
  obtain ⟨a28, rfl, w28⟩ := k28
  obtain ⟨a29, rfl, w29⟩ := k29
  obtain ⟨a30, rfl, w30⟩ := k30
  obtain ⟨a31, rfl, w31⟩ := k31
  obtain ⟨a32, rfl, w32⟩ := k32
  obtain ⟨a33, rfl, w33⟩ := k33
  exact ⟨⟨a1, a2, a3, a4, a5, a6, ⟨a7, a8, a9, ⟨a10, a11, a12, a13, a14⟩, ⟨a15, a16, a17, a18, a19⟩, a20, a21⟩, ⟨a22, a23, ⟨a24, a25, a26, a27, a28⟩, ⟨a29, a30, a31, a32, a33⟩, v⟩⟩, rfl, ⟨(wf_u64 w9).1, (wf_u64 w14).1, (wf_u64 w19).1, (wf_u64 w28).1, (wf_u64 w33).1⟩, e _ hv⟩
/-- A packet with fewer bytes. -/
theorem light_r {s : St} (p : Pk) (hA : PkA p) (hv : ValIs s p.ans.v) : ∃ q : Pk, leapfroglaw04x_light.r (.agg ⟨p.cs⟩) s = some (.agg ⟨q.cs⟩) ∧ PkA q ∧ ∃ l, Byt s q.ans.v l ∧ l.length ≤ 3000 := by
  obtain ⟨l, hb⟩ := byt_val hv
  have hl := hb.lenL
  have hbx := hb.bx
  by_cases c : 3000 < l.length
  · obtain ⟨w, l', g1, g2, g3⟩ := byt_cut hv hl (k := 3000) (by omega)
    have c' : (3000 : Int) < (l.length : Int) := by omega
    have g1 : slc s 1 p.ans.v none (some (.int .i64 3000)) none = some w := g1
    have wbx := g2.bx
    refine ⟨{ p with ans := { p.ans with v := w } }, ?_, ⟨hA.wb, hA.r, hA.r2, hA.l, hA.ar⟩, l', g2, by omega⟩
    simp only [leapfroglaw04x_light.r, leapfroglaw04x_light.t, Pk.cs, aC, Ans.cs, Rf.cs, sy, reduceIte, Nat.reduceAdd, Nat.reduceLeDiff, Nat.reduceLT, Nat.reduceEqDiff, Int.reduceEq, Int.reduceLT, Int.reduceLE, Int.reduceNe, ly, hl, c', g1, wbx]
  · have c' : ¬ (3000 : Int) < (l.length : Int) := by omega
    refine ⟨p, ?_, hA, l, hb, by omega⟩
    simp only [leapfroglaw04x_light.r, leapfroglaw04x_light.t, Pk.cs, aC, Ans.cs, Rf.cs, sy, reduceIte, Nat.reduceAdd, Nat.reduceLeDiff, Nat.reduceLT, Nat.reduceEqDiff, Int.reduceEq, Int.reduceLT, Int.reduceLE, Int.reduceNe, ly, hl, c']
end Go.Proofs.Yteapmnolmfickaa
