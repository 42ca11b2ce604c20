/-
  Asks: which may be, by the reference.
-/
import Derived.Test.YteapmnolmfickaaPakB
import Derived.Test.YteapmnolmfickaaMachV
set_option linter.unusedSimpArgs false
set_option linter.unusedVariables false
set_option maxRecDepth 100000
set_option maxHeartbeats 4000000
namespace Go.Proofs.Yteapmnolmfickaa
open Go.Sim Go.Sim.Bt
attribute [local congr] bdc cndc itec gdc gdSc gdUc

def aC (a : AskP) : List Value :=
  [.int .i64 a.k, .int .i64 a.wl, .int .u64 a.wb, .int .i64 a.r.id, .int .i64 a.r.rk, .int .u64 a.r.n, .int .i64 a.r.ln, .int .u64 a.r.bt,
   .int .i64 a.r2.id, .int .i64 a.r2.rk, .int .u64 a.r2.n, .int .i64 a.r2.ln, .int .u64 a.r2.bt, .int .i64 a.oa, .int .i64 a.oo]
open Classical in
theorem eqR (r q : Rf) : eqb [1, 1, 1, 1, 1] true false (.agg ⟨r.cs⟩) (.agg ⟨q.cs⟩) = some (.bool (decide (r = q))) := by
  obtain ⟨r1, r2, r3, r4, r5⟩ := r
  obtain ⟨q1, q2, q3, q4, q5⟩ := q
  rw [eqb_agg]
  simp only [eqks_cons, eqks_nil, eqk1, bds, Option.map_some]
  have : ∀ b c : Bool, b = c → some (Value.bool b) = some (Value.bool c) := fun _ _ h => by rw [h]
  apply this
  rw [Bool.eq_iff_iff]
  simp
theorem eqksA (a b : AskP) : ∃ c : Bool, eqks [1, 1, 1, 1, 1, 1, 1, 1, 1, 1, 1, 1, 1, 1, 1] (aC a) (aC b) = some c ∧ (c = true ↔ a = b) := by
  obtain ⟨k, wl, wb, ⟨r1, r2, r3, r4, r5⟩, ⟨s1, s2, s3, s4, s5⟩, oa, oo⟩ := a
  obtain ⟨k', wl', wb', ⟨r1', r2', r3', r4', r5'⟩, ⟨s1', s2', s3', s4', s5'⟩, oa', oo'⟩ := b
  refine ⟨_, by simp only [aC, eqks_cons, eqks_nil, eqk1, bds]; rfl, ?_⟩
  simp [and_assoc]
open Classical in
theorem eqA (a b : AskP) : eqb [1, 1, 1, 1, 1, 1, 1, 1, 1, 1, 1, 1, 1, 1, 1] true false (.agg ⟨aC a⟩) (.agg ⟨aC b⟩) = some (.bool (decide (a = b))) := by
  obtain ⟨c, h1, h2⟩ := eqksA a b
  rw [eqb_agg, h1, Option.map_some]
  by_cases h : a = b
  · rw [decide_eq_true h, h2.2 h]
  · rw [decide_eq_false h]
    cases c
    · rfl
    · exact absurd (h2.1 rfl) h
open Classical in
theorem neA (a b : AskP) : eqb [1, 1, 1, 1, 1, 1, 1, 1, 1, 1, 1, 1, 1, 1, 1] true true (.agg ⟨aC a⟩) (.agg ⟨aC b⟩) = some (.bool (decide (a ≠ b))) := by
  obtain ⟨c, h1, h2⟩ := eqksA a b
  rw [neb_agg, h1, Option.map_some]
  by_cases h : a = b
  · rw [decide_eq_false (fun k => k h), h2.2 h]; rfl
  · rw [decide_eq_true h]
    cases c
    · rfl
    · exact absurd (h2.1 rfl) h

def okRf (r : Rf) : Prop := okK r.rk r.n ∧ okV r.ln r.bt
def onlyA (a : AskP) : AskP :=
  if a.k = 1 then ⟨a.k, a.wl, a.wb, zR, zR, 0, 0⟩
  else if a.k = 3 ∨ a.k = 4 ∨ a.k = 8 then ⟨a.k, a.wl, a.wb, zR, zR, a.oa, a.oo⟩
  else if a.k = 5 then ⟨a.k, a.wl, a.wb, a.r, zR, a.oa, a.oo⟩
  else if a.k = 6 then ⟨a.k, a.wl, a.wb, a.r, zR, 0, 0⟩
  else if a.k = 7 then a
  else ⟨a.k, 0, 0, zR, zR, 0, 0⟩
def hasR (k : Int) : Prop := k = 5 ∨ k = 6 ∨ k = 7
def hasW (k : Int) : Prop := k = 1 ∨ k = 3 ∨ k = 4 ∨ k = 5 ∨ k = 6 ∨ k = 7 ∨ k = 8
def okA (a : AskP) : Prop := (1 ≤ a.k ∧ a.k ≤ 10) ∧ a = onlyA a ∧ (hasW a.k → okV a.wl a.wb) ∧ (hasR a.k → okRf a.r) ∧ (a.k = 7 → okRf a.r2)
open Classical in
theorem isRef_d (r : Rf) (hb : 0 ≤ r.bt) (s : St) : leapfrogref04x_isRef.r (.agg ⟨r.cs⟩) s = some (.bool (decide (okRf r))) := by
  have h1 := isKey_r r.rk r.n s
  have h2 := rright_i r.ln r.bt hb s
  simp only [KV, VI] at h1 h2
  by_cases c1 : okK r.rk r.n
  · rw [decide_eq_true c1] at h1
    by_cases c2 : okV r.ln r.bt
    · rw [decide_eq_true c2] at h2
      rw [decide_eq_true (show okRf r from ⟨c1, c2⟩)]
      simp only [leapfrogref04x_isRef.r, leapfrogref04x_isRef.t, sy, reduceIte, Nat.reduceAdd, Nat.reduceLeDiff, Nat.reduceLT, Nat.reduceEqDiff, Int.reduceEq, Int.reduceLT, Int.reduceLE, Int.reduceNe, ly, h1, h2]
    · rw [decide_eq_false c2] at h2
      rw [decide_eq_false (show ¬ okRf r from fun e => c2 e.2)]
      simp only [leapfrogref04x_isRef.r, leapfrogref04x_isRef.t, sy, reduceIte, Nat.reduceAdd, Nat.reduceLeDiff, Nat.reduceLT, Nat.reduceEqDiff, Int.reduceEq, Int.reduceLT, Int.reduceLE, Int.reduceNe, ly, h1, h2]
  · rw [decide_eq_false c1] at h1
    rw [decide_eq_false (show ¬ okRf r from fun e => c1 e.1)]
    simp only [leapfrogref04x_isRef.r, leapfrogref04x_isRef.t, sy, reduceIte, Nat.reduceAdd, Nat.reduceLeDiff, Nat.reduceLT, Nat.reduceEqDiff, Int.reduceEq, Int.reduceLT, Int.reduceLE, Int.reduceNe, ly, h1]
theorem ronlyA (a : AskP) (s : St) : leapfrogref04x_only.r (.agg ⟨aC a⟩) s = some (.agg ⟨aC (onlyA a)⟩) := by
  obtain ⟨k, wl, wb, r, r2, oa, oo⟩ := a
  unfold onlyA
  by_cases h1 : k = 1
  · simp only [leapfrogref04x_only.r, leapfrogref04x_only.t, aC, zR, sy, reduceIte, Nat.reduceAdd, Nat.reduceLeDiff, Nat.reduceLT, Nat.reduceEqDiff, Int.reduceEq, Int.reduceLT, Int.reduceLE, Int.reduceNe, ly, h1]
  by_cases h3 : k = 3
  · simp only [leapfrogref04x_only.r, leapfrogref04x_only.t, aC, zR, sy, reduceIte, Nat.reduceAdd, Nat.reduceLeDiff, Nat.reduceLT, Nat.reduceEqDiff, Int.reduceEq, Int.reduceLT, Int.reduceLE, Int.reduceNe, ly, h3]
  by_cases h4 : k = 4
  · simp only [leapfrogref04x_only.r, leapfrogref04x_only.t, aC, zR, sy, reduceIte, Nat.reduceAdd, Nat.reduceLeDiff, Nat.reduceLT, Nat.reduceEqDiff, Int.reduceEq, Int.reduceLT, Int.reduceLE, Int.reduceNe, ly, h4]
  by_cases h8 : k = 8
  · simp only [leapfrogref04x_only.r, leapfrogref04x_only.t, aC, zR, sy, reduceIte, Nat.reduceAdd, Nat.reduceLeDiff, Nat.reduceLT, Nat.reduceEqDiff, Int.reduceEq, Int.reduceLT, Int.reduceLE, Int.reduceNe, ly, h8]
  by_cases h5 : k = 5
  · simp only [leapfrogref04x_only.r, leapfrogref04x_only.t, leapfrogref04x_only.t.p1, aC, zR, sy, reduceIte, Nat.reduceAdd, Nat.reduceLeDiff, Nat.reduceLT, Nat.reduceEqDiff, Int.reduceEq, Int.reduceLT, Int.reduceLE, Int.reduceNe, ly, h5]
  by_cases h6 : k = 6
  · simp only [leapfrogref04x_only.r, leapfrogref04x_only.t, leapfrogref04x_only.t.p1, aC, zR, sy, reduceIte, Nat.reduceAdd, Nat.reduceLeDiff, Nat.reduceLT, Nat.reduceEqDiff, Int.reduceEq, Int.reduceLT, Int.reduceLE, Int.reduceNe, ly, h6]
  by_cases h7 : k = 7
  · simp only [leapfrogref04x_only.r, leapfrogref04x_only.t, leapfrogref04x_only.t.p1, aC, zR, sy, reduceIte, Nat.reduceAdd, Nat.reduceLeDiff, Nat.reduceLT, Nat.reduceEqDiff, Int.reduceEq, Int.reduceLT, Int.reduceLE, Int.reduceNe, ly, h7]
  simp only [leapfrogref04x_only.r, leapfrogref04x_only.t, leapfrogref04x_only.t.p1, aC, zR, sy, reduceIte, Nat.reduceAdd, Nat.reduceLeDiff, Nat.reduceLT, Nat.reduceEqDiff, Int.reduceEq, Int.reduceLT, Int.reduceLE, Int.reduceNe, ly, h1, h3, h4, h5, h6, h7, h8]
theorem rhas_r (k : Int) (s : St) : ∃ w x y z, leapfrogref04x_has.r (.int .i64 k) s = some (.tuple ⟨[.bool w, .bool x, .bool y, .bool z]⟩) := by
  by_cases h1 : k = 1
  · exact ⟨true, false, false, false, by simp only [leapfrogref04x_has.r, leapfrogref04x_has.t, sy, reduceIte, Nat.reduceAdd, Nat.reduceLeDiff, Nat.reduceLT, Nat.reduceEqDiff, Int.reduceEq, Int.reduceLT, Int.reduceLE, Int.reduceNe, ly, h1]⟩
  by_cases h3 : k = 3
  · exact ⟨true, false, false, true, by simp only [leapfrogref04x_has.r, leapfrogref04x_has.t, sy, reduceIte, Nat.reduceAdd, Nat.reduceLeDiff, Nat.reduceLT, Nat.reduceEqDiff, Int.reduceEq, Int.reduceLT, Int.reduceLE, Int.reduceNe, ly, h3]⟩
  by_cases h4 : k = 4
  · exact ⟨true, false, false, true, by simp only [leapfrogref04x_has.r, leapfrogref04x_has.t, sy, reduceIte, Nat.reduceAdd, Nat.reduceLeDiff, Nat.reduceLT, Nat.reduceEqDiff, Int.reduceEq, Int.reduceLT, Int.reduceLE, Int.reduceNe, ly, h4]⟩
  by_cases h5 : k = 5
  · exact ⟨true, true, false, true, by simp only [leapfrogref04x_has.r, leapfrogref04x_has.t, sy, reduceIte, Nat.reduceAdd, Nat.reduceLeDiff, Nat.reduceLT, Nat.reduceEqDiff, Int.reduceEq, Int.reduceLT, Int.reduceLE, Int.reduceNe, ly, h5]⟩
  by_cases h6 : k = 6
  · exact ⟨true, true, false, false, by simp only [leapfrogref04x_has.r, leapfrogref04x_has.t, sy, reduceIte, Nat.reduceAdd, Nat.reduceLeDiff, Nat.reduceLT, Nat.reduceEqDiff, Int.reduceEq, Int.reduceLT, Int.reduceLE, Int.reduceNe, ly, h6]⟩
  by_cases h7 : k = 7
  · exact ⟨true, true, true, true, by simp only [leapfrogref04x_has.r, leapfrogref04x_has.t, sy, reduceIte, Nat.reduceAdd, Nat.reduceLeDiff, Nat.reduceLT, Nat.reduceEqDiff, Int.reduceEq, Int.reduceLT, Int.reduceLE, Int.reduceNe, ly, h7]⟩
  by_cases h8 : k = 8
  · exact ⟨true, false, false, true, by simp only [leapfrogref04x_has.r, leapfrogref04x_has.t, sy, reduceIte, Nat.reduceAdd, Nat.reduceLeDiff, Nat.reduceLT, Nat.reduceEqDiff, Int.reduceEq, Int.reduceLT, Int.reduceLE, Int.reduceNe, ly, h8]⟩
  exact ⟨false, false, false, false, by simp only [leapfrogref04x_has.r, leapfrogref04x_has.t, sy, reduceIte, Nat.reduceAdd, Nat.reduceLeDiff, Nat.reduceLT, Nat.reduceEqDiff, Int.reduceEq, Int.reduceLT, Int.reduceLE, Int.reduceNe, ly, h1, h3, h4, h5, h6, h7, h8]⟩
open Classical in
theorem rcheckAsk (a : AskP) (hw : 0 ≤ a.wb) (hr : 0 ≤ a.r.bt) (hr2 : 0 ≤ a.r2.bt) (s : St) : leapfrogref04x_CheckAsk.r (.agg ⟨aC a⟩) s = some (.int .i64 (if okA a then 0 else 40)) := by
  have ho := ronlyA a s
  have hv := rright_i a.wl a.wb hw s
  have h1 := isRef_d a.r hr s
  have h2 := isRef_d a.r2 hr2 s
  have he := neA a (onlyA a)
  simp only [VI] at hv
  by_cases k1 : 1 ≤ a.k
  · by_cases k2 : a.k ≤ 10
    · by_cases ho' : a = onlyA a
      · rw [decide_eq_false (fun e => e ho')] at he
        have hc : a.k = 1 ∨ a.k = 2 ∨ a.k = 3 ∨ a.k = 4 ∨ a.k = 5 ∨ a.k = 6 ∨ a.k = 7 ∨ a.k = 8 ∨ a.k = 9 ∨ a.k = 10 := by omega
        simp only [aC] at ho he ⊢
        rcases hc with c | c | c | c | c | c | c | c | c | c
        · simp only [c] at ho he
          by_cases g0 : okV a.wl a.wb
          · rw [decide_eq_true g0] at hv
            rw [if_pos (show okA a from ⟨⟨k1, k2⟩, ho', fun _ => g0, fun e => by unfold hasR at e; omega, fun e => by omega⟩)]
            simp only [leapfrogref04x_CheckAsk.r, leapfrogref04x_CheckAsk.t, leapfrogref04x_has.r, leapfrogref04x_has.t, c, ho, he, hv, sy, reduceIte, Nat.reduceAdd, Nat.reduceLeDiff, Nat.reduceLT, Nat.reduceEqDiff, Int.reduceEq, Int.reduceLT, Int.reduceLE, Int.reduceNe, ly]
          · rw [decide_eq_false g0] at hv
            rw [if_neg (show ¬ okA a from fun e => g0 (e.2.2.1 (by unfold hasW; omega)))]
            simp only [leapfrogref04x_CheckAsk.r, leapfrogref04x_CheckAsk.t, leapfrogref04x_has.r, leapfrogref04x_has.t, c, ho, he, hv, sy, reduceIte, Nat.reduceAdd, Nat.reduceLeDiff, Nat.reduceLT, Nat.reduceEqDiff, Int.reduceEq, Int.reduceLT, Int.reduceLE, Int.reduceNe, ly]
        · simp only [c] at ho he
          rw [if_pos (show okA a from ⟨⟨k1, k2⟩, ho', fun e => by unfold hasW at e; omega, fun e => by unfold hasR at e; omega, fun e => by omega⟩)]
          simp only [leapfrogref04x_CheckAsk.r, leapfrogref04x_CheckAsk.t, leapfrogref04x_has.r, leapfrogref04x_has.t, c, ho, he, sy, reduceIte, Nat.reduceAdd, Nat.reduceLeDiff, Nat.reduceLT, Nat.reduceEqDiff, Int.reduceEq, Int.reduceLT, Int.reduceLE, Int.reduceNe, ly]
        · simp only [c] at ho he
          by_cases g0 : okV a.wl a.wb
          · rw [decide_eq_true g0] at hv
            rw [if_pos (show okA a from ⟨⟨k1, k2⟩, ho', fun _ => g0, fun e => by unfold hasR at e; omega, fun e => by omega⟩)]
            simp only [leapfrogref04x_CheckAsk.r, leapfrogref04x_CheckAsk.t, leapfrogref04x_has.r, leapfrogref04x_has.t, c, ho, he, hv, sy, reduceIte, Nat.reduceAdd, Nat.reduceLeDiff, Nat.reduceLT, Nat.reduceEqDiff, Int.reduceEq, Int.reduceLT, Int.reduceLE, Int.reduceNe, ly]
          · rw [decide_eq_false g0] at hv
            rw [if_neg (show ¬ okA a from fun e => g0 (e.2.2.1 (by unfold hasW; omega)))]
            simp only [leapfrogref04x_CheckAsk.r, leapfrogref04x_CheckAsk.t, leapfrogref04x_has.r, leapfrogref04x_has.t, c, ho, he, hv, sy, reduceIte, Nat.reduceAdd, Nat.reduceLeDiff, Nat.reduceLT, Nat.reduceEqDiff, Int.reduceEq, Int.reduceLT, Int.reduceLE, Int.reduceNe, ly]
        · simp only [c] at ho he
          by_cases g0 : okV a.wl a.wb
          · rw [decide_eq_true g0] at hv
            rw [if_pos (show okA a from ⟨⟨k1, k2⟩, ho', fun _ => g0, fun e => by unfold hasR at e; omega, fun e => by omega⟩)]
            simp only [leapfrogref04x_CheckAsk.r, leapfrogref04x_CheckAsk.t, leapfrogref04x_has.r, leapfrogref04x_has.t, c, ho, he, hv, sy, reduceIte, Nat.reduceAdd, Nat.reduceLeDiff, Nat.reduceLT, Nat.reduceEqDiff, Int.reduceEq, Int.reduceLT, Int.reduceLE, Int.reduceNe, ly]
          · rw [decide_eq_false g0] at hv
            rw [if_neg (show ¬ okA a from fun e => g0 (e.2.2.1 (by unfold hasW; omega)))]
            simp only [leapfrogref04x_CheckAsk.r, leapfrogref04x_CheckAsk.t, leapfrogref04x_has.r, leapfrogref04x_has.t, c, ho, he, hv, sy, reduceIte, Nat.reduceAdd, Nat.reduceLeDiff, Nat.reduceLT, Nat.reduceEqDiff, Int.reduceEq, Int.reduceLT, Int.reduceLE, Int.reduceNe, ly]
        · simp only [c] at ho he
          by_cases g0 : okV a.wl a.wb
          · rw [decide_eq_true g0] at hv
            by_cases g1 : okRf a.r
            · rw [decide_eq_true g1] at h1
              rw [if_pos (show okA a from ⟨⟨k1, k2⟩, ho', fun _ => g0, fun _ => g1, fun e => by omega⟩)]
              simp only [leapfrogref04x_CheckAsk.r, leapfrogref04x_CheckAsk.t, leapfrogref04x_has.r, leapfrogref04x_has.t, c, ho, he, hv, h1, sy, reduceIte, Nat.reduceAdd, Nat.reduceLeDiff, Nat.reduceLT, Nat.reduceEqDiff, Int.reduceEq, Int.reduceLT, Int.reduceLE, Int.reduceNe, ly]
            · rw [decide_eq_false g1] at h1
              rw [if_neg (show ¬ okA a from fun e => g1 (e.2.2.2.1 (by unfold hasR; omega)))]
              simp only [leapfrogref04x_CheckAsk.r, leapfrogref04x_CheckAsk.t, leapfrogref04x_has.r, leapfrogref04x_has.t, c, ho, he, hv, h1, sy, reduceIte, Nat.reduceAdd, Nat.reduceLeDiff, Nat.reduceLT, Nat.reduceEqDiff, Int.reduceEq, Int.reduceLT, Int.reduceLE, Int.reduceNe, ly]
          · rw [decide_eq_false g0] at hv
            rw [if_neg (show ¬ okA a from fun e => g0 (e.2.2.1 (by unfold hasW; omega)))]
            simp only [leapfrogref04x_CheckAsk.r, leapfrogref04x_CheckAsk.t, leapfrogref04x_has.r, leapfrogref04x_has.t, c, ho, he, hv, sy, reduceIte, Nat.reduceAdd, Nat.reduceLeDiff, Nat.reduceLT, Nat.reduceEqDiff, Int.reduceEq, Int.reduceLT, Int.reduceLE, Int.reduceNe, ly]
        · simp only [c] at ho he
          by_cases g0 : okV a.wl a.wb
          · rw [decide_eq_true g0] at hv
            by_cases g1 : okRf a.r
            · rw [decide_eq_true g1] at h1
              rw [if_pos (show okA a from ⟨⟨k1, k2⟩, ho', fun _ => g0, fun _ => g1, fun e => by omega⟩)]
              simp only [leapfrogref04x_CheckAsk.r, leapfrogref04x_CheckAsk.t, leapfrogref04x_has.r, leapfrogref04x_has.t, c, ho, he, hv, h1, sy, reduceIte, Nat.reduceAdd, Nat.reduceLeDiff, Nat.reduceLT, Nat.reduceEqDiff, Int.reduceEq, Int.reduceLT, Int.reduceLE, Int.reduceNe, ly]
            · rw [decide_eq_false g1] at h1
              rw [if_neg (show ¬ okA a from fun e => g1 (e.2.2.2.1 (by unfold hasR; omega)))]
              simp only [leapfrogref04x_CheckAsk.r, leapfrogref04x_CheckAsk.t, leapfrogref04x_has.r, leapfrogref04x_has.t, c, ho, he, hv, h1, sy, reduceIte, Nat.reduceAdd, Nat.reduceLeDiff, Nat.reduceLT, Nat.reduceEqDiff, Int.reduceEq, Int.reduceLT, Int.reduceLE, Int.reduceNe, ly]
          · rw [decide_eq_false g0] at hv
            rw [if_neg (show ¬ okA a from fun e => g0 (e.2.2.1 (by unfold hasW; omega)))]
            simp only [leapfrogref04x_CheckAsk.r, leapfrogref04x_CheckAsk.t, leapfrogref04x_has.r, leapfrogref04x_has.t, c, ho, he, hv, sy, reduceIte, Nat.reduceAdd, Nat.reduceLeDiff, Nat.reduceLT, Nat.reduceEqDiff, Int.reduceEq, Int.reduceLT, Int.reduceLE, Int.reduceNe, ly]
        · simp only [c] at ho he
          by_cases g0 : okV a.wl a.wb
          · rw [decide_eq_true g0] at hv
            by_cases g1 : okRf a.r
            · rw [decide_eq_true g1] at h1
              by_cases g2 : okRf a.r2
              · rw [decide_eq_true g2] at h2
                rw [if_pos (show okA a from ⟨⟨k1, k2⟩, ho', fun _ => g0, fun _ => g1, fun _ => g2⟩)]
                simp only [leapfrogref04x_CheckAsk.r, leapfrogref04x_CheckAsk.t, leapfrogref04x_has.r, leapfrogref04x_has.t, c, ho, he, hv, h1, h2, sy, reduceIte, Nat.reduceAdd, Nat.reduceLeDiff, Nat.reduceLT, Nat.reduceEqDiff, Int.reduceEq, Int.reduceLT, Int.reduceLE, Int.reduceNe, ly]
              · rw [decide_eq_false g2] at h2
                rw [if_neg (show ¬ okA a from fun e => g2 (e.2.2.2.2 c))]
                simp only [leapfrogref04x_CheckAsk.r, leapfrogref04x_CheckAsk.t, leapfrogref04x_has.r, leapfrogref04x_has.t, c, ho, he, hv, h1, h2, sy, reduceIte, Nat.reduceAdd, Nat.reduceLeDiff, Nat.reduceLT, Nat.reduceEqDiff, Int.reduceEq, Int.reduceLT, Int.reduceLE, Int.reduceNe, ly]
            · rw [decide_eq_false g1] at h1
              rw [if_neg (show ¬ okA a from fun e => g1 (e.2.2.2.1 (by unfold hasR; omega)))]
              simp only [leapfrogref04x_CheckAsk.r, leapfrogref04x_CheckAsk.t, leapfrogref04x_has.r, leapfrogref04x_has.t, c, ho, he, hv, h1, sy, reduceIte, Nat.reduceAdd, Nat.reduceLeDiff, Nat.reduceLT, Nat.reduceEqDiff, Int.reduceEq, Int.reduceLT, Int.reduceLE, Int.reduceNe, ly]
          · rw [decide_eq_false g0] at hv
            rw [if_neg (show ¬ okA a from fun e => g0 (e.2.2.1 (by unfold hasW; omega)))]
            simp only [leapfrogref04x_CheckAsk.r, leapfrogref04x_CheckAsk.t, leapfrogref04x_has.r, leapfrogref04x_has.t, c, ho, he, hv, sy, reduceIte, Nat.reduceAdd, Nat.reduceLeDiff, Nat.reduceLT, Nat.reduceEqDiff, Int.reduceEq, Int.reduceLT, Int.reduceLE, Int.reduceNe, ly]
        · simp only [c] at ho he
          by_cases g0 : okV a.wl a.wb
          · rw [decide_eq_true g0] at hv
            rw [if_pos (show okA a from ⟨⟨k1, k2⟩, ho', fun _ => g0, fun e => by unfold hasR at e; omega, fun e => by omega⟩)]
            simp only [leapfrogref04x_CheckAsk.r, leapfrogref04x_CheckAsk.t, leapfrogref04x_has.r, leapfrogref04x_has.t, c, ho, he, hv, sy, reduceIte, Nat.reduceAdd, Nat.reduceLeDiff, Nat.reduceLT, Nat.reduceEqDiff, Int.reduceEq, Int.reduceLT, Int.reduceLE, Int.reduceNe, ly]
          · rw [decide_eq_false g0] at hv
            rw [if_neg (show ¬ okA a from fun e => g0 (e.2.2.1 (by unfold hasW; omega)))]
            simp only [leapfrogref04x_CheckAsk.r, leapfrogref04x_CheckAsk.t, leapfrogref04x_has.r, leapfrogref04x_has.t, c, ho, he, hv, sy, reduceIte, Nat.reduceAdd, Nat.reduceLeDiff, Nat.reduceLT, Nat.reduceEqDiff, Int.reduceEq, Int.reduceLT, Int.reduceLE, Int.reduceNe, ly]
        · simp only [c] at ho he
          rw [if_pos (show okA a from ⟨⟨k1, k2⟩, ho', fun e => by unfold hasW at e; omega, fun e => by unfold hasR at e; omega, fun e => by omega⟩)]
          simp only [leapfrogref04x_CheckAsk.r, leapfrogref04x_CheckAsk.t, leapfrogref04x_has.r, leapfrogref04x_has.t, c, ho, he, sy, reduceIte, Nat.reduceAdd, Nat.reduceLeDiff, Nat.reduceLT, Nat.reduceEqDiff, Int.reduceEq, Int.reduceLT, Int.reduceLE, Int.reduceNe, ly]
        · simp only [c] at ho he
          rw [if_pos (show okA a from ⟨⟨k1, k2⟩, ho', fun e => by unfold hasW at e; omega, fun e => by unfold hasR at e; omega, fun e => by omega⟩)]
          simp only [leapfrogref04x_CheckAsk.r, leapfrogref04x_CheckAsk.t, leapfrogref04x_has.r, leapfrogref04x_has.t, c, ho, he, sy, reduceIte, Nat.reduceAdd, Nat.reduceLeDiff, Nat.reduceLT, Nat.reduceEqDiff, Int.reduceEq, Int.reduceLT, Int.reduceLE, Int.reduceNe, ly]
      · rw [decide_eq_true ho'] at he
        rw [if_neg (show ¬ okA a from fun e => ho' e.2.1)]
        have j1 : ¬ a.k < 1 := by omega
        have j2 : ¬ (10 < a.k) := by omega
        have hh : ∃ w x y z, leapfrogref04x_has.r (.int .i64 a.k) s = some (.tuple ⟨[.bool w, .bool x, .bool y, .bool z]⟩) := rhas_r a.k s
        obtain ⟨w, x, y, z, hh⟩ := hh
        simp only [aC] at ho he ⊢
        simp only [leapfrogref04x_CheckAsk.r, leapfrogref04x_CheckAsk.t, hh, j1, j2, ho, he, sy, reduceIte, Nat.reduceAdd, Nat.reduceLeDiff, Nat.reduceLT, Nat.reduceEqDiff, Int.reduceEq, Int.reduceLT, Int.reduceLE, Int.reduceNe, ly]
    · rw [if_neg (show ¬ okA a from fun e => k2 e.1.2)]
      have j1 : ¬ a.k < 1 := by omega
      have j2 : 10 < a.k := by omega
      obtain ⟨w, x, y, z, hh⟩ := rhas_r a.k s
      simp only [aC]
      simp only [leapfrogref04x_CheckAsk.r, leapfrogref04x_CheckAsk.t, hh, j1, j2, sy, reduceIte, Nat.reduceAdd, Nat.reduceLeDiff, Nat.reduceLT, Nat.reduceEqDiff, Int.reduceEq, Int.reduceLT, Int.reduceLE, Int.reduceNe, ly]
  · rw [if_neg (show ¬ okA a from fun e => k1 e.1.1)]
    have j1 : a.k < 1 := by omega
    obtain ⟨w, x, y, z, hh⟩ := rhas_r a.k s
    simp only [aC]
    simp only [leapfrogref04x_CheckAsk.r, leapfrogref04x_CheckAsk.t, hh, j1, sy, reduceIte, Nat.reduceAdd, Nat.reduceLeDiff, Nat.reduceLT, Nat.reduceEqDiff, Int.reduceEq, Int.reduceLT, Int.reduceLE, Int.reduceNe, ly]
end Go.Proofs.Yteapmnolmfickaa
