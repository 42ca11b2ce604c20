/-
  The reference's fields; which fields may be, the program's way and the reference's.
-/
import Derived.Test.YteapmnolmfickaaPakA
set_option linter.unusedSimpArgs false
set_option linter.unusedVariables false
set_option maxRecDepth 100000
set_option maxHeartbeats 4000000
namespace Go.Proofs.Yteapmnolmfickaa
open Go.Sim Go.Sim.Bt
attribute [local congr] bdc cndc itec gdc gdSc gdUc
def noB : ByteArray := ⟨⟨[]⟩⟩
def ownB (f : Fd) (x : ByteArray) : ByteArray := if f.k = 4 then x else noB
def okF (f : Fd) (x : ByteArray) (n : Nat) : Prop :=
  isKd f.k ∧ sameP (onlyF f) f (ownB f x) x ∧ (f.k = 4 → n ≤ 65536) ∧ (f.k = 5 → okV f.vl f.vb) ∧ (f.k = 6 → okK f.kr f.kn) ∧ (f.k = 7 → okK f.rr f.rn ∧ okV f.rl f.rb)
theorem only_bx (f : Fd) (hb : bx f.b = some [f.b]) : bx (onlyF f).b = some [(onlyF f).b] := by
  unfold onlyF
  repeat' split
  all_goals first | exact hb | rfl
theorem only_b2s (f : Fd) {x : ByteArray} {s : St} (hx : b2s s f.b = some (.string x)) : b2s s (onlyF f).b = some (.string (ownB f x)) := by
  unfold onlyF ownB
  by_cases h4 : f.k = 4
  · have h1 : ¬ f.k = 1 := by omega
    have h2 : ¬ f.k = 2 := by omega
    have h3 : ¬ f.k = 3 := by omega
    rw [if_neg h1, if_neg h2, if_neg h3, if_pos h4, if_pos h4]; exact hx
  · rw [if_neg h4]
    repeat' split
    all_goals first | rfl | (exfalso; omega)
theorem kind_cases {k : Int} (h : isKd k) : k = 4 ∨ k = 5 ∨ k = 6 ∨ k = 7 ∨ (k ≠ 4 ∧ k ≠ 5 ∧ k ≠ 6 ∧ k ≠ 7) := by omega
open Classical in
theorem check_r (f : Fd) {x : ByteArray} {n : Nat} (s : St) (hb : bx f.b = some [f.b]) (hx : b2s s f.b = some (.string x)) (hl : lenL f.b = some (.int .i64 (n : Int))) (h5 : 0 ≤ f.vb) (h7 : 0 ≤ f.rb) :
    pack_Check.r f.v s = some (.int .i64 (if okF f x n then 0 else 30)) := by
  have ps := psame_r (onlyF f) f s (only_bx f hb) hb (only_b2s f hx) hx
  have po := only_r f hb s
  have hv := right_i f.vl f.vb h5 s
  have hrv := right_i f.rl f.rb h7 s
  have hk := kcheck_r f.kr f.kn s
  have hrk := kcheck_r f.rr f.rn s
  simp only [Fd.v, Fd.cs, VI, KV] at po ps hv hrv hk hrk
  by_cases h1 : isKd f.k
  · by_cases h2 : sameP (onlyF f) f (ownB f x) x
    · have d1 : decide (isKd f.k) = true := decide_eq_true h1
      have d2 : decide (sameP (onlyF f) f (ownB f x) x) = true := decide_eq_true h2
      rw [d1] at po
      rw [d2] at ps
      rcases kind_cases h1 with g | g | g | g | ⟨g4, g5, g6, g7⟩
      · have e4 : (f.k = 4) = True := eq_true (by omega)
        have e5 : (f.k = 5) = False := eq_false (by omega)
        have e6 : (f.k = 6) = False := eq_false (by omega)
        have e7 : (f.k = 7) = False := eq_false (by omega)
        by_cases h3 : (n : Int) ≤ 65536
        · have e : okF f x n := ⟨h1, h2, fun _ => by omega, fun e => by omega, fun e => by omega, fun e => by omega⟩
          rw [if_pos e]
          simp only [pack_Check.r, pack_Check.t, Fd.v, Fd.cs, VI, KV, po, ps, hl, sy, reduceIte, Nat.reduceAdd, Nat.reduceLeDiff, Nat.reduceLT, Nat.reduceEqDiff, Int.reduceEq, Int.reduceLT, Int.reduceLE, Int.reduceNe, ly, e4, e5, e6, e7, h3]
        · have e : ¬ okF f x n := fun e => h3 (by have := e.2.2.1 g; omega)
          rw [if_neg e]
          simp only [pack_Check.r, pack_Check.t, Fd.v, Fd.cs, VI, KV, po, ps, hl, sy, reduceIte, Nat.reduceAdd, Nat.reduceLeDiff, Nat.reduceLT, Nat.reduceEqDiff, Int.reduceEq, Int.reduceLT, Int.reduceLE, Int.reduceNe, ly, e4, e5, e6, e7, h3]
      · have e4 : (f.k = 4) = False := eq_false (by omega)
        have e5 : (f.k = 5) = True := eq_true (by omega)
        have e6 : (f.k = 6) = False := eq_false (by omega)
        have e7 : (f.k = 7) = False := eq_false (by omega)
        by_cases h3 : okV f.vl f.vb
        · have e : okF f x n := ⟨h1, h2, fun e => by omega, fun _ => h3, fun e => by omega, fun e => by omega⟩
          rw [if_pos e]
          rw [if_pos h3] at hv
          simp only [pack_Check.r, pack_Check.t, Fd.v, Fd.cs, VI, KV, po, ps, hv, sy, reduceIte, Nat.reduceAdd, Nat.reduceLeDiff, Nat.reduceLT, Nat.reduceEqDiff, Int.reduceEq, Int.reduceLT, Int.reduceLE, Int.reduceNe, ly, e4, e5, e6, e7]
        · have e : ¬ okF f x n := fun e => h3 (e.2.2.2.1 g)
          rw [if_neg e]
          rw [if_neg h3] at hv
          simp only [pack_Check.r, pack_Check.t, Fd.v, Fd.cs, VI, KV, po, ps, hv, sy, reduceIte, Nat.reduceAdd, Nat.reduceLeDiff, Nat.reduceLT, Nat.reduceEqDiff, Int.reduceEq, Int.reduceLT, Int.reduceLE, Int.reduceNe, ly, e4, e5, e6, e7]
      · have e4 : (f.k = 4) = False := eq_false (by omega)
        have e5 : (f.k = 5) = False := eq_false (by omega)
        have e6 : (f.k = 6) = True := eq_true (by omega)
        have e7 : (f.k = 7) = False := eq_false (by omega)
        by_cases h3 : okK f.kr f.kn
        · have e : okF f x n := ⟨h1, h2, fun e => by omega, fun e => by omega, fun _ => h3, fun e => by omega⟩
          rw [if_pos e]
          rw [if_pos h3] at hk
          simp only [pack_Check.r, pack_Check.t, Fd.v, Fd.cs, VI, KV, po, ps, hk, sy, reduceIte, Nat.reduceAdd, Nat.reduceLeDiff, Nat.reduceLT, Nat.reduceEqDiff, Int.reduceEq, Int.reduceLT, Int.reduceLE, Int.reduceNe, ly, e4, e5, e6, e7]
        · have e : ¬ okF f x n := fun e => h3 (e.2.2.2.2.1 g)
          rw [if_neg e]
          rw [if_neg h3] at hk
          simp only [pack_Check.r, pack_Check.t, Fd.v, Fd.cs, VI, KV, po, ps, hk, sy, reduceIte, Nat.reduceAdd, Nat.reduceLeDiff, Nat.reduceLT, Nat.reduceEqDiff, Int.reduceEq, Int.reduceLT, Int.reduceLE, Int.reduceNe, ly, e4, e5, e6, e7]
      · have e4 : (f.k = 4) = False := eq_false (by omega)
        have e5 : (f.k = 5) = False := eq_false (by omega)
        have e6 : (f.k = 6) = False := eq_false (by omega)
        have e7 : (f.k = 7) = True := eq_true (by omega)
        by_cases h3 : okK f.rr f.rn
        · rw [if_pos h3] at hrk
          by_cases h4 : okV f.rl f.rb
          · have e : okF f x n := ⟨h1, h2, fun e => by omega, fun e => by omega, fun e => by omega, fun _ => ⟨h3, h4⟩⟩
            rw [if_pos e]
            rw [if_pos h4] at hrv
            simp only [pack_Check.r, pack_Check.t, Fd.v, Fd.cs, VI, KV, po, ps, hrk, hrv, sy, reduceIte, Nat.reduceAdd, Nat.reduceLeDiff, Nat.reduceLT, Nat.reduceEqDiff, Int.reduceEq, Int.reduceLT, Int.reduceLE, Int.reduceNe, ly, e4, e5, e6, e7]
          · have e : ¬ okF f x n := fun e => h4 (e.2.2.2.2.2 g).2
            rw [if_neg e]
            rw [if_neg h4] at hrv
            simp only [pack_Check.r, pack_Check.t, Fd.v, Fd.cs, VI, KV, po, ps, hrk, hrv, sy, reduceIte, Nat.reduceAdd, Nat.reduceLeDiff, Nat.reduceLT, Nat.reduceEqDiff, Int.reduceEq, Int.reduceLT, Int.reduceLE, Int.reduceNe, ly, e4, e5, e6, e7]
        · have e : ¬ okF f x n := fun e => h3 (e.2.2.2.2.2 g).1
          rw [if_neg e]
          rw [if_neg h3] at hrk
          simp only [pack_Check.r, pack_Check.t, Fd.v, Fd.cs, VI, KV, po, ps, hrk, sy, reduceIte, Nat.reduceAdd, Nat.reduceLeDiff, Nat.reduceLT, Nat.reduceEqDiff, Int.reduceEq, Int.reduceLT, Int.reduceLE, Int.reduceNe, ly, e4, e5, e6, e7]
      · have e4 : (f.k = 4) = False := eq_false (by omega)
        have e5 : (f.k = 5) = False := eq_false (by omega)
        have e6 : (f.k = 6) = False := eq_false (by omega)
        have e7 : (f.k = 7) = False := eq_false (by omega)
        have e : okF f x n := ⟨h1, h2, fun e => absurd e g4, fun e => absurd e g5, fun e => absurd e g6, fun e => absurd e g7⟩
        rw [if_pos e]
        simp only [pack_Check.r, pack_Check.t, Fd.v, Fd.cs, VI, KV, po, ps, sy, reduceIte, Nat.reduceAdd, Nat.reduceLeDiff, Nat.reduceLT, Nat.reduceEqDiff, Int.reduceEq, Int.reduceLT, Int.reduceLE, Int.reduceNe, ly, e4, e5, e6, e7]
    · have e : ¬ okF f x n := fun e => h2 e.2.1
      rw [if_neg e]
      rw [decide_eq_true h1] at po
      rw [decide_eq_false h2] at ps
      simp only [pack_Check.r, pack_Check.t, Fd.v, Fd.cs, VI, KV, po, ps, sy, reduceIte, Nat.reduceAdd, Nat.reduceLeDiff, Nat.reduceLT, Nat.reduceEqDiff, Int.reduceEq, Int.reduceLT, Int.reduceLE, Int.reduceNe, ly]
  · have e : ¬ okF f x n := fun e => h1 e.1
    rw [if_neg e]
    rw [decide_eq_false h1] at po
    simp only [pack_Check.r, pack_Check.t, Fd.v, Fd.cs, VI, KV, po, sy, reduceIte, Nat.reduceAdd, Nat.reduceLeDiff, Nat.reduceLT, Nat.reduceEqDiff, Int.reduceEq, Int.reduceLT, Int.reduceLE, Int.reduceNe, ly]
end Go.Proofs.Yteapmnolmfickaa
