/-
  Keys that may be; vectors that begin another; both for any numbers.
-/
import Derived.Test.YteapmnolmfickaaUnsA
set_option linter.unusedSimpArgs false
set_option linter.unusedVariables false
set_option maxRecDepth 100000
namespace Go.Proofs.Yteapmnolmfickaa
open Go.Sim Go.Sim.Bt
attribute [local congr] bdc cndc itec gdc gdSc gdUc
def okK (r n:Int):Prop:=r=2∨((r=1∨r=3)∧n=0)
instance (r n:Int):Decidable (okK r n):=by unfold okK; infer_instance
theorem kcheck_r (r n:Int) (s:St):Q1.r (KV r n) s=some (.int .i64 (if okK r n then 0 else 20)):=by
  unfold okK
  by_cases h1:r=2
  · simp only [Q1.r,Q1.t,sy,reduceIte,Nat.reduceAdd,Nat.reduceLeDiff,Nat.reduceLT,Nat.reduceEqDiff,Int.reduceEq,Int.reduceLT,Int.reduceLE,Int.reduceNe,ly,h1]
  · by_cases h2:r=1
    · by_cases h4:n=0
      · simp only [Q1.r,Q1.t,sy,reduceIte,Nat.reduceAdd,Nat.reduceLeDiff,Nat.reduceLT,Nat.reduceEqDiff,Int.reduceEq,Int.reduceLT,Int.reduceLE,Int.reduceNe,ly,h1,h2,h4]
      · simp only [Q1.r,Q1.t,sy,reduceIte,Nat.reduceAdd,Nat.reduceLeDiff,Nat.reduceLT,Nat.reduceEqDiff,Int.reduceEq,Int.reduceLT,Int.reduceLE,Int.reduceNe,ly,h1,h2,h4]
    · by_cases h3:r=3
      · by_cases h4:n=0
        · simp only [Q1.r,Q1.t,sy,reduceIte,Nat.reduceAdd,Nat.reduceLeDiff,Nat.reduceLT,Nat.reduceEqDiff,Int.reduceEq,Int.reduceLT,Int.reduceLE,Int.reduceNe,ly,h1,h2,h3,h4]
        · simp only [Q1.r,Q1.t,sy,reduceIte,Nat.reduceAdd,Nat.reduceLeDiff,Nat.reduceLT,Nat.reduceEqDiff,Int.reduceEq,Int.reduceLT,Int.reduceLE,Int.reduceNe,ly,h1,h2,h3,h4]
      · simp only [Q1.r,Q1.t,sy,reduceIte,Nat.reduceAdd,Nat.reduceLeDiff,Nat.reduceLT,Nat.reduceEqDiff,Int.reduceEq,Int.reduceLT,Int.reduceLE,Int.reduceNe,ly,h1,h2,h3]
theorem isKey_r (r n:Int) (s:St):Q1o.r (KV r n) s=some (.bool (decide (okK r n))):=by
  unfold okK
  by_cases h1:r=2
  · simp only [Q1o.r,Q1o.t,sy,reduceIte,Nat.reduceAdd,Nat.reduceLeDiff,Nat.reduceLT,Nat.reduceEqDiff,Int.reduceEq,Int.reduceLT,Int.reduceLE,Int.reduceNe,ly,h1]
  · by_cases h2:r=1
    · by_cases h4:n=0
      · simp only [Q1o.r,Q1o.t,sy,reduceIte,Nat.reduceAdd,Nat.reduceLeDiff,Nat.reduceLT,Nat.reduceEqDiff,Int.reduceEq,Int.reduceLT,Int.reduceLE,Int.reduceNe,ly,h1,h2,h4]
      · simp only [Q1o.r,Q1o.t,sy,reduceIte,Nat.reduceAdd,Nat.reduceLeDiff,Nat.reduceLT,Nat.reduceEqDiff,Int.reduceEq,Int.reduceLT,Int.reduceLE,Int.reduceNe,ly,h1,h2,h4]
    · by_cases h3:r=3
      · by_cases h4:n=0
        · simp only [Q1o.r,Q1o.t,sy,reduceIte,Nat.reduceAdd,Nat.reduceLeDiff,Nat.reduceLT,Nat.reduceEqDiff,Int.reduceEq,Int.reduceLT,Int.reduceLE,Int.reduceNe,ly,h1,h2,h3,h4]
        · simp only [Q1o.r,Q1o.t,sy,reduceIte,Nat.reduceAdd,Nat.reduceLeDiff,Nat.reduceLT,Nat.reduceEqDiff,Int.reduceEq,Int.reduceLT,Int.reduceLE,Int.reduceNe,ly,h1,h2,h3,h4]
      · by_cases h4:n=0
        · simp only [Q1o.r,Q1o.t,sy,reduceIte,Nat.reduceAdd,Nat.reduceLeDiff,Nat.reduceLT,Nat.reduceEqDiff,Int.reduceEq,Int.reduceLT,Int.reduceLE,Int.reduceNe,ly,h1,h2,h3,h4]
        · simp only [Q1o.r,Q1o.t,sy,reduceIte,Nat.reduceAdd,Nat.reduceLeDiff,Nat.reduceLT,Nat.reduceEqDiff,Int.reduceEq,Int.reduceLT,Int.reduceLE,Int.reduceNe,ly,h1,h2,h3,h4]
open Classical in
theorem right_i (L B:Int) (hB:0≤B) (s:St):Q2w.r (VI L B) s=some (.int .i64 (if okV L B then 0 else 10)):=by
  by_cases h:okV L B
  · obtain ⟨n,b,rfl,rfl,h1,h2⟩:=id h
    rw [right_ok s h1 h2,if_pos h]
  · rw [right_no s h hB,if_neg h]
open Classical in
theorem rright_i (L B:Int) (hB:0≤B) (s:St):Q1l.r (VI L B) s=some (.bool (decide (okV L B))):=by
  by_cases h:okV L B
  · obtain ⟨n,b,rfl,rfl,h1,h2⟩:=id h
    rw [rright_ok s h1 h2,decide_eq_true h]
  · rw [rright_no s h hB,decide_eq_false h]
end Go.Proofs.Yteapmnolmfickaa
