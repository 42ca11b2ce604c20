/-
  Fields: a field with just its kind's part; two that are the same; which may be.
-/
import Derived.Test.YteapmnolmfickaaMachC
set_option linter.unusedSimpArgs false
set_option linter.unusedVariables false
set_option maxRecDepth 100000
set_option maxHeartbeats 4000000
namespace Go.Proofs.Yteapmnolmfickaa
open Go.Sim Go.Sim.Bt
attribute [local congr] bdc cndc itec gdc gdSc gdUc
structure Fd where
  k:Int
  n:Int
  i:Int
  t:Bool
  b:Value
  vl:Int
  vb:Int
  kr:Int
  kn:Int
  id:Int
  rr:Int
  rn:Int
  rl:Int
  rb:Int
def Fd.cs (f:Fd):List Value:=[.int .i64 f.k,.int .u64 f.n,.int .i64 f.i,.bool f.t,f.b,.int .i64 f.vl,.int .u64 f.vb,.int .i64 f.kr,.int .u64 f.kn,.int .i64 f.id,.int .i64 f.rr,.int .u64 f.rn,.int .i64 f.rl,.int .u64 f.rb]
def Fd.v (f:Fd):Value:=.agg ⟨f.cs⟩
def nilB:Value:=.slice none 0 0
def onlyF (f:Fd):Fd :=
  if f.k=1 then ⟨f.k,f.n,0,false,nilB,0,0,0,0,0,0,0,0,0⟩
  else if f.k=2 then ⟨f.k,0,f.i,false,nilB,0,0,0,0,0,0,0,0,0⟩
  else if f.k=3 then ⟨f.k,0,0,f.t,nilB,0,0,0,0,0,0,0,0,0⟩
  else if f.k=4 then ⟨f.k,0,0,false,f.b,0,0,0,0,0,0,0,0,0⟩
  else if f.k=5 then ⟨f.k,0,0,false,nilB,f.vl,f.vb,0,0,0,0,0,0,0⟩
  else if f.k=6 then ⟨f.k,0,0,false,nilB,0,0,f.kr,f.kn,0,0,0,0,0⟩
  else if f.k=7 then ⟨f.k,0,0,false,nilB,0,0,0,0,f.id,f.rr,f.rn,f.rl,f.rb⟩
  else ⟨f.k,0,0,false,nilB,0,0,0,0,0,0,0,0,0⟩
def isKd (k:Int):Prop:=1≤k∧k≤7
instance (k:Int):Decidable (isKd k):=by unfold isKd; infer_instance
theorem only_r (f:Fd) (hb:bx f.b=some [f.b]) (s:St):Q17.r f.v s=some (.tuple ⟨[(onlyF f).v,.bool (decide (isKd f.k))]⟩):=by
  unfold onlyF isKd
  by_cases h1:f.k=1
  · simp only [Q17.r,Q17.t,Q17.t.p1,Fd.v,Fd.cs,nilB,sy,reduceIte,Nat.reduceAdd,Nat.reduceLeDiff,Nat.reduceLT,Nat.reduceEqDiff,Int.reduceEq,Int.reduceLT,Int.reduceLE,Int.reduceNe,ly,hb,h1]
  · by_cases h2:f.k=2
    · simp only [Q17.r,Q17.t,Q17.t.p1,Fd.v,Fd.cs,nilB,sy,reduceIte,Nat.reduceAdd,Nat.reduceLeDiff,Nat.reduceLT,Nat.reduceEqDiff,Int.reduceEq,Int.reduceLT,Int.reduceLE,Int.reduceNe,ly,hb,h1,h2]
    · by_cases h3:f.k=3
      · simp only [Q17.r,Q17.t,Q17.t.p1,Fd.v,Fd.cs,nilB,sy,reduceIte,Nat.reduceAdd,Nat.reduceLeDiff,Nat.reduceLT,Nat.reduceEqDiff,Int.reduceEq,Int.reduceLT,Int.reduceLE,Int.reduceNe,ly,hb,h1,h2,h3]
      · by_cases h4:f.k=4
        · simp only [Q17.r,Q17.t,Q17.t.p1,Fd.v,Fd.cs,nilB,sy,reduceIte,Nat.reduceAdd,Nat.reduceLeDiff,Nat.reduceLT,Nat.reduceEqDiff,Int.reduceEq,Int.reduceLT,Int.reduceLE,Int.reduceNe,ly,hb,h1,h2,h3,h4]
        · by_cases h5:f.k=5
          · simp only [Q17.r,Q17.t,Q17.t.p1,Fd.v,Fd.cs,nilB,sy,reduceIte,Nat.reduceAdd,Nat.reduceLeDiff,Nat.reduceLT,Nat.reduceEqDiff,Int.reduceEq,Int.reduceLT,Int.reduceLE,Int.reduceNe,ly,hb,h1,h2,h3,h4,h5]
          · by_cases h6:f.k=6
            · simp only [Q17.r,Q17.t,Q17.t.p1,Fd.v,Fd.cs,nilB,sy,reduceIte,Nat.reduceAdd,Nat.reduceLeDiff,Nat.reduceLT,Nat.reduceEqDiff,Int.reduceEq,Int.reduceLT,Int.reduceLE,Int.reduceNe,ly,hb,h1,h2,h3,h4,h5,h6]
            · by_cases h7:f.k=7
              · simp only [Q17.r,Q17.t,Q17.t.p1,Fd.v,Fd.cs,nilB,sy,reduceIte,Nat.reduceAdd,Nat.reduceLeDiff,Nat.reduceLT,Nat.reduceEqDiff,Int.reduceEq,Int.reduceLT,Int.reduceLE,Int.reduceNe,ly,hb,h1,h2,h3,h4,h5,h6,h7]
              · have e:(1≤f.k∧f.k≤7)=False:=eq_false (by omega)
                simp only [Q17.r,Q17.t,Q17.t.p1,Fd.v,Fd.cs,nilB,sy,reduceIte,Nat.reduceAdd,Nat.reduceLeDiff,Nat.reduceLT,Nat.reduceEqDiff,Int.reduceEq,Int.reduceLT,Int.reduceLE,Int.reduceNe,ly,hb,h1,h2,h3,h4,h5,h6,h7,e]
def sameP (f g:Fd) (x y:ByteArray):Prop :=
  f.k=g.k∧f.n=g.n∧f.i=g.i∧f.t=g.t∧x=y∧(f.vl=g.vl∧f.vb=g.vb)∧(f.kr=g.kr∧f.kn=g.kn)∧f.id=g.id∧f.rr=g.rr∧f.rn=g.rn∧f.rl=g.rl∧f.rb=g.rb
open Classical in
theorem psame_r (f g:Fd) {x y:ByteArray} (s:St) (hf:bx f.b=some [f.b]) (hg:bx g.b=some [g.b]) (hx:b2s s f.b=some (.string x)) (hy:b2s s g.b=some (.string y)):Q12.r f.v g.v s=some (.bool (decide (sameP f g x y))):=by
  unfold sameP
  rcases Classical.propComplete (f.k=g.k) with h1 | h1
  · rcases Classical.propComplete (f.n=g.n) with h2 | h2
    · rcases Classical.propComplete (f.i=g.i) with h3 | h3
      · rcases Classical.propComplete (f.t=g.t) with h4 | h4
        · rcases Classical.propComplete (x=y) with h5 | h5
          · rcases Classical.propComplete (f.vl=g.vl∧f.vb=g.vb) with h6 | h6
            · have e6:(decide (f.vl=g.vl) && decide (f.vb=g.vb))=true:=by simp [of_eq_true h6]
              rcases Classical.propComplete (f.kr=g.kr∧f.kn=g.kn) with h7 | h7
              · have e7:(decide (f.kr=g.kr) && decide (f.kn=g.kn))=true:=by simp [of_eq_true h7]
                simp only [Q12.r,Q12.t,Q0.r,Q0.t,Fd.v,Fd.cs,sy,reduceIte,Nat.reduceAdd,Nat.reduceLeDiff,Nat.reduceLT,Nat.reduceEqDiff,Int.reduceEq,Int.reduceLT,Int.reduceLE,Int.reduceNe,ly,hf,hg,hx,hy,h1,h2,h3,h4,h5,e6,e7]
                simp only [h6,h7,true_and,Bool.decide_and]
              · have e7:(decide (f.kr=g.kr) && decide (f.kn=g.kn))=false:=by
                  have:=of_eq_false h7
                  simp only [Bool.and_eq_false_iff,decide_eq_false_iff_not]
                  by_cases h:f.kr=g.kr
                  · exact .inr fun e=>this ⟨h,e⟩
                  · exact .inl h
                simp only [Q12.r,Q12.t,Q0.r,Q0.t,Fd.v,Fd.cs,sy,reduceIte,Nat.reduceAdd,Nat.reduceLeDiff,Nat.reduceLT,Nat.reduceEqDiff,Int.reduceEq,Int.reduceLT,Int.reduceLE,Int.reduceNe,ly,hf,hg,hx,hy,h1,h2,h3,h4,h5,e6,e7]
                simp only [h7,false_and,and_false,decide_false]
            · have e6:(decide (f.vl=g.vl) && decide (f.vb=g.vb))=false:=by
                have:=of_eq_false h6
                simp only [Bool.and_eq_false_iff,decide_eq_false_iff_not]
                by_cases h:f.vl=g.vl
                · exact .inr fun e=>this ⟨h,e⟩
                · exact .inl h
              simp only [Q12.r,Q12.t,Q0.r,Q0.t,Fd.v,Fd.cs,sy,reduceIte,Nat.reduceAdd,Nat.reduceLeDiff,Nat.reduceLT,Nat.reduceEqDiff,Int.reduceEq,Int.reduceLT,Int.reduceLE,Int.reduceNe,ly,hf,hg,hx,hy,h1,h2,h3,h4,h5,e6]
              simp only [h6,false_and,and_false,decide_false]
          · simp only [Q12.r,Q12.t,Q0.r,Q0.t,Fd.v,Fd.cs,sy,reduceIte,Nat.reduceAdd,Nat.reduceLeDiff,Nat.reduceLT,Nat.reduceEqDiff,Int.reduceEq,Int.reduceLT,Int.reduceLE,Int.reduceNe,ly,hf,hg,hx,hy,h1,h2,h3,h4,h5]
        · simp only [Q12.r,Q12.t,Q0.r,Q0.t,Fd.v,Fd.cs,sy,reduceIte,Nat.reduceAdd,Nat.reduceLeDiff,Nat.reduceLT,Nat.reduceEqDiff,Int.reduceEq,Int.reduceLT,Int.reduceLE,Int.reduceNe,ly,hf,hg,hx,hy,h1,h2,h3,h4]
      · simp only [Q12.r,Q12.t,Q0.r,Q0.t,Fd.v,Fd.cs,sy,reduceIte,Nat.reduceAdd,Nat.reduceLeDiff,Nat.reduceLT,Nat.reduceEqDiff,Int.reduceEq,Int.reduceLT,Int.reduceLE,Int.reduceNe,ly,hf,hg,hx,hy,h1,h2,h3]
    · simp only [Q12.r,Q12.t,Q0.r,Q0.t,Fd.v,Fd.cs,sy,reduceIte,Nat.reduceAdd,Nat.reduceLeDiff,Nat.reduceLT,Nat.reduceEqDiff,Int.reduceEq,Int.reduceLT,Int.reduceLE,Int.reduceNe,ly,hf,hg,hx,hy,h1,h2]
  · simp only [Q12.r,Q12.t,Q0.r,Q0.t,Fd.v,Fd.cs,sy,reduceIte,Nat.reduceAdd,Nat.reduceLeDiff,Nat.reduceLT,Nat.reduceEqDiff,Int.reduceEq,Int.reduceLT,Int.reduceLE,Int.reduceNe,ly,hf,hg,hx,hy,h1]
end Go.Proofs.Yteapmnolmfickaa
