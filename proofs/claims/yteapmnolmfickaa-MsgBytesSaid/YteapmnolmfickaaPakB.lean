/-
  The reference's fields; which fields may be, the program's way and the reference's.
-/
import Derived.Test.YteapmnolmfickaaPakA
set_option linter.unusedSimpArgs false
set_option linter.unusedVariables false
set_option maxRecDepth 100000
set_option maxHeartbeats 4000000
namespace Go.Proofs.Yteapmnolmfickaa
open Go.Sim Go.Sim.Bt
attribute [local congr] bdc cndc itec gdc gdSc gdUc
theorem ronly_r (f:Fd) (hb:bx f.b=some [f.b]) (s:St):Q22.r f.v s=some (onlyF f).v:=by
  unfold onlyF
  by_cases h1:f.k=1
  · simp only [Q22.r,Q22.t,Fd.v,Fd.cs,nilB,sy,reduceIte,Nat.reduceAdd,Nat.reduceLeDiff,Nat.reduceLT,Nat.reduceEqDiff,Int.reduceEq,Int.reduceLT,Int.reduceLE,Int.reduceNe,ly,hb,h1]
  · by_cases h2:f.k=2
    · simp only [Q22.r,Q22.t,Fd.v,Fd.cs,nilB,sy,reduceIte,Nat.reduceAdd,Nat.reduceLeDiff,Nat.reduceLT,Nat.reduceEqDiff,Int.reduceEq,Int.reduceLT,Int.reduceLE,Int.reduceNe,ly,hb,h1,h2]
    · by_cases h3:f.k=3
      · simp only [Q22.r,Q22.t,Fd.v,Fd.cs,nilB,sy,reduceIte,Nat.reduceAdd,Nat.reduceLeDiff,Nat.reduceLT,Nat.reduceEqDiff,Int.reduceEq,Int.reduceLT,Int.reduceLE,Int.reduceNe,ly,hb,h1,h2,h3]
      · by_cases h4:f.k=4
        · simp only [Q22.r,Q22.t,Fd.v,Fd.cs,nilB,sy,reduceIte,Nat.reduceAdd,Nat.reduceLeDiff,Nat.reduceLT,Nat.reduceEqDiff,Int.reduceEq,Int.reduceLT,Int.reduceLE,Int.reduceNe,ly,hb,h1,h2,h3,h4]
        · by_cases h5:f.k=5
          · simp only [Q22.r,Q22.t,Fd.v,Fd.cs,nilB,sy,reduceIte,Nat.reduceAdd,Nat.reduceLeDiff,Nat.reduceLT,Nat.reduceEqDiff,Int.reduceEq,Int.reduceLT,Int.reduceLE,Int.reduceNe,ly,hb,h1,h2,h3,h4,h5]
          · by_cases h6:f.k=6
            · simp only [Q22.r,Q22.t,Fd.v,Fd.cs,nilB,sy,reduceIte,Nat.reduceAdd,Nat.reduceLeDiff,Nat.reduceLT,Nat.reduceEqDiff,Int.reduceEq,Int.reduceLT,Int.reduceLE,Int.reduceNe,ly,hb,h1,h2,h3,h4,h5,h6]
            · by_cases h7:f.k=7
              · simp only [Q22.r,Q22.t,Fd.v,Fd.cs,nilB,sy,reduceIte,Nat.reduceAdd,Nat.reduceLeDiff,Nat.reduceLT,Nat.reduceEqDiff,Int.reduceEq,Int.reduceLT,Int.reduceLE,Int.reduceNe,ly,hb,h1,h2,h3,h4,h5,h6,h7]
              · simp only [Q22.r,Q22.t,Fd.v,Fd.cs,nilB,sy,reduceIte,Nat.reduceAdd,Nat.reduceLeDiff,Nat.reduceLT,Nat.reduceEqDiff,Int.reduceEq,Int.reduceLT,Int.reduceLE,Int.reduceNe,ly,hb,h1,h2,h3,h4,h5,h6,h7]
open Classical in
theorem rsame_r (f g:Fd) {x y:ByteArray} (s:St) (hf:bx f.b=some [f.b]) (hg:bx g.b=some [g.b]) (hx:b2s s f.b=some (.string x)) (hy:b2s s g.b=some (.string y)):Q1z.r f.v g.v s=some (.bool (decide (sameP f g x y))):=by
  unfold sameP
  rcases Classical.propComplete (f.k=g.k) with h1 | h1
  · rcases Classical.propComplete (f.n=g.n) with h2 | h2
    · rcases Classical.propComplete (f.i=g.i) with h3 | h3
      · rcases Classical.propComplete (f.t=g.t) with h4 | h4
        · rcases Classical.propComplete (x=y) with h5 | h5
          · rcases Classical.propComplete (f.vl=g.vl∧f.vb=g.vb) with h6 | h6
            · have e6:(decide (f.vl=g.vl) && decide (f.vb=g.vb))=true:=by simp [of_eq_true h6]
              rcases Classical.propComplete (f.kr=g.kr∧f.kn=g.kn) with h7 | h7
              · have e7:(decide (f.kr=g.kr) && decide (f.kn=g.kn))=true:=by simp [of_eq_true h7]
                simp only [Q1z.r,Q1z.t,Fd.v,Fd.cs,sy,reduceIte,Nat.reduceAdd,Nat.reduceLeDiff,Nat.reduceLT,Nat.reduceEqDiff,Int.reduceEq,Int.reduceLT,Int.reduceLE,Int.reduceNe,ly,hf,hg,hx,hy,h1,h2,h3,h4,h5,e6,e7]
                simp only [h6,h7,true_and,Bool.decide_and]
              · have e7:(decide (f.kr=g.kr) && decide (f.kn=g.kn))=false:=by
                  have:=of_eq_false h7
                  simp only [Bool.and_eq_false_iff,decide_eq_false_iff_not]
                  by_cases h:f.kr=g.kr
                  · exact .inr fun e=>this ⟨h,e⟩
                  · exact .inl h
                simp only [Q1z.r,Q1z.t,Fd.v,Fd.cs,sy,reduceIte,Nat.reduceAdd,Nat.reduceLeDiff,Nat.reduceLT,Nat.reduceEqDiff,Int.reduceEq,Int.reduceLT,Int.reduceLE,Int.reduceNe,ly,hf,hg,hx,hy,h1,h2,h3,h4,h5,e6,e7]
                simp only [h7,false_and,and_false,decide_false]
            · have e6:(decide (f.vl=g.vl) && decide (f.vb=g.vb))=false:=by
                have:=of_eq_false h6
                simp only [Bool.and_eq_false_iff,decide_eq_false_iff_not]
                by_cases h:f.vl=g.vl
                · exact .inr fun e=>this ⟨h,e⟩
                · exact .inl h
              simp only [Q1z.r,Q1z.t,Fd.v,Fd.cs,sy,reduceIte,Nat.reduceAdd,Nat.reduceLeDiff,Nat.reduceLT,Nat.reduceEqDiff,Int.reduceEq,Int.reduceLT,Int.reduceLE,Int.reduceNe,ly,hf,hg,hx,hy,h1,h2,h3,h4,h5,e6]
              simp only [h6,false_and,and_false,decide_false]
          · simp only [Q1z.r,Q1z.t,Fd.v,Fd.cs,sy,reduceIte,Nat.reduceAdd,Nat.reduceLeDiff,Nat.reduceLT,Nat.reduceEqDiff,Int.reduceEq,Int.reduceLT,Int.reduceLE,Int.reduceNe,ly,hf,hg,hx,hy,h1,h2,h3,h4,h5]
        · simp only [Q1z.r,Q1z.t,Fd.v,Fd.cs,sy,reduceIte,Nat.reduceAdd,Nat.reduceLeDiff,Nat.reduceLT,Nat.reduceEqDiff,Int.reduceEq,Int.reduceLT,Int.reduceLE,Int.reduceNe,ly,hf,hg,hx,hy,h1,h2,h3,h4]
      · simp only [Q1z.r,Q1z.t,Fd.v,Fd.cs,sy,reduceIte,Nat.reduceAdd,Nat.reduceLeDiff,Nat.reduceLT,Nat.reduceEqDiff,Int.reduceEq,Int.reduceLT,Int.reduceLE,Int.reduceNe,ly,hf,hg,hx,hy,h1,h2,h3]
    · simp only [Q1z.r,Q1z.t,Fd.v,Fd.cs,sy,reduceIte,Nat.reduceAdd,Nat.reduceLeDiff,Nat.reduceLT,Nat.reduceEqDiff,Int.reduceEq,Int.reduceLT,Int.reduceLE,Int.reduceNe,ly,hf,hg,hx,hy,h1,h2]
  · simp only [Q1z.r,Q1z.t,Fd.v,Fd.cs,sy,reduceIte,Nat.reduceAdd,Nat.reduceLeDiff,Nat.reduceLT,Nat.reduceEqDiff,Int.reduceEq,Int.reduceLT,Int.reduceLE,Int.reduceNe,ly,hf,hg,hx,hy,h1]
theorem rkind_r (k:Int) (s:St):Q1p.r (.int .i64 k) s=some (.bool (decide (isKd k))):=by
  unfold isKd
  by_cases h1:1≤k
  · by_cases h2:k≤7
    · simp only [Q1p.r,Q1p.t,sy,reduceIte,Nat.reduceAdd,Nat.reduceLeDiff,Nat.reduceLT,Nat.reduceEqDiff,Int.reduceEq,Int.reduceLT,Int.reduceLE,Int.reduceNe,ly,h1,h2]
    · simp only [Q1p.r,Q1p.t,sy,reduceIte,Nat.reduceAdd,Nat.reduceLeDiff,Nat.reduceLT,Nat.reduceEqDiff,Int.reduceEq,Int.reduceLT,Int.reduceLE,Int.reduceNe,ly,h1,h2]
  · simp only [Q1p.r,Q1p.t,sy,reduceIte,Nat.reduceAdd,Nat.reduceLeDiff,Nat.reduceLT,Nat.reduceEqDiff,Int.reduceEq,Int.reduceLT,Int.reduceLE,Int.reduceNe,ly,h1]
def noB:ByteArray:=⟨⟨[]⟩⟩
def ownB (f:Fd) (x:ByteArray):ByteArray:=if f.k=4 then x else noB
def okF (f:Fd) (x:ByteArray) (n:Nat):Prop :=
  isKd f.k∧sameP (onlyF f) f (ownB f x) x∧(f.k=4→n≤65536)∧(f.k=5→okV f.vl f.vb)∧(f.k=6→okK f.kr f.kn)∧(f.k=7→okK f.rr f.rn∧okV f.rl f.rb)
theorem only_bx (f:Fd) (hb:bx f.b=some [f.b]):bx (onlyF f).b=some [(onlyF f).b]:=by
  unfold onlyF
  repeat' split
  all_goals first | exact hb | rfl
theorem only_b2s (f:Fd) {x:ByteArray} {s:St} (hx:b2s s f.b=some (.string x)):b2s s (onlyF f).b=some (.string (ownB f x)):=by
  unfold onlyF ownB
  by_cases h4:f.k=4
  · have h1:¬ f.k=1:=by omega
    have h2:¬ f.k=2:=by omega
    have h3:¬ f.k=3:=by omega
    rw [if_neg h1,if_neg h2,if_neg h3,if_pos h4,if_pos h4]; exact hx
  · rw [if_neg h4]
    repeat' split
    all_goals first | rfl | (exfalso; omega)
theorem kind_cases {k:Int} (h:isKd k):k=4∨k=5∨k=6∨k=7∨(k≠4∧k≠5∧k≠6∧k≠7):=by omega
open Classical in
theorem check_r (f:Fd) {x:ByteArray} {n:Nat} (s:St) (hb:bx f.b=some [f.b]) (hx:b2s s f.b=some (.string x)) (hl:lenL f.b=some (.int .i64 (n:Int))) (h5:0≤f.vb) (h7:0≤f.rb) :
    Qy.r f.v s=some (.int .i64 (if okF f x n then 0 else 30)):=by
  have ps:=psame_r (onlyF f) f s (only_bx f hb) hb (only_b2s f hx) hx
  have po:=only_r f hb s
  have hv:=right_i f.vl f.vb h5 s
  have hrv:=right_i f.rl f.rb h7 s
  have hk:=kcheck_r f.kr f.kn s
  have hrk:=kcheck_r f.rr f.rn s
  simp only [Fd.v,Fd.cs,VI,KV] at po ps hv hrv hk hrk
  by_cases h1:isKd f.k
  · by_cases h2:sameP (onlyF f) f (ownB f x) x
    · have d1:decide (isKd f.k)=true:=decide_eq_true h1
      have d2:decide (sameP (onlyF f) f (ownB f x) x)=true:=decide_eq_true h2
      rw [d1] at po
      rw [d2] at ps
      rcases kind_cases h1 with g | g | g | g | ⟨g4,g5,g6,g7⟩
      · have e4:(f.k=4)=True:=eq_true (by omega)
        have e5:(f.k=5)=False:=eq_false (by omega)
        have e6:(f.k=6)=False:=eq_false (by omega)
        have e7:(f.k=7)=False:=eq_false (by omega)
        by_cases h3:(n:Int)≤65536
        · have e:okF f x n:=⟨h1,h2,fun _=>by omega,fun e=>by omega,fun e=>by omega,fun e=>by omega⟩
          rw [if_pos e]
          simp only [Qy.r,Qy.t,Fd.v,Fd.cs,VI,KV,po,ps,hl,sy,reduceIte,Nat.reduceAdd,Nat.reduceLeDiff,Nat.reduceLT,Nat.reduceEqDiff,Int.reduceEq,Int.reduceLT,Int.reduceLE,Int.reduceNe,ly,e4,e5,e6,e7,h3]
        · have e:¬ okF f x n:=fun e=>h3 (by have:=e.2.2.1 g; omega)
          rw [if_neg e]
          simp only [Qy.r,Qy.t,Fd.v,Fd.cs,VI,KV,po,ps,hl,sy,reduceIte,Nat.reduceAdd,Nat.reduceLeDiff,Nat.reduceLT,Nat.reduceEqDiff,Int.reduceEq,Int.reduceLT,Int.reduceLE,Int.reduceNe,ly,e4,e5,e6,e7,h3]
      · have e4:(f.k=4)=False:=eq_false (by omega)
        have e5:(f.k=5)=True:=eq_true (by omega)
        have e6:(f.k=6)=False:=eq_false (by omega)
        have e7:(f.k=7)=False:=eq_false (by omega)
        by_cases h3:okV f.vl f.vb
        · have e:okF f x n:=⟨h1,h2,fun e=>by omega,fun _=>h3,fun e=>by omega,fun e=>by omega⟩
          rw [if_pos e]
          rw [if_pos h3] at hv
          simp only [Qy.r,Qy.t,Fd.v,Fd.cs,VI,KV,po,ps,hv,sy,reduceIte,Nat.reduceAdd,Nat.reduceLeDiff,Nat.reduceLT,Nat.reduceEqDiff,Int.reduceEq,Int.reduceLT,Int.reduceLE,Int.reduceNe,ly,e4,e5,e6,e7]
        · have e:¬ okF f x n:=fun e=>h3 (e.2.2.2.1 g)
          rw [if_neg e]
          rw [if_neg h3] at hv
          simp only [Qy.r,Qy.t,Fd.v,Fd.cs,VI,KV,po,ps,hv,sy,reduceIte,Nat.reduceAdd,Nat.reduceLeDiff,Nat.reduceLT,Nat.reduceEqDiff,Int.reduceEq,Int.reduceLT,Int.reduceLE,Int.reduceNe,ly,e4,e5,e6,e7]
      · have e4:(f.k=4)=False:=eq_false (by omega)
        have e5:(f.k=5)=False:=eq_false (by omega)
        have e6:(f.k=6)=True:=eq_true (by omega)
        have e7:(f.k=7)=False:=eq_false (by omega)
        by_cases h3:okK f.kr f.kn
        · have e:okF f x n:=⟨h1,h2,fun e=>by omega,fun e=>by omega,fun _=>h3,fun e=>by omega⟩
          rw [if_pos e]
          rw [if_pos h3] at hk
          simp only [Qy.r,Qy.t,Fd.v,Fd.cs,VI,KV,po,ps,hk,sy,reduceIte,Nat.reduceAdd,Nat.reduceLeDiff,Nat.reduceLT,Nat.reduceEqDiff,Int.reduceEq,Int.reduceLT,Int.reduceLE,Int.reduceNe,ly,e4,e5,e6,e7]
        · have e:¬ okF f x n:=fun e=>h3 (e.2.2.2.2.1 g)
          rw [if_neg e]
          rw [if_neg h3] at hk
          simp only [Qy.r,Qy.t,Fd.v,Fd.cs,VI,KV,po,ps,hk,sy,reduceIte,Nat.reduceAdd,Nat.reduceLeDiff,Nat.reduceLT,Nat.reduceEqDiff,Int.reduceEq,Int.reduceLT,Int.reduceLE,Int.reduceNe,ly,e4,e5,e6,e7]
      · have e4:(f.k=4)=False:=eq_false (by omega)
        have e5:(f.k=5)=False:=eq_false (by omega)
        have e6:(f.k=6)=False:=eq_false (by omega)
        have e7:(f.k=7)=True:=eq_true (by omega)
        by_cases h3:okK f.rr f.rn
        · rw [if_pos h3] at hrk
          by_cases h4:okV f.rl f.rb
          · have e:okF f x n:=⟨h1,h2,fun e=>by omega,fun e=>by omega,fun e=>by omega,fun _=>⟨h3,h4⟩⟩
            rw [if_pos e]
            rw [if_pos h4] at hrv
            simp only [Qy.r,Qy.t,Fd.v,Fd.cs,VI,KV,po,ps,hrk,hrv,sy,reduceIte,Nat.reduceAdd,Nat.reduceLeDiff,Nat.reduceLT,Nat.reduceEqDiff,Int.reduceEq,Int.reduceLT,Int.reduceLE,Int.reduceNe,ly,e4,e5,e6,e7]
          · have e:¬ okF f x n:=fun e=>h4 (e.2.2.2.2.2 g).2
            rw [if_neg e]
            rw [if_neg h4] at hrv
            simp only [Qy.r,Qy.t,Fd.v,Fd.cs,VI,KV,po,ps,hrk,hrv,sy,reduceIte,Nat.reduceAdd,Nat.reduceLeDiff,Nat.reduceLT,Nat.reduceEqDiff,Int.reduceEq,Int.reduceLT,Int.reduceLE,Int.reduceNe,ly,e4,e5,e6,e7]
        · have e:¬ okF f x n:=fun e=>h3 (e.2.2.2.2.2 g).1
          rw [if_neg e]
          rw [if_neg h3] at hrk
          simp only [Qy.r,Qy.t,Fd.v,Fd.cs,VI,KV,po,ps,hrk,sy,reduceIte,Nat.reduceAdd,Nat.reduceLeDiff,Nat.reduceLT,Nat.reduceEqDiff,Int.reduceEq,Int.reduceLT,Int.reduceLE,Int.reduceNe,ly,e4,e5,e6,e7]
      · have e4:(f.k=4)=False:=eq_false (by omega)
        have e5:(f.k=5)=False:=eq_false (by omega)
        have e6:(f.k=6)=False:=eq_false (by omega)
        have e7:(f.k=7)=False:=eq_false (by omega)
        have e:okF f x n:=⟨h1,h2,fun e=>absurd e g4,fun e=>absurd e g5,fun e=>absurd e g6,fun e=>absurd e g7⟩
        rw [if_pos e]
        simp only [Qy.r,Qy.t,Fd.v,Fd.cs,VI,KV,po,ps,sy,reduceIte,Nat.reduceAdd,Nat.reduceLeDiff,Nat.reduceLT,Nat.reduceEqDiff,Int.reduceEq,Int.reduceLT,Int.reduceLE,Int.reduceNe,ly,e4,e5,e6,e7]
    · have e:¬ okF f x n:=fun e=>h2 e.2.1
      rw [if_neg e]
      rw [decide_eq_true h1] at po
      rw [decide_eq_false h2] at ps
      simp only [Qy.r,Qy.t,Fd.v,Fd.cs,VI,KV,po,ps,sy,reduceIte,Nat.reduceAdd,Nat.reduceLeDiff,Nat.reduceLT,Nat.reduceEqDiff,Int.reduceEq,Int.reduceLT,Int.reduceLE,Int.reduceNe,ly]
  · have e:¬ okF f x n:=fun e=>h1 e.1
    rw [if_neg e]
    rw [decide_eq_false h1] at po
    simp only [Qy.r,Qy.t,Fd.v,Fd.cs,VI,KV,po,sy,reduceIte,Nat.reduceAdd,Nat.reduceLeDiff,Nat.reduceLT,Nat.reduceEqDiff,Int.reduceEq,Int.reduceLT,Int.reduceLE,Int.reduceNe,ly]
open Classical in
theorem rcheck_r (f:Fd) {x:ByteArray} {n:Nat} (s:St) (hb:bx f.b=some [f.b]) (hx:b2s s f.b=some (.string x)) (hl:lenL f.b=some (.int .i64 (n:Int))) (h5:0≤f.vb) (h7:0≤f.rb) :
    Q1m.r f.v s=some (.int .i64 (if okF f x n then 0 else 30)):=by
  have ps:=rsame_r (onlyF f) f s (only_bx f hb) hb (only_b2s f hx) hx
  have po:=ronly_r f hb s
  have rk:=rkind_r f.k s
  have hv:=rright_i f.vl f.vb h5 s
  have hrv:=rright_i f.rl f.rb h7 s
  have hk:=isKey_r f.kr f.kn s
  have hrk:=isKey_r f.rr f.rn s
  simp only [Fd.v,Fd.cs,VI,KV] at po ps hv hrv hk hrk
  by_cases h1:isKd f.k
  · by_cases h2:sameP (onlyF f) f (ownB f x) x
    · have d1:decide (isKd f.k)=true:=decide_eq_true h1
      have d2:decide (sameP (onlyF f) f (ownB f x) x)=true:=decide_eq_true h2
      rw [d1] at rk
      rw [d2] at ps
      rcases kind_cases h1 with g | g | g | g | ⟨g4,g5,g6,g7⟩
      · have e4:(f.k=4)=True:=eq_true (by omega)
        have e5:(f.k=5)=False:=eq_false (by omega)
        have e6:(f.k=6)=False:=eq_false (by omega)
        have e7:(f.k=7)=False:=eq_false (by omega)
        by_cases h3:(n:Int)≤65536
        · have e:okF f x n:=⟨h1,h2,fun _=>by omega,fun e=>by omega,fun e=>by omega,fun e=>by omega⟩
          rw [if_pos e]
          simp only [Q1m.r,Q1m.t,Fd.v,Fd.cs,VI,KV,po,ps,rk,hl,sy,reduceIte,Nat.reduceAdd,Nat.reduceLeDiff,Nat.reduceLT,Nat.reduceEqDiff,Int.reduceEq,Int.reduceLT,Int.reduceLE,Int.reduceNe,ly,e4,e5,e6,e7,h3]
        · have e:¬ okF f x n:=fun e=>h3 (by have:=e.2.2.1 g; omega)
          rw [if_neg e]
          simp only [Q1m.r,Q1m.t,Fd.v,Fd.cs,VI,KV,po,ps,rk,hl,sy,reduceIte,Nat.reduceAdd,Nat.reduceLeDiff,Nat.reduceLT,Nat.reduceEqDiff,Int.reduceEq,Int.reduceLT,Int.reduceLE,Int.reduceNe,ly,e4,e5,e6,e7,h3]
      · have e4:(f.k=4)=False:=eq_false (by omega)
        have e5:(f.k=5)=True:=eq_true (by omega)
        have e6:(f.k=6)=False:=eq_false (by omega)
        have e7:(f.k=7)=False:=eq_false (by omega)
        by_cases h3:okV f.vl f.vb
        · have e:okF f x n:=⟨h1,h2,fun e=>by omega,fun _=>h3,fun e=>by omega,fun e=>by omega⟩
          rw [if_pos e]
          rw [decide_eq_true h3] at hv
          simp only [Q1m.r,Q1m.t,Fd.v,Fd.cs,VI,KV,po,ps,rk,hv,sy,reduceIte,Nat.reduceAdd,Nat.reduceLeDiff,Nat.reduceLT,Nat.reduceEqDiff,Int.reduceEq,Int.reduceLT,Int.reduceLE,Int.reduceNe,ly,e4,e5,e6,e7]
        · have e:¬ okF f x n:=fun e=>h3 (e.2.2.2.1 g)
          rw [if_neg e]
          rw [decide_eq_false h3] at hv
          simp only [Q1m.r,Q1m.t,Fd.v,Fd.cs,VI,KV,po,ps,rk,hv,sy,reduceIte,Nat.reduceAdd,Nat.reduceLeDiff,Nat.reduceLT,Nat.reduceEqDiff,Int.reduceEq,Int.reduceLT,Int.reduceLE,Int.reduceNe,ly,e4,e5,e6,e7]
      · have e4:(f.k=4)=False:=eq_false (by omega)
        have e5:(f.k=5)=False:=eq_false (by omega)
        have e6:(f.k=6)=True:=eq_true (by omega)
        have e7:(f.k=7)=False:=eq_false (by omega)
        by_cases h3:okK f.kr f.kn
        · have e:okF f x n:=⟨h1,h2,fun e=>by omega,fun e=>by omega,fun _=>h3,fun e=>by omega⟩
          rw [if_pos e]
          rw [decide_eq_true h3] at hk
          simp only [Q1m.r,Q1m.t,Fd.v,Fd.cs,VI,KV,po,ps,rk,hk,sy,reduceIte,Nat.reduceAdd,Nat.reduceLeDiff,Nat.reduceLT,Nat.reduceEqDiff,Int.reduceEq,Int.reduceLT,Int.reduceLE,Int.reduceNe,ly,e4,e5,e6,e7]
        · have e:¬ okF f x n:=fun e=>h3 (e.2.2.2.2.1 g)
          rw [if_neg e]
          rw [decide_eq_false h3] at hk
          simp only [Q1m.r,Q1m.t,Fd.v,Fd.cs,VI,KV,po,ps,rk,hk,sy,reduceIte,Nat.reduceAdd,Nat.reduceLeDiff,Nat.reduceLT,Nat.reduceEqDiff,Int.reduceEq,Int.reduceLT,Int.reduceLE,Int.reduceNe,ly,e4,e5,e6,e7]
      · have e4:(f.k=4)=False:=eq_false (by omega)
        have e5:(f.k=5)=False:=eq_false (by omega)
        have e6:(f.k=6)=False:=eq_false (by omega)
        have e7:(f.k=7)=True:=eq_true (by omega)
        by_cases h3:okK f.rr f.rn
        · rw [decide_eq_true h3] at hrk
          by_cases h4:okV f.rl f.rb
          · have e:okF f x n:=⟨h1,h2,fun e=>by omega,fun e=>by omega,fun e=>by omega,fun _=>⟨h3,h4⟩⟩
            rw [if_pos e]
            rw [decide_eq_true h4] at hrv
            simp only [Q1m.r,Q1m.t,Fd.v,Fd.cs,VI,KV,po,ps,rk,hrk,hrv,sy,reduceIte,Nat.reduceAdd,Nat.reduceLeDiff,Nat.reduceLT,Nat.reduceEqDiff,Int.reduceEq,Int.reduceLT,Int.reduceLE,Int.reduceNe,ly,e4,e5,e6,e7]
          · have e:¬ okF f x n:=fun e=>h4 (e.2.2.2.2.2 g).2
            rw [if_neg e]
            rw [decide_eq_false h4] at hrv
            simp only [Q1m.r,Q1m.t,Fd.v,Fd.cs,VI,KV,po,ps,rk,hrk,hrv,sy,reduceIte,Nat.reduceAdd,Nat.reduceLeDiff,Nat.reduceLT,Nat.reduceEqDiff,Int.reduceEq,Int.reduceLT,Int.reduceLE,Int.reduceNe,ly,e4,e5,e6,e7]
        · have e:¬ okF f x n:=fun e=>h3 (e.2.2.2.2.2 g).1
          rw [if_neg e]
          rw [decide_eq_false h3] at hrk
          simp only [Q1m.r,Q1m.t,Fd.v,Fd.cs,VI,KV,po,ps,rk,hrk,sy,reduceIte,Nat.reduceAdd,Nat.reduceLeDiff,Nat.reduceLT,Nat.reduceEqDiff,Int.reduceEq,Int.reduceLT,Int.reduceLE,Int.reduceNe,ly,e4,e5,e6,e7]
      · have e4:(f.k=4)=False:=eq_false (by omega)
        have e5:(f.k=5)=False:=eq_false (by omega)
        have e6:(f.k=6)=False:=eq_false (by omega)
        have e7:(f.k=7)=False:=eq_false (by omega)
        have e:okF f x n:=⟨h1,h2,fun e=>absurd e g4,fun e=>absurd e g5,fun e=>absurd e g6,fun e=>absurd e g7⟩
        rw [if_pos e]
        simp only [Q1m.r,Q1m.t,Fd.v,Fd.cs,VI,KV,po,ps,rk,sy,reduceIte,Nat.reduceAdd,Nat.reduceLeDiff,Nat.reduceLT,Nat.reduceEqDiff,Int.reduceEq,Int.reduceLT,Int.reduceLE,Int.reduceNe,ly,e4,e5,e6,e7]
    · have e:¬ okF f x n:=fun e=>h2 e.2.1
      rw [if_neg e]
      rw [decide_eq_true h1] at rk
      rw [decide_eq_false h2] at ps
      simp only [Q1m.r,Q1m.t,Fd.v,Fd.cs,VI,KV,po,ps,rk,sy,reduceIte,Nat.reduceAdd,Nat.reduceLeDiff,Nat.reduceLT,Nat.reduceEqDiff,Int.reduceEq,Int.reduceLT,Int.reduceLE,Int.reduceNe,ly]
  · have e:¬ okF f x n:=fun e=>h1 e.1
    rw [if_neg e]
    rw [decide_eq_false h1] at rk
    simp only [Q1m.r,Q1m.t,Fd.v,Fd.cs,VI,KV,po,rk,sy,reduceIte,Nat.reduceAdd,Nat.reduceLeDiff,Nat.reduceLT,Nat.reduceEqDiff,Int.reduceEq,Int.reduceLT,Int.reduceLE,Int.reduceNe,ly]
end Go.Proofs.Yteapmnolmfickaa
