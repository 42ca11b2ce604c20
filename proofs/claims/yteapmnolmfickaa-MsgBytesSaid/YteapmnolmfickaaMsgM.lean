/-
  Two packets' bytes: alike only if they are, and none begins another.
-/
import Derived.Test.YteapmnolmfickaaMsgL
import Derived.Test.YteapmnolmfickaaPaqD
set_option linter.unusedSimpArgs false
set_option linter.unusedVariables false
set_option maxRecDepth 100000
set_option maxHeartbeats 4000000
namespace Go.Proofs.Yteapmnolmfickaa
open Go.Sim Go.Sim.Bt
theorem wBs_app:∀ (A B:List FB),wBs (A++B)=wBs A++wBs B
  | [],B=>rfl
  | p :: A,B=>by rw [List.cons_append,wBs,wBs,wBs_app A B,List.append_assoc]
def good (f:FB):Prop:=FdA f.1∧okP f∧okY f.2
theorem peel {bs:List Int} {p:Nat} {A B A' B':List FB} (hA:∀ f ∈ A,good f) (hA':∀ f ∈ A',good f) (hk:A.map (fun f=>f.1.k)=A'.map (fun f=>f.1.k)) (h:Has bs p (wBs (A++B))) (h':Has bs p (wBs (A'++B'))) :
    A.map clr=A'.map clr∧∃ q,Has bs q (wBs B)∧Has bs q (wBs B'):=by
  rw [wBs_app] at h h'
  obtain ⟨h1,h2⟩:=has_append.1 h
  obtain ⟨h1',h2'⟩:=has_append.1 h'
  have e1:=firstL_w (gs:=[]) A hA h1
  have e2:=firstL_w (gs:=[]) A' hA' h1'
  rw [hk] at e1
  rw [e1] at e2
  simp only [List.nil_append,RdR.ok.injEq] at e2
  refine ⟨e2.1,_,h2,?_⟩
  have:=e2.2
  rw [show (wBs A).length=(wBs A').length by omega]
  exact h2'
theorem good_of {w:Value} {lb:List Int} (hy:okY lb) (hl:lb.length≤65536) {f:Fd} (h:Plain f∨f=mB w):good (fb lb f):=by
  rcases h with ⟨h1,h2,h3,h4⟩ | rfl
  · unfold fb
    rw [if_neg h2]
    exact ⟨h3,h4,okY_nil⟩
  · exact ⟨mB_a w,okP_B w hl,hy⟩
def f7 (p:Pk):List FB:=[(mT p.rep,[]),(mT p.fa,[]),(mI p.fn,[]),(mT p.ta,[]),(mI p.tn,[]),(mI p.id,[]),(mN (if p.rep=true then p.ans.k else p.ask.k),[])]
noncomputable def sideB (r:Rf):List FB:=(sideF r).map fun f=>(f,[])
noncomputable def r7 (p:Pk) (lb:List Int):List FB :=
  if p.rep=true then ((if p.ans.k=1∨p.ans.k=3 then (mT p.ans.f,[]) :: (sideB p.ans.l++sideB p.ans.r) else [])++if p.ans.k=1 then [(mB p.ans.v,lb)] else [])
  else (hasF p.ask).map fun f=>(f,[])
theorem side_fb (lb:List Int) (r:Rf):(sideF r).map (fb lb)=sideB r:=by
  unfold sideB sideF
  split <;> rfl
theorem has_fb (lb:List Int) (a:AskP):(hasF a).map (fb lb)=(hasF a).map fun f=>(f,[]):=by
  unfold hasF
  repeat' split
  all_goals rfl
theorem enc_parts {p:Pk} {x:ByteArray} {n:Nat} {lb:List Int} (ok:okPk p x n):(encF p).map (fb lb)=f7 p++r7 p lb:=by
  unfold encF f7 r7
  by_cases hr:p.rep=true
  · rw [if_pos hr,if_pos hr,if_pos hr]
    unfold ansF
    have e1:((if p.ans.k=1∨p.ans.k=3 then mT p.ans.f :: (sideF p.ans.l++sideF p.ans.r) else []):List Fd).map (fb lb)=if p.ans.k=1∨p.ans.k=3 then (mT p.ans.f,[]) :: (sideB p.ans.l++sideB p.ans.r) else []:=by
      split
      · rw [List.map_cons,List.map_append,side_fb,side_fb]; rfl
      · rfl
    have e2:((if p.ans.k=1 then [mB p.ans.v] else []):List Fd).map (fb lb)=if p.ans.k=1 then [(mB p.ans.v,lb)] else []:=by
      split <;> rfl
    have e0:∀ A B:List Fd,(mN p.ans.k :: (A++B)).map (fb lb)=(mN p.ans.k,[]) :: (A.map (fb lb)++B.map (fb lb)):=fun A B=>by
      rw [List.map_cons,List.map_append]; rfl
    rw [List.map_append,e0,e1,e2]
    rfl
  · rw [if_neg hr,if_neg hr,if_neg hr]
    have oka:okA p.ask:=by
      rcases ok.2 with ⟨h,_⟩ | ⟨_,_,h⟩
      · exact absurd h hr
      · exact h
    unfold askF
    have e0:∀ A:List Fd,(mN p.ask.k :: A).map (fb lb)=(mN p.ask.k,[]) :: A.map (fb lb):=fun A=>rfl
    rw [fieldsA_ok oka,Option.getD_some,List.map_append,e0,has_fb]
    rfl
theorem hasF_k {a b:AskP} (h:a.k=b.k):((hasF a).map fun f=>((f,[]):FB)).map (fun f=>f.1.k)=((hasF b).map fun f=>((f,[]):FB)).map (fun f=>f.1.k):=by
  unfold hasF
  rw [h]
  repeat' split
  all_goals rfl
theorem Rf.ext' {r q:Rf} (h1:r.id=q.id) (h2:r.rk=q.rk) (h3:r.n=q.n) (h4:r.ln=q.ln) (h5:r.bt=q.bt):r=q:=by
  cases r; cases q; simp_all
theorem ask_inj {a b:AskP} (h:a.k=b.k) (ha:a=onlyA a) (hb:b=onlyA b) (he:((hasF a).map fun f=>((f,[]):FB)).map clr=((hasF b).map fun f=>((f,[]):FB)).map clr):a=b:=by
  obtain ⟨k,wl,wb,⟨r1,r2,r3,r4,r5⟩,⟨q1,q2,q3,q4,q5⟩,oa,oo⟩:=a
  obtain ⟨k',wl',wb',⟨r1',r2',r3',r4',r5'⟩,⟨q1',q2',q3',q4',q5'⟩,oa',oo'⟩:=b
  simp only at h
  subst h
  unfold onlyA at ha hb
  unfold hasF at he
  simp only at ha hb he
  by_cases h1:k=1
  · simp [h1,zR] at ha hb he
    simp [clr,mV] at he
    simp_all
  · by_cases h3:k=3∨k=4∨k=8
    · simp [h1,h3,zR] at ha hb he
      simp [clr,mV,mI] at he
      simp_all
    · by_cases h5:k=5
      · simp [h5,zR] at ha hb he
        simp [clr,mV,mI,mR] at he
        simp_all
      · by_cases h6:k=6
        · simp [h6,zR] at ha hb he
          simp [clr,mV,mI,mR] at he
          simp_all
        · by_cases h7:k=7
          · simp [h7] at he
            simp [clr,mV,mI,mR] at he
            simp_all
          · simp [h1,h3,h5,h6,h7,zR] at ha hb
            simp_all
end Go.Proofs.Yteapmnolmfickaa
