/-
  Asks: which may be, by the reference.
-/
import Derived.Test.YteapmnolmfickaaPakB
import Derived.Test.YteapmnolmfickaaMachV
set_option linter.unusedSimpArgs false
set_option linter.unusedVariables false
set_option maxRecDepth 100000
set_option maxHeartbeats 4000000
namespace Go.Proofs.Yteapmnolmfickaa
open Go.Sim Go.Sim.Bt
attribute [local congr] bdc cndc itec gdc gdSc gdUc
def aC (a:AskP):List Value :=
  [.int .i64 a.k,.int .i64 a.wl,.int .u64 a.wb,.int .i64 a.r.id,.int .i64 a.r.rk,.int .u64 a.r.n,.int .i64 a.r.ln,.int .u64 a.r.bt,
   .int .i64 a.r2.id,.int .i64 a.r2.rk,.int .u64 a.r2.n,.int .i64 a.r2.ln,.int .u64 a.r2.bt,.int .i64 a.oa,.int .i64 a.oo]
open Classical in
theorem eqR (r q:Rf):eqb [1,1,1,1,1] true false (.agg ⟨r.cs⟩) (.agg ⟨q.cs⟩)=some (.bool (decide (r=q))):=by
  obtain ⟨r1,r2,r3,r4,r5⟩:=r
  obtain ⟨q1,q2,q3,q4,q5⟩:=q
  rw [eqb_agg]
  simp only [eqks_cons,eqks_nil,eqk1,bds,Option.map_some]
  have:∀ b c:Bool,b=c→some (Value.bool b)=some (Value.bool c):=fun _ _ h=>by rw [h]
  apply this
  rw [Bool.eq_iff_iff]
  simp
theorem eqksA (a b:AskP):∃ c:Bool,eqks [1,1,1,1,1,1,1,1,1,1,1,1,1,1,1] (aC a) (aC b)=some c∧(c=true↔a=b):=by
  obtain ⟨k,wl,wb,⟨r1,r2,r3,r4,r5⟩,⟨s1,s2,s3,s4,s5⟩,oa,oo⟩:=a
  obtain ⟨k',wl',wb',⟨r1',r2',r3',r4',r5'⟩,⟨s1',s2',s3',s4',s5'⟩,oa',oo'⟩:=b
  refine ⟨_,by simp only [aC,eqks_cons,eqks_nil,eqk1,bds]; rfl,?_⟩
  simp [and_assoc]
open Classical in
theorem eqA (a b:AskP):eqb [1,1,1,1,1,1,1,1,1,1,1,1,1,1,1] true false (.agg ⟨aC a⟩) (.agg ⟨aC b⟩)=some (.bool (decide (a=b))):=by
  obtain ⟨c,h1,h2⟩:=eqksA a b
  rw [eqb_agg,h1,Option.map_some]
  by_cases h:a=b
  · rw [decide_eq_true h,h2.2 h]
  · rw [decide_eq_false h]
    cases c
    · rfl
    · exact absurd (h2.1 rfl) h
open Classical in
theorem neA (a b:AskP):eqb [1,1,1,1,1,1,1,1,1,1,1,1,1,1,1] true true (.agg ⟨aC a⟩) (.agg ⟨aC b⟩)=some (.bool (decide (a≠b))):=by
  obtain ⟨c,h1,h2⟩:=eqksA a b
  rw [neb_agg,h1,Option.map_some]
  by_cases h:a=b
  · rw [decide_eq_false (fun k=>k h),h2.2 h]; rfl
  · rw [decide_eq_true h]
    cases c
    · rfl
    · exact absurd (h2.1 rfl) h
def okRf (r:Rf):Prop:=okK r.rk r.n∧okV r.ln r.bt
def onlyA (a:AskP):AskP :=
  if a.k=1 then ⟨a.k,a.wl,a.wb,zR,zR,0,0⟩
  else if a.k=3∨a.k=4∨a.k=8 then ⟨a.k,a.wl,a.wb,zR,zR,a.oa,a.oo⟩
  else if a.k=5 then ⟨a.k,a.wl,a.wb,a.r,zR,a.oa,a.oo⟩
  else if a.k=6 then ⟨a.k,a.wl,a.wb,a.r,zR,0,0⟩
  else if a.k=7 then a
  else ⟨a.k,0,0,zR,zR,0,0⟩
def hasR (k:Int):Prop:=k=5∨k=6∨k=7
def hasW (k:Int):Prop:=k=1∨k=3∨k=4∨k=5∨k=6∨k=7∨k=8
def okA (a:AskP):Prop:=(1≤a.k∧a.k≤10)∧a=onlyA a∧(hasW a.k→okV a.wl a.wb)∧(hasR a.k→okRf a.r)∧(a.k=7→okRf a.r2)
open Classical in
theorem isRef_d (r:Rf) (hb:0≤r.bt) (s:St):Q2o.r (.agg ⟨r.cs⟩) s=some (.bool (decide (okRf r))):=by
  have h1:=isKey_r r.rk r.n s
  have h2:=rright_i r.ln r.bt hb s
  simp only [KV,VI] at h1 h2
  by_cases c1:okK r.rk r.n
  · rw [decide_eq_true c1] at h1
    by_cases c2:okV r.ln r.bt
    · rw [decide_eq_true c2] at h2
      rw [decide_eq_true (show okRf r from ⟨c1,c2⟩)]
      simp only [Q2o.r,Q2o.t,sy,reduceIte,Nat.reduceAdd,Nat.reduceLeDiff,Nat.reduceLT,Nat.reduceEqDiff,Int.reduceEq,Int.reduceLT,Int.reduceLE,Int.reduceNe,ly,h1,h2]
    · rw [decide_eq_false c2] at h2
      rw [decide_eq_false (show ¬ okRf r from fun e=>c2 e.2)]
      simp only [Q2o.r,Q2o.t,sy,reduceIte,Nat.reduceAdd,Nat.reduceLeDiff,Nat.reduceLT,Nat.reduceEqDiff,Int.reduceEq,Int.reduceLT,Int.reduceLE,Int.reduceNe,ly,h1,h2]
  · rw [decide_eq_false c1] at h1
    rw [decide_eq_false (show ¬ okRf r from fun e=>c1 e.1)]
    simp only [Q2o.r,Q2o.t,sy,reduceIte,Nat.reduceAdd,Nat.reduceLeDiff,Nat.reduceLT,Nat.reduceEqDiff,Int.reduceEq,Int.reduceLT,Int.reduceLE,Int.reduceNe,ly,h1]
theorem ronlyA (a:AskP) (s:St):Q2q.r (.agg ⟨aC a⟩) s=some (.agg ⟨aC (onlyA a)⟩):=by
  obtain ⟨k,wl,wb,r,r2,oa,oo⟩:=a
  unfold onlyA
  by_cases h1:k=1
  · simp only [Q2q.r,Q2q.t,aC,zR,sy,reduceIte,Nat.reduceAdd,Nat.reduceLeDiff,Nat.reduceLT,Nat.reduceEqDiff,Int.reduceEq,Int.reduceLT,Int.reduceLE,Int.reduceNe,ly,h1]
  by_cases h3:k=3
  · simp only [Q2q.r,Q2q.t,aC,zR,sy,reduceIte,Nat.reduceAdd,Nat.reduceLeDiff,Nat.reduceLT,Nat.reduceEqDiff,Int.reduceEq,Int.reduceLT,Int.reduceLE,Int.reduceNe,ly,h3]
  by_cases h4:k=4
  · simp only [Q2q.r,Q2q.t,aC,zR,sy,reduceIte,Nat.reduceAdd,Nat.reduceLeDiff,Nat.reduceLT,Nat.reduceEqDiff,Int.reduceEq,Int.reduceLT,Int.reduceLE,Int.reduceNe,ly,h4]
  by_cases h8:k=8
  · simp only [Q2q.r,Q2q.t,aC,zR,sy,reduceIte,Nat.reduceAdd,Nat.reduceLeDiff,Nat.reduceLT,Nat.reduceEqDiff,Int.reduceEq,Int.reduceLT,Int.reduceLE,Int.reduceNe,ly,h8]
  by_cases h5:k=5
  · simp only [Q2q.r,Q2q.t,Q2q.t.p1,aC,zR,sy,reduceIte,Nat.reduceAdd,Nat.reduceLeDiff,Nat.reduceLT,Nat.reduceEqDiff,Int.reduceEq,Int.reduceLT,Int.reduceLE,Int.reduceNe,ly,h5]
  by_cases h6:k=6
  · simp only [Q2q.r,Q2q.t,Q2q.t.p1,aC,zR,sy,reduceIte,Nat.reduceAdd,Nat.reduceLeDiff,Nat.reduceLT,Nat.reduceEqDiff,Int.reduceEq,Int.reduceLT,Int.reduceLE,Int.reduceNe,ly,h6]
  by_cases h7:k=7
  · simp only [Q2q.r,Q2q.t,Q2q.t.p1,aC,zR,sy,reduceIte,Nat.reduceAdd,Nat.reduceLeDiff,Nat.reduceLT,Nat.reduceEqDiff,Int.reduceEq,Int.reduceLT,Int.reduceLE,Int.reduceNe,ly,h7]
  simp only [Q2q.r,Q2q.t,Q2q.t.p1,aC,zR,sy,reduceIte,Nat.reduceAdd,Nat.reduceLeDiff,Nat.reduceLT,Nat.reduceEqDiff,Int.reduceEq,Int.reduceLT,Int.reduceLE,Int.reduceNe,ly,h1,h3,h4,h5,h6,h7,h8]
theorem rhas_r (k:Int) (s:St):∃ w x y z,Q2n.r (.int .i64 k) s=some (.tuple ⟨[.bool w,.bool x,.bool y,.bool z]⟩):=by
  by_cases h1:k=1
  · exact ⟨true,false,false,false,by simp only [Q2n.r,Q2n.t,sy,reduceIte,Nat.reduceAdd,Nat.reduceLeDiff,Nat.reduceLT,Nat.reduceEqDiff,Int.reduceEq,Int.reduceLT,Int.reduceLE,Int.reduceNe,ly,h1]⟩
  by_cases h3:k=3
  · exact ⟨true,false,false,true,by simp only [Q2n.r,Q2n.t,sy,reduceIte,Nat.reduceAdd,Nat.reduceLeDiff,Nat.reduceLT,Nat.reduceEqDiff,Int.reduceEq,Int.reduceLT,Int.reduceLE,Int.reduceNe,ly,h3]⟩
  by_cases h4:k=4
  · exact ⟨true,false,false,true,by simp only [Q2n.r,Q2n.t,sy,reduceIte,Nat.reduceAdd,Nat.reduceLeDiff,Nat.reduceLT,Nat.reduceEqDiff,Int.reduceEq,Int.reduceLT,Int.reduceLE,Int.reduceNe,ly,h4]⟩
  by_cases h5:k=5
  · exact ⟨true,true,false,true,by simp only [Q2n.r,Q2n.t,sy,reduceIte,Nat.reduceAdd,Nat.reduceLeDiff,Nat.reduceLT,Nat.reduceEqDiff,Int.reduceEq,Int.reduceLT,Int.reduceLE,Int.reduceNe,ly,h5]⟩
  by_cases h6:k=6
  · exact ⟨true,true,false,false,by simp only [Q2n.r,Q2n.t,sy,reduceIte,Nat.reduceAdd,Nat.reduceLeDiff,Nat.reduceLT,Nat.reduceEqDiff,Int.reduceEq,Int.reduceLT,Int.reduceLE,Int.reduceNe,ly,h6]⟩
  by_cases h7:k=7
  · exact ⟨true,true,true,true,by simp only [Q2n.r,Q2n.t,sy,reduceIte,Nat.reduceAdd,Nat.reduceLeDiff,Nat.reduceLT,Nat.reduceEqDiff,Int.reduceEq,Int.reduceLT,Int.reduceLE,Int.reduceNe,ly,h7]⟩
  by_cases h8:k=8
  · exact ⟨true,false,false,true,by simp only [Q2n.r,Q2n.t,sy,reduceIte,Nat.reduceAdd,Nat.reduceLeDiff,Nat.reduceLT,Nat.reduceEqDiff,Int.reduceEq,Int.reduceLT,Int.reduceLE,Int.reduceNe,ly,h8]⟩
  exact ⟨false,false,false,false,by simp only [Q2n.r,Q2n.t,sy,reduceIte,Nat.reduceAdd,Nat.reduceLeDiff,Nat.reduceLT,Nat.reduceEqDiff,Int.reduceEq,Int.reduceLT,Int.reduceLE,Int.reduceNe,ly,h1,h3,h4,h5,h6,h7,h8]⟩
open Classical in
theorem rcheckAsk (a:AskP) (hw:0≤a.wb) (hr:0≤a.r.bt) (hr2:0≤a.r2.bt) (s:St):Q28.r (.agg ⟨aC a⟩) s=some (.int .i64 (if okA a then 0 else 40)):=by
  have ho:=ronlyA a s
  have hv:=rright_i a.wl a.wb hw s
  have h1:=isRef_d a.r hr s
  have h2:=isRef_d a.r2 hr2 s
  have he:=neA a (onlyA a)
  simp only [VI] at hv
  by_cases k1:1≤a.k
  · by_cases k2:a.k≤10
    · by_cases ho':a=onlyA a
      · rw [decide_eq_false (fun e=>e ho')] at he
        have hc:a.k=1∨a.k=2∨a.k=3∨a.k=4∨a.k=5∨a.k=6∨a.k=7∨a.k=8∨a.k=9∨a.k=10:=by omega
        simp only [aC] at ho he ⊢
        rcases hc with c | c | c | c | c | c | c | c | c | c
        · simp only [c] at ho he
          by_cases g0:okV a.wl a.wb
          · rw [decide_eq_true g0] at hv
            rw [if_pos (show okA a from ⟨⟨k1,k2⟩,ho',fun _=>g0,fun e=>by unfold hasR at e; omega,fun e=>by omega⟩)]
            simp only [Q28.r,Q28.t,Q2n.r,Q2n.t,c,ho,he,hv,sy,reduceIte,Nat.reduceAdd,Nat.reduceLeDiff,Nat.reduceLT,Nat.reduceEqDiff,Int.reduceEq,Int.reduceLT,Int.reduceLE,Int.reduceNe,ly]
          · rw [decide_eq_false g0] at hv
            rw [if_neg (show ¬ okA a from fun e=>g0 (e.2.2.1 (by unfold hasW; omega)))]
            simp only [Q28.r,Q28.t,Q2n.r,Q2n.t,c,ho,he,hv,sy,reduceIte,Nat.reduceAdd,Nat.reduceLeDiff,Nat.reduceLT,Nat.reduceEqDiff,Int.reduceEq,Int.reduceLT,Int.reduceLE,Int.reduceNe,ly]
        · simp only [c] at ho he
          rw [if_pos (show okA a from ⟨⟨k1,k2⟩,ho',fun e=>by unfold hasW at e; omega,fun e=>by unfold hasR at e; omega,fun e=>by omega⟩)]
          simp only [Q28.r,Q28.t,Q2n.r,Q2n.t,c,ho,he,sy,reduceIte,Nat.reduceAdd,Nat.reduceLeDiff,Nat.reduceLT,Nat.reduceEqDiff,Int.reduceEq,Int.reduceLT,Int.reduceLE,Int.reduceNe,ly]
        · simp only [c] at ho he
          by_cases g0:okV a.wl a.wb
          · rw [decide_eq_true g0] at hv
            rw [if_pos (show okA a from ⟨⟨k1,k2⟩,ho',fun _=>g0,fun e=>by unfold hasR at e; omega,fun e=>by omega⟩)]
            simp only [Q28.r,Q28.t,Q2n.r,Q2n.t,c,ho,he,hv,sy,reduceIte,Nat.reduceAdd,Nat.reduceLeDiff,Nat.reduceLT,Nat.reduceEqDiff,Int.reduceEq,Int.reduceLT,Int.reduceLE,Int.reduceNe,ly]
          · rw [decide_eq_false g0] at hv
            rw [if_neg (show ¬ okA a from fun e=>g0 (e.2.2.1 (by unfold hasW; omega)))]
            simp only [Q28.r,Q28.t,Q2n.r,Q2n.t,c,ho,he,hv,sy,reduceIte,Nat.reduceAdd,Nat.reduceLeDiff,Nat.reduceLT,Nat.reduceEqDiff,Int.reduceEq,Int.reduceLT,Int.reduceLE,Int.reduceNe,ly]
        · simp only [c] at ho he
          by_cases g0:okV a.wl a.wb
          · rw [decide_eq_true g0] at hv
            rw [if_pos (show okA a from ⟨⟨k1,k2⟩,ho',fun _=>g0,fun e=>by unfold hasR at e; omega,fun e=>by omega⟩)]
            simp only [Q28.r,Q28.t,Q2n.r,Q2n.t,c,ho,he,hv,sy,reduceIte,Nat.reduceAdd,Nat.reduceLeDiff,Nat.reduceLT,Nat.reduceEqDiff,Int.reduceEq,Int.reduceLT,Int.reduceLE,Int.reduceNe,ly]
          · rw [decide_eq_false g0] at hv
            rw [if_neg (show ¬ okA a from fun e=>g0 (e.2.2.1 (by unfold hasW; omega)))]
            simp only [Q28.r,Q28.t,Q2n.r,Q2n.t,c,ho,he,hv,sy,reduceIte,Nat.reduceAdd,Nat.reduceLeDiff,Nat.reduceLT,Nat.reduceEqDiff,Int.reduceEq,Int.reduceLT,Int.reduceLE,Int.reduceNe,ly]
        · simp only [c] at ho he
          by_cases g0:okV a.wl a.wb
          · rw [decide_eq_true g0] at hv
            by_cases g1:okRf a.r
            · rw [decide_eq_true g1] at h1
              rw [if_pos (show okA a from ⟨⟨k1,k2⟩,ho',fun _=>g0,fun _=>g1,fun e=>by omega⟩)]
              simp only [Q28.r,Q28.t,Q2n.r,Q2n.t,c,ho,he,hv,h1,sy,reduceIte,Nat.reduceAdd,Nat.reduceLeDiff,Nat.reduceLT,Nat.reduceEqDiff,Int.reduceEq,Int.reduceLT,Int.reduceLE,Int.reduceNe,ly]
            · rw [decide_eq_false g1] at h1
              rw [if_neg (show ¬ okA a from fun e=>g1 (e.2.2.2.1 (by unfold hasR; omega)))]
              simp only [Q28.r,Q28.t,Q2n.r,Q2n.t,c,ho,he,hv,h1,sy,reduceIte,Nat.reduceAdd,Nat.reduceLeDiff,Nat.reduceLT,Nat.reduceEqDiff,Int.reduceEq,Int.reduceLT,Int.reduceLE,Int.reduceNe,ly]
          · rw [decide_eq_false g0] at hv
            rw [if_neg (show ¬ okA a from fun e=>g0 (e.2.2.1 (by unfold hasW; omega)))]
            simp only [Q28.r,Q28.t,Q2n.r,Q2n.t,c,ho,he,hv,sy,reduceIte,Nat.reduceAdd,Nat.reduceLeDiff,Nat.reduceLT,Nat.reduceEqDiff,Int.reduceEq,Int.reduceLT,Int.reduceLE,Int.reduceNe,ly]
        · simp only [c] at ho he
          by_cases g0:okV a.wl a.wb
          · rw [decide_eq_true g0] at hv
            by_cases g1:okRf a.r
            · rw [decide_eq_true g1] at h1
              rw [if_pos (show okA a from ⟨⟨k1,k2⟩,ho',fun _=>g0,fun _=>g1,fun e=>by omega⟩)]
              simp only [Q28.r,Q28.t,Q2n.r,Q2n.t,c,ho,he,hv,h1,sy,reduceIte,Nat.reduceAdd,Nat.reduceLeDiff,Nat.reduceLT,Nat.reduceEqDiff,Int.reduceEq,Int.reduceLT,Int.reduceLE,Int.reduceNe,ly]
            · rw [decide_eq_false g1] at h1
              rw [if_neg (show ¬ okA a from fun e=>g1 (e.2.2.2.1 (by unfold hasR; omega)))]
              simp only [Q28.r,Q28.t,Q2n.r,Q2n.t,c,ho,he,hv,h1,sy,reduceIte,Nat.reduceAdd,Nat.reduceLeDiff,Nat.reduceLT,Nat.reduceEqDiff,Int.reduceEq,Int.reduceLT,Int.reduceLE,Int.reduceNe,ly]
          · rw [decide_eq_false g0] at hv
            rw [if_neg (show ¬ okA a from fun e=>g0 (e.2.2.1 (by unfold hasW; omega)))]
            simp only [Q28.r,Q28.t,Q2n.r,Q2n.t,c,ho,he,hv,sy,reduceIte,Nat.reduceAdd,Nat.reduceLeDiff,Nat.reduceLT,Nat.reduceEqDiff,Int.reduceEq,Int.reduceLT,Int.reduceLE,Int.reduceNe,ly]
        · simp only [c] at ho he
          by_cases g0:okV a.wl a.wb
          · rw [decide_eq_true g0] at hv
            by_cases g1:okRf a.r
            · rw [decide_eq_true g1] at h1
              by_cases g2:okRf a.r2
              · rw [decide_eq_true g2] at h2
                rw [if_pos (show okA a from ⟨⟨k1,k2⟩,ho',fun _=>g0,fun _=>g1,fun _=>g2⟩)]
                simp only [Q28.r,Q28.t,Q2n.r,Q2n.t,c,ho,he,hv,h1,h2,sy,reduceIte,Nat.reduceAdd,Nat.reduceLeDiff,Nat.reduceLT,Nat.reduceEqDiff,Int.reduceEq,Int.reduceLT,Int.reduceLE,Int.reduceNe,ly]
              · rw [decide_eq_false g2] at h2
                rw [if_neg (show ¬ okA a from fun e=>g2 (e.2.2.2.2 c))]
                simp only [Q28.r,Q28.t,Q2n.r,Q2n.t,c,ho,he,hv,h1,h2,sy,reduceIte,Nat.reduceAdd,Nat.reduceLeDiff,Nat.reduceLT,Nat.reduceEqDiff,Int.reduceEq,Int.reduceLT,Int.reduceLE,Int.reduceNe,ly]
            · rw [decide_eq_false g1] at h1
              rw [if_neg (show ¬ okA a from fun e=>g1 (e.2.2.2.1 (by unfold hasR; omega)))]
              simp only [Q28.r,Q28.t,Q2n.r,Q2n.t,c,ho,he,hv,h1,sy,reduceIte,Nat.reduceAdd,Nat.reduceLeDiff,Nat.reduceLT,Nat.reduceEqDiff,Int.reduceEq,Int.reduceLT,Int.reduceLE,Int.reduceNe,ly]
          · rw [decide_eq_false g0] at hv
            rw [if_neg (show ¬ okA a from fun e=>g0 (e.2.2.1 (by unfold hasW; omega)))]
            simp only [Q28.r,Q28.t,Q2n.r,Q2n.t,c,ho,he,hv,sy,reduceIte,Nat.reduceAdd,Nat.reduceLeDiff,Nat.reduceLT,Nat.reduceEqDiff,Int.reduceEq,Int.reduceLT,Int.reduceLE,Int.reduceNe,ly]
        · simp only [c] at ho he
          by_cases g0:okV a.wl a.wb
          · rw [decide_eq_true g0] at hv
            rw [if_pos (show okA a from ⟨⟨k1,k2⟩,ho',fun _=>g0,fun e=>by unfold hasR at e; omega,fun e=>by omega⟩)]
            simp only [Q28.r,Q28.t,Q2n.r,Q2n.t,c,ho,he,hv,sy,reduceIte,Nat.reduceAdd,Nat.reduceLeDiff,Nat.reduceLT,Nat.reduceEqDiff,Int.reduceEq,Int.reduceLT,Int.reduceLE,Int.reduceNe,ly]
          · rw [decide_eq_false g0] at hv
            rw [if_neg (show ¬ okA a from fun e=>g0 (e.2.2.1 (by unfold hasW; omega)))]
            simp only [Q28.r,Q28.t,Q2n.r,Q2n.t,c,ho,he,hv,sy,reduceIte,Nat.reduceAdd,Nat.reduceLeDiff,Nat.reduceLT,Nat.reduceEqDiff,Int.reduceEq,Int.reduceLT,Int.reduceLE,Int.reduceNe,ly]
        · simp only [c] at ho he
          rw [if_pos (show okA a from ⟨⟨k1,k2⟩,ho',fun e=>by unfold hasW at e; omega,fun e=>by unfold hasR at e; omega,fun e=>by omega⟩)]
          simp only [Q28.r,Q28.t,Q2n.r,Q2n.t,c,ho,he,sy,reduceIte,Nat.reduceAdd,Nat.reduceLeDiff,Nat.reduceLT,Nat.reduceEqDiff,Int.reduceEq,Int.reduceLT,Int.reduceLE,Int.reduceNe,ly]
        · simp only [c] at ho he
          rw [if_pos (show okA a from ⟨⟨k1,k2⟩,ho',fun e=>by unfold hasW at e; omega,fun e=>by unfold hasR at e; omega,fun e=>by omega⟩)]
          simp only [Q28.r,Q28.t,Q2n.r,Q2n.t,c,ho,he,sy,reduceIte,Nat.reduceAdd,Nat.reduceLeDiff,Nat.reduceLT,Nat.reduceEqDiff,Int.reduceEq,Int.reduceLT,Int.reduceLE,Int.reduceNe,ly]
      · rw [decide_eq_true ho'] at he
        rw [if_neg (show ¬ okA a from fun e=>ho' e.2.1)]
        have j1:¬ a.k < 1:=by omega
        have j2:¬ (10 < a.k):=by omega
        have hh:∃ w x y z,Q2n.r (.int .i64 a.k) s=some (.tuple ⟨[.bool w,.bool x,.bool y,.bool z]⟩):=rhas_r a.k s
        obtain ⟨w,x,y,z,hh⟩:=hh
        simp only [aC] at ho he ⊢
        simp only [Q28.r,Q28.t,hh,j1,j2,ho,he,sy,reduceIte,Nat.reduceAdd,Nat.reduceLeDiff,Nat.reduceLT,Nat.reduceEqDiff,Int.reduceEq,Int.reduceLT,Int.reduceLE,Int.reduceNe,ly]
    · rw [if_neg (show ¬ okA a from fun e=>k2 e.1.2)]
      have j1:¬ a.k < 1:=by omega
      have j2:10 < a.k:=by omega
      obtain ⟨w,x,y,z,hh⟩:=rhas_r a.k s
      simp only [aC]
      simp only [Q28.r,Q28.t,hh,j1,j2,sy,reduceIte,Nat.reduceAdd,Nat.reduceLeDiff,Nat.reduceLT,Nat.reduceEqDiff,Int.reduceEq,Int.reduceLT,Int.reduceLE,Int.reduceNe,ly]
  · rw [if_neg (show ¬ okA a from fun e=>k1 e.1.1)]
    have j1:a.k < 1:=by omega
    obtain ⟨w,x,y,z,hh⟩:=rhas_r a.k s
    simp only [aC]
    simp only [Q28.r,Q28.t,hh,j1,sy,reduceIte,Nat.reduceAdd,Nat.reduceLeDiff,Nat.reduceLT,Nat.reduceEqDiff,Int.reduceEq,Int.reduceLT,Int.reduceLE,Int.reduceNe,ly]
end Go.Proofs.Yteapmnolmfickaa
/-
  Asks: which may be,by the program.
-/
set_option linter.unusedSimpArgs false
set_option linter.unusedVariables false
set_option maxRecDepth 100000
set_option maxHeartbeats 4000000
namespace Go.Proofs.Yteapmnolmfickaa
open Go.Sim Go.Sim.Bt
attribute [local congr] bdc cndc itec gdc gdSc gdUc
def ki (l:List Int):List (List Value):=l.map fun k=>[.int .i64 k]
theorem ki_snoc (l:List Int) (k:Int):ki (l++[k])=ki l++[[.int .i64 k]]:=by simp [ki]
theorem ki_app (l m:List Int):ki (l++m)=ki l++ki m:=by simp [ki]
theorem app_many {s0 s:St} {sz by_:Nat} {v w:Value} {rows news:List (List Value)} (f:Fresh s) (h:Ful s0.n s sz v rows) (m:More s0 s) (hl:lenV w=some news.length) (hr:rowsOf s sz news.length w=some news) (hb:(rows.length+news.length) * by_≤140737488355328) (hlm:rows.length+news.length≤9223372036854775807) (e0:0 < news.length) :
    ∃ v' s',app s sz by_ v w=some (v',s')∧More s0 s'∧Ful s0.n s' sz v' (rows++news)∧Fresh s':=by
  rcases h with ⟨rfl,rfl⟩ | ⟨b,e,h0,rfl,hg,he⟩
  · refine ⟨_,_,app_nil hl hr e0 (by simpa using hb) (by simpa using hlm),m.trans .new,.inr ⟨s.n,1,m.n,by simp,get_new_same,.inl rfl⟩,f.new⟩
  · rcases he with rfl | rfl
    · refine ⟨_,_,app_own hl hr hg (Nat.le_refl _) e0 hb hlm,(m.del h0).trans .new,.inr ⟨s.n,1,m.n,by simp,?_,.inl rfl⟩,f.del.new⟩
      rw [List.take_length]; exact get_new_same (s:=s.del b)
    · refine ⟨_,_,app_full hl hr hg (by omega) (by omega) (by omega) hb hlm,m.trans .new,.inr ⟨s.n,1,m.n,by simp,?_,.inl rfl⟩,f.new⟩
      simp only [List.drop_zero,List.take_length]
      exact get_new_same
def needsP (k:Int):Option (List Int) :=
  if k=1 then some [5] else if k=3∨k=4∨k=8 then some [5,2,2] else if k=5 then some [5,7,2,2] else if k=6 then some [5,7] else if k=7 then some [5,7,7,2,2]
  else if k=2∨k=9∨k=10 then some [] else none
def NdIs (s:St) (r:Option (Value×St)):Option (List Int)→Prop
  | some l=>∃ v s',r=some (.tuple ⟨[v,.bool true]⟩,s')∧More s s'∧Ful s.n s' 1 v (ki l)∧Fresh s'
  | none=>r=some (.tuple ⟨[.slice none 0 0,.bool false]⟩,s)
theorem one_more {s0 s:St} {v:Value} {l:List Int} (k:Int) (f:Fresh s) (h:Ful s0.n s 1 v (ki l)) (m:More s0 s) (hl:l.length≤100) :
    ∃ v' s',app (s.new (.row 1 [[.int .i64 k]] false)) 1 8 v (.slice (some ⟨s.n,0,some 0⟩) 1 2)=some (v',s')∧More s0 s'∧Ful s0.n s' 1 v' (ki (l++[k]))∧Fresh s':=by
  have hk:(ki l).length=l.length:=by simp [ki]
  obtain ⟨v',s',h1,h2,h3,h4,_⟩:=push f h m (by_:=8) [.int .i64 k] (by omega) (by omega)
  exact ⟨v',s',h1,h2,by rw [ki_snoc]; exact h3,h4⟩
theorem two_more {s0 s:St} {v:Value} {l:List Int} (k k2:Int) (f:Fresh s) (h:Ful s0.n s 1 v (ki l)) (m:More s0 s) (hl:l.length≤100) :
    ∃ v' s',app (s.new (.row 1 [[.int .i64 k],[.int .i64 k2]] false)) 1 8 v (.slice (some ⟨s.n,0,some 0⟩) 2 4)=some (v',s')∧More s0 s'∧Ful s0.n s' 1 v' (ki (l++[k,k2]))∧Fresh s':=by
  have hk:(ki l).length=l.length:=by simp [ki]
  have m1:More s (s.new (.row 1 [[.int .i64 k],[.int .i64 k2]] false)):=.new
  have hr:rowsOf (s.new (.row 1 [[.int .i64 k],[.int .i64 k2]] false)) 1 2 (.slice (some ⟨s.n,0,some 0⟩) 2 4)=some [[.int .i64 k],[.int .i64 k2]]:=by
    rw [rowsOf_row get_new_same (Nat.le_refl _) (by simp)]; rfl
  obtain ⟨v',s',h1,h2,h3,h4⟩:=app_many (by_:=8) (m1.fresh f) (h.more m1 f) (m.trans m1) (news:=[[.int .i64 k],[.int .i64 k2]]) rfl hr (by simp; omega) (by simp; omega) (by simp)
  exact ⟨v',s',h1,h2,by rw [ki_app]; exact h3,h4⟩
theorem head_more {s0 s:St} {v:Value} {l:List Int} (k:Int) (f:Fresh s) (h:Ful s0.n s 1 v (ki l)) (m:More s0 s) (hl:l.length≤100) :
    ∃ v' s',app (s.new (.row 1 [[.int .i64 k]] false)) 1 8 (.slice (some ⟨s.n,0,some 0⟩) 1 2) v=some (v',s')∧More s0 s'∧Ful s0.n s' 1 v' (ki (k :: l))∧Fresh s':=by
  have hk:(ki l).length=l.length:=by simp [ki]
  have m1:More s (s.new (.row 1 [[.int .i64 k]] false)):=.new
  have f1:=m1.fresh f
  have hb:Ful s0.n (s.new (.row 1 [[.int .i64 k]] false)) 1 (.slice (some ⟨s.n,0,some 0⟩) 1 2) [[.int .i64 k]]:=.inr ⟨s.n,2,m.n,rfl,get_new_same,.inr rfl⟩
  have hv:=h.more m1 f
  have hg:(s.new (.row 1 [[.int .i64 k]] false)).get s.n=some (.row 1 [[.int .i64 k]] false):=get_new_same
  generalize s.new (.row 1 [[.int .i64 k]] false)=s1 at *
  by_cases h0:l=[]
  · subst h0
    refine ⟨.slice (some ⟨s.n,0,some 0⟩) 1 2,s1.put s.n (.row 1 [[.int .i64 k]] false),?_,(m.trans m1).put m.n,.inr ⟨s.n,2,m.n,rfl,get_put_same hg,.inr rfl⟩,f1.put⟩
    rcases hv with ⟨rfl,e⟩ | ⟨b,e,g0,rfl,gg,ge⟩
    · simp [app,lenV,rowsOf,hg]
    · have:rowsOf s1 1 0 (.slice (some ⟨b,0,some 0⟩) (ki []).length e)=some []:=by
        rw [rowsOf_row gg (Nat.zero_le _) (by simp)]; rfl
      have e1:lenV (.slice (some ⟨b,0,some 0⟩) (ki []).length e)=some 0:=rfl
      simp [app,e1,this,hg]
  · have hpos:0 < (ki l).length:=by rw [hk]; exact List.length_pos_iff.2 h0
    have e1:lenV v=some (ki l).length:=by
      rcases hv with ⟨rfl,e⟩ | ⟨b,e,g0,rfl,gg,ge⟩
      · rw [e]; rfl
      · rfl
    have e2:rowsOf s1 1 (ki l).length v=some (ki l):=by
      rcases hv with ⟨rfl,e⟩ | ⟨b,e,g0,rfl,gg,ge⟩
      · rw [e]; rfl
      · rw [rowsOf_row gg (Nat.le_refl _) (by omega)]; simp
    obtain ⟨v',s',g1,g2,g3,g4⟩:=app_many (by_:=8) f1 hb (m.trans m1) e1 e2 (by simp; omega) (by simp; omega) hpos
    exact ⟨v',s',g1,g2,g3,g4⟩
theorem needs_v {s:St} (k:Int) (f:Fresh s):NdIs s (Qq.v (.int .i64 k) s) (needsP k):=by
  have a1:∀ (t:St) (x:Int),((bls 1 (List.replicate 1 [.int .i64 0]) [(0,.int .i64 x)]).bind fun rows=>als t 1 1 rows)=some (.slice (some ⟨t.n,0,some 0⟩) 1 2,t.new (.row 1 [[.int .i64 x]] false)):=fun _ _=>rfl
  have a2:∀ (t:St) (x y:Int),((bls 1 (List.replicate 2 [.int .i64 0]) [(0,.int .i64 x),(1,.int .i64 y)]).bind fun rows=>als t 1 2 rows)=some (.slice (some ⟨t.n,0,some 0⟩) 2 4,t.new (.row 1 [[.int .i64 x],[.int .i64 y]] false)):=fun _ _ _=>rfl
  have nl:Ful s.n s 1 (.slice none 0 0) (ki []):=.inl ⟨rfl,rfl⟩
  unfold needsP
  by_cases h1:k=1
  · rw [if_pos h1]
    obtain ⟨v,s1,p1,p2,p3,p4⟩:=head_more 5 f nl (.refl s) (by simp)
    refine ⟨v,s1,?_,p2,p3,p4⟩
    subst h1
    simp only [Qq.v,Qq.t,std_bd,std_cnd,eqb1,Int.reduceEq,decide_true,decide_false,bds,cndt,cndf,reduceIte,Nat.reduceEqDiff,List.getD_cons_zero,List.getD_cons_succ,a1,p1]
  rw [if_neg h1]
  by_cases h3:k=3∨k=4∨k=8
  · rw [if_pos h3]
    obtain ⟨v,s1,p1,p2,p3,p4⟩:=two_more 2 2 f nl (.refl s) (by simp)
    obtain ⟨w,s2,q1,q2,q3,q4⟩:=head_more 5 p4 p3 p2 (by simp)
    refine ⟨w,s2,?_,q2,q3,q4⟩
    rcases h3 with rfl | rfl | rfl <;>
      simp only [Qq.v,Qq.t,std_bd,std_cnd,eqb1,Int.reduceEq,decide_true,decide_false,bds,cndt,cndf,reduceIte,Nat.reduceEqDiff,List.getD_cons_zero,List.getD_cons_succ,a1,a2,p1,q1]
  rw [if_neg h3]
  by_cases h5:k=5
  · rw [if_pos h5]
    obtain ⟨u,s0,o1,o2,o3,o4⟩:=one_more 7 f nl (.refl s) (by simp)
    obtain ⟨v,s1,p1,p2,p3,p4⟩:=two_more 2 2 o4 o3 o2 (by simp)
    obtain ⟨w,s2,q1,q2,q3,q4⟩:=head_more 5 p4 p3 p2 (by simp)
    refine ⟨w,s2,?_,q2,q3,q4⟩
    subst h5
    simp only [Qq.v,Qq.t,std_bd,std_cnd,eqb1,Int.reduceEq,decide_true,decide_false,bds,cndt,cndf,reduceIte,Nat.reduceEqDiff,List.getD_cons_zero,List.getD_cons_succ,a1,a2,o1,p1,q1]
  rw [if_neg h5]
  by_cases h6:k=6
  · rw [if_pos h6]
    obtain ⟨v,s1,p1,p2,p3,p4⟩:=two_more 5 7 f nl (.refl s) (by simp)
    refine ⟨v,s1,?_,p2,p3,p4⟩
    subst h6
    simp only [Qq.v,Qq.t,std_bd,std_cnd,eqb1,Int.reduceEq,decide_true,decide_false,bds,cndt,cndf,reduceIte,Nat.reduceEqDiff,List.getD_cons_zero,List.getD_cons_succ,a1,a2,p1]
  rw [if_neg h6]
  by_cases h7:k=7
  · rw [if_pos h7]
    obtain ⟨u,s0,o1,o2,o3,o4⟩:=one_more 7 f nl (.refl s) (by simp)
    obtain ⟨u',s0',o1',o2',o3',o4'⟩:=one_more 7 o4 o3 o2 (by simp)
    obtain ⟨v,s1,p1,p2,p3,p4⟩:=two_more 2 2 o4' o3' o2' (by simp)
    obtain ⟨w,s2,q1,q2,q3,q4⟩:=head_more 5 p4 p3 p2 (by simp)
    refine ⟨w,s2,?_,q2,q3,q4⟩
    subst h7
    simp only [Qq.v,Qq.t,std_bd,std_cnd,eqb1,Int.reduceEq,decide_true,decide_false,bds,cndt,cndf,reduceIte,Nat.reduceEqDiff,List.getD_cons_zero,List.getD_cons_succ,a1,a2,o1,o1',p1,q1]
  rw [if_neg h7]
  by_cases h2:k=2∨k=9∨k=10
  · rw [if_pos h2]
    refine ⟨.slice none 0 0,s,?_,.refl s,nl,f⟩
    rcases h2 with rfl | rfl | rfl <;>
      simp only [Qq.v,Qq.t,std_bd,std_cnd,eqb1,Int.reduceEq,decide_true,decide_false,bds,cndt,cndf,reduceIte,Nat.reduceEqDiff,List.getD_cons_zero,List.getD_cons_succ]
  · rw [if_neg h2]
    have h3':¬ k=3:=fun e=>h3 (.inl e)
    have h4':¬ k=4:=fun e=>h3 (.inr (.inl e))
    have h8':¬ k=8:=fun e=>h3 (.inr (.inr e))
    have h2':¬ k=2:=fun e=>h2 (.inl e)
    have h9':¬ k=9:=fun e=>h2 (.inr (.inl e))
    have h10':¬ k=10:=fun e=>h2 (.inr (.inr e))
    show Qq.v _ s=_
    simp only [Qq.v,Qq.t,std_bd,std_cnd,eqb1,h1,h2',h3',h4',h5,h6,h7,h8',h9',h10',decide_false,bds,cndt,cndf,reduceIte,Nat.reduceEqDiff,List.getD_cons_zero,List.getD_cons_succ]
def mV (wl wb:Int):Fd:=⟨5,0,0,false,nilB,wl,wb,0,0,0,0,0,0,0⟩
def mR (r:Rf):Fd:=⟨7,0,0,false,nilB,0,0,0,0,r.id,r.rk,r.n,r.ln,r.bt⟩
def mI (i:Int):Fd:=⟨2,0,i,false,nilB,0,0,0,0,0,0,0,0,0⟩
def fieldOf (a:AskP) (k:Int) (ri ii:Nat):Fd:=if k=5 then mV a.wl a.wb else if k=7 then mR (if ri=0 then a.r else a.r2) else mI (if ii=0 then a.oa else a.oo)
def okM (f:Fd):Prop:=okF f noB 0
open Classical in
noncomputable def askL (a:AskP):List Int→Nat→Nat→List Fd→Option (List Fd)
  | [],_,_,out=>some out
  | k :: ks,ri,ii,out=>if okM (fieldOf a k ri ii) then askL a ks (ri+if k=7 then 1 else 0) (ii+if k=2 then 1 else 0) (out++[fieldOf a k ri ii]) else none
open Classical in
theorem chkM (f:Fd) (hb:f.b=nilB) (h5:0≤f.vb) (h7:0≤f.rb) (s:St):Qy.r f.v s=some (.int .i64 (if okM f then 0 else 30)):=by
  have:=check_r f (x:=noB) (n:=0) s (by rw [hb]; rfl) (by rw [hb]; rfl) (by rw [hb]; rfl) h5 h7
  exact this
theorem okM_V (wl wb:Int):okM (mV wl wb)↔okV wl wb:=by
  unfold okM okF
  constructor
  · intro h; exact h.2.2.2.1 rfl
  · intro h
    refine ⟨by unfold isKd mV; simp,by simp [sameP,onlyF,mV,ownB],fun e=>by simp [mV] at e,fun _=>h,fun e=>by simp [mV] at e,fun e=>by simp [mV] at e⟩
theorem okM_R (r:Rf):okM (mR r)↔okRf r:=by
  unfold okM okF
  constructor
  · intro h; exact h.2.2.2.2.2 rfl
  · intro h
    refine ⟨by unfold isKd mR; simp,by simp [sameP,onlyF,mR,ownB],fun e=>by simp [mR] at e,fun e=>by simp [mR] at e,fun e=>by simp [mR] at e,fun _=>h⟩
theorem okM_I (i:Int):okM (mI i):=by
  unfold okM okF
  refine ⟨by unfold isKd mI; simp,by simp [sameP,onlyF,mI,ownB],fun e=>by simp [mI] at e,fun e=>by simp [mI] at e,fun e=>by simp [mI] at e,fun e=>by simp [mI] at e⟩
end Go.Proofs.Yteapmnolmfickaa
/-
  The fields of an ask,the ask of fields,and which asks may be,by the program.
-/
set_option linter.unusedSimpArgs false
set_option linter.unusedVariables false
set_option maxRecDepth 100000
set_option maxHeartbeats 4000000
namespace Go.Proofs.Yteapmnolmfickaa
open Go.Sim Go.Sim.Bt
attribute [local congr] bdc cndc itec gdc gdSc gdUc
def rvA (c i:Nat):Value:=.slice (some ⟨c,i,some 0⟩) (2 - i) (2 * (2 - i))
theorem rv_step {s:St} {c i sz:Nat} {x y:List Value} (hg:s.get c=some (.row sz [x,y] false)) (hi:i < 2) (hx:x.length=sz) (hy:y.length=sz) :
    idx s sz (rvA c i) (.int .i64 0)=some (.pointer (some ⟨c,i,some 0⟩))∧lda s sz (.pointer (some ⟨c,i,some 0⟩))=some (.agg ⟨if i=0 then x else y⟩)∧slc s sz (rvA c i) (some (.int .i64 1)) none none=some (rvA c (i+1)):=by
  have e1:optN (some (Value.int .i64 1)) 0=some 1:=rfl
  have e2:∀ n,optN none n=some n:=fun _=>rfl
  have hl:∀ (l:List Value),l.length=sz→l.take sz=l:=fun l h=>by rw [← h,List.take_length]
  refine ⟨?_,?_,?_⟩
  · have:=idx_row (k:=.i64) (i:=i) (n:=0) (len:=2 - i) (e:=2 * (2 - i)) hg (by omega) (by omega)
    simpa [rvA] using this
  · rw [lda_row hg]
    rcases (show i=0∨i=1 by omega) with rfl | rfl
    · simp [hx,hl x hx]
    · simp [hy,hl y hy]
  · unfold slc rvA
    rw [e1,bds]
    show ((optN none (2 - i)).bind _)=_
    rw [e2,bds,hg]
    show (if sz=sz∧1≤2 - i then (if 2 * (2 - i)=1 then _ else if 2 - i≤2 * (2 - i) / 2 then some (Value.slice (some ⟨c,i+1,some 0⟩) (2 - i - 1) (2 * (2 * (2 - i) / 2 - 1))) else none) else none)=_
    rw [if_pos ⟨rfl,by omega⟩,if_neg (by omega),if_pos (by omega)]
    rcases (show i=0∨i=1 by omega) with rfl | rfl <;> rfl
def AkIs (s0:St) (a:AskP) (r:Nat→Option Cut):Option (List Fd)→Prop
  | some fs=>∃ ov s',(∀ e,r e=some (0,[ov,.agg ⟨aC a⟩],s'))∧More s0 s'∧Fresh s'∧Ful s0.n s' 14 ov (fs.map Fd.cs)
  | none=>∃ s',(∀ e,r e=some (1,[.slice none 0 0,.bool false],s'))∧More s0 s'∧Fresh s'
def cnt (x:Int) (l:List Int):Nat:=(l.filter fun k=>decide (k=x)).length
theorem askloop {s0:St} {a:AskP} {c1 c2:Nat} {kv:Value} {L:List Int} (f0:Fresh s0) (hL:L.length≤10) (g1:s0.get c1=some (.row 5 [a.r.cs,a.r2.cs] false)) (g2:s0.get c2=some (.row 1 [[.int .i64 a.oa],[.int .i64 a.oo]] false)) (hk:IsR s0 1 kv (ki L))
    (hw:0≤a.wb) (hr:0≤a.r.bt) (hr2:0≤a.r2.bt):∀ (ks:List Int) (j ri ii:Nat) {s:St} {ov:Value} {out:List Fd},L.drop j=ks→j≤L.length→(∀ k ∈ ks,k=5∨k=7∨k=2)→ri+cnt 7 ks≤2→ii+cnt 2 ks≤2→out.length=j→Fresh s→More s0 s→Ful s0.n s 14 ov (out.map Fd.cs) →
    AkIs s0 a (fun e=>iter (Qo.l7 std) (e+ks.length+1) [ov,rvA c1 ri,rvA c2 ii,kv,.int .i64 (L.length:Int),.int .i64 (j:Int),.agg ⟨aC a⟩] s) (askL a ks ri ii out)
  | [],j,ri,ii,s,ov,out,hd,hj,hks,h7,h2,ho,f,m,h=>by
    have:j=L.length:=by
      have:=congrArg List.length hd
      simp at this; omega
    subst this
    unfold askL
    refine ⟨ov,s,fun e=>?_,m,f,h⟩
    have lt1:bin .lss (.int .i64 (L.length:Int)) (.int .i64 (L.length:Int))=some (.bool false):=by
      rw [bin_lss,decide_eq_false (by omega)]
    dsimp only
    rw [iter_succ]
    unfold Qo.l7
    simp only [std_bd,std_cnd,List.getD_cons_zero,List.getD_cons_succ,lt1,bds,cndf,cellsA]
  | k :: ks,j,ri,ii,s,ov,out,hd,hj,hks,h7,h2,ho,f,m,h=>by
    have hlt:j < L.length:=by
      have:=congrArg List.length hd
      simp at this; omega
    have hkj:L[j]?=some k:=by
      have e:=congrArg (fun l=>l[0]?) hd
      simpa using e
    have hd':L.drop (j+1)=ks:=by
      have e:=congrArg List.tail hd
      simpa [List.tail_drop] using e
    obtain ⟨b,all,ro,i1,i2,i3⟩:=(hk.more m f0).at (j:=j) (r:=[.int .i64 k]) (by simp [ki,hkj])
    have i4:ldc s (.pointer (some ⟨b,j,some 0⟩))=some (.int .i64 k):=by rw [ldc_row i2,i3]; rfl
    have lt0:(j:Int) < (L.length:Int):=by omega
    have add0:IntKind.i64.wrap ((j:Int)+1)=((j+1:Nat):Int):=by rw [wrap64 (by omega) (by omega)]; omega
    have als14:∀ (g:Fd) (t:St),als t 14 1 [g.cs]=some (.slice (some ⟨t.n,0,some 0⟩) 1 2,t.new (.row 14 [g.cs] false)):=fun _ _=>rfl
    obtain ⟨ov',s',p1,p2,p3,p4,_⟩:=push f h m (by_:=128) (fieldOf a k ri ii).cs (by simp; omega) (by simp; omega)
    have p3':Ful s0.n s' 14 ov' ((out++[fieldOf a k ri ii]).map Fd.cs):=by rw [List.map_append]; exact p3
    have e14:=als14 (fieldOf a k ri ii) s
    have hgc:=m.get f0 g1
    have hgi:=m.get f0 g2
    unfold askL
    -- one round
    have step:∀ (ri' ii':Nat),ri'=ri+(if k=7 then 1 else 0)→ii'=ii+(if k=2 then 1 else 0)→(okM (fieldOf a k ri ii)→∀ e,iter (Qo.l7 std) (e+1) [ov,rvA c1 ri,rvA c2 ii,kv,.int .i64 (L.length:Int),.int .i64 (j:Int),.agg ⟨aC a⟩] s=iter (Qo.l7 std) e [ov',rvA c1 ri',rvA c2 ii',kv,.int .i64 (L.length:Int),.int .i64 ((j+1:Nat):Int),.agg ⟨aC a⟩] s') ∧
        (¬ okM (fieldOf a k ri ii)→∀ e,iter (Qo.l7 std) (e+1) [ov,rvA c1 ri,rvA c2 ii,kv,.int .i64 (L.length:Int),.int .i64 (j:Int),.agg ⟨aC a⟩] s=some (1,[.slice none 0 0,.bool false],s)):=by
      rintro ri' ii' rfl rfl
      rcases hks k (by simp) with rfl | rfl | rfl
      · have hf:fieldOf a 5 ri ii=mV a.wl a.wb:=rfl
        rw [hf] at p1 e14 ⊢
        have hc:=chkM (mV a.wl a.wb) rfl hw (Int.le_refl _) s
        have n1:ri+(if (5:Int)=7 then 1 else 0)=ri:=rfl
        have n2:ii+(if (5:Int)=2 then 1 else 0)=ii:=rfl
        rw [n1,n2]
        simp only [Fd.cs,mV,nilB] at p1 e14
        constructor
        · intro g e
          rw [if_pos g] at hc
          simp only [Fd.v,Fd.cs,mV,nilB] at hc
          rw [iter_succ]
          generalize iter (Qo.l7 std) e=R
          simp only [Qo.l7,Qo.l7.p1,aC,sy,reduceIte,Nat.reduceAdd,Nat.reduceLeDiff,Nat.reduceLT,Nat.reduceEqDiff,Int.reduceEq,Int.reduceLT,Int.reduceLE,Int.reduceNe,ly,lt0,i1,i4,hc,e14,p1,add0]
        · intro g e
          rw [if_neg g] at hc
          simp only [Fd.v,Fd.cs,mV,nilB] at hc
          rw [iter_succ]
          simp only [Qo.l7,Qo.l7.p1,aC,sy,reduceIte,Nat.reduceAdd,Nat.reduceLeDiff,Nat.reduceLT,Nat.reduceEqDiff,Int.reduceEq,Int.reduceLT,Int.reduceLE,Int.reduceNe,ly,lt0,i1,i4,hc]
      · have hri:ri < 2:=by
          have:cnt 7 (7 :: ks)=cnt 7 ks+1:=by simp [cnt]
          omega
        obtain ⟨w1,w2,w3⟩:=rv_step hgc hri rfl rfl
        have hf:fieldOf a 7 ri ii=mR (if ri=0 then a.r else a.r2):=rfl
        rw [hf] at p1 e14 ⊢
        have hw2:lda s 5 (.pointer (some ⟨c1,ri,some 0⟩))=some (.agg ⟨(if ri=0 then a.r else a.r2).cs⟩):=by
          rw [w2]; split <;> rfl
        have hb:0≤(if ri=0 then a.r else a.r2).bt:=by split <;> assumption
        generalize (if ri=0 then a.r else a.r2)=q at *
        have hc:=chkM (mR q) rfl (Int.le_refl _) hb s
        have n1:ri+(if (7:Int)=7 then 1 else 0)=ri+1:=rfl
        have n2:ii+(if (7:Int)=2 then 1 else 0)=ii:=rfl
        rw [n1,n2]
        simp only [Fd.cs,mR,nilB] at p1 e14
        constructor
        · intro g e
          rw [if_pos g] at hc
          simp only [Fd.v,Fd.cs,mR,nilB] at hc
          rw [iter_succ]
          generalize iter (Qo.l7 std) e=R
          simp only [Qo.l7,Qo.l7.p1,aC,sy,reduceIte,Nat.reduceAdd,Nat.reduceLeDiff,Nat.reduceLT,Nat.reduceEqDiff,Int.reduceEq,Int.reduceLT,Int.reduceLE,Int.reduceNe,ly,lt0,i1,i4,w1,hw2,w3,hc,e14,p1,add0]
        · intro g e
          rw [if_neg g] at hc
          simp only [Fd.v,Fd.cs,mR,nilB] at hc
          rw [iter_succ]
          simp only [Qo.l7,Qo.l7.p1,aC,sy,reduceIte,Nat.reduceAdd,Nat.reduceLeDiff,Nat.reduceLT,Nat.reduceEqDiff,Int.reduceEq,Int.reduceLT,Int.reduceLE,Int.reduceNe,ly,lt0,i1,i4,w1,hw2,w3,hc]
      · have hii:ii < 2:=by
          have:cnt 2 (2 :: ks)=cnt 2 ks+1:=by simp [cnt]
          omega
        obtain ⟨w1,w2,w3⟩:=rv_step hgi hii rfl rfl
        have hf:fieldOf a 2 ri ii=mI (if ii=0 then a.oa else a.oo):=rfl
        rw [hf] at p1 e14 ⊢
        have hw2:ldc s (.pointer (some ⟨c2,ii,some 0⟩))=some (.int .i64 (if ii=0 then a.oa else a.oo)):=by
          rw [ldc_row hgi]
          rcases (show ii=0∨ii=1 by omega) with rfl | rfl <;> rfl
        generalize (if ii=0 then a.oa else a.oo)=q at *
        have hc:=chkM (mI q) rfl (Int.le_refl _) (Int.le_refl _) s
        have n1:ri+(if (2:Int)=7 then 1 else 0)=ri:=rfl
        have n2:ii+(if (2:Int)=2 then 1 else 0)=ii+1:=rfl
        rw [n1,n2]
        simp only [Fd.cs,mI,nilB] at p1 e14
        constructor
        · intro g e
          rw [if_pos g] at hc
          simp only [Fd.v,Fd.cs,mI,nilB] at hc
          rw [iter_succ]
          generalize iter (Qo.l7 std) e=R
          simp only [Qo.l7,Qo.l7.p1,aC,sy,reduceIte,Nat.reduceAdd,Nat.reduceLeDiff,Nat.reduceLT,Nat.reduceEqDiff,Int.reduceEq,Int.reduceLT,Int.reduceLE,Int.reduceNe,ly,lt0,i1,i4,w1,hw2,w3,hc,e14,p1,add0]
        · intro g e
          rw [if_neg g] at hc
          simp only [Fd.v,Fd.cs,mI,nilB] at hc
          rw [iter_succ]
          simp only [Qo.l7,Qo.l7.p1,aC,sy,reduceIte,Nat.reduceAdd,Nat.reduceLeDiff,Nat.reduceLT,Nat.reduceEqDiff,Int.reduceEq,Int.reduceLT,Int.reduceLE,Int.reduceNe,ly,lt0,i1,i4,w1,hw2,w3,hc]
    obtain ⟨st1,st2⟩:=step _ _ rfl rfl
    by_cases g:okM (fieldOf a k ri ii)
    · rw [if_pos g]
      have h7':ri+(if k=7 then 1 else 0)+cnt 7 ks≤2:=by
        by_cases e:k=7
        · subst e
          have:cnt 7 (7 :: ks)=cnt 7 ks+1:=by simp [cnt]
          rw [if_pos rfl]; omega
        · have:cnt 7 (k :: ks)=cnt 7 ks:=by simp [cnt,e]
          rw [if_neg e]; omega
      have h2':ii+(if k=2 then 1 else 0)+cnt 2 ks≤2:=by
        by_cases e:k=2
        · subst e
          have:cnt 2 (2 :: ks)=cnt 2 ks+1:=by simp [cnt]
          rw [if_pos rfl]; omega
        · have:cnt 2 (k :: ks)=cnt 2 ks:=by simp [cnt,e]
          rw [if_neg e]; omega
      have ih:=askloop f0 hL g1 g2 hk hw hr hr2 ks (j+1) _ _ hd' (by omega) (fun x hx=>hks x (by simp [hx])) h7' h2' (by simp [ho]) p4 p2 p3'
      revert ih
      cases askL a ks (ri+if k=7 then 1 else 0) (ii+if k=2 then 1 else 0) (out++[fieldOf a k ri ii]) with
      | some fs =>
        rintro ⟨ov2,s2,q1,q2⟩
        exact ⟨ov2,s2,fun e=>(st1 g (e+ks.length+1)).trans (q1 e),q2⟩
      | none =>
        rintro ⟨s2,q1,q2⟩
        exact ⟨s2,fun e=>(st1 g (e+ks.length+1)).trans (q1 e),q2⟩
    · rw [if_neg g]
      exact ⟨s,fun e=>st2 g (e+ks.length+1),m,f⟩
def madeL:List Fd→Bool→Bool→AskP→AskP
  | [],_,_,a=>a
  | f :: fs,rf,it,a=>if f.k=5 then madeL fs rf it { a with wl:=f.vl,wb:=f.vb }
    else if f.k=7 then (if rf then madeL fs rf it { a with r2:=⟨f.id,f.rr,f.rn,f.rl,f.rb⟩ } else madeL fs true it { a with r:=⟨f.id,f.rr,f.rn,f.rl,f.rb⟩ })
    else if it then madeL fs rf it { a with oo:=f.i } else madeL fs rf true { a with oa:=f.i }
def cB (b:Bool):Value:=.int .i64 (if b then 1 else 0)
theorem madeloop {s:St} {v:Value} {fs:List Fd} {z:List Value} (h:IsR s 14 v (fs.map Fd.cs)) (hl:fs.length≤10):∀ (gs:List Fd) (j:Nat) (rf it:Bool) (a:AskP),fs.drop j=gs→j≤fs.length →
    ∃ x y,∀ e,iter (Qp.l4 std) (e+gs.length+1) [cB rf,cB it,v,.int .i64 (fs.length:Int),.int .i64 (j:Int),.agg ⟨z⟩,.agg ⟨aC a⟩] s=some ((0,[.agg ⟨z⟩,.agg ⟨aC (madeL gs rf it a)⟩],s):Cut)∧x=y∧x=(0:Nat)
  | [],j,rf,it,a,hd,hj=>by
    have:j=fs.length:=by
      have:=congrArg List.length hd
      simp at this; omega
    subst this
    refine ⟨0,0,fun e=>⟨?_,rfl,rfl⟩⟩
    have lt1:bin .lss (.int .i64 (fs.length:Int)) (.int .i64 (fs.length:Int))=some (.bool false):=by
      rw [bin_lss,decide_eq_false (by omega)]
    rw [iter_succ]
    unfold Qp.l4
    simp only [std_bd,std_cnd,List.getD_cons_zero,List.getD_cons_succ,lt1,bds,cndf,cellsA,madeL]
  | f :: gs,j,rf,it,a,hd,hj=>by
    have hlt:j < fs.length:=by
      have:=congrArg List.length hd
      simp at this; omega
    have hfj:fs[j]?=some f:=by
      have e:=congrArg (fun l=>l[0]?) hd
      simpa using e
    have hd':fs.drop (j+1)=gs:=by
      have e:=congrArg List.tail hd
      simpa [List.tail_drop] using e
    obtain ⟨b,all,ro,i1,i2,i3⟩:=h.at (j:=j) (r:=f.cs) (by rw [List.getElem?_map,hfj]; rfl)
    have i4:lda s 14 (.pointer (some ⟨b,j,some 0⟩))=some (.agg ⟨f.cs⟩):=by rw [lda_row i2,i3]; rfl
    have lt0:(j:Int) < (fs.length:Int):=by omega
    have add0:IntKind.i64.wrap ((j:Int)+1)=((j+1:Nat):Int):=by rw [wrap64 (by omega) (by omega)]; omega
    have w1:IntKind.i64.wrap (0+1)=1:=rfl
    refine ⟨0,0,fun e=>⟨?_,rfl,rfl⟩⟩
    rw [show e+(f :: gs).length+1=(e+gs.length+1)+1 by simp; omega,iter_succ]
    unfold madeL
    have c10:¬ ((1:Int)=0):=by omega
    simp only [Fd.cs] at i4
    by_cases h5:f.k=5
    · rw [if_pos h5]
      obtain ⟨_,_,ih⟩:=madeloop (z:=z) h hl gs (j+1) rf it { a with wl:=f.vl,wb:=f.vb } hd' (by omega)
      have ih:=(ih e).1
      revert ih
      generalize iter (Qp.l4 std) (e+gs.length+1)=R
      intro ih
      simp only [aC] at ih ⊢
      simp only [Qp.l4,sy,reduceIte,Nat.reduceAdd,Nat.reduceLeDiff,Nat.reduceLT,Nat.reduceEqDiff,Int.reduceEq,Int.reduceLT,Int.reduceLE,Int.reduceNe,ly,lt0,i1,i4,h5,add0]
      exact ih
    · rw [if_neg h5]
      by_cases h7:f.k=7
      · rw [if_pos h7]
        cases rf
        · simp only [Bool.false_eq_true,if_false]
          obtain ⟨_,_,ih⟩:=madeloop (z:=z) h hl gs (j+1) true it { a with r:=⟨f.id,f.rr,f.rn,f.rl,f.rb⟩ } hd' (by omega)
          have ih:=(ih e).1
          revert ih
          generalize iter (Qp.l4 std) (e+gs.length+1)=R
          intro ih
          simp only [aC,cB,if_true] at ih ⊢
          simp only [Qp.l4,Qp.l4.p1,sy,reduceIte,Nat.reduceAdd,Nat.reduceLeDiff,Nat.reduceLT,Nat.reduceEqDiff,Int.reduceEq,Int.reduceLT,Int.reduceLE,Int.reduceNe,ly,lt0,i1,i4,h7,add0,w1]
          exact ih
        · simp only [if_true]
          obtain ⟨_,_,ih⟩:=madeloop (z:=z) h hl gs (j+1) true it { a with r2:=⟨f.id,f.rr,f.rn,f.rl,f.rb⟩ } hd' (by omega)
          have ih:=(ih e).1
          revert ih
          generalize iter (Qp.l4 std) (e+gs.length+1)=R
          intro ih
          simp only [aC,cB,if_true] at ih ⊢
          simp only [Qp.l4,Qp.l4.p1,sy,reduceIte,Nat.reduceAdd,Nat.reduceLeDiff,Nat.reduceLT,Nat.reduceEqDiff,Int.reduceEq,Int.reduceLT,Int.reduceLE,Int.reduceNe,ly,lt0,i1,i4,h7,c10,add0]
          exact ih
      · rw [if_neg h7]
        cases it
        · simp only [Bool.false_eq_true,if_false]
          obtain ⟨_,_,ih⟩:=madeloop (z:=z) h hl gs (j+1) rf true { a with oa:=f.i } hd' (by omega)
          have ih:=(ih e).1
          revert ih
          generalize iter (Qp.l4 std) (e+gs.length+1)=R
          intro ih
          simp only [aC,cB,if_true] at ih ⊢
          simp only [Qp.l4,Qp.l4.p1,sy,reduceIte,Nat.reduceAdd,Nat.reduceLeDiff,Nat.reduceLT,Nat.reduceEqDiff,Int.reduceEq,Int.reduceLT,Int.reduceLE,Int.reduceNe,ly,lt0,i1,i4,h5,h7,add0,w1]
          exact ih
        · simp only [if_true]
          obtain ⟨_,_,ih⟩:=madeloop (z:=z) h hl gs (j+1) rf true { a with oo:=f.i } hd' (by omega)
          have ih:=(ih e).1
          revert ih
          generalize iter (Qp.l4 std) (e+gs.length+1)=R
          intro ih
          simp only [aC,cB,if_true] at ih ⊢
          simp only [Qp.l4,Qp.l4.p1,sy,reduceIte,Nat.reduceAdd,Nat.reduceLeDiff,Nat.reduceLT,Nat.reduceEqDiff,Int.reduceEq,Int.reduceLT,Int.reduceLE,Int.reduceNe,ly,lt0,i1,i4,h5,h7,c10,add0]
          exact ih
theorem made_r {s:St} {v:Value} {fs:List Fd} (k:Int) (h:IsR s 14 v (fs.map Fd.cs)) (hl:fs.length≤10):Qp.r (.int .i64 k) v s=some (.agg ⟨aC (madeL fs false false ⟨k,0,0,zR,zR,0,0⟩)⟩):=by
  obtain ⟨_,_,g⟩:=madeloop (z:=aC ⟨0,0,0,zR,zR,0,0⟩) h hl fs 0 false false ⟨k,0,0,zR,zR,0,0⟩ (by simp) (by omega)
  have g:=(g (BIG - fs.length - 1)).1
  rw [show BIG - fs.length - 1+fs.length+1=BIG by unfold BIG; omega] at g
  have hlen:=h.len
  rw [List.length_map] at hlen
  have g:iter (Qp.l4 std) BIG [.int .i64 0,.int .i64 0,v,.int .i64 (fs.length:Int),.int .i64 0,.agg ⟨aC ⟨0,0,0,zR,zR,0,0⟩⟩,.agg ⟨aC ⟨k,0,0,zR,zR,0,0⟩⟩] s=_:=g
  generalize madeL fs false false ⟨k,0,0,zR,zR,0,0⟩=A at *
  simp only [aC,zR] at g ⊢
  simp only [Qp.r,Qp.t,sy,reduceIte,Nat.reduceAdd,Nat.reduceLeDiff,Nat.reduceLT,Nat.reduceEqDiff,Int.reduceEq,Int.reduceLT,Int.reduceLE,Int.reduceNe,ly,hlen,g]
end Go.Proofs.Yteapmnolmfickaa
/-
  Which asks may be,by the program: joined.
-/
set_option linter.unusedSimpArgs false
set_option linter.unusedVariables false
set_option maxRecDepth 100000
set_option maxHeartbeats 4000000
namespace Go.Proofs.Yteapmnolmfickaa
open Go.Sim Go.Sim.Bt
attribute [local congr] bdc cndc itec gdc gdSc gdUc
def a0K (k:Int):AskP:=⟨k,0,0,zR,zR,0,0⟩
noncomputable def fieldsA (a:AskP):Option (List Fd):=match needsP a.k with
  | none=>none
  | some L=>askL a L 0 0 []
def passA (a:AskP):Prop:=∃ fs,fieldsA a=some fs∧madeL fs false false (a0K a.k)=a
theorem pass_of {a:AskP} {fs:List Fd} (ha:fieldsA a=some fs) (hm:madeL fs false false (a0K a.k)=onlyA a):passA a↔a=onlyA a:=by
  unfold passA
  constructor
  · rintro ⟨gs,h1,h2⟩
    rw [ha] at h1
    cases h1
    rw [hm] at h2
    exact h2.symm
  · intro h
    exact ⟨fs,ha,by rw [hm]; exact h.symm⟩
theorem pass_no {a:AskP} (ha:fieldsA a=none):¬ passA a:=by
  rintro ⟨fs,h,_⟩
  rw [ha] at h
  cases h
theorem askL_y {a:AskP} {k:Int} {ks:List Int} {ri ii:Nat} {out:List Fd} (h:okM (fieldOf a k ri ii)):askL a (k :: ks) ri ii out=askL a ks (ri+if k=7 then 1 else 0) (ii+if k=2 then 1 else 0) (out++[fieldOf a k ri ii]):=by
  unfold askL; rw [if_pos h]; cases ks <;> rfl
theorem askL_n {a:AskP} {k:Int} {ks:List Int} {ri ii:Nat} {out:List Fd} (h:¬ okM (fieldOf a k ri ii)):askL a (k :: ks) ri ii out=none:=by
  unfold askL; rw [if_neg h]
theorem passA_iff (a:AskP):passA a↔okA a:=by
  obtain ⟨k,wl,wb,r,r2,oa,oo⟩:=a
  by_cases hk:1≤k∧k≤10
  · have hc:k=1∨k=2∨k=3∨k=4∨k=5∨k=6∨k=7∨k=8∨k=9∨k=10:=by omega
    rcases hc with rfl | rfl | rfl | rfl | rfl | rfl | rfl | rfl | rfl | rfl
    · by_cases g0:okV wl wb
      · have hf:fieldsA (⟨1,wl,wb,r,r2,oa,oo⟩:AskP)=some [mV wl wb]:=by
          show askL (⟨1,wl,wb,r,r2,oa,oo⟩:AskP) [5] 0 0 []=_
          refine Eq.trans (askL_y (show okM (fieldOf (⟨1,wl,wb,r,r2,oa,oo⟩:AskP) 5 0 0) from (okM_V _ _).2 g0)) ?_
          rfl
        rw [pass_of hf rfl]
        exact ⟨fun e=>⟨hk,e,fun _=>g0,fun e=>by unfold hasR at e; simp only at e; omega,fun e=>by simp only at e; omega⟩,fun e=>e.2.1⟩
      · have hf:fieldsA (⟨1,wl,wb,r,r2,oa,oo⟩:AskP)=none:=by
          show askL (⟨1,wl,wb,r,r2,oa,oo⟩:AskP) [5] 0 0 []=_
          exact askL_n (fun e:okM (fieldOf (⟨1,wl,wb,r,r2,oa,oo⟩:AskP) 5 0 0)=>g0 ((okM_V _ _).1 e))
        exact ⟨fun e=>absurd e (pass_no hf),fun e=>absurd (e.2.2.1 (by unfold hasW; simp)) g0⟩
    · have hf:fieldsA (⟨2,wl,wb,r,r2,oa,oo⟩:AskP)=some []:=by
        show askL (⟨2,wl,wb,r,r2,oa,oo⟩:AskP) [] 0 0 []=_
        rfl
      rw [pass_of hf rfl]
      exact ⟨fun e=>⟨hk,e,fun e=>by unfold hasW at e; simp only at e; omega,fun e=>by unfold hasR at e; simp only at e; omega,fun e=>by simp only at e; omega⟩,fun e=>e.2.1⟩
    · by_cases g0:okV wl wb
      · have hf:fieldsA (⟨3,wl,wb,r,r2,oa,oo⟩:AskP)=some [mV wl wb,mI oa,mI oo]:=by
          show askL (⟨3,wl,wb,r,r2,oa,oo⟩:AskP) [5,2,2] 0 0 []=_
          refine Eq.trans (askL_y (show okM (fieldOf (⟨3,wl,wb,r,r2,oa,oo⟩:AskP) 5 0 0) from (okM_V _ _).2 g0)) ?_
          refine Eq.trans (askL_y (show okM (fieldOf (⟨3,wl,wb,r,r2,oa,oo⟩:AskP) 2 0 0) from okM_I _)) ?_
          refine Eq.trans (askL_y (show okM (fieldOf (⟨3,wl,wb,r,r2,oa,oo⟩:AskP) 2 0 1) from okM_I _)) ?_
          rfl
        rw [pass_of hf rfl]
        exact ⟨fun e=>⟨hk,e,fun _=>g0,fun e=>by unfold hasR at e; simp only at e; omega,fun e=>by simp only at e; omega⟩,fun e=>e.2.1⟩
      · have hf:fieldsA (⟨3,wl,wb,r,r2,oa,oo⟩:AskP)=none:=by
          show askL (⟨3,wl,wb,r,r2,oa,oo⟩:AskP) [5,2,2] 0 0 []=_
          exact askL_n (fun e:okM (fieldOf (⟨3,wl,wb,r,r2,oa,oo⟩:AskP) 5 0 0)=>g0 ((okM_V _ _).1 e))
        exact ⟨fun e=>absurd e (pass_no hf),fun e=>absurd (e.2.2.1 (by unfold hasW; simp)) g0⟩
    · by_cases g0:okV wl wb
      · have hf:fieldsA (⟨4,wl,wb,r,r2,oa,oo⟩:AskP)=some [mV wl wb,mI oa,mI oo]:=by
          show askL (⟨4,wl,wb,r,r2,oa,oo⟩:AskP) [5,2,2] 0 0 []=_
          refine Eq.trans (askL_y (show okM (fieldOf (⟨4,wl,wb,r,r2,oa,oo⟩:AskP) 5 0 0) from (okM_V _ _).2 g0)) ?_
          refine Eq.trans (askL_y (show okM (fieldOf (⟨4,wl,wb,r,r2,oa,oo⟩:AskP) 2 0 0) from okM_I _)) ?_
          refine Eq.trans (askL_y (show okM (fieldOf (⟨4,wl,wb,r,r2,oa,oo⟩:AskP) 2 0 1) from okM_I _)) ?_
          rfl
        rw [pass_of hf rfl]
        exact ⟨fun e=>⟨hk,e,fun _=>g0,fun e=>by unfold hasR at e; simp only at e; omega,fun e=>by simp only at e; omega⟩,fun e=>e.2.1⟩
      · have hf:fieldsA (⟨4,wl,wb,r,r2,oa,oo⟩:AskP)=none:=by
          show askL (⟨4,wl,wb,r,r2,oa,oo⟩:AskP) [5,2,2] 0 0 []=_
          exact askL_n (fun e:okM (fieldOf (⟨4,wl,wb,r,r2,oa,oo⟩:AskP) 5 0 0)=>g0 ((okM_V _ _).1 e))
        exact ⟨fun e=>absurd e (pass_no hf),fun e=>absurd (e.2.2.1 (by unfold hasW; simp)) g0⟩
    · by_cases g0:okV wl wb
      · by_cases g1:okRf r
        · have hf:fieldsA (⟨5,wl,wb,r,r2,oa,oo⟩:AskP)=some [mV wl wb,mR r,mI oa,mI oo]:=by
            show askL (⟨5,wl,wb,r,r2,oa,oo⟩:AskP) [5,7,2,2] 0 0 []=_
            refine Eq.trans (askL_y (show okM (fieldOf (⟨5,wl,wb,r,r2,oa,oo⟩:AskP) 5 0 0) from (okM_V _ _).2 g0)) ?_
            refine Eq.trans (askL_y (show okM (fieldOf (⟨5,wl,wb,r,r2,oa,oo⟩:AskP) 7 0 0) from (okM_R _).2 g1)) ?_
            refine Eq.trans (askL_y (show okM (fieldOf (⟨5,wl,wb,r,r2,oa,oo⟩:AskP) 2 1 0) from okM_I _)) ?_
            refine Eq.trans (askL_y (show okM (fieldOf (⟨5,wl,wb,r,r2,oa,oo⟩:AskP) 2 1 1) from okM_I _)) ?_
            rfl
          rw [pass_of hf rfl]
          exact ⟨fun e=>⟨hk,e,fun _=>g0,fun _=>g1,fun e=>by simp only at e; omega⟩,fun e=>e.2.1⟩
        · have hf:fieldsA (⟨5,wl,wb,r,r2,oa,oo⟩:AskP)=none:=by
            show askL (⟨5,wl,wb,r,r2,oa,oo⟩:AskP) [5,7,2,2] 0 0 []=_
            refine Eq.trans (askL_y (show okM (fieldOf (⟨5,wl,wb,r,r2,oa,oo⟩:AskP) 5 0 0) from (okM_V _ _).2 g0)) ?_
            exact askL_n (fun e:okM (fieldOf (⟨5,wl,wb,r,r2,oa,oo⟩:AskP) 7 0 0)=>g1 ((okM_R _).1 e))
          exact ⟨fun e=>absurd e (pass_no hf),fun e=>absurd (e.2.2.2.1 (by unfold hasR; simp)) g1⟩
      · have hf:fieldsA (⟨5,wl,wb,r,r2,oa,oo⟩:AskP)=none:=by
          show askL (⟨5,wl,wb,r,r2,oa,oo⟩:AskP) [5,7,2,2] 0 0 []=_
          exact askL_n (fun e:okM (fieldOf (⟨5,wl,wb,r,r2,oa,oo⟩:AskP) 5 0 0)=>g0 ((okM_V _ _).1 e))
        exact ⟨fun e=>absurd e (pass_no hf),fun e=>absurd (e.2.2.1 (by unfold hasW; simp)) g0⟩
    · by_cases g0:okV wl wb
      · by_cases g1:okRf r
        · have hf:fieldsA (⟨6,wl,wb,r,r2,oa,oo⟩:AskP)=some [mV wl wb,mR r]:=by
            show askL (⟨6,wl,wb,r,r2,oa,oo⟩:AskP) [5,7] 0 0 []=_
            refine Eq.trans (askL_y (show okM (fieldOf (⟨6,wl,wb,r,r2,oa,oo⟩:AskP) 5 0 0) from (okM_V _ _).2 g0)) ?_
            refine Eq.trans (askL_y (show okM (fieldOf (⟨6,wl,wb,r,r2,oa,oo⟩:AskP) 7 0 0) from (okM_R _).2 g1)) ?_
            rfl
          rw [pass_of hf rfl]
          exact ⟨fun e=>⟨hk,e,fun _=>g0,fun _=>g1,fun e=>by simp only at e; omega⟩,fun e=>e.2.1⟩
        · have hf:fieldsA (⟨6,wl,wb,r,r2,oa,oo⟩:AskP)=none:=by
            show askL (⟨6,wl,wb,r,r2,oa,oo⟩:AskP) [5,7] 0 0 []=_
            refine Eq.trans (askL_y (show okM (fieldOf (⟨6,wl,wb,r,r2,oa,oo⟩:AskP) 5 0 0) from (okM_V _ _).2 g0)) ?_
            exact askL_n (fun e:okM (fieldOf (⟨6,wl,wb,r,r2,oa,oo⟩:AskP) 7 0 0)=>g1 ((okM_R _).1 e))
          exact ⟨fun e=>absurd e (pass_no hf),fun e=>absurd (e.2.2.2.1 (by unfold hasR; simp)) g1⟩
      · have hf:fieldsA (⟨6,wl,wb,r,r2,oa,oo⟩:AskP)=none:=by
          show askL (⟨6,wl,wb,r,r2,oa,oo⟩:AskP) [5,7] 0 0 []=_
          exact askL_n (fun e:okM (fieldOf (⟨6,wl,wb,r,r2,oa,oo⟩:AskP) 5 0 0)=>g0 ((okM_V _ _).1 e))
        exact ⟨fun e=>absurd e (pass_no hf),fun e=>absurd (e.2.2.1 (by unfold hasW; simp)) g0⟩
    · by_cases g0:okV wl wb
      · by_cases g1:okRf r
        · by_cases g2:okRf r2
          · have hf:fieldsA (⟨7,wl,wb,r,r2,oa,oo⟩:AskP)=some [mV wl wb,mR r,mR r2,mI oa,mI oo]:=by
              show askL (⟨7,wl,wb,r,r2,oa,oo⟩:AskP) [5,7,7,2,2] 0 0 []=_
              refine Eq.trans (askL_y (show okM (fieldOf (⟨7,wl,wb,r,r2,oa,oo⟩:AskP) 5 0 0) from (okM_V _ _).2 g0)) ?_
              refine Eq.trans (askL_y (show okM (fieldOf (⟨7,wl,wb,r,r2,oa,oo⟩:AskP) 7 0 0) from (okM_R _).2 g1)) ?_
              refine Eq.trans (askL_y (show okM (fieldOf (⟨7,wl,wb,r,r2,oa,oo⟩:AskP) 7 1 0) from (okM_R _).2 g2)) ?_
              refine Eq.trans (askL_y (show okM (fieldOf (⟨7,wl,wb,r,r2,oa,oo⟩:AskP) 2 2 0) from okM_I _)) ?_
              refine Eq.trans (askL_y (show okM (fieldOf (⟨7,wl,wb,r,r2,oa,oo⟩:AskP) 2 2 1) from okM_I _)) ?_
              rfl
            rw [pass_of hf rfl]
            exact ⟨fun e=>⟨hk,e,fun _=>g0,fun _=>g1,fun _=>g2⟩,fun e=>e.2.1⟩
          · have hf:fieldsA (⟨7,wl,wb,r,r2,oa,oo⟩:AskP)=none:=by
              show askL (⟨7,wl,wb,r,r2,oa,oo⟩:AskP) [5,7,7,2,2] 0 0 []=_
              refine Eq.trans (askL_y (show okM (fieldOf (⟨7,wl,wb,r,r2,oa,oo⟩:AskP) 5 0 0) from (okM_V _ _).2 g0)) ?_
              refine Eq.trans (askL_y (show okM (fieldOf (⟨7,wl,wb,r,r2,oa,oo⟩:AskP) 7 0 0) from (okM_R _).2 g1)) ?_
              exact askL_n (fun e:okM (fieldOf (⟨7,wl,wb,r,r2,oa,oo⟩:AskP) 7 1 0)=>g2 ((okM_R _).1 e))
            exact ⟨fun e=>absurd e (pass_no hf),fun e=>absurd (e.2.2.2.2 rfl) g2⟩
        · have hf:fieldsA (⟨7,wl,wb,r,r2,oa,oo⟩:AskP)=none:=by
            show askL (⟨7,wl,wb,r,r2,oa,oo⟩:AskP) [5,7,7,2,2] 0 0 []=_
            refine Eq.trans (askL_y (show okM (fieldOf (⟨7,wl,wb,r,r2,oa,oo⟩:AskP) 5 0 0) from (okM_V _ _).2 g0)) ?_
            exact askL_n (fun e:okM (fieldOf (⟨7,wl,wb,r,r2,oa,oo⟩:AskP) 7 0 0)=>g1 ((okM_R _).1 e))
          exact ⟨fun e=>absurd e (pass_no hf),fun e=>absurd (e.2.2.2.1 (by unfold hasR; simp)) g1⟩
      · have hf:fieldsA (⟨7,wl,wb,r,r2,oa,oo⟩:AskP)=none:=by
          show askL (⟨7,wl,wb,r,r2,oa,oo⟩:AskP) [5,7,7,2,2] 0 0 []=_
          exact askL_n (fun e:okM (fieldOf (⟨7,wl,wb,r,r2,oa,oo⟩:AskP) 5 0 0)=>g0 ((okM_V _ _).1 e))
        exact ⟨fun e=>absurd e (pass_no hf),fun e=>absurd (e.2.2.1 (by unfold hasW; simp)) g0⟩
    · by_cases g0:okV wl wb
      · have hf:fieldsA (⟨8,wl,wb,r,r2,oa,oo⟩:AskP)=some [mV wl wb,mI oa,mI oo]:=by
          show askL (⟨8,wl,wb,r,r2,oa,oo⟩:AskP) [5,2,2] 0 0 []=_
          refine Eq.trans (askL_y (show okM (fieldOf (⟨8,wl,wb,r,r2,oa,oo⟩:AskP) 5 0 0) from (okM_V _ _).2 g0)) ?_
          refine Eq.trans (askL_y (show okM (fieldOf (⟨8,wl,wb,r,r2,oa,oo⟩:AskP) 2 0 0) from okM_I _)) ?_
          refine Eq.trans (askL_y (show okM (fieldOf (⟨8,wl,wb,r,r2,oa,oo⟩:AskP) 2 0 1) from okM_I _)) ?_
          rfl
        rw [pass_of hf rfl]
        exact ⟨fun e=>⟨hk,e,fun _=>g0,fun e=>by unfold hasR at e; simp only at e; omega,fun e=>by simp only at e; omega⟩,fun e=>e.2.1⟩
      · have hf:fieldsA (⟨8,wl,wb,r,r2,oa,oo⟩:AskP)=none:=by
          show askL (⟨8,wl,wb,r,r2,oa,oo⟩:AskP) [5,2,2] 0 0 []=_
          exact askL_n (fun e:okM (fieldOf (⟨8,wl,wb,r,r2,oa,oo⟩:AskP) 5 0 0)=>g0 ((okM_V _ _).1 e))
        exact ⟨fun e=>absurd e (pass_no hf),fun e=>absurd (e.2.2.1 (by unfold hasW; simp)) g0⟩
    · have hf:fieldsA (⟨9,wl,wb,r,r2,oa,oo⟩:AskP)=some []:=by
        show askL (⟨9,wl,wb,r,r2,oa,oo⟩:AskP) [] 0 0 []=_
        rfl
      rw [pass_of hf rfl]
      exact ⟨fun e=>⟨hk,e,fun e=>by unfold hasW at e; simp only at e; omega,fun e=>by unfold hasR at e; simp only at e; omega,fun e=>by simp only at e; omega⟩,fun e=>e.2.1⟩
    · have hf:fieldsA (⟨10,wl,wb,r,r2,oa,oo⟩:AskP)=some []:=by
        show askL (⟨10,wl,wb,r,r2,oa,oo⟩:AskP) [] 0 0 []=_
        rfl
      rw [pass_of hf rfl]
      exact ⟨fun e=>⟨hk,e,fun e=>by unfold hasW at e; simp only at e; omega,fun e=>by unfold hasR at e; simp only at e; omega,fun e=>by simp only at e; omega⟩,fun e=>e.2.1⟩
  · have hn:needsP k=none:=by
      unfold needsP
      rw [if_neg (by omega),if_neg (by omega),if_neg (by omega),if_neg (by omega),if_neg (by omega),if_neg (by omega)]
    have hf:fieldsA (⟨k,wl,wb,r,r2,oa,oo⟩:AskP)=none:=by unfold fieldsA; simp only [hn]
    exact ⟨fun e=>absurd e (pass_no hf),fun e=>absurd e.1 hk⟩
theorem needs_in {k:Int} {L:List Int} (h:needsP k=some L):L.length≤10∧(∀ x ∈ L,x=5∨x=7∨x=2)∧cnt 7 L≤2∧cnt 2 L≤2:=by
  unfold needsP at h
  repeat' (split at h)
  all_goals first | (cases h; done) | (cases h; refine ⟨by decide,?_,by decide,by decide⟩; intro x hx; simp at hx <;> omega)
theorem askL_nil {a:AskP}:∀ {ks:List Int} {ri ii:Nat} {out fs:List Fd},(∀ f ∈ out,f.b=nilB)→askL a ks ri ii out=some fs→(∀ f ∈ fs,f.b=nilB)∧fs.length=out.length+ks.length
  | [],ri,ii,out,fs,ho,h=>by unfold askL at h; cases h; exact ⟨ho,rfl⟩
  | k :: ks,ri,ii,out,fs,ho,h=>by
    unfold askL at h
    split at h
    · have:=askL_nil (fun f hf=>by
        rcases List.mem_append.1 hf with hf | hf
        · exact ho f hf
        · cases List.mem_singleton.1 hf
          unfold fieldOf
          repeat' split
          all_goals rfl) h
      refine ⟨this.1,?_⟩
      rw [this.2]; simp; omega
    · cases h
def AIs (s:St) (a:AskP) (r:Option (Value×St)):Prop:=∃ v s' b,r=some (.tuple ⟨[v,.bool b]⟩,s')∧More s s'∧Fresh s'∧(b=true↔passA a)∧(b=true→∃ fs,fieldsA a=some fs∧Ful s.n s' 14 v (fs.map Fd.cs))
theorem ask_v {s:St} (a:AskP) (hw:0≤a.wb) (hr:0≤a.r.bt) (hr2:0≤a.r2.bt) (f:Fresh s):AIs s a (Qo.v (.agg ⟨aC a⟩) s):=by
  have hn:=needs_v (s:=s) a.k f
  cases hN:needsP a.k with
  | none =>
    rw [hN] at hn
    have hf:fieldsA a=none:=by unfold fieldsA; rw [hN]
    refine ⟨.slice none 0 0,s,false,?_,.refl s,f,⟨fun e=>(by cases e),fun e=>absurd e (pass_no hf)⟩,fun e=>(by cases e)⟩
    have hn:Qq.v (.int .i64 a.k) s=some (.tuple ⟨[.slice none 0 0,.bool false]⟩,s):=hn
    simp only [Qo.v,Qo.t,aC,sy,reduceIte,Nat.reduceAdd,Nat.reduceLeDiff,Nat.reduceLT,Nat.reduceEqDiff,Int.reduceEq,Int.reduceLT,Int.reduceLE,Int.reduceNe,ly,hn]
  | some L =>
    rw [hN] at hn
    obtain ⟨kv,s1,n1,n2,n3,n4⟩:=hn
    obtain ⟨l1,l2,l3,l4⟩:=needs_in hN
    have hfA:fieldsA a=askL a L 0 0 []:=by unfold fieldsA; rw [hN]
    have hlen:=n3.isR.len
    rw [show (ki L).length=L.length by simp [ki]] at hlen
    have b1:∀ t:St,als t 5 2 [a.r.cs,a.r2.cs]=some (rvA t.n 0,t.new (.row 5 [a.r.cs,a.r2.cs] false)):=fun _=>rfl
    have b2:∀ t:St,als t 1 2 [[.int .i64 a.oa],[.int .i64 a.oo]]=some (rvA t.n 0,t.new (.row 1 [[.int .i64 a.oa],[.int .i64 a.oo]] false)):=fun _=>rfl
    have B1:=b1 s1
    have m2:More s1 (s1.new (.row 5 [a.r.cs,a.r2.cs] false)):=.new
    have g1:(s1.new (.row 5 [a.r.cs,a.r2.cs] false)).get s1.n=some (.row 5 [a.r.cs,a.r2.cs] false):=get_new_same
    generalize s1.new (.row 5 [a.r.cs,a.r2.cs] false)=s2 at *
    have f2:=m2.fresh n4
    have B2:=b2 s2
    have m3:More s2 (s2.new (.row 1 [[.int .i64 a.oa],[.int .i64 a.oo]] false)):=.new
    have g2:(s2.new (.row 1 [[.int .i64 a.oa],[.int .i64 a.oo]] false)).get s2.n=some (.row 1 [[.int .i64 a.oa],[.int .i64 a.oo]] false):=get_new_same
    generalize s2.new (.row 1 [[.int .i64 a.oa],[.int .i64 a.oo]] false)=s3 at *
    have f3:=m3.fresh f2
    have B0:=b2 s1
    have hkv:IsR s3 1 kv (ki L):=(n3.isR.more m2 n4).more m3 f2
    have hl:=askloop (a:=a) f3 l1 (m3.get f2 g1) g2 hkv hw hr hr2 L 0 0 0 (by simp) (by omega) l2 (by omega) (by omega) (rfl:([]:List Fd).length=0) f3 (.refl s3) (.inl ⟨rfl,rfl⟩:Ful s3.n s3 14 (.slice none 0 0) (([]:List Fd).map Fd.cs))
    have M3:=(n2.trans m2).trans m3
    cases hA:askL a L 0 0 [] with
    | none =>
      rw [hA] at hl hfA
      obtain ⟨s4,q1,q2,q3⟩:=hl
      have q:=q1 (BIG - L.length - 1)
      dsimp only at q
      rw [show BIG - L.length - 1+L.length+1=BIG by unfold BIG; omega] at q
      have q:iter (Qo.l7 std) BIG [.slice none 0 0,rvA s1.n 0,rvA s2.n 0,kv,.int .i64 (L.length:Int),.int .i64 0,.agg ⟨aC a⟩] s3=_:=q
      refine ⟨.slice none 0 0,s4,false,?_,M3.trans q2,q3,⟨fun e=>(by cases e),fun e=>absurd e (pass_no hfA)⟩,fun e=>(by cases e)⟩
      simp only [aC] at q
      simp only [Rf.cs] at B1
      simp only [Qo.v,Qo.t,aC,sy,reduceIte,Nat.reduceAdd,Nat.reduceLeDiff,Nat.reduceLT,Nat.reduceEqDiff,Int.reduceEq,Int.reduceLT,Int.reduceLE,Int.reduceNe,ly,n1,B0,B1,B2,hlen,q]
    | some fs =>
      rw [hA] at hl hfA
      obtain ⟨ov,s4,q1,q2,q3,q4⟩:=hl
      have q:=q1 (BIG - L.length - 1)
      dsimp only at q
      rw [show BIG - L.length - 1+L.length+1=BIG by unfold BIG; omega] at q
      have q:iter (Qo.l7 std) BIG [.slice none 0 0,rvA s1.n 0,rvA s2.n 0,kv,.int .i64 (L.length:Int),.int .i64 0,.agg ⟨aC a⟩] s3=_:=q
      obtain ⟨hb,hfl⟩:=askL_nil (fun f hf=>absurd hf List.not_mem_nil) hA
      have hm:=made_r a.k q4.isR (by rw [hfl]; simpa using l1)
      obtain ⟨c,e1,e2⟩:=eqksA (madeL fs false false (a0K a.k)) a
      have hp:passA a↔madeL fs false false (a0K a.k)=a:=by
        unfold passA
        constructor
        · rintro ⟨gs,h1,h2⟩
          rw [hfA] at h1
          cases h1
          exact h2
        · exact fun h=>⟨fs,hfA,h⟩
      have heq:eqb [1,1,1,1,1,1,1,1,1,1,1,1,1,1,1] true false (.agg ⟨aC (madeL fs false false (a0K a.k))⟩) (.agg ⟨aC a⟩)=some (.bool c):=by rw [eqb_agg,e1]; rfl
      refine ⟨ov,s4,c,?_,M3.trans q2,q3,by rw [e2,hp],fun _=>⟨fs,hfA,q4.le (by have:=M3.n; omega)⟩⟩
      have hm:Qp.r (.int .i64 a.k) ov s4=some (.agg ⟨aC (madeL fs false false (a0K a.k))⟩):=hm
      generalize madeL fs false false (a0K a.k)=A at *
      generalize hX:Value.agg ⟨aC A⟩=X at *
      simp only [aC] at q heq
      simp only [Rf.cs] at B1
      simp only [Qo.v,Qo.t,aC,sy,reduceIte,Nat.reduceAdd,Nat.reduceLeDiff,Nat.reduceLT,Nat.reduceEqDiff,Int.reduceEq,Int.reduceLT,Int.reduceLE,Int.reduceNe,ly,n1,B0,B1,B2,hlen,q,hm,heq]
open Classical in
theorem checkAsk_v {s:St} (a:AskP) (hw:0≤a.wb) (hr:0≤a.r.bt) (hr2:0≤a.r2.bt) (f:Fresh s):∃ s',Qe.v (.agg ⟨aC a⟩) s=some (.int .i64 (if okA a then 0 else 40),s')∧More s s'∧Fresh s':=by
  obtain ⟨v,s',b,h1,h2,h3,h4,_⟩:=ask_v a hw hr hr2 f
  rw [passA_iff] at h4
  refine ⟨s',?_,h2,h3⟩
  simp only [aC] at h1 ⊢
  cases b
  · rw [if_neg (fun e=>by cases h4.2 e)]
    simp only [Qe.v,Qe.t,sy,reduceIte,Nat.reduceAdd,Nat.reduceLeDiff,Nat.reduceLT,Nat.reduceEqDiff,Int.reduceEq,Int.reduceLT,Int.reduceLE,Int.reduceNe,ly,h1]
  · rw [if_pos (h4.1 rfl)]
    simp only [Qe.v,Qe.t,sy,reduceIte,Nat.reduceAdd,Nat.reduceLeDiff,Nat.reduceLT,Nat.reduceEqDiff,Int.reduceEq,Int.reduceLT,Int.reduceLE,Int.reduceNe,ly,h1]
open Classical in
theorem checkAsk_r {s:St} (a:AskP) (hw:0≤a.wb) (hr:0≤a.r.bt) (hr2:0≤a.r2.bt) (f:Fresh s):Qf.r (.agg ⟨aC a⟩) s=some (.int .i64 (if okA a then 0 else 40)):=by
  obtain ⟨s',h1,_⟩:=checkAsk_v a hw hr hr2 f.frz
  exact frzR_of h1 rfl
end Go.Proofs.Yteapmnolmfickaa
/-
  Answers and packets: which may be,which are the same.
-/
set_option linter.unusedSimpArgs false
set_option linter.unusedVariables false
set_option maxRecDepth 100000
set_option maxHeartbeats 4000000
namespace Go.Proofs.Yteapmnolmfickaa
open Go.Sim Go.Sim.Bt
attribute [local congr] bdc cndc itec gdc gdSc gdUc
structure VB (s:St) (v:Value) (x:ByteArray) (n:Nat):Prop where
  bx:bx v=some [v]
  str:b2s s v=some (.string x)
  len:lenL v=some (.int .i64 (n:Int))
theorem VB.nil (s:St):VB s nilB noB 0:=⟨rfl,rfl,rfl⟩
def sameN (a b:Ans) (x y:ByteArray):Prop:=a.k=b.k∧a.f=b.f∧a.l=b.l∧a.r=b.r∧x=y
open Classical in
theorem psameN (a b:Ans) {x y:ByteArray} {n m:Nat} (s:St) (ha:VB s a.v x n) (hb:VB s b.v y m):Qk.r (.agg ⟨a.cs⟩) (.agg ⟨b.cs⟩) s=some (.bool (decide (sameN a b x y))):=by
  have e1:=eqR a.l b.l
  have e2:=eqR a.r b.r
  obtain ⟨v1,v2,_⟩:=ha
  obtain ⟨w1,w2,_⟩:=hb
  simp only [Rf.cs] at e1 e2
  by_cases h0:a.k=b.k
  · by_cases h1:a.f=b.f
    · by_cases h2:a.l=b.l
      · rw [decide_eq_true h2] at e1
        by_cases h3:a.r=b.r
        · rw [decide_eq_true h3] at e2
          by_cases h4:x=y
          · rw [decide_eq_true (show sameN a b x y from ⟨h0,h1,h2,h3,h4⟩)]
            simp only [Qk.r,Qk.t,Ans.cs,Rf.cs,v1,v2,w1,w2,Q0.r,Q0.t,sy,reduceIte,Nat.reduceAdd,Nat.reduceLeDiff,Nat.reduceLT,Nat.reduceEqDiff,Int.reduceEq,Int.reduceLT,Int.reduceLE,Int.reduceNe,ly,eq_true h0,eq_true h1,e1,e2,eq_true h4]
          · rw [decide_eq_false (show ¬ sameN a b x y from fun e=>h4 e.2.2.2.2)]
            simp only [Qk.r,Qk.t,Ans.cs,Rf.cs,v1,v2,w1,w2,Q0.r,Q0.t,sy,reduceIte,Nat.reduceAdd,Nat.reduceLeDiff,Nat.reduceLT,Nat.reduceEqDiff,Int.reduceEq,Int.reduceLT,Int.reduceLE,Int.reduceNe,ly,eq_true h0,eq_true h1,e1,e2,eq_false h4]
        · rw [decide_eq_false h3] at e2
          rw [decide_eq_false (show ¬ sameN a b x y from fun e=>h3 e.2.2.2.1)]
          simp only [Qk.r,Qk.t,Ans.cs,Rf.cs,v1,v2,w1,w2,Q0.r,Q0.t,sy,reduceIte,Nat.reduceAdd,Nat.reduceLeDiff,Nat.reduceLT,Nat.reduceEqDiff,Int.reduceEq,Int.reduceLT,Int.reduceLE,Int.reduceNe,ly,eq_true h0,eq_true h1,e1,e2]
      · rw [decide_eq_false h2] at e1
        rw [decide_eq_false (show ¬ sameN a b x y from fun e=>h2 e.2.2.1)]
        simp only [Qk.r,Qk.t,Ans.cs,Rf.cs,v1,v2,w1,w2,Q0.r,Q0.t,sy,reduceIte,Nat.reduceAdd,Nat.reduceLeDiff,Nat.reduceLT,Nat.reduceEqDiff,Int.reduceEq,Int.reduceLT,Int.reduceLE,Int.reduceNe,ly,eq_true h0,eq_true h1,e1]
    · rw [decide_eq_false (show ¬ sameN a b x y from fun e=>h1 e.2.1)]
      simp only [Qk.r,Qk.t,Ans.cs,Rf.cs,v1,v2,w1,w2,Q0.r,Q0.t,sy,reduceIte,Nat.reduceAdd,Nat.reduceLeDiff,Nat.reduceLT,Nat.reduceEqDiff,Int.reduceEq,Int.reduceLT,Int.reduceLE,Int.reduceNe,ly,eq_true h0,eq_false h1]
  · rw [decide_eq_false (show ¬ sameN a b x y from fun e=>h0 e.1)]
    simp only [Qk.r,Qk.t,Ans.cs,Rf.cs,v1,v2,w1,w2,Q0.r,Q0.t,sy,reduceIte,Nat.reduceAdd,Nat.reduceLeDiff,Nat.reduceLT,Nat.reduceEqDiff,Int.reduceEq,Int.reduceLT,Int.reduceLE,Int.reduceNe,ly,eq_false h0]
open Classical in
theorem rsameN (a b:Ans) {x y:ByteArray} {n m:Nat} (s:St) (ha:VB s a.v x n) (hb:VB s b.v y m):Q2i.r (.agg ⟨a.cs⟩) (.agg ⟨b.cs⟩) s=some (.bool (decide (sameN a b x y))):=by
  have e1:=eqR a.l b.l
  have e2:=eqR a.r b.r
  obtain ⟨v1,v2,_⟩:=ha
  obtain ⟨w1,w2,_⟩:=hb
  simp only [Rf.cs] at e1 e2
  by_cases h0:a.k=b.k
  · by_cases h1:a.f=b.f
    · by_cases h2:a.l=b.l
      · rw [decide_eq_true h2] at e1
        by_cases h3:a.r=b.r
        · rw [decide_eq_true h3] at e2
          by_cases h4:x=y
          · rw [decide_eq_true (show sameN a b x y from ⟨h0,h1,h2,h3,h4⟩)]
            simp only [Q2i.r,Q2i.t,Ans.cs,Rf.cs,v1,v2,w1,w2,sy,reduceIte,Nat.reduceAdd,Nat.reduceLeDiff,Nat.reduceLT,Nat.reduceEqDiff,Int.reduceEq,Int.reduceLT,Int.reduceLE,Int.reduceNe,ly,eq_true h0,eq_true h1,e1,e2,eq_true h4]
          · rw [decide_eq_false (show ¬ sameN a b x y from fun e=>h4 e.2.2.2.2)]
            simp only [Q2i.r,Q2i.t,Ans.cs,Rf.cs,v1,v2,w1,w2,sy,reduceIte,Nat.reduceAdd,Nat.reduceLeDiff,Nat.reduceLT,Nat.reduceEqDiff,Int.reduceEq,Int.reduceLT,Int.reduceLE,Int.reduceNe,ly,eq_true h0,eq_true h1,e1,e2,eq_false h4]
        · rw [decide_eq_false h3] at e2
          rw [decide_eq_false (show ¬ sameN a b x y from fun e=>h3 e.2.2.2.1)]
          simp only [Q2i.r,Q2i.t,Ans.cs,Rf.cs,v1,v2,w1,w2,sy,reduceIte,Nat.reduceAdd,Nat.reduceLeDiff,Nat.reduceLT,Nat.reduceEqDiff,Int.reduceEq,Int.reduceLT,Int.reduceLE,Int.reduceNe,ly,eq_true h0,eq_true h1,e1,e2]
      · rw [decide_eq_false h2] at e1
        rw [decide_eq_false (show ¬ sameN a b x y from fun e=>h2 e.2.2.1)]
        simp only [Q2i.r,Q2i.t,Ans.cs,Rf.cs,v1,v2,w1,w2,sy,reduceIte,Nat.reduceAdd,Nat.reduceLeDiff,Nat.reduceLT,Nat.reduceEqDiff,Int.reduceEq,Int.reduceLT,Int.reduceLE,Int.reduceNe,ly,eq_true h0,eq_true h1,e1]
    · rw [decide_eq_false (show ¬ sameN a b x y from fun e=>h1 e.2.1)]
      simp only [Q2i.r,Q2i.t,Ans.cs,Rf.cs,v1,v2,w1,w2,sy,reduceIte,Nat.reduceAdd,Nat.reduceLeDiff,Nat.reduceLT,Nat.reduceEqDiff,Int.reduceEq,Int.reduceLT,Int.reduceLE,Int.reduceNe,ly,eq_true h0,eq_false h1]
  · rw [decide_eq_false (show ¬ sameN a b x y from fun e=>h0 e.1)]
    simp only [Q2i.r,Q2i.t,Ans.cs,Rf.cs,v1,v2,w1,w2,sy,reduceIte,Nat.reduceAdd,Nat.reduceLeDiff,Nat.reduceLT,Nat.reduceEqDiff,Int.reduceEq,Int.reduceLT,Int.reduceLE,Int.reduceNe,ly,eq_false h0]
def okS (r:Rf):Prop:=r=zR∨okRf r
open Classical in
theorem pside (r:Rf) (hb:0≤r.bt) (s:St):Qx.r (.agg ⟨r.cs⟩) s=some (.bool (decide (okS r))):=by
  have e1:=eqR r zR
  have e2:=chkM (mR r) rfl (Int.le_refl _) hb s
  simp only [Rf.cs,zR] at e1
  by_cases h1:r=zR
  · rw [decide_eq_true h1] at e1
    rw [decide_eq_true (show okS r from .inl h1)]
    simp only [Qx.r,Qx.t,Rf.cs,sy,reduceIte,Nat.reduceAdd,Nat.reduceLeDiff,Nat.reduceLT,Nat.reduceEqDiff,Int.reduceEq,Int.reduceLT,Int.reduceLE,Int.reduceNe,ly,e1]
  · rw [decide_eq_false h1] at e1
    by_cases h2:okRf r
    · rw [if_pos ((okM_R r).2 h2)] at e2
      rw [decide_eq_true (show okS r from .inr h2)]
      simp only [Fd.v,Fd.cs,mR,nilB] at e2
      simp only [Qx.r,Qx.t,Rf.cs,sy,reduceIte,Nat.reduceAdd,Nat.reduceLeDiff,Nat.reduceLT,Nat.reduceEqDiff,Int.reduceEq,Int.reduceLT,Int.reduceLE,Int.reduceNe,ly,e1,e2]
    · rw [if_neg (fun e=>h2 ((okM_R r).1 e))] at e2
      rw [decide_eq_false (show ¬ okS r from fun e=>e.elim h1 h2)]
      simp only [Fd.v,Fd.cs,mR,nilB] at e2
      simp only [Qx.r,Qx.t,Rf.cs,sy,reduceIte,Nat.reduceAdd,Nat.reduceLeDiff,Nat.reduceLT,Nat.reduceEqDiff,Int.reduceEq,Int.reduceLT,Int.reduceLE,Int.reduceNe,ly,e1,e2]
open Classical in
theorem rside (r:Rf) (hb:0≤r.bt) (s:St):Q2s.r (.agg ⟨r.cs⟩) s=some (.bool (decide (okS r))):=by
  have e1:=eqR r zR
  have e2:=isRef_d r hb s
  simp only [Rf.cs,zR] at e1 e2
  by_cases h1:r=zR
  · rw [decide_eq_true h1] at e1
    rw [decide_eq_true (show okS r from .inl h1)]
    simp only [Q2s.r,Q2s.t,Rf.cs,sy,reduceIte,Nat.reduceAdd,Nat.reduceLeDiff,Nat.reduceLT,Nat.reduceEqDiff,Int.reduceEq,Int.reduceLT,Int.reduceLE,Int.reduceNe,ly,e1]
  · rw [decide_eq_false h1] at e1
    by_cases h2:okRf r
    · rw [decide_eq_true h2] at e2
      rw [decide_eq_true (show okS r from .inr h2)]
      simp only [Q2s.r,Q2s.t,Rf.cs,sy,reduceIte,Nat.reduceAdd,Nat.reduceLeDiff,Nat.reduceLT,Nat.reduceEqDiff,Int.reduceEq,Int.reduceLT,Int.reduceLE,Int.reduceNe,ly,e1,e2]
    · rw [decide_eq_false h2] at e2
      rw [decide_eq_false (show ¬ okS r from fun e=>e.elim h1 h2)]
      simp only [Q2s.r,Q2s.t,Rf.cs,sy,reduceIte,Nat.reduceAdd,Nat.reduceLeDiff,Nat.reduceLT,Nat.reduceEqDiff,Int.reduceEq,Int.reduceLT,Int.reduceLE,Int.reduceNe,ly,e1,e2]
def zN (k:Int):Ans:=⟨k,false,zR,zR,nilB⟩
def okN (a:Ans) (x:ByteArray) (n:Nat):Prop:=(a.k=1∧okS a.l∧okS a.r∧(n:Int)≤1024)∨(a.k=3∧okS a.l∧okS a.r∧(n:Int)=0)∨((a.k=2∨a.k=4)∧sameN a (zN a.k) x noB)
theorem okN1 {a:Ans} {x:ByteArray} {n:Nat} (h:a.k=1):okN a x n↔okS a.l∧okS a.r∧(n:Int)≤1024:=by
  unfold okN
  constructor
  · rintro (e | e | e)
    · exact e.2
    · have:=e.1; omega
    · have:=e.1; omega
  · exact fun e=>.inl ⟨h,e⟩
theorem okN3 {a:Ans} {x:ByteArray} {n:Nat} (h:a.k=3):okN a x n↔okS a.l∧okS a.r∧(n:Int)=0:=by
  unfold okN
  constructor
  · rintro (e | e | e)
    · have:=e.1; omega
    · exact e.2
    · have:=e.1; omega
  · exact fun e=>.inr (.inl ⟨h,e⟩)
open Classical in
theorem pcheckN (a:Ans) {x:ByteArray} {n:Nat} (s:St) (h:VB s a.v x n) (hl:0≤a.l.bt) (hr:0≤a.r.bt):Qd.r (.agg ⟨a.cs⟩) s=some (.int .i64 (if okN a x n then 0 else 40)):=by
  have e1:=pside a.l hl s
  have e2:=pside a.r hr s
  have e3:=psameN a (zN a.k) s h (VB.nil s)
  have v1:=h.bx
  have v3:=h.len
  simp only [Rf.cs] at e1 e2
  by_cases h1:a.k=1
  · by_cases g0:okS a.l
    · rw [decide_eq_true g0] at e1
      by_cases g1:okS a.r
      · rw [decide_eq_true g1] at e2
        by_cases g2:(n:Int)≤1024
        · rw [if_pos (show okN a x n from .inl ⟨h1,g0,g1,g2⟩)]
          simp only [Qd.r,Qd.t,Ans.cs,Rf.cs,v1,v3,sy,reduceIte,Nat.reduceAdd,Nat.reduceLeDiff,Nat.reduceLT,Nat.reduceEqDiff,Int.reduceEq,Int.reduceLT,Int.reduceLE,Int.reduceNe,ly,eq_true h1,e1,e2,eq_true g2,h1]
        · rw [if_neg (show ¬ okN a x n from fun e=>g2 ((okN1 h1).1 e).2.2)]
          simp only [Qd.r,Qd.t,Ans.cs,Rf.cs,v1,v3,sy,reduceIte,Nat.reduceAdd,Nat.reduceLeDiff,Nat.reduceLT,Nat.reduceEqDiff,Int.reduceEq,Int.reduceLT,Int.reduceLE,Int.reduceNe,ly,e1,e2,eq_false g2,h1]
      · rw [decide_eq_false g1] at e2
        rw [if_neg (show ¬ okN a x n from fun e=>g1 ((okN1 h1).1 e).2.1)]
        simp only [Qd.r,Qd.t,Ans.cs,Rf.cs,v1,v3,sy,reduceIte,Nat.reduceAdd,Nat.reduceLeDiff,Nat.reduceLT,Nat.reduceEqDiff,Int.reduceEq,Int.reduceLT,Int.reduceLE,Int.reduceNe,ly,e1,e2,h1]
    · rw [decide_eq_false g0] at e1
      rw [if_neg (show ¬ okN a x n from fun e=>g0 ((okN1 h1).1 e).1)]
      simp only [Qd.r,Qd.t,Ans.cs,Rf.cs,v1,v3,sy,reduceIte,Nat.reduceAdd,Nat.reduceLeDiff,Nat.reduceLT,Nat.reduceEqDiff,Int.reduceEq,Int.reduceLT,Int.reduceLE,Int.reduceNe,ly,e1,h1]
  by_cases h3:a.k=3
  · by_cases g0:okS a.l
    · rw [decide_eq_true g0] at e1
      by_cases g1:okS a.r
      · rw [decide_eq_true g1] at e2
        by_cases g2:(n:Int)=0
        · rw [if_pos (show okN a x n from .inr (.inl ⟨h3,g0,g1,g2⟩))]
          simp only [Qd.r,Qd.t,Ans.cs,Rf.cs,v1,v3,sy,reduceIte,Nat.reduceAdd,Nat.reduceLeDiff,Nat.reduceLT,Nat.reduceEqDiff,Int.reduceEq,Int.reduceLT,Int.reduceLE,Int.reduceNe,ly,eq_true h3,e1,e2,eq_true g2,h3]
        · rw [if_neg (show ¬ okN a x n from fun e=>g2 ((okN3 h3).1 e).2.2)]
          simp only [Qd.r,Qd.t,Ans.cs,Rf.cs,v1,v3,sy,reduceIte,Nat.reduceAdd,Nat.reduceLeDiff,Nat.reduceLT,Nat.reduceEqDiff,Int.reduceEq,Int.reduceLT,Int.reduceLE,Int.reduceNe,ly,e1,e2,eq_false g2,h3]
      · rw [decide_eq_false g1] at e2
        rw [if_neg (show ¬ okN a x n from fun e=>g1 ((okN3 h3).1 e).2.1)]
        simp only [Qd.r,Qd.t,Ans.cs,Rf.cs,v1,v3,sy,reduceIte,Nat.reduceAdd,Nat.reduceLeDiff,Nat.reduceLT,Nat.reduceEqDiff,Int.reduceEq,Int.reduceLT,Int.reduceLE,Int.reduceNe,ly,e1,e2,h3]
    · rw [decide_eq_false g0] at e1
      rw [if_neg (show ¬ okN a x n from fun e=>g0 ((okN3 h3).1 e).1)]
      simp only [Qd.r,Qd.t,Ans.cs,Rf.cs,v1,v3,sy,reduceIte,Nat.reduceAdd,Nat.reduceLeDiff,Nat.reduceLT,Nat.reduceEqDiff,Int.reduceEq,Int.reduceLT,Int.reduceLE,Int.reduceNe,ly,e1,h3]
  by_cases h24:a.k=2∨a.k=4
  · by_cases g:sameN a (zN a.k) x noB
    · rw [if_pos (show okN a x n from .inr (.inr ⟨h24,g⟩))]
      rw [decide_eq_true g] at e3
      simp only [Ans.cs,Rf.cs,zN,zR,nilB] at e3
      rcases h24 with k2 | k4
      · simp only [k2] at e3
        simp only [Qd.r,Qd.t,Ans.cs,Rf.cs,v1,v3,sy,reduceIte,Nat.reduceAdd,Nat.reduceLeDiff,Nat.reduceLT,Nat.reduceEqDiff,Int.reduceEq,Int.reduceLT,Int.reduceLE,Int.reduceNe,ly,k2,e3]
      · simp only [k4] at e3
        simp only [Qd.r,Qd.t,Ans.cs,Rf.cs,v1,v3,sy,reduceIte,Nat.reduceAdd,Nat.reduceLeDiff,Nat.reduceLT,Nat.reduceEqDiff,Int.reduceEq,Int.reduceLT,Int.reduceLE,Int.reduceNe,ly,k4,e3]
    · rw [if_neg (show ¬ okN a x n from fun e=>by
        rcases e with e | e | e
        · exact h1 e.1
        · exact h3 e.1
        · exact g e.2)]
      rw [decide_eq_false g] at e3
      simp only [Ans.cs,Rf.cs,zN,zR,nilB] at e3
      rcases h24 with k2 | k4
      · simp only [k2] at e3
        simp only [Qd.r,Qd.t,Ans.cs,Rf.cs,v1,v3,sy,reduceIte,Nat.reduceAdd,Nat.reduceLeDiff,Nat.reduceLT,Nat.reduceEqDiff,Int.reduceEq,Int.reduceLT,Int.reduceLE,Int.reduceNe,ly,k2,e3]
      · simp only [k4] at e3
        simp only [Qd.r,Qd.t,Ans.cs,Rf.cs,v1,v3,sy,reduceIte,Nat.reduceAdd,Nat.reduceLeDiff,Nat.reduceLT,Nat.reduceEqDiff,Int.reduceEq,Int.reduceLT,Int.reduceLE,Int.reduceNe,ly,k4,e3]
  · rw [if_neg (show ¬ okN a x n from fun e=>by
      rcases e with e | e | e
      · exact h1 e.1
      · exact h3 e.1
      · exact h24 e.1)]
    have k2:¬ a.k=2:=fun e=>h24 (.inl e)
    have k4:¬ a.k=4:=fun e=>h24 (.inr e)
    simp only [Qd.r,Qd.t,Ans.cs,Rf.cs,v1,v3,sy,reduceIte,Nat.reduceAdd,Nat.reduceLeDiff,Nat.reduceLT,Nat.reduceEqDiff,Int.reduceEq,Int.reduceLT,Int.reduceLE,Int.reduceNe,ly,h1,h3,k2,k4]
open Classical in
theorem rcheckN (a:Ans) {x:ByteArray} {n:Nat} (s:St) (h:VB s a.v x n) (hl:0≤a.l.bt) (hr:0≤a.r.bt):Q27.r (.agg ⟨a.cs⟩) s=some (.int .i64 (if okN a x n then 0 else 40)):=by
  have e1:=rside a.l hl s
  have e2:=rside a.r hr s
  have e3:=rsameN a (zN a.k) s h (VB.nil s)
  have v1:=h.bx
  have v3:=h.len
  simp only [Rf.cs] at e1 e2
  by_cases h1:a.k=1
  · by_cases g0:okS a.l
    · rw [decide_eq_true g0] at e1
      by_cases g1:okS a.r
      · rw [decide_eq_true g1] at e2
        by_cases g2:(n:Int)≤1024
        · rw [if_pos (show okN a x n from .inl ⟨h1,g0,g1,g2⟩)]
          simp only [Q27.r,Q27.t,Ans.cs,Rf.cs,v1,v3,sy,reduceIte,Nat.reduceAdd,Nat.reduceLeDiff,Nat.reduceLT,Nat.reduceEqDiff,Int.reduceEq,Int.reduceLT,Int.reduceLE,Int.reduceNe,ly,eq_true h1,e1,e2,eq_true g2,h1]
        · rw [if_neg (show ¬ okN a x n from fun e=>g2 ((okN1 h1).1 e).2.2)]
          simp only [Q27.r,Q27.t,Ans.cs,Rf.cs,v1,v3,sy,reduceIte,Nat.reduceAdd,Nat.reduceLeDiff,Nat.reduceLT,Nat.reduceEqDiff,Int.reduceEq,Int.reduceLT,Int.reduceLE,Int.reduceNe,ly,e1,e2,eq_false g2,h1]
      · rw [decide_eq_false g1] at e2
        rw [if_neg (show ¬ okN a x n from fun e=>g1 ((okN1 h1).1 e).2.1)]
        simp only [Q27.r,Q27.t,Ans.cs,Rf.cs,v1,v3,sy,reduceIte,Nat.reduceAdd,Nat.reduceLeDiff,Nat.reduceLT,Nat.reduceEqDiff,Int.reduceEq,Int.reduceLT,Int.reduceLE,Int.reduceNe,ly,e1,e2,h1]
    · rw [decide_eq_false g0] at e1
      rw [if_neg (show ¬ okN a x n from fun e=>g0 ((okN1 h1).1 e).1)]
      simp only [Q27.r,Q27.t,Ans.cs,Rf.cs,v1,v3,sy,reduceIte,Nat.reduceAdd,Nat.reduceLeDiff,Nat.reduceLT,Nat.reduceEqDiff,Int.reduceEq,Int.reduceLT,Int.reduceLE,Int.reduceNe,ly,e1,h1]
  by_cases h3:a.k=3
  · by_cases g0:okS a.l
    · rw [decide_eq_true g0] at e1
      by_cases g1:okS a.r
      · rw [decide_eq_true g1] at e2
        by_cases g2:(n:Int)=0
        · rw [if_pos (show okN a x n from .inr (.inl ⟨h3,g0,g1,g2⟩))]
          simp only [Q27.r,Q27.t,Ans.cs,Rf.cs,v1,v3,sy,reduceIte,Nat.reduceAdd,Nat.reduceLeDiff,Nat.reduceLT,Nat.reduceEqDiff,Int.reduceEq,Int.reduceLT,Int.reduceLE,Int.reduceNe,ly,eq_true h3,e1,e2,eq_true g2,h3]
        · rw [if_neg (show ¬ okN a x n from fun e=>g2 ((okN3 h3).1 e).2.2)]
          simp only [Q27.r,Q27.t,Ans.cs,Rf.cs,v1,v3,sy,reduceIte,Nat.reduceAdd,Nat.reduceLeDiff,Nat.reduceLT,Nat.reduceEqDiff,Int.reduceEq,Int.reduceLT,Int.reduceLE,Int.reduceNe,ly,e1,e2,eq_false g2,h3]
      · rw [decide_eq_false g1] at e2
        rw [if_neg (show ¬ okN a x n from fun e=>g1 ((okN3 h3).1 e).2.1)]
        simp only [Q27.r,Q27.t,Ans.cs,Rf.cs,v1,v3,sy,reduceIte,Nat.reduceAdd,Nat.reduceLeDiff,Nat.reduceLT,Nat.reduceEqDiff,Int.reduceEq,Int.reduceLT,Int.reduceLE,Int.reduceNe,ly,e1,e2,h3]
    · rw [decide_eq_false g0] at e1
      rw [if_neg (show ¬ okN a x n from fun e=>g0 ((okN3 h3).1 e).1)]
      simp only [Q27.r,Q27.t,Ans.cs,Rf.cs,v1,v3,sy,reduceIte,Nat.reduceAdd,Nat.reduceLeDiff,Nat.reduceLT,Nat.reduceEqDiff,Int.reduceEq,Int.reduceLT,Int.reduceLE,Int.reduceNe,ly,e1,h3]
  by_cases h24:a.k=2∨a.k=4
  · by_cases g:sameN a (zN a.k) x noB
    · rw [if_pos (show okN a x n from .inr (.inr ⟨h24,g⟩))]
      rw [decide_eq_true g] at e3
      simp only [Ans.cs,Rf.cs,zN,zR,nilB] at e3
      rcases h24 with k2 | k4
      · simp only [k2] at e3
        simp only [Q27.r,Q27.t,Ans.cs,Rf.cs,v1,v3,sy,reduceIte,Nat.reduceAdd,Nat.reduceLeDiff,Nat.reduceLT,Nat.reduceEqDiff,Int.reduceEq,Int.reduceLT,Int.reduceLE,Int.reduceNe,ly,k2,e3]
      · simp only [k4] at e3
        simp only [Q27.r,Q27.t,Ans.cs,Rf.cs,v1,v3,sy,reduceIte,Nat.reduceAdd,Nat.reduceLeDiff,Nat.reduceLT,Nat.reduceEqDiff,Int.reduceEq,Int.reduceLT,Int.reduceLE,Int.reduceNe,ly,k4,e3]
    · rw [if_neg (show ¬ okN a x n from fun e=>by
        rcases e with e | e | e
        · exact h1 e.1
        · exact h3 e.1
        · exact g e.2)]
      rw [decide_eq_false g] at e3
      simp only [Ans.cs,Rf.cs,zN,zR,nilB] at e3
      rcases h24 with k2 | k4
      · simp only [k2] at e3
        simp only [Q27.r,Q27.t,Ans.cs,Rf.cs,v1,v3,sy,reduceIte,Nat.reduceAdd,Nat.reduceLeDiff,Nat.reduceLT,Nat.reduceEqDiff,Int.reduceEq,Int.reduceLT,Int.reduceLE,Int.reduceNe,ly,k2,e3]
      · simp only [k4] at e3
        simp only [Q27.r,Q27.t,Ans.cs,Rf.cs,v1,v3,sy,reduceIte,Nat.reduceAdd,Nat.reduceLeDiff,Nat.reduceLT,Nat.reduceEqDiff,Int.reduceEq,Int.reduceLT,Int.reduceLE,Int.reduceNe,ly,k4,e3]
  · rw [if_neg (show ¬ okN a x n from fun e=>by
      rcases e with e | e | e
      · exact h1 e.1
      · exact h3 e.1
      · exact h24 e.1)]
    have k2:¬ a.k=2:=fun e=>h24 (.inl e)
    have k4:¬ a.k=4:=fun e=>h24 (.inr e)
    simp only [Q27.r,Q27.t,Ans.cs,Rf.cs,v1,v3,sy,reduceIte,Nat.reduceAdd,Nat.reduceLeDiff,Nat.reduceLT,Nat.reduceEqDiff,Int.reduceEq,Int.reduceLT,Int.reduceLE,Int.reduceNe,ly,h1,h3,k2,k4]
structure Pk where
  rep:Bool
  fa:Bool
  fn:Int
  ta:Bool
  tn:Int
  id:Int
  ask:AskP
  ans:Ans
def Pk.cs (p:Pk):List Value:=[.bool p.rep,.bool p.fa,.int .i64 p.fn,.bool p.ta,.int .i64 p.tn,.int .i64 p.id]++aC p.ask++p.ans.cs
structure PkA (p:Pk):Prop where
  wb:0≤p.ask.wb
  r:0≤p.ask.r.bt
  r2:0≤p.ask.r2.bt
  l:0≤p.ans.l.bt
  ar:0≤p.ans.r.bt
def okPk (p:Pk) (x:ByteArray) (n:Nat):Prop:=(1≤p.id∧p.id≤4611686018427387904)∧((p.rep=true∧p.ask=a0K 0∧okN p.ans x n)∨(p.rep=false∧sameN p.ans (zN 0) x noB∧okA p.ask))
def sameK (p q:Pk) (x y:ByteArray):Prop:=p.rep=q.rep∧(p.fa=q.fa∧p.fn=q.fn)∧(p.ta=q.ta∧p.tn=q.tn)∧p.id=q.id∧p.ask=q.ask∧sameN p.ans q.ans x y
end Go.Proofs.Yteapmnolmfickaa
/-
  Packets: which may be,which are the same; what is handed in.
-/
set_option linter.unusedSimpArgs false
set_option linter.unusedVariables false
set_option maxRecDepth 100000
set_option maxHeartbeats 4000000
namespace Go.Proofs.Yteapmnolmfickaa
open Go.Sim Go.Sim.Bt
attribute [local congr] bdc cndc itec gdc gdSc gdUc
open Classical in
theorem eqAd (b c:Bool) (x y:Int):eqb [0,1] true false (.agg ⟨[.bool b,.int .i64 x]⟩) (.agg ⟨[.bool c,.int .i64 y]⟩)=some (.bool (decide (b=c∧x=y))):=by
  rw [eqb_agg]
  have e0:eqk 0 (.bool b) (.bool c)=some (decide (b=c)):=by cases b <;> cases c <;> rfl
  simp only [eqks_cons,eqks_nil,eqk1,e0,bds,Option.map_some]
  have:∀ b c:Bool,b=c→some (Value.bool b)=some (Value.bool c):=fun _ _ h=>by rw [h]
  apply this
  rw [Bool.eq_iff_iff]
  simp
open Classical in
theorem rsameK (p q:Pk) {x y:ByteArray} {n m:Nat} (s:St) (hp:VB s p.ans.v x n) (hq:VB s q.ans.v y m):Q2h.r (.agg ⟨p.cs⟩) (.agg ⟨q.cs⟩) s=some (.bool (decide (sameK p q x y))):=by
  have e1:=eqAd p.fa q.fa p.fn q.fn
  have e2:=eqAd p.ta q.ta p.tn q.tn
  have e3:=eqA p.ask q.ask
  have e4:=rsameN p.ans q.ans s hp hq
  simp only [aC] at e3
  simp only [Ans.cs,Rf.cs] at e4
  by_cases h0:p.rep=q.rep
  · by_cases h1:p.fa=q.fa∧p.fn=q.fn
    · rw [decide_eq_true h1] at e1
      by_cases h2:p.ta=q.ta∧p.tn=q.tn
      · rw [decide_eq_true h2] at e2
        by_cases h3:p.id=q.id
        · by_cases h4:p.ask=q.ask
          · rw [decide_eq_true h4] at e3
            by_cases h5:sameN p.ans q.ans x y
            · rw [decide_eq_true h5] at e4
              rw [decide_eq_true (show sameK p q x y from ⟨h0,h1,h2,h3,h4,h5⟩)]
              simp only [Q2h.r,Q2h.t,Pk.cs,aC,Ans.cs,Rf.cs,sy,reduceIte,Nat.reduceAdd,Nat.reduceLeDiff,Nat.reduceLT,Nat.reduceEqDiff,Int.reduceEq,Int.reduceLT,Int.reduceLE,Int.reduceNe,ly,eq_true h0,e1,e2,eq_true h3,e3,e4]
            · rw [decide_eq_false h5] at e4
              rw [decide_eq_false (show ¬ sameK p q x y from fun e=>h5 e.2.2.2.2.2)]
              simp only [Q2h.r,Q2h.t,Pk.cs,aC,Ans.cs,Rf.cs,sy,reduceIte,Nat.reduceAdd,Nat.reduceLeDiff,Nat.reduceLT,Nat.reduceEqDiff,Int.reduceEq,Int.reduceLT,Int.reduceLE,Int.reduceNe,ly,eq_true h0,e1,e2,eq_true h3,e3,e4]
          · rw [decide_eq_false h4] at e3
            rw [decide_eq_false (show ¬ sameK p q x y from fun e=>h4 e.2.2.2.2.1)]
            simp only [Q2h.r,Q2h.t,Pk.cs,aC,Ans.cs,Rf.cs,sy,reduceIte,Nat.reduceAdd,Nat.reduceLeDiff,Nat.reduceLT,Nat.reduceEqDiff,Int.reduceEq,Int.reduceLT,Int.reduceLE,Int.reduceNe,ly,eq_true h0,e1,e2,eq_true h3,e3]
        · rw [decide_eq_false (show ¬ sameK p q x y from fun e=>h3 e.2.2.2.1)]
          simp only [Q2h.r,Q2h.t,Pk.cs,aC,Ans.cs,Rf.cs,sy,reduceIte,Nat.reduceAdd,Nat.reduceLeDiff,Nat.reduceLT,Nat.reduceEqDiff,Int.reduceEq,Int.reduceLT,Int.reduceLE,Int.reduceNe,ly,eq_true h0,e1,e2,eq_false h3]
      · rw [decide_eq_false h2] at e2
        rw [decide_eq_false (show ¬ sameK p q x y from fun e=>h2 e.2.2.1)]
        simp only [Q2h.r,Q2h.t,Pk.cs,aC,Ans.cs,Rf.cs,sy,reduceIte,Nat.reduceAdd,Nat.reduceLeDiff,Nat.reduceLT,Nat.reduceEqDiff,Int.reduceEq,Int.reduceLT,Int.reduceLE,Int.reduceNe,ly,eq_true h0,e1,e2]
    · rw [decide_eq_false h1] at e1
      rw [decide_eq_false (show ¬ sameK p q x y from fun e=>h1 e.2.1)]
      simp only [Q2h.r,Q2h.t,Pk.cs,aC,Ans.cs,Rf.cs,sy,reduceIte,Nat.reduceAdd,Nat.reduceLeDiff,Nat.reduceLT,Nat.reduceEqDiff,Int.reduceEq,Int.reduceLT,Int.reduceLE,Int.reduceNe,ly,eq_true h0,e1]
  · rw [decide_eq_false (show ¬ sameK p q x y from fun e=>h0 e.1)]
    simp only [Q2h.r,Q2h.t,Pk.cs,aC,Ans.cs,Rf.cs,sy,reduceIte,Nat.reduceAdd,Nat.reduceLeDiff,Nat.reduceLT,Nat.reduceEqDiff,Int.reduceEq,Int.reduceLT,Int.reduceLE,Int.reduceNe,ly,eq_false h0]
open Classical in
theorem pcheckP (p:Pk) {x:ByteArray} {n:Nat} (s:St) (hf:Fresh s) (hA:PkA p) (hp:VB s p.ans.v x n):Qc.r (.agg ⟨p.cs⟩) s=some (.int .i64 (if okPk p x n then 0 else 40)):=by
  have e1:=eqA p.ask (a0K 0)
  have e2:=psameN p.ans (zN 0) s hp (VB.nil s)
  have e3:=pcheckN p.ans s hp hA.l hA.ar
  have e4:=checkAsk_r p.ask hA.wb hA.r hA.r2 hf
  by_cases h0:p.id < 1
  · rw [if_neg (show ¬ okPk p x n from fun e=>by have:=e.1.1; omega)]
    simp only [Qc.r,Qc.t,Pk.cs,aC,Ans.cs,Rf.cs,sy,reduceIte,Nat.reduceAdd,Nat.reduceLeDiff,Nat.reduceLT,Nat.reduceEqDiff,Int.reduceEq,Int.reduceLT,Int.reduceLE,Int.reduceNe,ly,h0]
  by_cases h1:4611686018427387904 < p.id
  · rw [if_neg (show ¬ okPk p x n from fun e=>by have:=e.1.2; omega)]
    simp only [Qc.r,Qc.t,Pk.cs,aC,Ans.cs,Rf.cs,sy,reduceIte,Nat.reduceAdd,Nat.reduceLeDiff,Nat.reduceLT,Nat.reduceEqDiff,Int.reduceEq,Int.reduceLT,Int.reduceLE,Int.reduceNe,ly,h0,h1]
  have hid:1≤p.id∧p.id≤4611686018427387904:=by omega
  cases hr:p.rep
  · by_cases h2:sameN p.ans (zN 0) x noB
    · rw [decide_eq_true h2] at e2
      by_cases h4:okA p.ask
      · rw [if_pos (show okPk p x n from ⟨hid,.inr ⟨hr,h2,h4⟩⟩)]
        rw [if_pos h4] at e4
        simp only [aC,Ans.cs,Rf.cs,zN,zR,nilB] at e2 e4
        simp only [Qc.r,Qc.t,Pk.cs,aC,Ans.cs,Rf.cs,sy,reduceIte,Nat.reduceAdd,Nat.reduceLeDiff,Nat.reduceLT,Nat.reduceEqDiff,Int.reduceEq,Int.reduceLT,Int.reduceLE,Int.reduceNe,ly,h0,h1,hr,e2,e4]
      · rw [if_neg (show ¬ okPk p x n from fun e=>e.2.elim (fun e=>by rw [hr] at e; cases e.1) (fun e=>h4 e.2.2))]
        rw [if_neg h4] at e4
        simp only [aC,Ans.cs,Rf.cs,zN,zR,nilB] at e2 e4
        simp only [Qc.r,Qc.t,Pk.cs,aC,Ans.cs,Rf.cs,sy,reduceIte,Nat.reduceAdd,Nat.reduceLeDiff,Nat.reduceLT,Nat.reduceEqDiff,Int.reduceEq,Int.reduceLT,Int.reduceLE,Int.reduceNe,ly,h0,h1,hr,e2,e4]
    · rw [decide_eq_false h2] at e2
      rw [if_neg (show ¬ okPk p x n from fun e=>e.2.elim (fun e=>by rw [hr] at e; cases e.1) (fun e=>h2 e.2.1))]
      simp only [Ans.cs,Rf.cs,zN,zR,nilB] at e2
      simp only [Qc.r,Qc.t,Pk.cs,aC,Ans.cs,Rf.cs,sy,reduceIte,Nat.reduceAdd,Nat.reduceLeDiff,Nat.reduceLT,Nat.reduceEqDiff,Int.reduceEq,Int.reduceLT,Int.reduceLE,Int.reduceNe,ly,h0,h1,hr,e2]
  · by_cases h3:p.ask=a0K 0
    · rw [decide_eq_true h3] at e1
      by_cases h5:okN p.ans x n
      · rw [if_pos (show okPk p x n from ⟨hid,.inl ⟨hr,h3,h5⟩⟩)]
        rw [if_pos h5] at e3
        simp only [aC,Ans.cs,Rf.cs,a0K,zR] at e1 e3
        simp only [Qc.r,Qc.t,Pk.cs,aC,Ans.cs,Rf.cs,sy,reduceIte,Nat.reduceAdd,Nat.reduceLeDiff,Nat.reduceLT,Nat.reduceEqDiff,Int.reduceEq,Int.reduceLT,Int.reduceLE,Int.reduceNe,ly,h0,h1,hr,e1,e3]
      · rw [if_neg (show ¬ okPk p x n from fun e=>e.2.elim (fun e=>h5 e.2.2) (fun e=>by rw [hr] at e; cases e.1))]
        rw [if_neg h5] at e3
        simp only [aC,Ans.cs,Rf.cs,a0K,zR] at e1 e3
        simp only [Qc.r,Qc.t,Pk.cs,aC,Ans.cs,Rf.cs,sy,reduceIte,Nat.reduceAdd,Nat.reduceLeDiff,Nat.reduceLT,Nat.reduceEqDiff,Int.reduceEq,Int.reduceLT,Int.reduceLE,Int.reduceNe,ly,h0,h1,hr,e1,e3]
    · rw [decide_eq_false h3] at e1
      rw [if_neg (show ¬ okPk p x n from fun e=>e.2.elim (fun e=>h3 e.2.1) (fun e=>by rw [hr] at e; cases e.1))]
      simp only [aC,a0K,zR] at e1
      simp only [Qc.r,Qc.t,Pk.cs,aC,Ans.cs,Rf.cs,sy,reduceIte,Nat.reduceAdd,Nat.reduceLeDiff,Nat.reduceLT,Nat.reduceEqDiff,Int.reduceEq,Int.reduceLT,Int.reduceLE,Int.reduceNe,ly,h0,h1,hr,e1]
open Classical in
theorem rcheckP (p:Pk) {x:ByteArray} {n:Nat} (s:St) (hf:Fresh s) (hA:PkA p) (hp:VB s p.ans.v x n):Q26.r (.agg ⟨p.cs⟩) s=some (.int .i64 (if okPk p x n then 0 else 40)):=by
  have e1:=neA p.ask (a0K 0)
  have e2:=rsameN p.ans (zN 0) s hp (VB.nil s)
  have e3:=rcheckN p.ans s hp hA.l hA.ar
  have e4:=rcheckAsk p.ask hA.wb hA.r hA.r2 s
  by_cases h0:p.id < 1
  · rw [if_neg (show ¬ okPk p x n from fun e=>by have:=e.1.1; omega)]
    simp only [Q26.r,Q26.t,Pk.cs,aC,Ans.cs,Rf.cs,sy,reduceIte,Nat.reduceAdd,Nat.reduceLeDiff,Nat.reduceLT,Nat.reduceEqDiff,Int.reduceEq,Int.reduceLT,Int.reduceLE,Int.reduceNe,ly,h0]
  by_cases h1:4611686018427387904 < p.id
  · rw [if_neg (show ¬ okPk p x n from fun e=>by have:=e.1.2; omega)]
    simp only [Q26.r,Q26.t,Pk.cs,aC,Ans.cs,Rf.cs,sy,reduceIte,Nat.reduceAdd,Nat.reduceLeDiff,Nat.reduceLT,Nat.reduceEqDiff,Int.reduceEq,Int.reduceLT,Int.reduceLE,Int.reduceNe,ly,h0,h1]
  have hid:1≤p.id∧p.id≤4611686018427387904:=by omega
  cases hr:p.rep
  · by_cases h2:sameN p.ans (zN 0) x noB
    · rw [decide_eq_true h2] at e2
      by_cases h4:okA p.ask
      · rw [if_pos (show okPk p x n from ⟨hid,.inr ⟨hr,h2,h4⟩⟩)]
        rw [if_pos h4] at e4
        simp only [aC,Ans.cs,Rf.cs,zN,zR,nilB] at e2 e4
        simp only [Q26.r,Q26.t,Pk.cs,aC,Ans.cs,Rf.cs,sy,reduceIte,Nat.reduceAdd,Nat.reduceLeDiff,Nat.reduceLT,Nat.reduceEqDiff,Int.reduceEq,Int.reduceLT,Int.reduceLE,Int.reduceNe,ly,h0,h1,hr,e2,e4]
      · rw [if_neg (show ¬ okPk p x n from fun e=>e.2.elim (fun e=>by rw [hr] at e; cases e.1) (fun e=>h4 e.2.2))]
        rw [if_neg h4] at e4
        simp only [aC,Ans.cs,Rf.cs,zN,zR,nilB] at e2 e4
        simp only [Q26.r,Q26.t,Pk.cs,aC,Ans.cs,Rf.cs,sy,reduceIte,Nat.reduceAdd,Nat.reduceLeDiff,Nat.reduceLT,Nat.reduceEqDiff,Int.reduceEq,Int.reduceLT,Int.reduceLE,Int.reduceNe,ly,h0,h1,hr,e2,e4]
    · rw [decide_eq_false h2] at e2
      rw [if_neg (show ¬ okPk p x n from fun e=>e.2.elim (fun e=>by rw [hr] at e; cases e.1) (fun e=>h2 e.2.1))]
      simp only [Ans.cs,Rf.cs,zN,zR,nilB] at e2
      simp only [Q26.r,Q26.t,Pk.cs,aC,Ans.cs,Rf.cs,sy,reduceIte,Nat.reduceAdd,Nat.reduceLeDiff,Nat.reduceLT,Nat.reduceEqDiff,Int.reduceEq,Int.reduceLT,Int.reduceLE,Int.reduceNe,ly,h0,h1,hr,e2]
  · by_cases h3:p.ask=a0K 0
    · rw [decide_eq_false (fun e:p.ask≠a0K 0=>e h3)] at e1
      by_cases h5:okN p.ans x n
      · rw [if_pos (show okPk p x n from ⟨hid,.inl ⟨hr,h3,h5⟩⟩)]
        rw [if_pos h5] at e3
        simp only [aC,Ans.cs,Rf.cs,a0K,zR] at e1 e3
        simp only [Q26.r,Q26.t,Pk.cs,aC,Ans.cs,Rf.cs,sy,reduceIte,Nat.reduceAdd,Nat.reduceLeDiff,Nat.reduceLT,Nat.reduceEqDiff,Int.reduceEq,Int.reduceLT,Int.reduceLE,Int.reduceNe,ly,h0,h1,hr,e1,e3]
      · rw [if_neg (show ¬ okPk p x n from fun e=>e.2.elim (fun e=>h5 e.2.2) (fun e=>by rw [hr] at e; cases e.1))]
        rw [if_neg h5] at e3
        simp only [aC,Ans.cs,Rf.cs,a0K,zR] at e1 e3
        simp only [Q26.r,Q26.t,Pk.cs,aC,Ans.cs,Rf.cs,sy,reduceIte,Nat.reduceAdd,Nat.reduceLeDiff,Nat.reduceLT,Nat.reduceEqDiff,Int.reduceEq,Int.reduceLT,Int.reduceLE,Int.reduceNe,ly,h0,h1,hr,e1,e3]
    · rw [decide_eq_true (show p.ask≠a0K 0 from h3)] at e1
      rw [if_neg (show ¬ okPk p x n from fun e=>e.2.elim (fun e=>h3 e.2.1) (fun e=>by rw [hr] at e; cases e.1))]
      simp only [aC,a0K,zR] at e1
      simp only [Q26.r,Q26.t,Pk.cs,aC,Ans.cs,Rf.cs,sy,reduceIte,Nat.reduceAdd,Nat.reduceLeDiff,Nat.reduceLT,Nat.reduceEqDiff,Int.reduceEq,Int.reduceLT,Int.reduceLE,Int.reduceNe,ly,h0,h1,hr,e1]
end Go.Proofs.Yteapmnolmfickaa
/-
  Replies.
-/
set_option linter.unusedSimpArgs false
set_option linter.unusedVariables false
set_option maxRecDepth 100000
set_option maxHeartbeats 4000000
namespace Go.Proofs.Yteapmnolmfickaa
open Go.Sim Go.Sim.Bt
attribute [local congr] bdc cndc itec gdc gdSc gdUc
noncomputable def xOf (l:List (List Value)):ByteArray:=⟨⟨(bytesOf l).getD []⟩⟩
theorem Byt.vb {s:St} {v:Value} {l:List (List Value)} (h:Byt s v l):VB s v (xOf l) l.length:=by
  obtain ⟨bs,hb⟩:=h.ok
  refine ⟨h.bx,?_,h.lenL⟩
  rw [h.b2s bs hb]
  unfold xOf
  rw [hb]
  rfl
theorem Byt.mr {s s':St} {v:Value} {l:List (List Value)} (h:Byt s v l) (m:More s s') (f:Fresh s):Byt s' v l:=h.stp (StpK.more (ks:=[]) m f) (by simp)
def zPk:Pk:=⟨false,false,0,false,0,0,a0K 0,zN 0⟩
end Go.Proofs.Yteapmnolmfickaa
