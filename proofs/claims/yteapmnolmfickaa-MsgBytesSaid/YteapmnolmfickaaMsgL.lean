/-
  A packet's fields, plainly; rows of fields appended.
-/
import Derived.Test.YteapmnolmfickaaMsgG
import Derived.Test.YteapmnolmfickaaPakK
import Derived.Test.YteapmnolmfickaaPakL
set_option linter.unusedSimpArgs false
set_option linter.unusedVariables false
set_option maxRecDepth 100000
set_option maxHeartbeats 4000000
namespace Go.Proofs.Yteapmnolmfickaa
open Go.Sim Go.Sim.Bt
attribute [local congr] bdc cndc itec gdc gdSc gdUc
def mT (t:Bool):Fd:=⟨3,0,0,t,nilB,0,0,0,0,0,0,0,0,0⟩
def mN (n:Int):Fd:=⟨1,n,0,false,nilB,0,0,0,0,0,0,0,0,0⟩
def mB (v:Value):Fd:=⟨4,0,0,false,v,0,0,0,0,0,0,0,0,0⟩
open Classical in
noncomputable def sideF (r:Rf):List Fd:=if r=zR then [mT false] else [mT true,mR r]
open Classical in
noncomputable def ansF (a:Ans):List Fd:=mN a.k :: ((if a.k=1∨a.k=3 then mT a.f :: (sideF a.l++sideF a.r) else [])++if a.k=1 then [mB a.v] else [])
noncomputable def askF (a:AskP):List Fd:=mN a.k :: (fieldsA a).getD []
noncomputable def encF (p:Pk):List Fd:=[mT p.rep,mT p.fa,mI p.fn,mT p.ta,mI p.tn,mI p.id]++if p.rep=true then ansF p.ans else askF p.ask
theorem app_any {s0 s:St} {sz by_:Nat} {v w:Value} {rows news:List (List Value)} (f:Fresh s) (h:Ful s0.n s sz v rows) (m:More s0 s) (hl:lenV w=some news.length) (hr:rowsOf s sz news.length w=some news) (hb:(rows.length+news.length) * by_≤140737488355328) (hlm:rows.length+news.length≤9223372036854775807) :
    ∃ v' s',app s sz by_ v w=some (v',s')∧More s0 s'∧Ful s0.n s' sz v' (rows++news)∧Fresh s':=by
  rcases Nat.eq_zero_or_pos news.length with e0 | e0
  · have en:news=[]:=List.eq_nil_of_length_eq_zero e0
    subst en
    rw [List.append_nil]
    simp only [List.length_nil,Nat.add_zero] at hl hr hb hlm
    rcases h with ⟨rfl,rfl⟩ | ⟨b,e,h0,rfl,hg,he⟩
    · exact ⟨_,_,app_nil0 hl hr,m,.inl ⟨rfl,rfl⟩,f⟩
    · rcases he with rfl | rfl
      · refine ⟨.slice (some ⟨b,0,some 0⟩) rows.length 1,s,?_,m,.inr ⟨b,1,h0,rfl,hg,.inl rfl⟩,f⟩
        simp only [app,hl,hr,hg]
        rw [if_pos ⟨trivial,by omega⟩,if_pos ⟨by simpa using hb,by omega⟩]
        simp
      · refine ⟨.slice (some ⟨b,0,some 0⟩) rows.length (2 * rows.length),s.put b (.row sz rows false),?_,m.put h0,.inr ⟨b,_,h0,rfl,get_put_same hg,.inr rfl⟩,f.put⟩
        simp only [app,hl,hr,hg]
        rw [if_pos ⟨trivial,by omega⟩,if_pos ⟨by simpa using hb,by omega⟩,if_neg (by omega),if_pos (by omega)]
        simp
  · exact app_many f h m hl hr hb hlm e0
theorem flds_more {s0 s:St} {v:Value} {fs gs:List Fd} (f:Fresh s) (h:Ful s0.n s 14 v (fs.map Fd.cs)) (m:More s0 s) (hl:fs.length+gs.length≤100) (hg:0 < gs.length) :
    ∃ v' s',app (s.new (.row 14 (gs.map Fd.cs) false)) 14 128 v (.slice (some ⟨s.n,0,some 0⟩) gs.length (2 * gs.length))=some (v',s')∧More s0 s'∧Ful s0.n s' 14 v' ((fs++gs).map Fd.cs)∧Fresh s':=by
  have m1:More s (s.new (.row 14 (gs.map Fd.cs) false)):=.new
  have hr:rowsOf (s.new (.row 14 (gs.map Fd.cs) false)) 14 (gs.map Fd.cs).length (.slice (some ⟨s.n,0,some 0⟩) gs.length (2 * gs.length))=some (gs.map Fd.cs):=by
    rw [rowsOf_row get_new_same (by simp) (by simp),List.drop_zero,List.take_length]
  obtain ⟨v',s',h1,h2,h3,h4⟩:=app_many (by_:=128) (m1.fresh f) (h.more m1 f) (m.trans m1) (news:=gs.map Fd.cs) (by simp [lenV]) hr (by simp; omega) (by simp; omega) (by simpa using hg)
  exact ⟨v',s',h1,h2,by rw [List.map_append]; exact h3,h4⟩
theorem fld_more {s0 s:St} {v:Value} {fs:List Fd} (g:Fd) (f:Fresh s) (h:Ful s0.n s 14 v (fs.map Fd.cs)) (m:More s0 s) (hl:fs.length+1≤100) :
    ∃ v' s',app (s.new (.row 14 [g.cs] false)) 14 128 v (.slice (some ⟨s.n,0,some 0⟩) 1 2)=some (v',s')∧More s0 s'∧Ful s0.n s' 14 v' ((fs++[g]).map Fd.cs)∧Fresh s':=flds_more (gs:=[g]) f h m hl (by simp)
theorem sl_more {s0 s:St} {n1:Nat} {v w:Value} {fs gs:List Fd} (f:Fresh s) (h:Ful s0.n s 14 v (fs.map Fd.cs)) (k:Ful n1 s 14 w (gs.map Fd.cs)) (m:More s0 s) (hl:fs.length+gs.length≤100) :
    ∃ v' s',app s 14 128 v w=some (v',s')∧More s0 s'∧Ful s0.n s' 14 v' ((fs++gs).map Fd.cs)∧Fresh s':=by
  have e1:lenV w=some (gs.map Fd.cs).length:=by
    rcases k with ⟨rfl,e⟩ | ⟨b,e,g0,rfl,gg,ge⟩
    · rw [e]; rfl
    · rfl
  have e2:rowsOf s 14 (gs.map Fd.cs).length w=some (gs.map Fd.cs):=by
    rcases k with ⟨rfl,e⟩ | ⟨b,e,g0,rfl,gg,ge⟩
    · rw [e]; rfl
    · rw [rowsOf_row gg (Nat.le_refl _) (by omega),List.drop_zero,List.take_length]
  obtain ⟨v',s',h1,h2,h3,h4⟩:=app_any (by_:=128) f h m e1 e2 (by simp; omega) (by simp; omega)
  exact ⟨v',s',h1,h2,by rw [List.map_append]; exact h3,h4⟩
def FsIs (s:St) (r:Option (Value×St)) (fs:List Fd):Prop:=∃ v s',r=some (v,s')∧More s s'∧Ful s.n s' 14 v (fs.map Fd.cs)∧Fresh s'
theorem rnum_r (n:Int) (s:St):Q2p.r (.int .u64 n) s=some (mN n).v:=by
  simp only [Q2p.r,Q2p.t,sy,reduceIte,Nat.reduceAdd,Nat.reduceLeDiff,Nat.reduceLT,Nat.reduceEqDiff,Int.reduceEq,Int.reduceLT,Int.reduceLE,Int.reduceNe,ly,mN,Fd.v,Fd.cs,nilB]
theorem rwhole_f (n:Int) (s:St):Q2u.r (.int .i64 n) s=some (mI n).v:=by
  simp only [Q2u.r,Q2u.t,sy,reduceIte,Nat.reduceAdd,Nat.reduceLeDiff,Nat.reduceLT,Nat.reduceEqDiff,Int.reduceEq,Int.reduceLT,Int.reduceLE,Int.reduceNe,ly,mI,Fd.v,Fd.cs,nilB]
theorem rtruth_r (t:Bool) (s:St):Q2t.r (.bool t) s=some (mT t).v:=by
  simp only [Q2t.r,Q2t.t,sy,reduceIte,Nat.reduceAdd,Nat.reduceLeDiff,Nat.reduceLT,Nat.reduceEqDiff,Int.reduceEq,Int.reduceLT,Int.reduceLE,Int.reduceNe,ly,mT,Fd.v,Fd.cs,nilB]
theorem rref_r (r:Rf) (s:St):Q2r.r (.agg ⟨r.cs⟩) s=some (mR r).v:=by
  simp only [Q2r.r,Q2r.t,Rf.cs,sy,reduceIte,Nat.reduceAdd,Nat.reduceLeDiff,Nat.reduceLT,Nat.reduceEqDiff,Int.reduceEq,Int.reduceLT,Int.reduceLE,Int.reduceNe,ly,mR,Fd.v,Fd.cs,nilB]
theorem bls_1 (f:Fd) (s:St):((bls 14 (List.replicate 1 [(.int .i64 0),(.int .u64 0),(.int .i64 0),(.bool false),(.slice none 0 0),(.int .i64 0),(.int .u64 0),(.int .i64 0),(.int .u64 0),(.int .i64 0),(.int .i64 0),(.int .u64 0),(.int .i64 0),(.int .u64 0)]) [(0,f.v)]).bind fun rows=>als s 14 1 rows)=some (.slice (some ⟨s.n,0,some 0⟩) 1 2,s.new (.row 14 [f.cs] false)):=rfl
theorem bls_2 (f g:Fd) (s:St):((bls 14 (List.replicate 2 [(.int .i64 0),(.int .u64 0),(.int .i64 0),(.bool false),(.slice none 0 0),(.int .i64 0),(.int .u64 0),(.int .i64 0),(.int .u64 0),(.int .i64 0),(.int .i64 0),(.int .u64 0),(.int .i64 0),(.int .u64 0)]) [(0,f.v),(1,g.v)]).bind fun rows=>als s 14 2 rows)=some (.slice (some ⟨s.n,0,some 0⟩) 2 4,s.new (.row 14 [f.cs,g.cs] false)):=rfl
theorem fls_new {s:St} (gs:List Fd) (f:Fresh s):More s (s.new (.row 14 (gs.map Fd.cs) false))∧Ful s.n (s.new (.row 14 (gs.map Fd.cs) false)) 14 (.slice (some ⟨s.n,0,some 0⟩) gs.length (2 * gs.length)) (gs.map Fd.cs)∧Fresh (s.new (.row 14 (gs.map Fd.cs) false)) :=
  ⟨.new,.inr ⟨s.n,2 * gs.length,Nat.le_refl _,by simp,get_new_same,.inr (by simp)⟩,f.new⟩
theorem rbeside_v {s:St} (r:Rf) (f:Fresh s):FsIs s (Q2m.v (.agg ⟨r.cs⟩) s) (sideF r):=by
  have e1:=eqR r zR
  have b5:bx (.agg ⟨r.cs⟩)=some r.cs:=rfl
  have l5:lal r.cs 0 5=some (.agg ⟨r.cs⟩):=rfl
  have z5:bld [.int .i64 0,.int .i64 0,.int .u64 0,.int .i64 0,.int .u64 0] []=some (.agg ⟨zR.cs⟩):=rfl
  unfold sideF
  by_cases h:r=zR
  · rw [if_pos h]
    rw [@decide_eq_true _ (Classical.propDecidable _) h] at e1
    obtain ⟨m1,m2,m3⟩:=fls_new [mT false] f
    refine ⟨_,_,?_,m1,m2,m3⟩
    unfold Q2m.v Q2m.t
    simp only [std_bd,std_cnd,b5,l5,z5,e1,cndt,rtruth_r,bls_1,bds]
    rfl
  · rw [if_neg h]
    rw [@decide_eq_false _ (Classical.propDecidable _) h] at e1
    obtain ⟨m1,m2,m3⟩:=fls_new [mT true,mR r] f
    refine ⟨_,_,?_,m1,m2,m3⟩
    unfold Q2m.v Q2m.t
    simp only [std_bd,std_cnd,b5,l5,z5,e1,cndf,rtruth_r,rref_r,bls_2,bds]
    rfl
theorem sideF_len (r:Rf):(sideF r).length≤2:=by unfold sideF; split <;> simp
theorem ransF_v {s:St} (a:Ans) (hbx:bx a.v=some [a.v]) (hk:0≤a.k∧a.k < 18446744073709551616) (f:Fresh s):FsIs s (Q2k.v (.agg ⟨a.cs⟩) s) (ansF a):=by
  have b13:bx (.agg ⟨a.cs⟩)=some a.cs:=rfl
  have k0:lcl a.cs 0=some (.int .i64 a.k):=rfl
  have k1:lcl a.cs 1=some (.bool a.f):=rfl
  have k12:lcl a.cs 12=some a.v:=rfl
  have kl:lal a.cs 2 5=some (.agg ⟨a.l.cs⟩):=rfl
  have kr':lal a.cs 7 5=some (.agg ⟨a.r.cs⟩):=rfl
  have cv:cvi .u64 (.int .i64 a.k)=some (.int .u64 a.k):=by rw [cvi_int,wrapu64 hk.1 (by omega)]
  have eB:bld [(.int .i64 0),(.int .u64 0),(.int .i64 0),(.bool false),(.slice none 0 0),(.int .i64 0),(.int .u64 0),(.int .i64 0),(.int .u64 0),(.int .i64 0),(.int .i64 0),(.int .u64 0),(.int .i64 0),(.int .u64 0)] [(0,1,.int .i64 4),(4,1,a.v)]=some (mB a.v).v:=by
    simp only [sy,reduceIte,Nat.reduceAdd,Nat.reduceLeDiff,Nat.reduceLT,Nat.reduceEqDiff,Int.reduceEq,Int.reduceLT,Int.reduceLE,Int.reduceNe,ly,hbx,mB,Fd.v,Fd.cs]
  obtain ⟨m1,m2,m3⟩:=fls_new [mN a.k] f
  have m2:Ful s.n (s.new (.row 14 [(mN a.k).cs] false)) 14 (.slice (some ⟨s.n,0,some 0⟩) 1 2) (([mN a.k]:List Fd).map Fd.cs):=m2
  have m1:More s (s.new (.row 14 [(mN a.k).cs] false)):=m1
  have m3:Fresh (s.new (.row 14 [(mN a.k).cs] false)):=m3
  have st:((Q2p.r (.int .u64 a.k) s).bind fun x4=>(bls 14 (List.replicate 1 [(.int .i64 0),(.int .u64 0),(.int .i64 0),(.bool false),(.slice none 0 0),(.int .i64 0),(.int .u64 0),(.int .i64 0),(.int .u64 0),(.int .i64 0),(.int .i64 0),(.int .u64 0),(.int .i64 0),(.int .u64 0)]) [(0,x4)]).bind fun rows=>als s 14 1 rows)=some (.slice (some ⟨s.n,0,some 0⟩) 1 2,s.new (.row 14 [(mN a.k).cs] false)):=by rw [rnum_r,bds]; exact bls_1 _ _
  have st1:=bls_1 (mN a.k) s
  generalize s.new (.row 14 [(mN a.k).cs] false)=s1 at *
  have sl:=sideF_len a.l
  have sr:=sideF_len a.r
  have body:a.k=1∨a.k=3→∃ v5 s5 w2 w3 v2 v4 s2 s3 s4 v3,app (s1.new (.row 14 [(mT a.f).cs] false)) 14 128 (.slice (some ⟨s.n,0,some 0⟩) 1 2) (.slice (some ⟨s1.n,0,some 0⟩) 1 2)=some (v2,s2)∧Q2m.v (.agg ⟨a.l.cs⟩) s2=some (w2,s3)∧app s3 14 128 v2 w2=some (v3,s4) ∧
      Q2m.v (.agg ⟨a.r.cs⟩) s4=some (w3,v4)∧app v4 14 128 v3 w3=some (v5,s5)∧More s s5∧Ful s.n s5 14 v5 ((mN a.k :: mT a.f :: (sideF a.l++sideF a.r)).map Fd.cs)∧Fresh s5:=by
    intro _
    obtain ⟨v2,s2,p1,p2,p3,p4⟩:=fld_more (mT a.f) m3 m2 m1 (by simp)
    obtain ⟨w2,s3,q1,q2,q3,q4⟩:=rbeside_v a.l p4
    obtain ⟨v3,s4,r1,r2,r3,r4⟩:=sl_more q4 (p3.more q2 p4) q3 (p2.trans q2) (by simp; omega)
    obtain ⟨w3,s5,t1,t2,t3,t4⟩:=rbeside_v a.r r4
    obtain ⟨v5,s6,u1,u2,u3,u4⟩:=sl_more t4 (r3.more t2 r4) t3 (r2.trans t2) (by simp; omega)
    exact ⟨v5,s6,w2,w3,v2,s5,s2,s3,s4,v3,p1,q1,r1,t1,u1,u2,by simpa using u3,u4⟩
  by_cases h1:a.k=1
  · obtain ⟨v5,s5,w2,w3,v2,v4,s2,s3,s4,v3,p1,q1,r1,t1,u1,u2,u3,u4⟩:=body (.inl h1)
    obtain ⟨v6,s6,x1,x2,x3,x4⟩:=fld_more (mB a.v) u4 u3 u2 (by simp; omega)
    refine ⟨v6,s6,?_,x2,by unfold ansF; rw [if_pos (.inl h1),if_pos h1]; simpa using x3,x4⟩
    have e1:eqb [1] false false (.int .i64 a.k) (.int .i64 1)=some (.bool true):=by rw [eqb1,decide_eq_true h1]
    unfold Q2k.v Q2k.t
    simp only [std_bd,std_cnd,std_gd,b13,k0,cv,rnum_r,st1,e1,gdtf,pikt,cndt,k1,rtruth_r,bls_1,p1,kl,kr',q1,r1,t1,u1,List.getD_cons_zero,List.getD_cons_succ,cellsA,k12,eB,x1,bds]
  · by_cases h3:a.k=3
    · obtain ⟨v5,s5,w2,w3,v2,v4,s2,s3,s4,v3,p1,q1,r1,t1,u1,u2,u3,u4⟩:=body (.inr h3)
      refine ⟨v5,s5,?_,u2,by unfold ansF; rw [if_pos (.inr h3),if_neg h1]; simpa using u3,u4⟩
      have e1:eqb [1] false false (.int .i64 a.k) (.int .i64 1)=some (.bool false):=by rw [eqb1,decide_eq_false h1]
      have e3:eqb [1] false false (.int .i64 a.k) (.int .i64 3)=some (.bool true):=by rw [eqb1,decide_eq_true h3]
      unfold Q2k.v Q2k.t
      simp only [std_bd,std_cnd,std_gd,b13,k0,cv,rnum_r,st1,e1,e3,gdff,pikf,cndt,cndf,k1,rtruth_r,bls_1,p1,kl,kr',q1,r1,t1,u1,List.getD_cons_zero,List.getD_cons_succ,cellsA,bds]
    · refine ⟨_,s1,?_,m1,by unfold ansF; rw [if_neg (fun e=>e.elim h1 h3),if_neg h1]; exact m2,m3⟩
      have e1:eqb [1] false false (.int .i64 a.k) (.int .i64 1)=some (.bool false):=by rw [eqb1,decide_eq_false h1]
      have e3:eqb [1] false false (.int .i64 a.k) (.int .i64 3)=some (.bool false):=by rw [eqb1,decide_eq_false h3]
      unfold Q2k.v Q2k.t
      simp only [std_bd,std_cnd,std_gd,b13,k0,cv,rnum_r,st1,e1,e3,gdff,pikf,cndf,List.getD_cons_zero,List.getD_cons_succ,cellsA,bds]
end Go.Proofs.Yteapmnolmfickaa
/-
  A packet's bytes,as the reference makes them.
-/
set_option linter.unusedSimpArgs false
set_option linter.unusedVariables false
set_option maxRecDepth 100000
set_option maxHeartbeats 4000000
namespace Go.Proofs.Yteapmnolmfickaa
open Go.Sim Go.Sim.Bt
attribute [local congr] bdc cndc itec gdc gdSc gdUc
theorem fld2_more {s0 s:St} {v:Value} {fs:List Fd} (g h':Fd) (f:Fresh s) (h:Ful s0.n s 14 v (fs.map Fd.cs)) (m:More s0 s) (hl:fs.length+2≤100) :
    ∃ v' s',app (s.new (.row 14 [g.cs,h'.cs] false)) 14 128 v (.slice (some ⟨s.n,0,some 0⟩) 2 4)=some (v',s')∧More s0 s'∧Ful s0.n s' 14 v' ((fs++[g,h']).map Fd.cs)∧Fresh s':=flds_more (gs:=[g,h']) f h m hl (by simp)
def hasF (a:AskP):List Fd :=
  if a.k=1 then [mV a.wl a.wb] else if a.k=3∨a.k=4∨a.k=8 then [mV a.wl a.wb,mI a.oa,mI a.oo] else if a.k=5 then [mV a.wl a.wb,mR a.r,mI a.oa,mI a.oo]
  else if a.k=6 then [mV a.wl a.wb,mR a.r] else if a.k=7 then [mV a.wl a.wb,mR a.r,mR a.r2,mI a.oa,mI a.oo] else []
theorem fieldsA_ok {a:AskP} (h:okA a):fieldsA a=some (hasF a):=by
  obtain ⟨k,wl,wb,r,r2,oa,oo⟩:=a
  obtain ⟨hk,_,hw,hr,h7⟩:=h
  simp only at hk hw hr h7
  have hc:k=1∨k=2∨k=3∨k=4∨k=5∨k=6∨k=7∨k=8∨k=9∨k=10:=by omega
  rcases hc with rfl | rfl | rfl | rfl | rfl | rfl | rfl | rfl | rfl | rfl
  · show askL (⟨1,wl,wb,r,r2,oa,oo⟩:AskP) [5] 0 0 []=_
    refine Eq.trans (askL_y (show okM (fieldOf (⟨1,wl,wb,r,r2,oa,oo⟩:AskP) 5 0 0) from (okM_V _ _).2 (hw (by unfold hasW; simp)))) ?_
    rfl
  · show askL (⟨2,wl,wb,r,r2,oa,oo⟩:AskP) [] 0 0 []=_
    rfl
  · show askL (⟨3,wl,wb,r,r2,oa,oo⟩:AskP) [5,2,2] 0 0 []=_
    refine Eq.trans (askL_y (show okM (fieldOf (⟨3,wl,wb,r,r2,oa,oo⟩:AskP) 5 0 0) from (okM_V _ _).2 (hw (by unfold hasW; simp)))) ?_
    refine Eq.trans (askL_y (show okM (fieldOf (⟨3,wl,wb,r,r2,oa,oo⟩:AskP) 2 0 0) from okM_I _)) ?_
    refine Eq.trans (askL_y (show okM (fieldOf (⟨3,wl,wb,r,r2,oa,oo⟩:AskP) 2 0 1) from okM_I _)) ?_
    rfl
  · show askL (⟨4,wl,wb,r,r2,oa,oo⟩:AskP) [5,2,2] 0 0 []=_
    refine Eq.trans (askL_y (show okM (fieldOf (⟨4,wl,wb,r,r2,oa,oo⟩:AskP) 5 0 0) from (okM_V _ _).2 (hw (by unfold hasW; simp)))) ?_
    refine Eq.trans (askL_y (show okM (fieldOf (⟨4,wl,wb,r,r2,oa,oo⟩:AskP) 2 0 0) from okM_I _)) ?_
    refine Eq.trans (askL_y (show okM (fieldOf (⟨4,wl,wb,r,r2,oa,oo⟩:AskP) 2 0 1) from okM_I _)) ?_
    rfl
  · show askL (⟨5,wl,wb,r,r2,oa,oo⟩:AskP) [5,7,2,2] 0 0 []=_
    refine Eq.trans (askL_y (show okM (fieldOf (⟨5,wl,wb,r,r2,oa,oo⟩:AskP) 5 0 0) from (okM_V _ _).2 (hw (by unfold hasW; simp)))) ?_
    refine Eq.trans (askL_y (show okM (fieldOf (⟨5,wl,wb,r,r2,oa,oo⟩:AskP) 7 0 0) from (okM_R _).2 (hr (by unfold hasR; simp)))) ?_
    refine Eq.trans (askL_y (show okM (fieldOf (⟨5,wl,wb,r,r2,oa,oo⟩:AskP) 2 1 0) from okM_I _)) ?_
    refine Eq.trans (askL_y (show okM (fieldOf (⟨5,wl,wb,r,r2,oa,oo⟩:AskP) 2 1 1) from okM_I _)) ?_
    rfl
  · show askL (⟨6,wl,wb,r,r2,oa,oo⟩:AskP) [5,7] 0 0 []=_
    refine Eq.trans (askL_y (show okM (fieldOf (⟨6,wl,wb,r,r2,oa,oo⟩:AskP) 5 0 0) from (okM_V _ _).2 (hw (by unfold hasW; simp)))) ?_
    refine Eq.trans (askL_y (show okM (fieldOf (⟨6,wl,wb,r,r2,oa,oo⟩:AskP) 7 0 0) from (okM_R _).2 (hr (by unfold hasR; simp)))) ?_
    rfl
  · show askL (⟨7,wl,wb,r,r2,oa,oo⟩:AskP) [5,7,7,2,2] 0 0 []=_
    refine Eq.trans (askL_y (show okM (fieldOf (⟨7,wl,wb,r,r2,oa,oo⟩:AskP) 5 0 0) from (okM_V _ _).2 (hw (by unfold hasW; simp)))) ?_
    refine Eq.trans (askL_y (show okM (fieldOf (⟨7,wl,wb,r,r2,oa,oo⟩:AskP) 7 0 0) from (okM_R _).2 (hr (by unfold hasR; simp)))) ?_
    refine Eq.trans (askL_y (show okM (fieldOf (⟨7,wl,wb,r,r2,oa,oo⟩:AskP) 7 1 0) from (okM_R _).2 (h7 rfl))) ?_
    refine Eq.trans (askL_y (show okM (fieldOf (⟨7,wl,wb,r,r2,oa,oo⟩:AskP) 2 2 0) from okM_I _)) ?_
    refine Eq.trans (askL_y (show okM (fieldOf (⟨7,wl,wb,r,r2,oa,oo⟩:AskP) 2 2 1) from okM_I _)) ?_
    rfl
  · show askL (⟨8,wl,wb,r,r2,oa,oo⟩:AskP) [5,2,2] 0 0 []=_
    refine Eq.trans (askL_y (show okM (fieldOf (⟨8,wl,wb,r,r2,oa,oo⟩:AskP) 5 0 0) from (okM_V _ _).2 (hw (by unfold hasW; simp)))) ?_
    refine Eq.trans (askL_y (show okM (fieldOf (⟨8,wl,wb,r,r2,oa,oo⟩:AskP) 2 0 0) from okM_I _)) ?_
    refine Eq.trans (askL_y (show okM (fieldOf (⟨8,wl,wb,r,r2,oa,oo⟩:AskP) 2 0 1) from okM_I _)) ?_
    rfl
  · show askL (⟨9,wl,wb,r,r2,oa,oo⟩:AskP) [] 0 0 []=_
    rfl
  · show askL (⟨10,wl,wb,r,r2,oa,oo⟩:AskP) [] 0 0 []=_
    rfl
theorem raskF_v {s:St} (a:AskP) (hk:1≤a.k∧a.k≤10) (f:Fresh s):FsIs s (Q2l.v (.agg ⟨aC a⟩) s) (mN a.k :: hasF a):=by
  obtain ⟨k,wl,wb,r,r2,oa,oo⟩:=a
  simp only at hk
  have hc:k=1∨k=2∨k=3∨k=4∨k=5∨k=6∨k=7∨k=8∨k=9∨k=10:=by omega
  obtain ⟨m1,m2,m3⟩:=fls_new [mN k] f
  have m2:Ful s.n (s.new (.row 14 [(mN k).cs] false)) 14 (.slice (some ⟨s.n,0,some 0⟩) 1 2) (([mN k]:List Fd).map Fd.cs):=m2
  have m1:More s (s.new (.row 14 [(mN k).cs] false)):=m1
  have m3:Fresh (s.new (.row 14 [(mN k).cs] false)):=m3
  have st1:=bls_1 (mN k) s
  have eV:bld [(.int .i64 0),(.int .u64 0),(.int .i64 0),(.bool false),(.slice none 0 0),(.int .i64 0),(.int .u64 0),(.int .i64 0),(.int .u64 0),(.int .i64 0),(.int .i64 0),(.int .u64 0),(.int .i64 0),(.int .u64 0)] [(0,1,.int .i64 5),(5,2,.agg ⟨[.int .i64 wl,.int .u64 wb]⟩)]=some (mV wl wb).v:=rfl
  have cv:cvi .u64 (.int .i64 k)=some (.int .u64 k):=by rw [cvi_int,wrapu64 (by omega) (by omega)]
  generalize s.new (.row 14 [(mN k).cs] false)=s1 at *
  obtain ⟨A,hA⟩:∃ A:AskP,A=⟨k,wl,wb,r,r2,oa,oo⟩:=⟨_,rfl⟩
  have b15:bx (.agg ⟨aC A⟩)=some (aC A):=rfl
  have c0:lcl (aC A) 0=some (.int .i64 k):=by rw [hA]; rfl
  have c13:lcl (aC A) 13=some (.int .i64 oa):=by rw [hA]; rfl
  have c14:lcl (aC A) 14=some (.int .i64 oo):=by rw [hA]; rfl
  have lv:lal (aC A) 1 2=some (.agg ⟨[.int .i64 wl,.int .u64 wb]⟩):=by rw [hA]; rfl
  have lr:lal (aC A) 3 5=some (.agg ⟨r.cs⟩):=by rw [hA]; rfl
  have lr2:lal (aC A) 8 5=some (.agg ⟨r2.cs⟩):=by rw [hA]; rfl
  rw [← hA]
  rcases hc with h | h | h | h | h | h | h | h | h | h
  · have hh:Q2n.r (.int .i64 k) s1=some (.tuple ⟨[.bool true,.bool false,.bool false,.bool false]⟩):=by
      rw [h]
      simp only [Q2n.r,Q2n.t,sy,reduceIte,Nat.reduceAdd,Nat.reduceLeDiff,Nat.reduceLT,Nat.reduceEqDiff,Int.reduceEq,Int.reduceLT,Int.reduceLE,Int.reduceNe,ly]
    obtain ⟨v1,t1,p1,q1,x1,y1⟩:=fld_more (mV wl wb) m3 m2 m1 (by simp)
    refine ⟨v1,t1,?_,q1,by rw [hA]; unfold hasF; simp only [h]; simpa [h] using x1,y1⟩
    unfold Q2l.v Q2l.t Q2l.t.p1
    simp only [std_bd,std_cnd,b15,c0,cv,rnum_r,st1,hh,xtr_eq,List.getElem?_cons_zero,List.getElem?_cons_succ,cndt,cndf,lv,eV,bls_1,bls_2,lr,lr2,rref_r,rwhole_f,c13,c14,p1, List.getD_cons_zero,List.getD_cons_succ,cellsA,bds]
  · have hh:Q2n.r (.int .i64 k) s1=some (.tuple ⟨[.bool false,.bool false,.bool false,.bool false]⟩):=by
      rw [h]
      simp only [Q2n.r,Q2n.t,sy,reduceIte,Nat.reduceAdd,Nat.reduceLeDiff,Nat.reduceLT,Nat.reduceEqDiff,Int.reduceEq,Int.reduceLT,Int.reduceLE,Int.reduceNe,ly]
    refine ⟨.slice (some ⟨s.n,0,some 0⟩) 1 2,s1,?_,m1,by rw [hA]; unfold hasF; simp only [h]; simpa [h] using m2,m3⟩
    unfold Q2l.v Q2l.t Q2l.t.p1
    simp only [std_bd,std_cnd,b15,c0,cv,rnum_r,st1,hh,xtr_eq,List.getElem?_cons_zero,List.getElem?_cons_succ,cndt,cndf,lv,eV,bls_1,bls_2,lr,lr2,rref_r,rwhole_f,c13,c14, List.getD_cons_zero,List.getD_cons_succ,cellsA,bds]
  · have hh:Q2n.r (.int .i64 k) s1=some (.tuple ⟨[.bool true,.bool false,.bool false,.bool true]⟩):=by
      rw [h]
      simp only [Q2n.r,Q2n.t,sy,reduceIte,Nat.reduceAdd,Nat.reduceLeDiff,Nat.reduceLT,Nat.reduceEqDiff,Int.reduceEq,Int.reduceLT,Int.reduceLE,Int.reduceNe,ly]
    obtain ⟨v1,t1,p1,q1,x1,y1⟩:=fld_more (mV wl wb) m3 m2 m1 (by simp)
    obtain ⟨v2,t2,p2,q2,x2,y2⟩:=fld2_more (mI oa) (mI oo) y1 x1 q1 (by simp)
    refine ⟨v2,t2,?_,q2,by rw [hA]; unfold hasF; simp only [h]; simpa [h] using x2,y2⟩
    unfold Q2l.v Q2l.t Q2l.t.p1
    simp only [std_bd,std_cnd,b15,c0,cv,rnum_r,st1,hh,xtr_eq,List.getElem?_cons_zero,List.getElem?_cons_succ,cndt,cndf,lv,eV,bls_1,bls_2,lr,lr2,rref_r,rwhole_f,c13,c14,p1,p2, List.getD_cons_zero,List.getD_cons_succ,cellsA,bds]
  · have hh:Q2n.r (.int .i64 k) s1=some (.tuple ⟨[.bool true,.bool false,.bool false,.bool true]⟩):=by
      rw [h]
      simp only [Q2n.r,Q2n.t,sy,reduceIte,Nat.reduceAdd,Nat.reduceLeDiff,Nat.reduceLT,Nat.reduceEqDiff,Int.reduceEq,Int.reduceLT,Int.reduceLE,Int.reduceNe,ly]
    obtain ⟨v1,t1,p1,q1,x1,y1⟩:=fld_more (mV wl wb) m3 m2 m1 (by simp)
    obtain ⟨v2,t2,p2,q2,x2,y2⟩:=fld2_more (mI oa) (mI oo) y1 x1 q1 (by simp)
    refine ⟨v2,t2,?_,q2,by rw [hA]; unfold hasF; simp only [h]; simpa [h] using x2,y2⟩
    unfold Q2l.v Q2l.t Q2l.t.p1
    simp only [std_bd,std_cnd,b15,c0,cv,rnum_r,st1,hh,xtr_eq,List.getElem?_cons_zero,List.getElem?_cons_succ,cndt,cndf,lv,eV,bls_1,bls_2,lr,lr2,rref_r,rwhole_f,c13,c14,p1,p2, List.getD_cons_zero,List.getD_cons_succ,cellsA,bds]
  · have hh:Q2n.r (.int .i64 k) s1=some (.tuple ⟨[.bool true,.bool true,.bool false,.bool true]⟩):=by
      rw [h]
      simp only [Q2n.r,Q2n.t,sy,reduceIte,Nat.reduceAdd,Nat.reduceLeDiff,Nat.reduceLT,Nat.reduceEqDiff,Int.reduceEq,Int.reduceLT,Int.reduceLE,Int.reduceNe,ly]
    obtain ⟨v1,t1,p1,q1,x1,y1⟩:=fld_more (mV wl wb) m3 m2 m1 (by simp)
    obtain ⟨v2,t2,p2,q2,x2,y2⟩:=fld_more (mR r) y1 x1 q1 (by simp)
    obtain ⟨v3,t3,p3,q3,x3,y3⟩:=fld2_more (mI oa) (mI oo) y2 x2 q2 (by simp)
    refine ⟨v3,t3,?_,q3,by rw [hA]; unfold hasF; simp only [h]; simpa [h] using x3,y3⟩
    unfold Q2l.v Q2l.t Q2l.t.p1
    simp only [std_bd,std_cnd,b15,c0,cv,rnum_r,st1,hh,xtr_eq,List.getElem?_cons_zero,List.getElem?_cons_succ,cndt,cndf,lv,eV,bls_1,bls_2,lr,lr2,rref_r,rwhole_f,c13,c14,p1,p2,p3, List.getD_cons_zero,List.getD_cons_succ,cellsA,bds]
  · have hh:Q2n.r (.int .i64 k) s1=some (.tuple ⟨[.bool true,.bool true,.bool false,.bool false]⟩):=by
      rw [h]
      simp only [Q2n.r,Q2n.t,sy,reduceIte,Nat.reduceAdd,Nat.reduceLeDiff,Nat.reduceLT,Nat.reduceEqDiff,Int.reduceEq,Int.reduceLT,Int.reduceLE,Int.reduceNe,ly]
    obtain ⟨v1,t1,p1,q1,x1,y1⟩:=fld_more (mV wl wb) m3 m2 m1 (by simp)
    obtain ⟨v2,t2,p2,q2,x2,y2⟩:=fld_more (mR r) y1 x1 q1 (by simp)
    refine ⟨v2,t2,?_,q2,by rw [hA]; unfold hasF; simp only [h]; simpa [h] using x2,y2⟩
    unfold Q2l.v Q2l.t Q2l.t.p1
    simp only [std_bd,std_cnd,b15,c0,cv,rnum_r,st1,hh,xtr_eq,List.getElem?_cons_zero,List.getElem?_cons_succ,cndt,cndf,lv,eV,bls_1,bls_2,lr,lr2,rref_r,rwhole_f,c13,c14,p1,p2, List.getD_cons_zero,List.getD_cons_succ,cellsA,bds]
  · have hh:Q2n.r (.int .i64 k) s1=some (.tuple ⟨[.bool true,.bool true,.bool true,.bool true]⟩):=by
      rw [h]
      simp only [Q2n.r,Q2n.t,sy,reduceIte,Nat.reduceAdd,Nat.reduceLeDiff,Nat.reduceLT,Nat.reduceEqDiff,Int.reduceEq,Int.reduceLT,Int.reduceLE,Int.reduceNe,ly]
    obtain ⟨v1,t1,p1,q1,x1,y1⟩:=fld_more (mV wl wb) m3 m2 m1 (by simp)
    obtain ⟨v2,t2,p2,q2,x2,y2⟩:=fld_more (mR r) y1 x1 q1 (by simp)
    obtain ⟨v3,t3,p3,q3,x3,y3⟩:=fld_more (mR r2) y2 x2 q2 (by simp)
    obtain ⟨v4,t4,p4,q4,x4,y4⟩:=fld2_more (mI oa) (mI oo) y3 x3 q3 (by simp)
    refine ⟨v4,t4,?_,q4,by rw [hA]; unfold hasF; simp only [h]; simpa [h] using x4,y4⟩
    unfold Q2l.v Q2l.t Q2l.t.p1
    simp only [std_bd,std_cnd,b15,c0,cv,rnum_r,st1,hh,xtr_eq,List.getElem?_cons_zero,List.getElem?_cons_succ,cndt,cndf,lv,eV,bls_1,bls_2,lr,lr2,rref_r,rwhole_f,c13,c14,p1,p2,p3,p4, List.getD_cons_zero,List.getD_cons_succ,cellsA,bds]
  · have hh:Q2n.r (.int .i64 k) s1=some (.tuple ⟨[.bool true,.bool false,.bool false,.bool true]⟩):=by
      rw [h]
      simp only [Q2n.r,Q2n.t,sy,reduceIte,Nat.reduceAdd,Nat.reduceLeDiff,Nat.reduceLT,Nat.reduceEqDiff,Int.reduceEq,Int.reduceLT,Int.reduceLE,Int.reduceNe,ly]
    obtain ⟨v1,t1,p1,q1,x1,y1⟩:=fld_more (mV wl wb) m3 m2 m1 (by simp)
    obtain ⟨v2,t2,p2,q2,x2,y2⟩:=fld2_more (mI oa) (mI oo) y1 x1 q1 (by simp)
    refine ⟨v2,t2,?_,q2,by rw [hA]; unfold hasF; simp only [h]; simpa [h] using x2,y2⟩
    unfold Q2l.v Q2l.t Q2l.t.p1
    simp only [std_bd,std_cnd,b15,c0,cv,rnum_r,st1,hh,xtr_eq,List.getElem?_cons_zero,List.getElem?_cons_succ,cndt,cndf,lv,eV,bls_1,bls_2,lr,lr2,rref_r,rwhole_f,c13,c14,p1,p2, List.getD_cons_zero,List.getD_cons_succ,cellsA,bds]
  · have hh:Q2n.r (.int .i64 k) s1=some (.tuple ⟨[.bool false,.bool false,.bool false,.bool false]⟩):=by
      rw [h]
      simp only [Q2n.r,Q2n.t,sy,reduceIte,Nat.reduceAdd,Nat.reduceLeDiff,Nat.reduceLT,Nat.reduceEqDiff,Int.reduceEq,Int.reduceLT,Int.reduceLE,Int.reduceNe,ly]
    refine ⟨.slice (some ⟨s.n,0,some 0⟩) 1 2,s1,?_,m1,by rw [hA]; unfold hasF; simp only [h]; simpa [h] using m2,m3⟩
    unfold Q2l.v Q2l.t Q2l.t.p1
    simp only [std_bd,std_cnd,b15,c0,cv,rnum_r,st1,hh,xtr_eq,List.getElem?_cons_zero,List.getElem?_cons_succ,cndt,cndf,lv,eV,bls_1,bls_2,lr,lr2,rref_r,rwhole_f,c13,c14, List.getD_cons_zero,List.getD_cons_succ,cellsA,bds]
  · have hh:Q2n.r (.int .i64 k) s1=some (.tuple ⟨[.bool false,.bool false,.bool false,.bool false]⟩):=by
      rw [h]
      simp only [Q2n.r,Q2n.t,sy,reduceIte,Nat.reduceAdd,Nat.reduceLeDiff,Nat.reduceLT,Nat.reduceEqDiff,Int.reduceEq,Int.reduceLT,Int.reduceLE,Int.reduceNe,ly]
    refine ⟨.slice (some ⟨s.n,0,some 0⟩) 1 2,s1,?_,m1,by rw [hA]; unfold hasF; simp only [h]; simpa [h] using m2,m3⟩
    unfold Q2l.v Q2l.t Q2l.t.p1
    simp only [std_bd,std_cnd,b15,c0,cv,rnum_r,st1,hh,xtr_eq,List.getElem?_cons_zero,List.getElem?_cons_succ,cndt,cndf,lv,eV,bls_1,bls_2,lr,lr2,rref_r,rwhole_f,c13,c14, List.getD_cons_zero,List.getD_cons_succ,cellsA,bds]
end Go.Proofs.Yteapmnolmfickaa
/-
  A packet's bytes,as the program makes them: an answer's fields.
-/
set_option linter.unusedSimpArgs false
set_option linter.unusedVariables false
set_option maxRecDepth 100000
set_option maxHeartbeats 4000000
namespace Go.Proofs.Yteapmnolmfickaa
open Go.Sim Go.Sim.Bt
attribute [local congr] bdc cndc itec gdc gdSc gdUc
theorem callM {C:Ctx} {f:Nat} {g:List Value→St→Option (Value×St)} {a x c:List Value} {s:St} (h:Sim.lookC C f=some (.st g)):callV C (.func (.func f) ⟨a⟩ ⟨c⟩) x s=g (a++x++c) s:=by
  simp only [callV,h]
def cpM (b:Nat):Value:=.pointer (some ⟨b,0,some 0⟩)
structure LcAt (b:Nat) (s0 s:St) (fs:List Fd):Prop where
  fr:Fresh s
  mo:More s0 s
  le:s0.n≤b
  at_:∃ lv,s.get b=some (.row 1 [[lv]] false)∧Ful s0.n s 14 lv (fs.map Fd.cs)
theorem Ful.putK {n0 b:Nat} {s:St} {x y:List (List Value)} {v:Value} {rows:List (List Value)} (h:Ful n0 s 14 v rows) (hb:s.get b=some (.row 1 x false)):Ful n0 (s.put b (.row 1 y false)) 14 v rows:=by
  rcases h with h | ⟨c,e,g0,g1,g2,g3⟩
  · exact .inl h
  · refine .inr ⟨c,e,g0,g1,?_,g3⟩
    rw [get_put_ne]
    · exact g2
    · rintro rfl
      rw [hb] at g2
      injection g2 with g2
      injection g2 with g2
      omega
theorem put_v {b:Nat} {s0 s:St} {fs:List Fd} (g:Fd) (h:LcAt b s0 s fs) (hl:fs.length≤50):∃ s',Qn.v g.v (cpM b) s=some (.tuple ⟨[]⟩,s')∧LcAt b s0 s' (fs++[g])∧∀ c sz rows ro,sz≠14→sz≠1→s.get c=some (.row sz rows ro)→s'.get c=some (.row sz rows ro):=by
  obtain ⟨lv,g1,g2⟩:=h.at_
  obtain ⟨v',s1,p1,p2,p3,p4,p5⟩:=push h.fr g2 h.mo (by_:=128) g.cs (by simp; omega) (by simp; omega)
  have gb:s1.get b=some (.row 1 [[lv]] false):=p5.row g1 (by simp)
  have hbx:=p3.isR.bx
  have d1:ldc s (cpM b)=some lv:=by rw [cpM,ldc_row g1]; rfl
  have w1:stv s1 1 (cpM b) v'=some (s1.put b (.row 1 [[v']] false)):=by rw [cpM,stv_row gb,hbx]; rfl
  have b14:bx g.v=some g.cs:=rfl
  have l14:lal g.cs 0 14=some g.v:=rfl
  refine ⟨s1.put b (.row 1 [[v']] false),?_,⟨p4.put,p2.put h.le,h.le,v',get_put_same gb,?_⟩,fun c sz rows ro h14 h1 hc=>?_⟩
  · unfold Qn.v Qn.t
    simp only [std_bd,b14,d1,l14,bls_1,p1,w1,bds]
  · rw [List.map_append]
    exact Ful.putK p3 gb
  · rw [get_put_ne]
    · exact p5.row hc (by simpa using h14)
    · rintro rfl
      rw [g1] at hc
      injection hc with hc
      injection hc with hc
      omega
theorem call_put (b:Nat) (g:Fd) (s:St):callV Qm.ctx (.func (.func 60) ⟨[]⟩ ⟨[cpM b]⟩) [g.v] s=Qn.v g.v (cpM b) s:=by
  rw [callM (g:=Qn.w) rfl]
  rfl
theorem eT (t:Bool):bld [(.int .i64 0),(.int .u64 0),(.int .i64 0),(.bool false),(.slice none 0 0),(.int .i64 0),(.int .u64 0),(.int .i64 0),(.int .u64 0),(.int .i64 0),(.int .i64 0),(.int .u64 0),(.int .i64 0),(.int .u64 0)] [(0,1,.int .i64 3),(3,1,.bool t)]=some (mT t).v:=rfl
theorem eR (r:Rf):bld [(.int .i64 0),(.int .u64 0),(.int .i64 0),(.bool false),(.slice none 0 0),(.int .i64 0),(.int .u64 0),(.int .i64 0),(.int .u64 0),(.int .i64 0),(.int .i64 0),(.int .u64 0),(.int .i64 0),(.int .u64 0)] [(0,1,.int .i64 7),(9,5,.agg ⟨r.cs⟩)]=some (mR r).v:=rfl
theorem eN (n:Int):bld [(.int .i64 0),(.int .u64 0),(.int .i64 0),(.bool false),(.slice none 0 0),(.int .i64 0),(.int .u64 0),(.int .i64 0),(.int .u64 0),(.int .i64 0),(.int .i64 0),(.int .u64 0),(.int .i64 0),(.int .u64 0)] [(0,1,.int .i64 1),(1,1,.int .u64 n)]=some (mN n).v:=rfl
theorem eI (n:Int):bld [(.int .i64 0),(.int .u64 0),(.int .i64 0),(.bool false),(.slice none 0 0),(.int .i64 0),(.int .u64 0),(.int .i64 0),(.int .u64 0),(.int .i64 0),(.int .i64 0),(.int .u64 0),(.int .i64 0),(.int .u64 0)] [(0,1,.int .i64 2),(2,1,.int .i64 n)]=some (mI n).v:=rfl
theorem side_step {b c j:Nat} {s0 s:St} {fs:List Fd} {l r:Rf} {z:List Value} (h:LcAt b s0 s fs) (hl:fs.length≤40) (hc:s.get c=some (.row 5 [l.cs,r.cs] false)) (hj:j < 2) :
    ∃ s',LcAt b s0 s' (fs++sideF (if j=0 then l else r))∧s'.get c=some (.row 5 [l.cs,r.cs] false)∧∀ e,iter (Qm.l7 std) (e+1) [cpM b,.func (.func 60) ⟨[]⟩ ⟨[cpM b]⟩,.slice (some ⟨c,0,some 0⟩) 2 4,.int .i64 2,.int .i64 (j:Int),.agg ⟨z⟩] s
      = iter (Qm.l7 std) e [cpM b,.func (.func 60) ⟨[]⟩ ⟨[cpM b]⟩,.slice (some ⟨c,0,some 0⟩) 2 4,.int .i64 2,.int .i64 ((j+1:Nat):Int),.agg ⟨z⟩] s':=by
  have i1:idx s 5 (.slice (some ⟨c,0,some 0⟩) 2 4) (.int .i64 (j:Int))=some (.pointer (some ⟨c,j,some 0⟩)):=by
    have:=idx_row (k:=.i64) (i:=0) (n:=(j:Int)) (len:=2) (e:=4) hc (by omega) (by omega)
    rwa [Int.toNat_natCast,Nat.zero_add] at this
  have i2:lda s 5 (.pointer (some ⟨c,j,some 0⟩))=some (.agg ⟨(if j=0 then l else r).cs⟩):=by
    rw [lda_row hc]
    rcases (show j=0∨j=1 by omega) with rfl | rfl <;> rfl
  generalize (if j=0 then l else r)=q at *
  have e1:eqb [1,1,1,1,1] true true (.agg ⟨q.cs⟩) (.agg ⟨zR.cs⟩)=(eqb [1,1,1,1,1] true false (.agg ⟨q.cs⟩) (.agg ⟨zR.cs⟩)).bind fun v=>match v with
      | .bool b=>some (.bool (!b))
      | _=>none:=by
    rw [neb_agg,eqb_agg]
    cases eqks [1,1,1,1,1] q.cs zR.cs <;> rfl
  rw [eqR] at e1
  have lt0:bin .lss (.int .i64 (j:Int)) (.int .i64 2)=some (.bool true):=by rw [bin_lss,decide_eq_true (by omega)]
  have add0:bin .add (.int .i64 (j:Int)) (.int .i64 1)=some (.int .i64 ((j+1:Nat):Int)):=by
    rw [bin_add,wrap64 (by omega) (by omega)]; rfl
  have z5b:bx (.agg #[.int .i64 0,.int .i64 0,.int .u64 0,.int .i64 0,.int .u64 0])=some zR.cs:=rfl
  have z5:bld [.int .i64 0,.int .i64 0,.int .u64 0,.int .i64 0,.int .u64 0] []=some (.agg ⟨zR.cs⟩):=rfl
  have s5:stl zR.cs 0 5 (.agg ⟨q.cs⟩)=some q.cs:=rfl
  have l5:lal q.cs 0 5=some (.agg ⟨q.cs⟩):=rfl
  unfold sideF
  by_cases hq:q=zR
  · rw [if_pos hq]
    rw [@decide_eq_true _ (Classical.propDecidable _) hq] at e1
    have e1:eqb [1,1,1,1,1] true true (.agg ⟨q.cs⟩) (.agg ⟨zR.cs⟩)=some (.bool false):=e1
    obtain ⟨s1,p1,p2,p3⟩:=put_v (mT false) h (by omega)
    refine ⟨s1,p2,p3 c 5 _ _ (by omega) (by omega) hc,fun e=>?_⟩
    rw [iter_succ]
    generalize iter (Qm.l7 std) e=R
    unfold Qm.l7 Qm.l7.p1
    simp only [std_bd,std_cnd,List.getD_cons_zero,List.getD_cons_succ,lt0,cndt,i1,i2,z5b,s5,l5,z5,e1,eT,call_put,p1,cndf,add0,cellsA,bds]
  · rw [if_neg hq]
    rw [@decide_eq_false _ (Classical.propDecidable _) hq] at e1
    have e1:eqb [1,1,1,1,1] true true (.agg ⟨q.cs⟩) (.agg ⟨zR.cs⟩)=some (.bool true):=e1
    obtain ⟨s1,p1,p2,p3⟩:=put_v (mT true) h (by omega)
    obtain ⟨s2,q1,q2,q3⟩:=put_v (mR q) p2 (by simp; omega)
    refine ⟨s2,by simpa using q2,q3 c 5 _ _ (by omega) (by omega) (p3 c 5 _ _ (by omega) (by omega) hc),fun e=>?_⟩
    rw [iter_succ]
    generalize iter (Qm.l7 std) e=R
    unfold Qm.l7 Qm.l7.p1
    simp only [std_bd,std_cnd,List.getD_cons_zero,List.getD_cons_succ,lt0,cndt,i1,i2,z5b,s5,l5,z5,e1,eT,eR,call_put,p1,q1,add0,cellsA,bds]
theorem ansF_v {s:St} (a:Ans) (hbx:bx a.v=some [a.v]) (hk:0≤a.k∧a.k < 18446744073709551616) (f:Fresh s):FsIs s (Qm.v (.agg ⟨a.cs⟩) s) (ansF a):=by
  have b13:bx (.agg ⟨a.cs⟩)=some a.cs:=rfl
  have k0:lcl a.cs 0=some (.int .i64 a.k):=rfl
  have k1:lcl a.cs 1=some (.bool a.f):=rfl
  have k12:lcl a.cs 12=some a.v:=rfl
  have kl:lal a.cs 2 5=some (.agg ⟨a.l.cs⟩):=rfl
  have kr':lal a.cs 7 5=some (.agg ⟨a.r.cs⟩):=rfl
  have cv:cvi .u64 (.int .i64 a.k)=some (.int .u64 a.k):=by rw [cvi_int,wrapu64 hk.1 (by omega)]
  have eB:bld [(.int .i64 0),(.int .u64 0),(.int .i64 0),(.bool false),(.slice none 0 0),(.int .i64 0),(.int .u64 0),(.int .i64 0),(.int .u64 0),(.int .i64 0),(.int .i64 0),(.int .u64 0),(.int .i64 0),(.int .u64 0)] [(0,1,.int .i64 4),(4,1,a.v)]=some (mB a.v).v:=by
    simp only [sy,reduceIte,Nat.reduceAdd,Nat.reduceLeDiff,Nat.reduceLT,Nat.reduceEqDiff,Int.reduceEq,Int.reduceLT,Int.reduceLE,Int.reduceNe,ly,hbx,mB,Fd.v,Fd.cs]
  obtain ⟨m1,m2,m3⟩:=fls_new [mN a.k] f
  have m2:Ful s.n (s.new (.row 14 [(mN a.k).cs] false)) 14 (.slice (some ⟨s.n,0,some 0⟩) 1 2) (([mN a.k]:List Fd).map Fd.cs):=m2
  have m1:More s (s.new (.row 14 [(mN a.k).cs] false)):=m1
  have m3:Fresh (s.new (.row 14 [(mN a.k).cs] false)):=m3
  have n1:(s.new (.row 14 [(mN a.k).cs] false)).n=s.n+1:=rfl
  have st1:=bls_1 (mN a.k) s
  generalize s.new (.row 14 [(mN a.k).cs] false)=s1 at *
  have A2:alv s1 (.slice none 0 0)=some (cpM s1.n,s1.new (.row 1 [[nilB]] false)):=rfl
  have g2:(s1.new (.row 1 [[nilB]] false)).get s1.n=some (.row 1 [[nilB]] false):=get_new_same
  have m4:More s1 (s1.new (.row 1 [[nilB]] false)):=.new
  generalize s1.new (.row 1 [[nilB]] false)=s2 at *
  have w2:stv s2 1 (cpM s1.n) (.slice (some ⟨s.n,0,some 0⟩) 1 2)=some (s2.put s1.n (.row 1 [[.slice (some ⟨s.n,0,some 0⟩) 1 2]] false)):=by rw [cpM,stv_row g2]; rfl
  have h3:LcAt s1.n s (s2.put s1.n (.row 1 [[.slice (some ⟨s.n,0,some 0⟩) 1 2]] false)) [mN a.k] :=
    ⟨(m4.fresh m3).put,(m1.trans m4).put (by omega),by omega,_,get_put_same g2,Ful.putK (m2.more m4 m3) g2⟩
  generalize s2.put s1.n (.row 1 [[.slice (some ⟨s.n,0,some 0⟩) 1 2]] false)=s3 at *
  obtain ⟨lv3,g3,u3⟩:=h3.at_
  have d3:ldc s3 (cpM s1.n)=some lv3:=by rw [cpM,ldc_row g3]; rfl
  have sl:=sideF_len a.l
  have sr:=sideF_len a.r
  have body:∃ s4 s5 s8,Qn.v (mT a.f).v (cpM s1.n) s3=some (.tuple ⟨[]⟩,s4)∧((bls 5 (List.replicate 2 [(.int .i64 0),(.int .i64 0),(.int .u64 0),(.int .i64 0),(.int .u64 0)]) [(0,.agg ⟨a.l.cs⟩),(1,.agg ⟨a.r.cs⟩)]).bind fun rows=>als s4 5 2 rows)=some (.slice (some ⟨s4.n,0,some 0⟩) 2 4,s5) ∧
      iter (Qm.l7 std) BIG [cpM s1.n,.func (.func 60) ⟨[]⟩ ⟨[cpM s1.n]⟩,.slice (some ⟨s4.n,0,some 0⟩) 2 4,.int .i64 2,.int .i64 0,.agg ⟨a.cs⟩] s5=some (0,[cpM s1.n,.func (.func 60) ⟨[]⟩ ⟨[cpM s1.n]⟩,.agg ⟨a.cs⟩],s8)∧LcAt s1.n s s8 (mN a.k :: mT a.f :: (sideF a.l++sideF a.r)):=by
    obtain ⟨s4,p1,p2,p3⟩:=put_v (mT a.f) h3 (by simp)
    have m5:More s4 (s4.new (.row 5 [a.l.cs,a.r.cs] false)):=.new
    have g5:(s4.new (.row 5 [a.l.cs,a.r.cs] false)).get s4.n=some (.row 5 [a.l.cs,a.r.cs] false):=get_new_same
    have st5:((bls 5 (List.replicate 2 [(.int .i64 0),(.int .i64 0),(.int .u64 0),(.int .i64 0),(.int .u64 0)]) [(0,.agg ⟨a.l.cs⟩),(1,.agg ⟨a.r.cs⟩)]).bind fun rows=>als s4 5 2 rows)=some (.slice (some ⟨s4.n,0,some 0⟩) 2 4,s4.new (.row 5 [a.l.cs,a.r.cs] false)):=rfl
    have h5:LcAt s1.n s (s4.new (.row 5 [a.l.cs,a.r.cs] false)) ([mN a.k]++[mT a.f]):=by
      obtain ⟨lv,x1,x2⟩:=p2.at_
      exact ⟨m5.fresh p2.fr,p2.mo.trans m5,p2.le,lv,m5.get p2.fr x1,x2.more m5 p2.fr⟩
    generalize s4.new (.row 5 [a.l.cs,a.r.cs] false)=s5 at *
    obtain ⟨s6,q1,q2,q3⟩:=side_step (j:=0) (z:=a.cs) h5 (by simp) g5 (by omega)
    obtain ⟨s7,r1,r2,r3⟩:=side_step (j:=1) (z:=a.cs) q1 (by simp; omega) q2 (by omega)
    refine ⟨s4,s5,s7,p1,st5,?_,by simpa using r1⟩
    have q3:=q3 (BIG - 1)
    have r3:=r3 (BIG - 2)
    rw [show BIG - 1+1=BIG from rfl] at q3
    rw [show BIG - 2+1=BIG - 1 from rfl] at r3
    refine Eq.trans q3 (Eq.trans r3 ?_)
    have lt1:bin .lss (.int .i64 ((1+1:Nat):Int)) (.int .i64 2)=some (.bool false):=rfl
    rw [show BIG - 2=(BIG - 3)+1 from rfl,iter_succ]
    unfold Qm.l7
    simp only [std_bd,std_cnd,List.getD_cons_zero,List.getD_cons_succ,lt1,cndf,cellsA,bds]
  have l2:lenL (.slice (some ⟨0,0,some 0⟩) 2 4)=some (.int .i64 2):=rfl
  by_cases h1:a.k=1
  · obtain ⟨s4,s5,s8,p1,p2,p3,p4⟩:=body
    obtain ⟨s9,q1,q2,q3⟩:=put_v (mB a.v) p4 (by simp; omega)
    obtain ⟨lv,x1,x2⟩:=q2.at_
    have d9:ldc s9 (cpM s1.n)=some lv:=by rw [cpM,ldc_row x1]; rfl
    refine ⟨lv,s9,?_,q2.mo,by unfold ansF; rw [if_pos (.inl h1),if_pos h1]; simpa using x2,q2.fr⟩
    have e1:eqb [1] false true (.int .i64 a.k) (.int .i64 1)=some (.bool false):=by rw [neb1,decide_eq_false (fun e=>e h1)]
    have e1':eqb [1] false false (.int .i64 a.k) (.int .i64 1)=some (.bool true):=by rw [eqb1,decide_eq_true h1]
    have ll:lenL (.slice (some ⟨s4.n,0,some 0⟩) 2 4)=some (.int .i64 2):=rfl
    unfold Qm.v Qm.t Qm.t.p1
    simp only [std_bd,std_cnd,std_gd,std_it,b13,k0,cv,eN,st1,A2,w2,e1,gdft,pikf,cndf,k1,eT,call_put,p1,kl,kr',p2,ll,p3,List.getD_cons_zero,List.getD_cons_succ,cellsA,e1',cndt,k12,eB,q1,d9,bds]
  · by_cases h3':a.k=3
    · obtain ⟨s4,s5,s8,p1,p2,p3,p4⟩:=body
      obtain ⟨lv,x1,x2⟩:=p4.at_
      have d9:ldc s8 (cpM s1.n)=some lv:=by rw [cpM,ldc_row x1]; rfl
      refine ⟨lv,s8,?_,p4.mo,by unfold ansF; rw [if_pos (.inr h3'),if_neg h1]; simpa using x2,p4.fr⟩
      have e1:eqb [1] false true (.int .i64 a.k) (.int .i64 1)=some (.bool true):=by rw [neb1,decide_eq_true h1]
      have e3:eqb [1] false true (.int .i64 a.k) (.int .i64 3)=some (.bool false):=by rw [neb1,decide_eq_false (fun e=>e h3')]
      have e1':eqb [1] false false (.int .i64 a.k) (.int .i64 1)=some (.bool false):=by rw [eqb1,decide_eq_false h1]
      have ll:lenL (.slice (some ⟨s4.n,0,some 0⟩) 2 4)=some (.int .i64 2):=rfl
      unfold Qm.v Qm.t Qm.t.p1
      simp only [std_bd,std_cnd,std_gd,std_it,b13,k0,cv,eN,st1,A2,w2,e1,e3,gdtt,pikt,cndf,k1,eT,call_put,p1,kl,kr',p2,ll,p3,List.getD_cons_zero,List.getD_cons_succ,cellsA,e1',d9,bds]
    · refine ⟨lv3,s3,?_,h3.mo,by unfold ansF; rw [if_neg (fun e=>e.elim h1 h3'),if_neg h1]; exact u3,h3.fr⟩
      have e1:eqb [1] false true (.int .i64 a.k) (.int .i64 1)=some (.bool true):=by rw [neb1,decide_eq_true h1]
      have e3:eqb [1] false true (.int .i64 a.k) (.int .i64 3)=some (.bool true):=by rw [neb1,decide_eq_true h3']
      unfold Qm.v Qm.t
      simp only [std_bd,std_cnd,std_gd,std_it,b13,k0,cv,eN,st1,A2,w2,e1,e3,gdtt,pikt,cndt,d3,bds]
end Go.Proofs.Yteapmnolmfickaa
/-
  A packet's bytes: Encode of both.
-/
set_option linter.unusedSimpArgs false
set_option linter.unusedVariables false
set_option maxRecDepth 100000
set_option maxHeartbeats 4000000
namespace Go.Proofs.Yteapmnolmfickaa
open Go.Sim Go.Sim.Bt
attribute [local congr] bdc cndc itec gdc gdSc gdUc
def i64R (n:Int):Prop:=-9223372036854775808≤n∧n≤9223372036854775807
def u64R (n:Int):Prop:=0≤n∧n < 18446744073709551616
structure PkR (p:Pk):Prop where
  fn:i64R p.fn
  tn:i64R p.tn
  id:i64R p.id
  oa:i64R p.ask.oa
  oo:i64R p.ask.oo
  rid:i64R p.ask.r.id
  rn:u64R p.ask.r.n
  r2id:i64R p.ask.r2.id
  r2n:u64R p.ask.r2.n
  lid:i64R p.ans.l.id
  ln:u64R p.ans.l.n
  aid:i64R p.ans.r.id
  an:u64R p.ans.r.n
theorem mT_a (t:Bool):FdA (mT t):=⟨by simp [mT],by simp [mT],by simp [mT],by simp [mT],by simp [mT],by simp [mT],by simp [mT],by simp [mT],by simp [mT],by simp [mT],by simp [mT],by simp [mT]⟩
theorem mI_a {n:Int} (h:i64R n):FdA (mI n):=⟨by simp [mI],by simp [mI],h.1,h.2,by simp [mI],by simp [mI],by simp [mI],by simp [mI],by simp [mI],by simp [mI],by simp [mI],by simp [mI]⟩
theorem mN_a {n:Int} (h:u64R n):FdA (mN n):=⟨h.1,h.2,by simp [mN],by simp [mN],by simp [mN],by simp [mN],by simp [mN],by simp [mN],by simp [mN],by simp [mN],by simp [mN],by simp [mN]⟩
theorem mV_a {wl wb:Int} (h:0≤wb):FdA (mV wl wb):=⟨by simp [mV],by simp [mV],by simp [mV],by simp [mV],h,by simp [mV],by simp [mV],by simp [mV],by simp [mV],by simp [mV],by simp [mV],by simp [mV]⟩
theorem mR_a {r:Rf} (h1:i64R r.id) (h2:u64R r.n) (h3:0≤r.bt):FdA (mR r):=⟨by simp [mR],by simp [mR],by simp [mR],by simp [mR],by simp [mR],by simp [mR],by simp [mR],h1.1,h1.2,h2.1,h2.2,h3⟩
theorem mB_a (v:Value):FdA (mB v):=⟨by simp [mB],by simp [mB],by simp [mB],by simp [mB],by simp [mB],by simp [mB],by simp [mB],by simp [mB],by simp [mB],by simp [mB],by simp [mB],by simp [mB]⟩
theorem okM_T (t:Bool):okM (mT t):=by
  unfold okM okF
  refine ⟨by unfold isKd mT; simp,by simp [sameP,onlyF,mT,ownB],fun e=>by simp [mT] at e,fun e=>by simp [mT] at e,fun e=>by simp [mT] at e,fun e=>by simp [mT] at e⟩
theorem okM_N (n:Int):okM (mN n):=by
  unfold okM okF
  refine ⟨by unfold isKd mN; simp,by simp [sameP,onlyF,mN,ownB],fun e=>by simp [mN] at e,fun e=>by simp [mN] at e,fun e=>by simp [mN] at e,fun e=>by simp [mN] at e⟩
theorem okP_B (v:Value) {lb:List Int} (h:lb.length≤65536):okP (mB v,lb):=by
  unfold okP okF
  refine ⟨by unfold isKd mB; simp,by simp [sameP,onlyF,mB,ownB],fun _=>h,fun e=>by simp [mB] at e,fun e=>by simp [mB] at e,fun e=>by simp [mB] at e⟩
def Plain (f:Fd):Prop:=f.b=nilB∧f.k≠4∧FdA f∧okM f
theorem pl_T (t:Bool):Plain (mT t):=⟨rfl,by simp [mT],mT_a t,okM_T t⟩
theorem pl_I {n:Int} (h:i64R n):Plain (mI n):=⟨rfl,by simp [mI],mI_a h,okM_I n⟩
theorem pl_N {n:Int} (h:u64R n):Plain (mN n):=⟨rfl,by simp [mN],mN_a h,okM_N n⟩
theorem pl_V {wl wb:Int} (h:0≤wb) (ok:okV wl wb):Plain (mV wl wb):=⟨rfl,by simp [mV],mV_a h,(okM_V _ _).2 ok⟩
theorem pl_R {r:Rf} (h1:i64R r.id) (h2:u64R r.n) (h3:0≤r.bt) (ok:okRf r):Plain (mR r):=⟨rfl,by simp [mR],mR_a h1 h2 h3,(okM_R _).2 ok⟩
theorem pl_side {r:Rf} (h1:i64R r.id) (h2:u64R r.n) (h3:0≤r.bt) (ok:okS r):∀ f ∈ sideF r,Plain f:=by
  unfold sideF
  split
  · intro f hf
    cases List.mem_singleton.1 hf
    exact pl_T _
  · rename_i hz
    intro f hf
    rcases List.mem_cons.1 hf with rfl | hf
    · exact pl_T _
    · cases List.mem_singleton.1 hf
      exact pl_R h1 h2 h3 (ok.resolve_left hz)
theorem encF_plain {p:Pk} {x:ByteArray} {n:Nat} (hA:PkA p) (hR:PkR p) (ok:okPk p x n):∀ f ∈ encF p,Plain f∨f=mB p.ans.v:=by
  intro f hf
  unfold encF at hf
  rcases List.mem_append.1 hf with hf | hf
  · left
    simp only [List.mem_cons,List.not_mem_nil,or_false] at hf
    rcases hf with rfl | rfl | rfl | rfl | rfl | rfl
    · exact pl_T _
    · exact pl_T _
    · exact pl_I hR.fn
    · exact pl_T _
    · exact pl_I hR.tn
    · exact pl_I hR.id
  · obtain ⟨_,ok⟩:=ok
    split at hf
    · rename_i hrep
      have okn:okN p.ans x n:=by
        rcases ok with ⟨_,_,h⟩ | ⟨h,_⟩
        · exact h
        · rw [hrep] at h; cases h
      unfold ansF at hf
      rcases List.mem_cons.1 hf with rfl | hf
      · left
        refine pl_N ?_
        rcases okn with ⟨h,_⟩ | ⟨h,_⟩ | ⟨h | h,_⟩ <;> rw [h] <;> exact ⟨by decide,by decide⟩
      · rcases List.mem_append.1 hf with hf | hf
        · left
          split at hf
          · rename_i hk
            have hs:okS p.ans.l∧okS p.ans.r:=by
              rcases okn with ⟨_,h1,h2,_⟩ | ⟨_,h1,h2,_⟩ | ⟨h,_⟩
              · exact ⟨h1,h2⟩
              · exact ⟨h1,h2⟩
              · omega
            rcases List.mem_cons.1 hf with rfl | hf
            · exact pl_T _
            · rcases List.mem_append.1 hf with hf | hf
              · exact pl_side hR.lid hR.ln hA.l hs.1 f hf
              · exact pl_side hR.aid hR.an hA.ar hs.2 f hf
          · cases hf
        · split at hf
          · exact .inr (List.mem_singleton.1 hf)
          · cases hf
    · rename_i hrep
      have oka:okA p.ask:=by
        rcases ok with ⟨h,_⟩ | ⟨_,_,h⟩
        · exact absurd h hrep
        · exact h
      left
      unfold askF at hf
      rw [fieldsA_ok oka] at hf
      obtain ⟨hk,_,hw,hr,h7⟩:=oka
      rcases List.mem_cons.1 hf with rfl | hf
      · exact pl_N ⟨by omega,by omega⟩
      · simp only [Option.getD_some] at hf
        unfold hasF at hf
        have V:hasW p.ask.k→Plain (mV p.ask.wl p.ask.wb):=fun h=>pl_V hA.wb (hw h)
        have R:hasR p.ask.k→Plain (mR p.ask.r):=fun h=>pl_R hR.rid hR.rn hA.r (hr h)
        have R2:p.ask.k=7→Plain (mR p.ask.r2):=fun h=>pl_R hR.r2id hR.r2n hA.r2 (h7 h)
        have O1:Plain (mI p.ask.oa):=pl_I hR.oa
        have O2:Plain (mI p.ask.oo):=pl_I hR.oo
        split at hf
        · rename_i h
          cases List.mem_singleton.1 hf
          exact V (.inl h)
        · split at hf
          · rename_i h
            simp only [List.mem_cons,List.not_mem_nil,or_false] at hf
            rcases hf with rfl | rfl | rfl
            · exact V (by unfold hasW; omega)
            · exact O1
            · exact O2
          · split at hf
            · rename_i h
              simp only [List.mem_cons,List.not_mem_nil,or_false] at hf
              rcases hf with rfl | rfl | rfl | rfl
              · exact V (by unfold hasW; omega)
              · exact R (by unfold hasR; omega)
              · exact O1
              · exact O2
            · split at hf
              · rename_i h
                simp only [List.mem_cons,List.not_mem_nil,or_false] at hf
                rcases hf with rfl | rfl
                · exact V (by unfold hasW; omega)
                · exact R (by unfold hasR; omega)
              · split at hf
                · rename_i h
                  simp only [List.mem_cons,List.not_mem_nil,or_false] at hf
                  rcases hf with rfl | rfl | rfl | rfl | rfl
                  · exact V (by unfold hasW; omega)
                  · exact R (by unfold hasR; omega)
                  · exact R2 h
                  · exact O1
                  · exact O2
                · cases hf
def fb (lb:List Int) (f:Fd):FB:=(f,if f.k=4 then lb else [])
theorem fl_of {n0:Nat} {s:St} {v w:Value} {fs:List Fd} {lb:List Int} (hF:Fresh s) (h:Ful n0 s 14 v (fs.map Fd.cs)) (hw:Byt s w (br lb)) (hp:∀ f ∈ fs,Plain f∨f=mB w):FL s.n s v (fs.map (fb lb)):=by
  refine ⟨?_,fun q hq=>?_⟩
  · have:(fs.map (fb lb)).map (fun p=>p.1.cs)=fs.map Fd.cs:=by rw [List.map_map]; rfl
    rw [this]
    exact h.isR.pers hF
  · obtain ⟨f,hf,rfl⟩:=List.mem_map.1 hq
    rcases hp f hf with ⟨h1,h2,h3,_⟩ | rfl
    · refine ⟨h3,?_⟩
      simp only [fb,if_neg h2,h1]
      exact (byt_nil s).pers hF
    · refine ⟨mB_a w,?_⟩
      have:(if (mB w).k=4 then lb else [])=lb:=rfl
      simp only [fb,this]
      exact hw.pers hF
theorem all_ok {w:Value} {fs:List Fd} {lb:List Int} (hl:lb.length≤65536) (hp:∀ f ∈ fs,Plain f∨f=mB w):∀ q ∈ fs.map (fb lb),okP q:=by
  intro q hq
  obtain ⟨f,hf,rfl⟩:=List.mem_map.1 hq
  rcases hp f hf with ⟨h1,h2,h3,h4⟩ | rfl
  · unfold fb
    rw [if_neg h2]
    exact h4
  · exact okP_B w hl
def EncIs (s:St) (p:Pk) (lb:List Int) (r:Option (Value×St)):Prop:=∃ w s',r=some (.tuple ⟨[w,.int .i64 0]⟩,s')∧More s s'∧Ful s.n s' 1 w (br (wBs ((encF p).map (fb lb))))∧Fresh s'
end Go.Proofs.Yteapmnolmfickaa
/-
  Encode of the program and of the reference: a packet that may be,as bytes.
-/
set_option linter.unusedSimpArgs false
set_option linter.unusedVariables false
set_option maxRecDepth 100000
set_option maxHeartbeats 4000000
namespace Go.Proofs.Yteapmnolmfickaa
open Go.Sim Go.Sim.Bt
attribute [local congr] bdc cndc itec gdc gdSc gdUc
theorem encF_len {p:Pk} {x:ByteArray} {n:Nat} (ok:okPk p x n):(encF p).length≤20:=by
  unfold encF
  rw [List.length_append]
  have h6:[mT p.rep,mT p.fa,mI p.fn,mT p.ta,mI p.tn,mI p.id].length=6:=rfl
  rw [h6]
  split
  · unfold ansF
    have h1:=sideF_len p.ans.l
    have h2:=sideF_len p.ans.r
    simp only [List.length_cons,List.length_append]
    split <;> split <;> simp <;> omega
  · rename_i hrep
    have oka:okA p.ask:=by
      rcases ok.2 with ⟨h,_⟩ | ⟨_,_,h⟩
      · exact absurd h hrep
      · exact h
    unfold askF
    rw [fieldsA_ok oka]
    simp only [Option.getD_some,List.length_cons]
    unfold hasF
    repeat' split
    all_goals simp
theorem rencode_v {s:St} (p:Pk) {x:ByteArray} {lb:List Int} (hf:Fresh s) (hA:PkA p) (hR:PkR p) (hv:VB s p.ans.v x lb.length) (hb:Byt s p.ans.v (br lb)) (hl:lb.length≤65536) (ok:okPk p x lb.length):EncIs s p lb (Q2a.v (.agg ⟨p.cs⟩) s):=by
  have e1:=rcheckP p s hf hA hv
  rw [if_pos ok] at e1
  have hpl:=encF_plain hA hR ok
  have hlen:=encF_len ok
  have b34:bx (.agg ⟨p.cs⟩)=some p.cs:=rfl
  have l34:lal p.cs 0 34=some (.agg ⟨p.cs⟩):=rfl
  have c0:lcl p.cs 0=some (.bool p.rep):=rfl
  have c1:lcl p.cs 1=some (.bool p.fa):=rfl
  have c2:lcl p.cs 2=some (.int .i64 p.fn):=rfl
  have c3:lcl p.cs 3=some (.bool p.ta):=rfl
  have c4:lcl p.cs 4=some (.int .i64 p.tn):=rfl
  have c5:lcl p.cs 5=some (.int .i64 p.id):=rfl
  have lan:lal p.cs 21 13=some (.agg ⟨p.ans.cs⟩):=rfl
  have las:lal p.cs 6 15=some (.agg ⟨aC p.ask⟩):=rfl
  have e0:eqb [1] false true (.int .i64 0) (.int .i64 0)=some (.bool false):=rfl
  have bls6:((bls 14 (List.replicate 6 [(.int .i64 0),(.int .u64 0),(.int .i64 0),(.bool false),(.slice none 0 0),(.int .i64 0),(.int .u64 0),(.int .i64 0),(.int .u64 0),(.int .i64 0),(.int .i64 0),(.int .u64 0),(.int .i64 0),(.int .u64 0)]) [(0,(mT p.rep).v),(1,(mT p.fa).v),(2,(mI p.fn).v),(3,(mT p.ta).v),(4,(mI p.tn).v),(5,(mI p.id).v)]).bind fun rows=>als s 14 6 rows)=some (.slice (some ⟨s.n,0,some 0⟩) 6 12,s.new (.row 14 ([mT p.rep,mT p.fa,mI p.fn,mT p.ta,mI p.tn,mI p.id].map Fd.cs) false)):=rfl
  obtain ⟨m1,m2,m3⟩:=fls_new [mT p.rep,mT p.fa,mI p.fn,mT p.ta,mI p.tn,mI p.id] hf
  have m2:Ful s.n (s.new (.row 14 ([mT p.rep,mT p.fa,mI p.fn,mT p.ta,mI p.tn,mI p.id].map Fd.cs) false)) 14 (.slice (some ⟨s.n,0,some 0⟩) 6 12) ([mT p.rep,mT p.fa,mI p.fn,mT p.ta,mI p.tn,mI p.id].map Fd.cs):=m2
  generalize s.new (.row 14 ([mT p.rep,mT p.fa,mI p.fn,mT p.ta,mI p.tn,mI p.id].map Fd.cs) false)=s1 at *
  have fin:∀ {v:Value} {s3:St},More s s3→Fresh s3→Ful s.n s3 14 v ((encF p).map Fd.cs)→∃ w s',Q1r.v v s3=some (.tuple ⟨[w,.int .i64 0]⟩,s')∧More s s'∧Ful s.n s' 1 w (br (wBs ((encF p).map (fb lb))))∧Fresh s':=by
    intro v s3 mo fr hu
    have hfl:=fl_of fr hu (hb.mr mo hf) hpl
    have hok:=all_ok (w:=p.ans.v) hl hpl
    obtain ⟨w,s',q1,q2,q3,q4⟩:=rpack_v hfl (Nat.le_refl _) (by rw [List.length_map]; omega) fr
    have oe:outE ((encF p).map (fb lb))=0:=by unfold outE; rw [if_pos hok]
    have ob:outB ((encF p).map (fb lb))=wBs ((encF p).map (fb lb)):=by unfold outB; rw [if_pos hok]
    rw [oe] at q1
    rw [ob] at q3
    exact ⟨w,s',q1,mo.trans q2,q3.le mo.n,q4⟩
  cases hrep:p.rep
  · have oka:okA p.ask:=by
      rcases ok.2 with ⟨h,_⟩ | ⟨_,_,h⟩
      · rw [hrep] at h; cases h
      · exact h
    obtain ⟨u,s2,a1,a2,a3,a4⟩:=raskF_v p.ask oka.1 m3
    obtain ⟨v,s3,d1,d2,d3,d4⟩:=sl_more a4 (m2.more a2 m3) a3 (m1.trans a2) (by
      have:(encF p).length=6+(mN p.ask.k :: hasF p.ask).length:=by
        unfold encF askF
        rw [hrep,fieldsA_ok oka]; simp; omega
      simp only [List.length_cons] at this ⊢
      simp; omega)
    have he:encF p=[mT p.rep,mT p.fa,mI p.fn,mT p.ta,mI p.tn,mI p.id]++(mN p.ask.k :: hasF p.ask):=by
      unfold encF askF
      rw [hrep,fieldsA_ok oka]; rfl
    obtain ⟨w,s',q1,q2⟩:=fin d2 d4 (by rw [he]; exact d3)
    refine ⟨w,s',?_,q2⟩
    rw [hrep] at c0 bls6
    unfold Q2a.v Q2a.t Q2a.t.p1
    simp only [std_bd,std_cnd,b34,l34,e1,e0,cndf,c0,c1,c2,c3,c4,c5,rtruth_r,rwhole_f,bls6,las,a1,d1,List.getD_cons_zero,q1,xtr_eq,List.getElem?_cons_zero,List.getElem?_cons_succ,bds]
  · obtain ⟨u,s2,a1,a2,a3,a4⟩:=ransF_v p.ans hv.bx (by
      have okn:okN p.ans x lb.length:=by
        rcases ok.2 with ⟨_,_,h⟩ | ⟨h,_⟩
        · exact h
        · rw [hrep] at h; cases h
      rcases okn with ⟨h,_⟩ | ⟨h,_⟩ | ⟨h | h,_⟩ <;> rw [h] <;> exact ⟨by decide,by decide⟩) m3
    have he:encF p=[mT p.rep,mT p.fa,mI p.fn,mT p.ta,mI p.tn,mI p.id]++ansF p.ans:=by
      unfold encF
      rw [hrep]; rfl
    obtain ⟨v,s3,d1,d2,d3,d4⟩:=sl_more a4 (m2.more a2 m3) a3 (m1.trans a2) (by
      rw [he,List.length_append] at hlen
      simp at hlen ⊢; omega)
    obtain ⟨w,s',q1,q2⟩:=fin d2 d4 (by rw [he]; exact d3)
    refine ⟨w,s',?_,q2⟩
    rw [hrep] at c0 bls6
    unfold Q2a.v Q2a.t Q2a.t.p1
    simp only [std_bd,std_cnd,b34,l34,e1,e0,cndt,cndf,c0,c1,c2,c3,c4,c5,rtruth_r,rwhole_f,bls6,lan,a1,d1,List.getD_cons_zero,q1,xtr_eq,List.getElem?_cons_zero,List.getElem?_cons_succ,bds]
theorem rencode_no {s:St} (p:Pk) {x:ByteArray} {n:Nat} (hf:Fresh s) (hA:PkA p) (hv:VB s p.ans.v x n) (ok:¬ okPk p x n):Q2a.v (.agg ⟨p.cs⟩) s=some (.tuple ⟨[nilB,.int .i64 40]⟩,s):=by
  have e1:=rcheckP p s hf hA hv
  rw [if_neg ok] at e1
  have b34:bx (.agg ⟨p.cs⟩)=some p.cs:=rfl
  have l34:lal p.cs 0 34=some (.agg ⟨p.cs⟩):=rfl
  have e0:eqb [1] false true (.int .i64 40) (.int .i64 0)=some (.bool true):=rfl
  unfold Q2a.v Q2a.t
  simp only [std_bd,std_cnd,b34,l34,e1,e0,cndt,bds]
  rfl
theorem encode_no {s:St} (p:Pk) {x:ByteArray} {n:Nat} (hf:Fresh s) (hA:PkA p) (hv:VB s p.ans.v x n) (ok:¬ okPk p x n):Qh.v (.agg ⟨p.cs⟩) s=some (.tuple ⟨[nilB,.int .i64 40]⟩,s):=by
  have e1:=pcheckP p s hf hA hv
  rw [if_neg ok] at e1
  have b34:bx (.agg ⟨p.cs⟩)=some p.cs:=rfl
  have l34:lal p.cs 0 34=some (.agg ⟨p.cs⟩):=rfl
  have e0:eqb [1] false true (.int .i64 40) (.int .i64 0)=some (.bool true):=rfl
  unfold Qh.v Qh.t
  simp only [std_bd,std_cnd,b34,l34,e1,e0,cndt,bds]
  rfl
theorem app_keepG {s s':St} {v w v':Value} {c:Nat} {k:Blk} (f:Fresh s) (h:app s 14 128 v w=some (v',s')) (hc:s.get c=some k) (hv:∀ b i j len e,v=.slice (some ⟨b,i,j⟩) len e→b≠c):s'.get c=some k:=by
  have hlt:=f.lt hc
  unfold app at h
  split at h
  · cases h
  · split at h
    · cases h
    · split at h
      · split at h
        · cases h; exact hc
        · split at h
          · cases h
            rw [get_new_ne (by omega)]; exact hc
          · cases h
      · rename_i b i len e
        have hb:=hv b i (some 0) len e rfl
        split at h
        · split at h
          · split at h
            · split at h
              · split at h
                · cases h
                · split at h
                  · cases h; exact hc
                  · split at h
                    · cases h
                      rw [get_new_ne (by rw [del_n]; omega),get_del_ne (fun e=>hb e.symm)]; exact hc
                    · cases h
              · split at h
                · split at h
                  · cases h
                  · cases h
                    rw [get_put_ne (fun e=>hb e.symm)]; exact hc
                · cases h
                  rw [get_new_ne (by omega)]; exact hc
            · cases h
          · cases h
        · cases h
      · cases h
theorem addr_step {s0 s:St} {c j:Nat} {lv:Value} {fs:List Fd} {b0 b1:Bool} {n0 n1:Int} {z:List Value} (f:Fresh s) (m:More s0 s) (h:Ful s0.n s 14 lv (fs.map Fd.cs)) (hl:fs.length≤20) (hc:s.get c=some (.row 2 [[.bool b0,.int .i64 n0],[.bool b1,.int .i64 n1]] false)) (hj:j < 2) :
    ∃ lv' s',More s0 s'∧Fresh s'∧Ful s0.n s' 14 lv' ((fs++[mT (if j=0 then b0 else b1),mI (if j=0 then n0 else n1)]).map Fd.cs)∧s'.get c=some (.row 2 [[.bool b0,.int .i64 n0],[.bool b1,.int .i64 n1]] false) ∧
      ∀ e,iter (Qh.l6 std) (e+1) [lv,.slice (some ⟨c,0,some 0⟩) 2 4,.int .i64 2,.int .i64 (j:Int),.agg ⟨z⟩] s=iter (Qh.l6 std) e [lv',.slice (some ⟨c,0,some 0⟩) 2 4,.int .i64 2,.int .i64 ((j+1:Nat):Int),.agg ⟨z⟩] s':=by
  have i1:idx s 2 (.slice (some ⟨c,0,some 0⟩) 2 4) (.int .i64 (j:Int))=some (.pointer (some ⟨c,j,some 0⟩)):=by
    have:=idx_row (k:=.i64) (i:=0) (n:=(j:Int)) (len:=2) (e:=4) hc (by omega) (by omega)
    rwa [Int.toNat_natCast,Nat.zero_add] at this
  have i2:lda s 2 (.pointer (some ⟨c,j,some 0⟩))=some (.agg ⟨[.bool (if j=0 then b0 else b1),.int .i64 (if j=0 then n0 else n1)]⟩):=by
    rw [lda_row hc]
    rcases (show j=0∨j=1 by omega) with rfl | rfl <;> rfl
  generalize (if j=0 then b0 else b1)=b at *
  generalize (if j=0 then n0 else n1)=n at *
  have lt0:bin .lss (.int .i64 (j:Int)) (.int .i64 2)=some (.bool true):=by rw [bin_lss,decide_eq_true (by omega)]
  have add0:bin .add (.int .i64 (j:Int)) (.int .i64 1)=some (.int .i64 ((j+1:Nat):Int)):=by
    rw [bin_add,wrap64 (by omega) (by omega)]; rfl
  have z2b:bx (.agg #[.bool false,.int .i64 0])=some [.bool false,.int .i64 0]:=rfl
  have s2:stl [.bool false,.int .i64 0] 0 2 (.agg ⟨[.bool b,.int .i64 n]⟩)=some [.bool b,.int .i64 n]:=rfl
  have k0:lcl [.bool b,.int .i64 n] 0=some (.bool b):=rfl
  have k1:lcl [.bool b,.int .i64 n] 1=some (.int .i64 n):=rfl
  have hfl:(fs.map Fd.cs).length=fs.length:=by simp
  -- two fields made and appended
  have m1:More s (s.new (.row 14 [(mT b).cs,(mI n).cs] false)):=.new
  obtain ⟨lv',s',p1,p2,p3,p4⟩:=fld2_more (mT b) (mI n) f h m (by omega)
  have hkeep:s'.get c=some (.row 2 [[.bool b0,.int .i64 n0],[.bool b1,.int .i64 n1]] false):=by
    have g1:=m1.get f hc
    refine app_keepG (m1.fresh f) p1 g1 fun b' i j len e heq hbc=>?_
    rcases h with ⟨rfl,_⟩ | ⟨b2,e2,_,rfl,hg,_⟩
    · cases heq
    · injection heq with h1
      injection h1 with h1
      injection h1 with h1
      subst h1 hbc
      rw [hg] at hc
      cases hc
  refine ⟨lv',s',p2,p4,p3,hkeep,fun e=>?_⟩
  rw [iter_succ]
  generalize iter (Qh.l6 std) e=R
  unfold Qh.l6 Qh.l6.p1
  simp only [std_bd,std_cnd,List.getD_cons_zero,List.getD_cons_succ,lt0,cndt,i1,i2,z2b,s2,k0,k1,eT,eI,bls_2,p1,add0,cellsA,bds]
theorem encode_v {s:St} (p:Pk) {x:ByteArray} {lb:List Int} (hf:Fresh s) (hA:PkA p) (hR:PkR p) (hv:VB s p.ans.v x lb.length) (hb:Byt s p.ans.v (br lb)) (hl:lb.length≤65536) (ok:okPk p x lb.length):EncIs s p lb (Qh.v (.agg ⟨p.cs⟩) s):=by
  have e1:=pcheckP p s hf hA hv
  rw [if_pos ok] at e1
  have hpl:=encF_plain hA hR ok
  have hlen:=encF_len ok
  have b34:bx (.agg ⟨p.cs⟩)=some p.cs:=rfl
  have l34:lal p.cs 0 34=some (.agg ⟨p.cs⟩):=rfl
  have c0:lcl p.cs 0=some (.bool p.rep):=rfl
  have c5:lcl p.cs 5=some (.int .i64 p.id):=rfl
  have c6:lcl p.cs 6=some (.int .i64 p.ask.k):=rfl
  have l12:lal p.cs 1 2=some (.agg ⟨[.bool p.fa,.int .i64 p.fn]⟩):=rfl
  have l32:lal p.cs 3 2=some (.agg ⟨[.bool p.ta,.int .i64 p.tn]⟩):=rfl
  have lan:lal p.cs 21 13=some (.agg ⟨p.ans.cs⟩):=rfl
  have las:lal p.cs 6 15=some (.agg ⟨aC p.ask⟩):=rfl
  have e0:eqb [1] false true (.int .i64 0) (.int .i64 0)=some (.bool false):=rfl
  have st1:=bls_1 (mT p.rep) s
  obtain ⟨m1,m2,m3⟩:=fls_new [mT p.rep] hf
  have m2:Ful s.n (s.new (.row 14 [(mT p.rep).cs] false)) 14 (.slice (some ⟨s.n,0,some 0⟩) 1 2) (([mT p.rep]:List Fd).map Fd.cs):=m2
  have m1:More s (s.new (.row 14 [(mT p.rep).cs] false)):=m1
  have m3:Fresh (s.new (.row 14 [(mT p.rep).cs] false)):=m3
  generalize s.new (.row 14 [(mT p.rep).cs] false)=s1 at *
  have st2:((bls 2 (List.replicate 2 [.bool false,.int .i64 0]) [(0,.agg ⟨[.bool p.fa,.int .i64 p.fn]⟩),(1,.agg ⟨[.bool p.ta,.int .i64 p.tn]⟩)]).bind fun rows=>als s1 2 2 rows)=some (.slice (some ⟨s1.n,0,some 0⟩) 2 4,s1.new (.row 2 [[.bool p.fa,.int .i64 p.fn],[.bool p.ta,.int .i64 p.tn]] false)):=rfl
  have m4:More s1 (s1.new (.row 2 [[.bool p.fa,.int .i64 p.fn],[.bool p.ta,.int .i64 p.tn]] false)):=.new
  have g4:(s1.new (.row 2 [[.bool p.fa,.int .i64 p.fn],[.bool p.ta,.int .i64 p.tn]] false)).get s1.n=some (.row 2 [[.bool p.fa,.int .i64 p.fn],[.bool p.ta,.int .i64 p.tn]] false):=get_new_same
  generalize s1.new (.row 2 [[.bool p.fa,.int .i64 p.fn],[.bool p.ta,.int .i64 p.tn]] false)=s2 at *
  have f4:=m4.fresh m3
  obtain ⟨v1,s3,a1,a2,a3,a4,a5⟩:=addr_step (j:=0) (z:=p.cs) f4 (m1.trans m4) (m2.more m4 m3) (by simp) g4 (by omega)
  obtain ⟨v2,s4,d1,d2,d3,d4,d5⟩:=addr_step (j:=1) (z:=p.cs) a2 a1 a3 (by simp) a4 (by omega)
  have ll:lenL (.slice (some ⟨s1.n,0,some 0⟩) 2 4)=some (.int .i64 2):=rfl
  have lp:iter (Qh.l6 std) BIG [.slice (some ⟨s.n,0,some 0⟩) 1 2,.slice (some ⟨s1.n,0,some 0⟩) 2 4,.int .i64 2,.int .i64 0,.agg ⟨p.cs⟩] s2=some (0,[v2,.agg ⟨p.cs⟩],s4):=by
    have q3:=a5 (BIG - 1)
    have r3:=d5 (BIG - 2)
    rw [show BIG - 1+1=BIG from rfl] at q3
    rw [show BIG - 2+1=BIG - 1 from rfl] at r3
    refine Eq.trans q3 (Eq.trans r3 ?_)
    have lt1:bin .lss (.int .i64 ((1+1:Nat):Int)) (.int .i64 2)=some (.bool false):=rfl
    rw [show BIG - 2=(BIG - 3)+1 from rfl,iter_succ]
    unfold Qh.l6
    simp only [std_bd,std_cnd,List.getD_cons_zero,List.getD_cons_succ,lt1,cndf,cellsA,bds]
  obtain ⟨v3,s5,h1,h2,h3,h4⟩:=fld_more (mI p.id) d2 d3 d1 (by simp)
  have h3:Ful s.n s5 14 v3 ([mT p.rep,mT p.fa,mI p.fn,mT p.ta,mI p.tn,mI p.id].map Fd.cs):=h3
  have fin:∀ {v:Value} {s3:St},More s s3→Fresh s3→Ful s.n s3 14 v ((encF p).map Fd.cs)→∃ w s',Q11.v v s3=some (.tuple ⟨[w,.int .i64 0]⟩,s')∧More s s'∧Ful s.n s' 1 w (br (wBs ((encF p).map (fb lb))))∧Fresh s':=by
    intro v s3 mo fr hu
    have hfl:=fl_of fr hu (hb.mr mo hf) hpl
    have hok:=all_ok (w:=p.ans.v) hl hpl
    obtain ⟨w,s',q1,q2,q3,q4⟩:=pack_v hfl (Nat.le_refl _) (by rw [List.length_map]; omega) fr
    have oe:outE ((encF p).map (fb lb))=0:=by unfold outE; rw [if_pos hok]
    have ob:outB ((encF p).map (fb lb))=wBs ((encF p).map (fb lb)):=by unfold outB; rw [if_pos hok]
    rw [oe] at q1
    rw [ob] at q3
    exact ⟨w,s',q1,mo.trans q2,q3.le mo.n,q4⟩
  cases hrep:p.rep
  · have oka:okA p.ask:=by
      rcases ok.2 with ⟨h,_⟩ | ⟨_,_,h⟩
      · rw [hrep] at h; cases h
      · exact h
    have he:encF p=[mT p.rep,mT p.fa,mI p.fn,mT p.ta,mI p.tn,mI p.id]++(mN p.ask.k :: hasF p.ask):=by
      unfold encF askF
      rw [hrep,fieldsA_ok oka]; rfl
    obtain ⟨u,s6,bo,i1,i2,i3,i4,i5⟩:=ask_v p.ask hA.wb hA.r hA.r2 h4
    obtain ⟨gs,j1,j2⟩:=i5 (i4.2 ((passA_iff _).2 oka))
    rw [fieldsA_ok oka] at j1
    cases j1
    have cv:cvi .u64 (.int .i64 p.ask.k)=some (.int .u64 p.ask.k):=by
      have:=oka.1
      rw [cvi_int,wrapu64 (by omega) (by omega)]
    obtain ⟨v4,s7,k1,k2,k3,k4⟩:=fld_more (mN p.ask.k) i3 (h3.more i2 h4) (h2.trans i2) (by simp)
    have j3:Ful s5.n s7 14 u ((hasF p.ask).map Fd.cs):=by
      rcases j2 with e | ⟨c,e,x0,x1,x2,x3⟩
      · exact .inl e
      · refine .inr ⟨c,e,x0,x1,app_keepG i3.new k1 (More.new.get i3 x2) (fun b' i j len e' heq hbc=>?_),x3⟩
        rcases h3 with ⟨rfl,_⟩ | ⟨b2,e2,_,rfl,hg,_⟩
        · cases heq
        · injection heq with h1
          injection h1 with h1
          injection h1 with h1
          have:=h4.lt hg
          omega
    obtain ⟨v5,s8,o1,o2,o3,o4⟩:=sl_more k4 k3 j3 k2 (by
      rw [he,List.length_append] at hlen
      simp at hlen ⊢; omega)
    obtain ⟨w,s',q1,q2⟩:=fin o2 o4 (by rw [he]; simpa using o3)
    refine ⟨w,s',?_,q2⟩
    rw [hrep] at c0 st1
    unfold Qh.v Qh.t Qh.t.p1
    simp only [std_bd,std_cnd,std_it,b34,l34,e1,e0,cndf,c0,eT,st1,l12,l32,st2,ll,lp,List.getD_cons_zero,List.getD_cons_succ,cellsA,c5,eI,bls_1,h1,las,i1,xtr_eq,List.getElem?_cons_zero,List.getElem?_cons_succ,c6,cv,eN,k1,o1,q1,bds]
  · obtain ⟨u,s6,i1,i2,i3,i4⟩:=ansF_v p.ans hv.bx (by
      have okn:okN p.ans x lb.length:=by
        rcases ok.2 with ⟨_,_,h⟩ | ⟨h,_⟩
        · exact h
        · rw [hrep] at h; cases h
      rcases okn with ⟨h,_⟩ | ⟨h,_⟩ | ⟨h | h,_⟩ <;> rw [h] <;> exact ⟨by decide,by decide⟩) h4
    have he:encF p=[mT p.rep,mT p.fa,mI p.fn,mT p.ta,mI p.tn,mI p.id]++ansF p.ans:=by
      unfold encF
      rw [hrep]; rfl
    obtain ⟨v4,s7,k1,k2,k3,k4⟩:=sl_more i4 (h3.more i2 h4) i3 (h2.trans i2) (by
      rw [he,List.length_append] at hlen
      simp at hlen ⊢; omega)
    obtain ⟨w,s',q1,q2⟩:=fin k2 k4 (by rw [he]; exact k3)
    refine ⟨w,s',?_,q2⟩
    rw [hrep] at c0 st1
    unfold Qh.v Qh.t Qh.t.p1
    simp only [std_bd,std_cnd,std_it,b34,l34,e1,e0,cndt,cndf,c0,eT,st1,l12,l32,st2,ll,lp,List.getD_cons_zero,List.getD_cons_succ,cellsA,c5,eI,bls_1,h1,lan,i1,k1,q1,xtr_eq,List.getElem?_cons_zero,List.getElem?_cons_succ,bds]
end Go.Proofs.Yteapmnolmfickaa
