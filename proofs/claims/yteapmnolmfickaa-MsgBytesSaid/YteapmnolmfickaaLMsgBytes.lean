/-
  MsgBytes, over abstract values.
-/
import Derived.Test.YteapmnolmfickaaMsgT
set_option linter.unusedSimpArgs false
set_option linter.unusedVariables false
set_option maxRecDepth 100000
set_option maxHeartbeats 4000000
namespace Go.Proofs.Yteapmnolmfickaa
open Go.Sim Go.Sim.Bt
attribute [local congr] bdc cndc itec gdc gdSc gdUc
namespace MsgBytes
theorem l34 (p:Pk):lal p.cs 0 34=some (.agg ⟨p.cs⟩):=rfl
theorem tail {s:St} {w vx vy:Value} {bs:List Int} {X:ByteArray} {e:Int} (hF:Fresh s) (hb:Byt s w (br bs)) (hr:Rmy w) (hy:okY bs) (hl:bs.length≤3000) (hx:∀ s',More s s'→b2s s' vx=some (.string X)) (hx':∀ s',More s s'→b2s s' vy=some (.string X)) :
    ∃ (q:Pk) (c:Int) (s1:St) (s':St),Qg.v w s=some (.tuple ⟨[.agg ⟨q.cs⟩,.int .i64 c]⟩,s1)∧∀ z,Q5.t.p1 std w (z,s1) vx vy (.int .i64 e) (.int .i64 e) q.cs (.int .i64 c)=some (.bool true,s'):=by
  obtain ⟨v,s1,e1,m1,f1,u1⟩:=decode_v hF hb hr hy (by omega)
  obtain ⟨v',s2,e2,m2,f2,u2⟩:=rdecode_v f1 (hb.mr m1 hF) hr hy (by omega)
  rw [← dec_same hy] at e2 u2
  generalize decX askR bs=P at *
  refine ⟨_,_,s1,s2,e1,fun z=>?_⟩
  have g:=rsameK (setV P.1 v) (setV P.1 v') s2 (MsgApart.vb_of (u1.more m2 f1).byt) (MsgApart.vb_of u2.byt)
  rw [@decide_eq_true _ (Classical.propDecidable _) (sameV P.1 v v' _)] at g
  have eqi:∀ (a:Int),eqb [1] false false (.int .i64 a) (.int .i64 a)=some (.bool true):=fun b=>by rw [eqb1]; simp
  have eqs:∀ (a:ByteArray),eqb [2] false false (.string a) (.string a)=some (.bool true):=fun b=>by rw [eqb2]; simp
  have al:Q9.r s2=some (.bool true):=rfl
  have d1:=hx s2 (m1.trans m2)
  have d2:=hx' s2 (m1.trans m2)
  unfold Q5.t.p1
  simp only [std_bd,std_cnd,std_gd,e2,xtr_eq,List.getElem?_cons_zero,List.getElem?_cons_succ,z34,t34,l34,d1,d2,eqs,eqi,gdtt,pikt,g,al,bds]
theorem law (s:St) (us:List Value) (ha:AllRo s) (hf:∀ b,s.n≤b→s.get b=none) (h:Args s [(true,[.b,.b,.i .i64,.b,.i .i64,.i .i64,.i .i64,.i .i64,.i .u64,.i .i64,.i .i64,.i .u64,.i .i64,.i .u64,.i .i64,.i .i64,.i .u64,.i .i64,.i .u64,.i .i64,.i .i64,.i .i64,.b,.i .i64,.i .i64,.i .u64,.i .i64,.i .u64,.i .i64,.i .i64,.i .u64,.i .i64,.i .u64,.sl [.i .u8]]),(false,[.sl [.i .u8]])] us):∃ s',Q5.w us s=some (.bool true,s'):=by
  simp only [Args,Arg] at h
  obtain ⟨_,_,rfl,⟨c1,rfl,hc1⟩,a2,_,rfl,h2,rfl⟩:=h
  unfold Leaf.Are Leaf.Are at h2
  obtain ⟨v',_,g1,hv2,rfl⟩:=h2
  obtain rfl:a2=v':=(List.cons.inj g1).1
  have hv2:ValIs s a2:=hv2
  obtain ⟨p0,rfl,x1,x1',x2⟩:=MsgApart.pk_arg2 hc1
  obtain ⟨p,p1,hA,hR,lb,hb,hy,hl⟩:=MsgApart.light_y p0 x1 x1' x2
  obtain ⟨w,bs,w1,w2,w3,w4,w5⟩:=cut_y hv2
  have hF:Fresh s:=hf
  have l0:∀ p:Pk,bx (.agg ⟨p.cs⟩)=some p.cs:=fun _=>rfl
  have l4:∀ p q:Pk,stl p.cs 0 34 (.agg ⟨q.cs⟩)=some q.cs:=fun _ _=>rfl
  by_cases ok:okPk p ⟨⟨bts lb⟩⟩ lb.length
  · obtain ⟨v1,s1,e1,m1,u1,f1⟩:=encode_v p hF hA hR (MsgApart.vb_of hb) hb (by omega) ok
    have hb1:=hb.mr m1 hF
    obtain ⟨v2,s2,e2,m2,u2,f2⟩:=rencode_v p f1 hA hR (MsgApart.vb_of hb1) hb1 (by omega) ok
    have m12:=m1.trans m2
    obtain ⟨q,c,s3,s4,t1,t2⟩:=tail (e:=0) f2 (w2.mr m12 hF) w4 w3 w5 (fun s' m=>byt_b2s ((u1.more (m2.trans m) f1).byt)) (fun s' m=>byt_b2s ((u2.more m f2).byt))
    refine ⟨s4,?_⟩
    show Q5.v _ _ s=_
    unfold Q5.v Q5.t
    simp only [std_bd,std_cnd,std_gd,l0,l34,p1,w1,l4,e1,xtr_eq,List.getElem?_cons_zero,List.getElem?_cons_succ,e2,t1,z34,t34,t2,bds]
  · have e1:=encode_no p hF hA (MsgApart.vb_of hb) ok
    have e2:=rencode_no p hF hA (MsgApart.vb_of hb) ok
    obtain ⟨q,c,s3,s4,t1,t2⟩:=tail (vx:=nilB) (vy:=nilB) (X:=noB) (e:=40) hF w2 w4 w3 w5 (fun s' m=>rfl) (fun s' m=>rfl)
    refine ⟨s4,?_⟩
    show Q5.v _ _ s=_
    unfold Q5.v Q5.t
    simp only [std_bd,std_cnd,std_gd,l0,l34,p1,w1,l4,e1,xtr_eq,List.getElem?_cons_zero,List.getElem?_cons_succ,e2,t1,z34,t34,t2,bds]
end MsgBytes
end Go.Proofs.Yteapmnolmfickaa
