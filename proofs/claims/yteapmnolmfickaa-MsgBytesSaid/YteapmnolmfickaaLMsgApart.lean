/-
  MsgApart, over abstract values.
-/
import Derived.Test.YteapmnolmfickaaMsgN
set_option linter.unusedSimpArgs false
set_option linter.unusedVariables false
set_option maxRecDepth 100000
set_option maxHeartbeats 4000000
namespace Go.Proofs.Yteapmnolmfickaa
open Go.Sim Go.Sim.Bt
attribute [local congr] bdc cndc itec gdc gdSc gdUc
namespace MsgApart
theorem rI {n:Int} (h:(Lit.int .i64 n).wf=true):i64R n:=wf_i64 h
theorem rU {n:Int} (h:(Lit.int .u64 n).wf=true):u64R n:=⟨(wf_u64 h).1,by have:=(wf_u64 h).2; omega⟩
theorem pk_arg2 {s:St} {r:List Value} (h:Leaf.Are s [.b,.b,.i .i64,.b,.i .i64,.i .i64,.i .i64,.i .i64,.i .u64,.i .i64,.i .i64,.i .u64,.i .i64,.i .u64,.i .i64,.i .i64,.i .u64,.i .i64,.i .u64,.i .i64,.i .i64,.i .i64,.b,.i .i64,.i .i64,.i .u64,.i .i64,.i .u64,.i .i64,.i .i64,.i .u64,.i .i64,.i .u64,.sl [.i .u8]] r):∃ p:Pk,r=p.cs∧PkA p∧PkR p∧ValIs s p.ans.v:=by
  have e:∀ v,Leaf.Is s (.sl [.i .u8]) v→ValIs s v:=fun _ h=>h
  obtain ⟨_,_,rfl,k1,_,_,rfl,k2,_,_,rfl,k3,_,_,rfl,k4,_,_,rfl,k5,_,_,rfl,k6,_,_,rfl,k7,_,_,rfl,k8,_,_,rfl,k9,_,_,rfl,k10,_,_,rfl,k11,_,_,rfl,k12,_,_,rfl,k13,_,_,rfl,k14,_,_,rfl,k15,_,_,rfl,k16,_,_,rfl,k17,_,_,rfl,k18,_,_,rfl,k19,_,_,rfl,k20,_,_,rfl,k21,_,_,rfl,k22,_,_,rfl,k23,_,_,rfl,k24,_,_,rfl,k25,_,_,rfl,k26,_,_,rfl,k27,_,_,rfl,k28,_,_,rfl,k29,_,_,rfl,k30,_,_,rfl,k31,_,_,rfl,k32,_,_,rfl,k33,v,_,rfl,hv,rfl⟩:=h
  simp only [Leaf.Is] at k1 k2 k3 k4 k5 k6 k7 k8 k9 k10 k11 k12 k13 k14 k15 k16 k17 k18 k19 k20 k21 k22 k23 k24 k25 k26 k27 k28 k29 k30 k31 k32 k33
  obtain ⟨a1,rfl⟩:=k1
  obtain ⟨a2,rfl⟩:=k2
  obtain ⟨a3,rfl,w3⟩:=k3
  obtain ⟨a4,rfl⟩:=k4
  obtain ⟨a5,rfl,w5⟩:=k5
  obtain ⟨a6,rfl,w6⟩:=k6
  obtain ⟨a7,rfl,w7⟩:=k7
  obtain ⟨a8,rfl,w8⟩:=k8
  obtain ⟨a9,rfl,w9⟩:=k9
  obtain ⟨a10,rfl,w10⟩:=k10
  obtain ⟨a11,rfl,w11⟩:=k11
  obtain ⟨a12,rfl,w12⟩:=k12
  obtain ⟨a13,rfl,w13⟩:=k13
  obtain ⟨a14,rfl,w14⟩:=k14
  obtain ⟨a15,rfl,w15⟩:=k15
  obtain ⟨a16,rfl,w16⟩:=k16
  obtain ⟨a17,rfl,w17⟩:=k17
  obtain ⟨a18,rfl,w18⟩:=k18
  obtain ⟨a19,rfl,w19⟩:=k19
  obtain ⟨a20,rfl,w20⟩:=k20
  obtain ⟨a21,rfl,w21⟩:=k21
  obtain ⟨a22,rfl,w22⟩:=k22
  obtain ⟨a23,rfl⟩:=k23
  obtain ⟨a24,rfl,w24⟩:=k24
  obtain ⟨a25,rfl,w25⟩:=k25
  obtain ⟨a26,rfl,w26⟩:=k26
  obtain ⟨a27,rfl,w27⟩:=k27
  obtain ⟨a28,rfl,w28⟩:=k28
  obtain ⟨a29,rfl,w29⟩:=k29
  obtain ⟨a30,rfl,w30⟩:=k30
  obtain ⟨a31,rfl,w31⟩:=k31
  obtain ⟨a32,rfl,w32⟩:=k32
  obtain ⟨a33,rfl,w33⟩:=k33
  exact ⟨⟨a1,a2,a3,a4,a5,a6,⟨a7,a8,a9,⟨a10,a11,a12,a13,a14⟩,⟨a15,a16,a17,a18,a19⟩,a20,a21⟩,⟨a22,a23,⟨a24,a25,a26,a27,a28⟩,⟨a29,a30,a31,a32,a33⟩,v⟩⟩,rfl,⟨(wf_u64 w9).1,(wf_u64 w14).1,(wf_u64 w19).1,(wf_u64 w28).1,(wf_u64 w33).1⟩,
    ⟨rI w3,rI w5,rI w6,rI w20,rI w21,rI w10,rU w12,rI w15,rU w17,rI w24,rU w26,rI w29,rU w31⟩,e _ hv⟩
theorem light_y {s:St} (p:Pk) (hA:PkA p) (hR:PkR p) (hv:ValIs s p.ans.v):∃ q:Pk,Qb.r (.agg ⟨p.cs⟩) s=some (.agg ⟨q.cs⟩)∧PkA q∧PkR q∧∃ l,Byt s q.ans.v (br l)∧okY l∧l.length≤3000:=by
  obtain ⟨l,hb,hy⟩:=val_br hv
  have hl:=hb.lenL
  rw [br_length] at hl
  have hbx:=hb.bx
  by_cases c:3000 < l.length
  · obtain ⟨w,l',g1,g2,g3,g4⟩:=val_cut hv hl (k:=3000) (by omega)
    have c':(3000:Int) < (l.length:Int):=by omega
    have g1:slc s 1 p.ans.v none (some (.int .i64 3000)) none=some w:=g1
    have wbx:=g2.bx
    refine ⟨{ p with ans:={ p.ans with v:=w } },?_,⟨hA.wb,hA.r,hA.r2,hA.l,hA.ar⟩,⟨hR.fn,hR.tn,hR.id,hR.oa,hR.oo,hR.rid,hR.rn,hR.r2id,hR.r2n,hR.lid,hR.ln,hR.aid,hR.an⟩,l',g2,g4,by omega⟩
    simp only [Qb.r,Qb.t,Pk.cs,aC,Ans.cs,Rf.cs,sy,reduceIte,Nat.reduceAdd,Nat.reduceLeDiff,Nat.reduceLT,Nat.reduceEqDiff,Int.reduceEq,Int.reduceLT,Int.reduceLE,Int.reduceNe,ly,hl,c',g1,wbx]
  · have c':¬ (3000:Int) < (l.length:Int):=by omega
    refine ⟨p,?_,hA,hR,l,hb,hy,by omega⟩
    simp only [Qb.r,Qb.t,Pk.cs,aC,Ans.cs,Rf.cs,sy,reduceIte,Nat.reduceAdd,Nat.reduceLeDiff,Nat.reduceLT,Nat.reduceEqDiff,Int.reduceEq,Int.reduceLT,Int.reduceLE,Int.reduceNe,ly,hl,c']
theorem vb_of {s:St} {v:Value} {l:List Int} (h:Byt s v (br l)):VB s v ⟨⟨bts l⟩⟩ l.length:=by
  have:=h.lenL
  rw [br_length] at this
  exact ⟨h.bx,byt_b2s h,this⟩
theorem enc_ok {p:Pk} {lb:List Int} (hA:PkA p) (hR:PkR p) (hy:okY lb) (hl:lb.length≤65536) (ok:okPk p ⟨⟨bts lb⟩⟩ lb.length):okY (wBs ((encF p).map (fb lb)))∧(wBs ((encF p).map (fb lb))).length≤2000000:=by
  have hg:∀ f ∈ (encF p).map (fb lb),FdA f.1∧okP f∧okY f.2:=by
    intro f hf
    obtain ⟨g,hg,rfl⟩:=List.mem_map.1 hf
    exact good_of hy hl (encF_plain hA hR ok g hg)
  obtain ⟨h1,h2⟩:=okY_wBs hg
  have:=encF_len ok
  rw [List.length_map] at h2
  exact ⟨h1,by omega⟩
end MsgApart
end Go.Proofs.Yteapmnolmfickaa
