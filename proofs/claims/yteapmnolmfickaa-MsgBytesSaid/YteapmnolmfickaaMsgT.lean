/-
  Reading a packet: one field taken off bytes, plainly, by the program and by the reference.
-/
import Derived.Test.YteapmnolmfickaaPaqD
import Derived.Test.YteapmnolmfickaaMsgN
import Derived.Test.YteapmnolmfickaaLMsgApart
set_option linter.unusedSimpArgs false
set_option linter.unusedVariables false
set_option maxRecDepth 100000
set_option maxHeartbeats 4000000
namespace Go.Proofs.Yteapmnolmfickaa
open Go.Sim Go.Sim.Bt
attribute [local congr] bdc cndc itec gdc gdSc gdUc
def frm (n:Nat):Value→Value
  | .slice (some ⟨b,i,j⟩) len e=>.slice (some ⟨b,i+n,j⟩) (len - n) (if e=1 then 1 else 2 * (e / 2 - n))
  | v=>v
def Rmy (v:Value):Prop:=v=.slice none 0 0∨∃ b i m e,v=.slice (some ⟨b,i,some 0⟩) m e∧(e=1∨m≤e / 2)
theorem slc_from {s:St} {v:Value} {bs:List Int} (h:Byt s v (br bs)) (hc:Rmy v) {n:Nat} (hn:n≤bs.length):slc s 1 v (some (.int .i64 (n:Int))) none none=some (frm n v)∧Byt s (frm n v) (br (bs.drop n))∧Rmy (frm n v):=by
  have e1:optN (some (Value.int .i64 (n:Int))) 0=some n:=by simp [optN,isNat]
  rcases hc with rfl | ⟨b,i,m,e,rfl,hm⟩
  · have hl:=h.len
    simp only [lenV,Option.some.injEq,br_length] at hl
    have hb:bs=[]:=List.eq_nil_of_length_eq_zero hl.symm
    subst hb
    have:n=0:=by simpa using hn
    subst this
    exact ⟨rfl,by simpa [frm] using h,.inl rfl⟩
  · have hl:=h.len
    simp only [lenV,Option.some.injEq,br_length] at hl
    subst hl
    have hr:=h.rows
    rw [br_length] at hr
    unfold rowsOf at hr
    simp only at hr
    split at hr
    · rename_i sz' rows ro hg
      split at hr
      · rename_i hcnd
        obtain ⟨rfl,_,h3⟩:=hcnd
        simp only [Option.some.injEq] at hr
        have e2:optN none bs.length=some bs.length:=rfl
        have hby:Byt s (frm n (.slice (some ⟨b,i,some 0⟩) bs.length e)) (br (bs.drop n)):=by
          refine ⟨⟨_,_,_,rfl⟩,by rw [br_length,List.length_drop]; rfl,?_,⟨_,bytesOf_br _⟩⟩
          rw [br_length,List.length_drop]
          unfold frm
          rw [rowsOf_row hg (Nat.le_refl _) (by omega)]
          have:br (bs.drop n)=(br bs).drop n:=by simp [br,List.map_drop]
          rw [this,← hr,List.drop_take,List.drop_drop]
        refine ⟨?_,hby,?_⟩
        · unfold slc
          rw [e1,bds]
          show ((optN none bs.length).bind _)=_
          rw [e2,bds,hg]
          show (if 1=1∧n≤bs.length then (if e=1 then (if bs.length≤bs.length then some (Value.slice (some ⟨b,i+n,some 0⟩) (bs.length - n) 1) else none) else if bs.length≤e / 2 then some (Value.slice (some ⟨b,i+n,some 0⟩) (bs.length - n) (2 * (e / 2 - n))) else none) else none)=_
          rw [if_pos ⟨rfl,hn⟩]
          by_cases he:e=1
          · rw [if_pos he,if_pos (Nat.le_refl _)]
            show some _=some (Value.slice (some ⟨b,i+n,some 0⟩) (bs.length - n) (if e=1 then 1 else 2 * (e / 2 - n)))
            rw [if_pos he]
          · rw [if_neg he,if_pos (hm.resolve_left he)]
            show some _=some (Value.slice (some ⟨b,i+n,some 0⟩) (bs.length - n) (if e=1 then 1 else 2 * (e / 2 - n)))
            rw [if_neg he]
        · refine .inr ⟨b,i+n,bs.length - n,_,rfl,?_⟩
          by_cases he:e=1
          · rw [if_pos he]; exact .inl rfl
          · rw [if_neg he]; exact .inr (by have:=hm.resolve_left he; omega)
      · cases hr
    · cases hr
abbrev RS:=List Int×Bool
def takeP (k:Int) (σ:RS):FB×RS :=
  if σ.2=true then (match fieldP σ.1 k 0 with
    | .ok a n=>(a,(σ.1.drop n,true))
    | .bad _ _=>((fd0 0,[]),(σ.1,false))) else ((fd0 0,[]),σ)
theorem first_one {bs:List Int} {k:Int} (hk:isKd k):firstP bs [k]=match fieldP bs k 0 with
    | .ok a n=>([a],n,0)
    | .bad e q=>([],q,e):=by
  unfold firstP
  rw [if_pos (by intro x hx; cases List.mem_singleton.1 hx; exact hk)]
  unfold firstL
  cases fieldP bs k 0 <;> rfl
structure DrAt (fl:Bool→Bool) (n1 b:Nat) (σ:RS) (s:St):Prop where
  fr:Fresh s
  row:∃ v,s.get b=some (.row 2 [[v,.bool (fl σ.2)]] false)∧Pers n1 s (fun s=>Byt s v (br σ.1))∧Rmy v
  lt:n1≤b
  y:okY σ.1
  sz:σ.1.length≤100000000
theorem DrAt.n {fl:Bool→Bool} {n1 b:Nat} {σ:RS} {s:St} (h:DrAt fl n1 b σ s):b < s.n:=by
  obtain ⟨v,h1,_⟩:=h.row
  exact h.fr.lt h1
def TkIs (fl:Bool→Bool) (n1 b:Nat) (s:St) (r:Option (Value×St)) (P:FB×RS):Prop :=
  ∃ w s',r=some (({ P.1.1 with b:=w }:Fd).v,s')∧Ful s.n s' 1 w (br P.1.2)∧DrAt fl n1 b P.2 s'∧RdS b s s'
theorem fd0_v:({ fd0 0 with b:=nilB }:Fd).v=(fd0 0).v:=rfl
section
variable {n1 b:Nat} {σ:RS} {s:St}
theorem took_no {fl:Bool→Bool} {r:List Int} {o:Bool} {v:Value} {s1:St} (h:DrAt fl n1 b (r,o) s) (m:More s s1) (hg:s1.get b=some (.row 2 [[v,.bool (fl o)]] false)) (hv:Pers n1 s (fun s=>Byt s v (br r))) (hr:Rmy v) :
    Ful s.n (s1.put b (.row 2 [[v,.bool (fl false)]] false)) 1 nilB (br [])∧DrAt fl n1 b (r,false) (s1.put b (.row 2 [[v,.bool (fl false)]] false))∧RdS b s (s1.put b (.row 2 [[v,.bool (fl false)]] false)):=by
  have hlt:=h.lt
  have hn:=h.n
  refine ⟨.inl ⟨rfl,rfl⟩,⟨(m.fresh h.fr).put,⟨v,get_put_same hg,hv.to fun x hx=>?_,hr⟩,h.lt,h.y,h.sz⟩,⟨m.n,fun x hx hb=>?_⟩⟩
  · rw [get_put_ne (by omega),m.old x (by omega)]
  · rw [get_put_ne hb,m.old x hx]
theorem took_yes {fl:Bool→Bool} {r:List Int} {v w:Value} {s1:St} {n:Nat} {l:List Int} (h:DrAt fl n1 b (r,true) s) (m:More s s1) (hg:s1.get b=some (.row 2 [[v,.bool (fl true)]] false)) (hv:Pers n1 s (fun s=>Byt s v (br r))) (hr:Rmy v) (hn:n≤r.length) (hw:Ful s.n s1 1 w (br l)) :
    Ful s.n (s1.put b (.row 2 [[frm n v,.bool (fl true)]] false)) 1 w (br l)∧DrAt fl n1 b (r.drop n,true) (s1.put b (.row 2 [[frm n v,.bool (fl true)]] false))∧RdS b s (s1.put b (.row 2 [[frm n v,.bool (fl true)]] false)):=by
  have hlt:=h.lt
  have hb:=h.n
  refine ⟨hw.putN (by omega),⟨(m.fresh h.fr).put,⟨frm n v,get_put_same hg,?_,(slc_from hv.here hr hn).2.2⟩,h.lt,fun y hy=>h.y y (List.mem_of_mem_drop hy),?_⟩,⟨m.n,fun x hx hb=>?_⟩⟩
  · have:Pers n1 s (fun s=>Byt s (frm n v) (br (r.drop n))):=fun s' hs'=>(slc_from (hv s' hs') hr hn).2.1
    exact this.to fun x hx=>by rw [get_put_ne (by omega),m.old x (by omega)]
  · have:=h.sz
    simp only [List.length_drop] at this ⊢
    omega
  · rw [get_put_ne hb,m.old x hx]
theorem fieldP_le {bs:List Int} (hb:okY bs) {k:Int} (hk:isKd k) {a:FB} {n:Nat} (h:fieldP bs k 0=.ok a n):n≤bs.length:=by
  obtain ⟨_,_,_,h4,h5⟩:=fieldP_r hb hk h
  have:=h4.le (Nat.zero_le _)
  omega
theorem take_v {k:Int} (hk:isKd k) (h:DrAt id n1 b σ s):TkIs id n1 b s (Qw.v (rpt b) (.int .i64 k) s) (takeP k σ):=by
  obtain ⟨r,o⟩:=σ
  obtain ⟨v,g,hv,hr⟩:=h.row
  have hlt:=h.lt
  have hbn:=h.n
  have hF:=h.fr
  have st1:((bls 1 (List.replicate 1 [(.int .i64 0)]) [(0,.int .i64 k)]).bind fun rows=>als s 1 1 rows)=some (.slice (some ⟨s.n,0,some 0⟩) 1 2,s.new (.row 1 [[.int .i64 k]] false)):=rfl
  have m1:More s (s.new (.row 1 [[.int .i64 k]] false)):=.new
  have hk1:KL (s.new (.row 1 [[.int .i64 k]] false)).n (s.new (.row 1 [[.int .i64 k]] false)) (.slice (some ⟨s.n,0,some 0⟩) 1 2) [k]:=(ful_one (n0:=s.n) (Nat.le_refl _)).isR.pers (m1.fresh hF)
  generalize s.new (.row 1 [[.int .i64 k]] false)=s1 at *
  have hm1:=m1.n
  have F:=first_v (m1.fresh hF) (hv.to fun x hx=>m1.old x (by omega)) h.y (by have:=h.sz; simp only at this ⊢; omega) hk1 (by simp) (Nat.le_refl _) (by omega)
  obtain ⟨fv,s2,fs,f1,f2,f3,f4,f5,f6,f7⟩:=F
  have m2:=m1.trans f2
  have g2:s2.get b=some (.row 2 [[v,.bool o]] false):=m2.get hF g
  have n1':nck (rpt b)=some (rpt b):=rfl
  have fl0:fld 0 (rpt b)=some (rpt b):=rfl
  have fl1:fld 1 (rpt b)=some (.pointer (some ⟨b,0,some 1⟩)):=rfl
  have d0:ldc s (rpt b)=some v:=by rw [rpt,ldc_row g]; rfl
  have d1:ldc s2 (rpt b)=some v:=by rw [rpt,ldc_row g2]; rfl
  have d2:ldc s2 (.pointer (some ⟨b,0,some 1⟩))=some (.bool o):=by rw [ldc_row g2]; rfl
  have z14:bx (.agg #[(.int .i64 0),(.int .u64 0),(.int .i64 0),(.bool false),(.slice none 0 0),(.int .i64 0),(.int .u64 0),(.int .i64 0),(.int .u64 0),(.int .i64 0),(.int .i64 0),(.int .u64 0),(.int .i64 0),(.int .u64 0)])=some (fd0 0).cs:=rfl
  have b14:bld [(.int .i64 0),(.int .u64 0),(.int .i64 0),(.bool false),(.slice none 0 0),(.int .i64 0),(.int .u64 0),(.int .i64 0),(.int .u64 0),(.int .i64 0),(.int .i64 0),(.int .u64 0),(.int .i64 0),(.int .u64 0)] []=some (fd0 0).v:=rfl
  have s14:∀ f:Fd,stl (fd0 0).cs 0 14 f.v=some f.cs:=fun _=>rfl
  have l14:∀ f:Fd,lal f.cs 0 14=some f.v:=fun _=>rfl
  rw [first_one hk] at f1 f5
  have w1:stv s2 1 (.pointer (some ⟨b,0,some 1⟩)) (.bool false)=some (s2.put b (.row 2 [[v,.bool false]] false)):=by rw [stv_row g2]; rfl
  unfold takeP
  unfold Qw.v Qw.t
  have ht:un .not (.bool true)=some (.bool false):=rfl
  have hf:un .not (.bool false)=some (.bool true):=rfl
  cases hfp:fieldP r k 0 with
  | bad e q =>
    rw [hfp] at f1 f5
    simp only at f1
    have ne:eqb [1] false true (.int .i64 e) (.int .i64 0)=some (.bool true):=by rw [neb1,decide_eq_true (fieldP_ne hfp)]
    obtain ⟨t1,t2,t3⟩:=took_no h m2 g2 hv hr
    have hP:(if o=true then (((fd0 0,[]),(r,false)):FB×RS) else ((fd0 0,[]),(r,o)))=((fd0 0,[]),(r,false)):=by cases o <;> rfl
    simp only [hP]
    refine ⟨nilB,s2.put b (.row 2 [[v,.bool false]] false),?_,t1,t2,t3⟩
    rw [fd0_v]
    simp only [std_bd,std_cnd,std_gd,z14,n1',fl0,d0,st1,f1,xtr_eq,List.getElem?_cons_zero,List.getElem?_cons_succ,ne,gdtf,gdun,pikt,cndt,fl1,w1,b14,s14,l14,bds]
  | ok a q =>
    rw [hfp] at f1 f5
    simp only at f1 f5
    have ne:eqb [1] false true (.int .i64 0) (.int .i64 0)=some (.bool false):=rfl
    cases o with
    | false =>
      obtain ⟨t1,t2,t3⟩:=took_no h m2 g2 hv hr
      refine ⟨nilB,s2.put b (.row 2 [[v,.bool false]] false),?_,t1,t2,t3⟩
      rw [if_neg (by simp),fd0_v]
      simp only [std_bd,std_cnd,std_gd,z14,n1',fl0,d0,st1,f1,xtr_eq,List.getElem?_cons_zero,List.getElem?_cons_succ,ne,gdff,d2,hf,pikf,cndt,fl1,w1,b14,s14,l14,bds]
    | true =>
      obtain ⟨p,rfl⟩:∃ p,fs=[p]:=by
        cases fs with
        | nil=>cases f5
        | cons p t=>cases t with
          | nil=>exact ⟨p,rfl⟩
          | cons x t=>simp at f5
      have hp:clr p=a:=by simpa using f5
      have hw:=(f7 p (by simp)).le (n1:=s.n) (by omega)
      have hq:=fieldP_le h.y hk hfp
      obtain ⟨t1,t2,t3⟩:=took_yes h m2 g2 hv hr hq hw
      have hs:=(slc_from ((hv.to fun x hx=>m2.old x (by omega)).here:Byt s2 v (br r)) hr hq).1
      have hbx:=(slc_from hv.here hr hq).2.1.bx
      have w2:stv s2 1 (rpt b) (frm q v)=some (s2.put b (.row 2 [[frm q v,.bool true]] false)):=by rw [rpt,stv_row g2,hbx]; rfl
      have hx:∃ c e,fv=.slice (some ⟨c,0,some 0⟩) 1 e∧s2.get c=some (.row 14 [p.1.cs] false)∧s1.n≤c:=by
        rcases f6 with ⟨_,hh⟩ | ⟨c,e,c0,c1,c2,_⟩
        · simp at hh
        · exact ⟨c,e,c1,c2,c0⟩
      obtain ⟨c,e,rfl,c2,c0⟩:=hx
      have c3:(s2.put b (.row 2 [[frm q v,.bool true]] false)).get c=some (.row 14 [p.1.cs] false):=by rw [get_put_ne (by omega)]; exact c2
      have i1:idx (s2.put b (.row 2 [[frm q v,.bool true]] false)) 14 (.slice (some ⟨c,0,some 0⟩) 1 e) (.int .i64 0)=some (.pointer (some ⟨c,0,some 0⟩)):=by
        have:=idx_row (k:=.i64) (i:=0) (n:=0) (len:=1) (e:=e) c3 (by omega) (by omega)
        simpa using this
      have i2:lda (s2.put b (.row 2 [[frm q v,.bool true]] false)) 14 (.pointer (some ⟨c,0,some 0⟩))=some p.1.v:=by rw [lda_row c3]; rfl
      have hpa:p.1 = { a.1 with b:=p.1.b }∧p.2=a.2:=by
        rw [← hp]
        unfold clr
        exact ⟨rfl,rfl⟩
      refine ⟨p.1.b,s2.put b (.row 2 [[frm q v,.bool true]] false),?_,by rw [if_pos rfl]; rw [hpa.2] at t1; exact t1,by rw [if_pos rfl]; exact t2,t3⟩
      rw [if_pos rfl]
      simp only
      rw [← hpa.1]
      simp only [std_bd,std_cnd,std_gd,z14,n1',fl0,d0,st1,f1,xtr_eq,List.getElem?_cons_zero,List.getElem?_cons_succ,ne,gdff,d2,d1,ht,pikf,cndf,fl1,hs,w2,i1,i2,s14,l14,bds]
theorem rtake_v {k:Int} (hk:isKd k) (h:DrAt Bool.not n1 b σ s):TkIs Bool.not n1 b s (Q2f.v (rpt b) (.int .i64 k) s) (takeP k σ):=by
  obtain ⟨r,o⟩:=σ
  obtain ⟨v,g,hv,hr⟩:=h.row
  have hlt:=h.lt
  have hbn:=h.n
  have hF:=h.fr
  have st1:((bls 1 (List.replicate 1 [(.int .i64 0)]) [(0,.int .i64 k)]).bind fun rows=>als s 1 1 rows)=some (.slice (some ⟨s.n,0,some 0⟩) 1 2,s.new (.row 1 [[.int .i64 k]] false)):=rfl
  have m1:More s (s.new (.row 1 [[.int .i64 k]] false)):=.new
  have hk1:KL (s.new (.row 1 [[.int .i64 k]] false)).n (s.new (.row 1 [[.int .i64 k]] false)) (.slice (some ⟨s.n,0,some 0⟩) 1 2) [k]:=(ful_one (n0:=s.n) (Nat.le_refl _)).isR.pers (m1.fresh hF)
  generalize s.new (.row 1 [[.int .i64 k]] false)=s1 at *
  have hm1:=m1.n
  have F:=rfirst_v (m1.fresh hF) (hv.to fun x hx=>m1.old x (by omega)) h.y (by have:=h.sz; simp only at this ⊢; omega) hk1 (by simp) (Nat.le_refl _) (by omega)
  obtain ⟨fv,s2,fs,f1,f2,f3,f4,f5,f6,f7⟩:=F
  have m2:=m1.trans f2
  have g2:s2.get b=some (.row 2 [[v,.bool (Bool.not o)]] false):=m2.get hF g
  have n1':nck (rpt b)=some (rpt b):=rfl
  have fl0:fld 0 (rpt b)=some (rpt b):=rfl
  have fl1:fld 1 (rpt b)=some (.pointer (some ⟨b,0,some 1⟩)):=rfl
  have d0:ldc s (rpt b)=some v:=by rw [rpt,ldc_row g]; rfl
  have d1:ldc s2 (rpt b)=some v:=by rw [rpt,ldc_row g2]; rfl
  have d2:ldc s2 (.pointer (some ⟨b,0,some 1⟩))=some (.bool (Bool.not o)):=by rw [ldc_row g2]; rfl
  have z14:bx (.agg #[(.int .i64 0),(.int .u64 0),(.int .i64 0),(.bool false),(.slice none 0 0),(.int .i64 0),(.int .u64 0),(.int .i64 0),(.int .u64 0),(.int .i64 0),(.int .i64 0),(.int .u64 0),(.int .i64 0),(.int .u64 0)])=some (fd0 0).cs:=rfl
  have b14:bld [(.int .i64 0),(.int .u64 0),(.int .i64 0),(.bool false),(.slice none 0 0),(.int .i64 0),(.int .u64 0),(.int .i64 0),(.int .u64 0),(.int .i64 0),(.int .i64 0),(.int .u64 0),(.int .i64 0),(.int .u64 0)] []=some (fd0 0).v:=rfl
  have s14:∀ f:Fd,stl (fd0 0).cs 0 14 f.v=some f.cs:=fun _=>rfl
  have l14:∀ f:Fd,lal f.cs 0 14=some f.v:=fun _=>rfl
  rw [first_one hk] at f1 f5
  have w1:stv s2 1 (.pointer (some ⟨b,0,some 1⟩)) (.bool true)=some (s2.put b (.row 2 [[v,.bool true]] false)):=by rw [stv_row g2]; rfl
  unfold takeP
  unfold Q2f.v Q2f.t
  have nt0:Bool.not true=false:=rfl
  have nt1:Bool.not false=true:=rfl
  cases hfp:fieldP r k 0 with
  | bad e q =>
    rw [hfp] at f1 f5
    simp only at f1
    have ne:eqb [1] false true (.int .i64 e) (.int .i64 0)=some (.bool true):=by rw [neb1,decide_eq_true (fieldP_ne hfp)]
    obtain ⟨t1,t2,t3⟩:=took_no h m2 g2 hv hr
    have hP:(if o=true then (((fd0 0,[]),(r,false)):FB×RS) else ((fd0 0,[]),(r,o)))=((fd0 0,[]),(r,false)):=by cases o <;> rfl
    simp only [hP]
    refine ⟨nilB,s2.put b (.row 2 [[v,.bool true]] false),?_,t1,t2,t3⟩
    rw [fd0_v]
    cases o
    all_goals simp only [std_bd,std_cnd,std_gd,z14,n1',fl0,d0,st1,f1,xtr_eq,List.getElem?_cons_zero,List.getElem?_cons_succ,fl1,d2,nt0,nt1,ne,gdtf,gdff,gdun,pikt,pikf,cndt,w1,b14,s14,l14,bds]
  | ok a q =>
    rw [hfp] at f1 f5
    simp only at f1 f5
    have ne:eqb [1] false true (.int .i64 0) (.int .i64 0)=some (.bool false):=rfl
    cases o with
    | false =>
      obtain ⟨t1,t2,t3⟩:=took_no h m2 g2 hv hr
      refine ⟨nilB,s2.put b (.row 2 [[v,.bool true]] false),?_,t1,t2,t3⟩
      rw [if_neg (by simp),fd0_v]
      simp only [std_bd,std_cnd,std_gd,z14,n1',fl0,d0,st1,f1,xtr_eq,List.getElem?_cons_zero,List.getElem?_cons_succ,fl1,d2,nt1,ne,gdtf,gdun,pikt,cndt,w1,b14,s14,l14,bds]
    | true =>
      obtain ⟨p,rfl⟩:∃ p,fs=[p]:=by
        cases fs with
        | nil=>cases f5
        | cons p t=>cases t with
          | nil=>exact ⟨p,rfl⟩
          | cons x t=>simp at f5
      have hp:clr p=a:=by simpa using f5
      have hw:=(f7 p (by simp)).le (n1:=s.n) (by omega)
      have hq:=fieldP_le h.y hk hfp
      obtain ⟨t1,t2,t3⟩:=took_yes h m2 g2 hv hr hq hw
      have hs:=(slc_from ((hv.to fun x hx=>m2.old x (by omega)).here:Byt s2 v (br r)) hr hq).1
      have hbx:=(slc_from hv.here hr hq).2.1.bx
      have w2:stv s2 1 (rpt b) (frm q v)=some (s2.put b (.row 2 [[frm q v,.bool false]] false)):=by rw [rpt,stv_row g2,hbx]; rfl
      have hx:∃ c e,fv=.slice (some ⟨c,0,some 0⟩) 1 e∧s2.get c=some (.row 14 [p.1.cs] false)∧s1.n≤c:=by
        rcases f6 with ⟨_,hh⟩ | ⟨c,e,c0,c1,c2,_⟩
        · simp at hh
        · exact ⟨c,e,c1,c2,c0⟩
      obtain ⟨c,e,rfl,c2,c0⟩:=hx
      have c3:(s2.put b (.row 2 [[frm q v,.bool false]] false)).get c=some (.row 14 [p.1.cs] false):=by rw [get_put_ne (by omega)]; exact c2
      have i1:idx (s2.put b (.row 2 [[frm q v,.bool false]] false)) 14 (.slice (some ⟨c,0,some 0⟩) 1 e) (.int .i64 0)=some (.pointer (some ⟨c,0,some 0⟩)):=by
        have:=idx_row (k:=.i64) (i:=0) (n:=0) (len:=1) (e:=e) c3 (by omega) (by omega)
        simpa using this
      have i2:lda (s2.put b (.row 2 [[frm q v,.bool false]] false)) 14 (.pointer (some ⟨c,0,some 0⟩))=some p.1.v:=by rw [lda_row c3]; rfl
      have hpa:p.1 = { a.1 with b:=p.1.b }∧p.2=a.2:=by
        rw [← hp]
        unfold clr
        exact ⟨rfl,rfl⟩
      refine ⟨p.1.b,s2.put b (.row 2 [[frm q v,.bool false]] false),?_,by rw [if_pos rfl]; rw [hpa.2] at t1; exact t1,by rw [if_pos rfl]; exact t2,t3⟩
      rw [if_pos rfl]
      simp only
      rw [← hpa.1]
      simp only [std_bd,std_cnd,std_gd,z14,n1',fl0,d0,st1,f1,xtr_eq,List.getElem?_cons_zero,List.getElem?_cons_succ,fl1,d2,nt0,gdff,ne,pikf,cndf,d1,hs,w2,i1,i2,s14,l14,bds]
end
end Go.Proofs.Yteapmnolmfickaa
/-
  Reading a packet: an address,a side,a kind,an answer.
-/
set_option linter.unusedSimpArgs false
set_option linter.unusedVariables false
set_option maxRecDepth 100000
set_option maxHeartbeats 4000000
namespace Go.Proofs.Yteapmnolmfickaa
open Go.Sim Go.Sim.Bt
attribute [local congr] bdc cndc itec gdc gdSc gdUc
def rfOf (f:Fd):Rf:=⟨f.id,f.rr,f.rn,f.rl,f.rb⟩
def addrP (σ:RS):(Bool×Int)×RS:=(((takeP 3 σ).1.1.t,(takeP 2 (takeP 3 σ).2).1.1.i),(takeP 2 (takeP 3 σ).2).2)
def sideP (σ:RS):Rf×RS:=if (takeP 3 σ).1.1.t=true then (rfOf (takeP 7 (takeP 3 σ).2).1.1,(takeP 7 (takeP 3 σ).2).2) else (zR,(takeP 3 σ).2)
def kindP (σ:RS):Int×RS:=if 100 < (takeP 1 σ).1.1.n then (0,((takeP 1 σ).2.1,false)) else ((takeP 1 σ).1.1.n,(takeP 1 σ).2)
def ansQ (k:Int) (σ:RS):(Ans×List Int)×RS :=
  if k=1 then ((⟨k,(takeP 3 σ).1.1.t,(sideP (takeP 3 σ).2).1,(sideP (sideP (takeP 3 σ).2).2).1,nilB⟩,(takeP 4 (sideP (sideP (takeP 3 σ).2).2).2).1.2),(takeP 4 (sideP (sideP (takeP 3 σ).2).2).2).2)
  else if k=3 then ((⟨k,(takeP 3 σ).1.1.t,(sideP (takeP 3 σ).2).1,(sideP (sideP (takeP 3 σ).2).2).1,nilB⟩,[]),(sideP (sideP (takeP 3 σ).2).2).2)
  else ((zN k,[]),σ)
def ansP (σ:RS):(Ans×List Int)×RS:=ansQ (kindP σ).1 (kindP σ).2
theorem takeP_a {σ:RS} (hy:okY σ.1) {k:Int} (hk:isKd k):FdA (takeP k σ).1.1∧okY (takeP k σ).1.2∧(takeP k σ).1.2.length≤65536∧okY (takeP k σ).2.1:=by
  unfold takeP
  split
  · split
    · rename_i a n h
      obtain ⟨g1,g2,g3,_⟩:=fieldP_r hy hk h
      refine ⟨fieldP_a hy h,g2,?_,fun y hy'=>hy y (List.mem_of_mem_drop hy')⟩
      by_cases h4:a.1.k=4
      · exact g1.2.2.1 h4
      · have hs:=g1.2.1
        have:onlyF a.1=a.1∨True:=.inr trivial
        unfold sameP at hs
        have hb:=hs.2.2.2.2.1
        unfold ownB at hb
        rw [if_neg h4] at hb
        have:=bts_nil hb.symm
        rw [this]; simp
    · exact ⟨fd0_a 0,okY_nil,by simp,hy⟩
  · exact ⟨fd0_a 0,okY_nil,by simp,hy⟩
theorem kd1:isKd 1:=by unfold isKd; simp
theorem kd2:isKd 2:=by unfold isKd; simp
theorem kd3:isKd 3:=by unfold isKd; simp
theorem kd4:isKd 4:=by unfold isKd; simp
theorem kd5:isKd 5:=by unfold isKd; simp
theorem kd7:isKd 7:=by unfold isKd; simp
theorem rfOf_a {f:Fd} (h:FdA f):i64R (rfOf f).id∧u64R (rfOf f).n∧0≤(rfOf f).bt:=⟨⟨h.d0,h.d1⟩,⟨h.rn0,h.rn1⟩,h.rb⟩
theorem zR_a:i64R zR.id∧u64R zR.n∧0≤zR.bt:=by unfold i64R u64R; simp
theorem addrP_a {σ:RS} (hy:okY σ.1):i64R (addrP σ).1.2∧okY (addrP σ).2.1:=by
  obtain ⟨_,_,_,h1⟩:=takeP_a hy kd3
  obtain ⟨h2,_,_,h3⟩:=takeP_a h1 kd2
  exact ⟨⟨h2.i0,h2.i1⟩,h3⟩
theorem sideP_a {σ:RS} (hy:okY σ.1):(i64R (sideP σ).1.id∧u64R (sideP σ).1.n∧0≤(sideP σ).1.bt)∧okY (sideP σ).2.1:=by
  obtain ⟨_,_,_,h1⟩:=takeP_a hy kd3
  obtain ⟨h2,_,_,h3⟩:=takeP_a h1 kd7
  unfold sideP
  split
  · exact ⟨rfOf_a h2,h3⟩
  · exact ⟨zR_a,h1⟩
theorem kindP_a {σ:RS} (hy:okY σ.1):(0≤(kindP σ).1∧(kindP σ).1≤100)∧okY (kindP σ).2.1:=by
  obtain ⟨h1,_,_,h2⟩:=takeP_a hy kd1
  have:=h1.n0
  unfold kindP
  split
  · exact ⟨by simp,h2⟩
  · exact ⟨⟨by simp only; omega,by simp only; omega⟩,h2⟩
def AnsA (a:Ans):Prop:=(i64R a.l.id∧u64R a.l.n∧0≤a.l.bt)∧(i64R a.r.id∧u64R a.r.n∧0≤a.r.bt)∧a.v=nilB
theorem ansP_a {σ:RS} (hy:okY σ.1):AnsA (ansP σ).1.1∧okY (ansP σ).1.2∧(ansP σ).1.2.length≤65536:=by
  obtain ⟨_,hk⟩:=kindP_a hy
  unfold ansP
  generalize (kindP σ).1=k
  generalize (kindP σ).2=τ at *
  obtain ⟨_,_,_,h1⟩:=takeP_a hk kd3
  obtain ⟨h2,h3⟩:=sideP_a h1
  obtain ⟨h4,h5⟩:=sideP_a h3
  obtain ⟨_,h6,h7,_⟩:=takeP_a h5 kd4
  unfold ansQ
  split
  · exact ⟨⟨h2,h4,rfl⟩,h6,h7⟩
  · split
    · exact ⟨⟨h2,h4,rfl⟩,okY_nil,by simp⟩
    · exact ⟨⟨zR_a,zR_a,rfl⟩,okY_nil,by simp⟩
theorem p3 (f:Fd) (w:Value):prt 3 1 false ({ f with b:=w }:Fd).v=some (.bool f.t):=rfl
theorem p2 (f:Fd) (w:Value):prt 2 1 false ({ f with b:=w }:Fd).v=some (.int .i64 f.i):=rfl
theorem p1 (f:Fd) (w:Value):prt 1 1 false ({ f with b:=w }:Fd).v=some (.int .u64 f.n):=rfl
theorem p4 (f:Fd) (w:Value):prt 4 1 false ({ f with b:=w }:Fd).v=some w:=rfl
theorem p5 (f:Fd) (w:Value):prt 5 2 true ({ f with b:=w }:Fd).v=some (.agg ⟨[.int .i64 f.vl,.int .u64 f.vb]⟩):=rfl
theorem p9 (f:Fd) (w:Value):prt 9 5 true ({ f with b:=w }:Fd).v=some (.agg ⟨(rfOf f).cs⟩):=rfl
def RIs (fl:Bool→Bool) (n1 b:Nat) (s:St) (r:Option (Value×St)) (v:Value) (σ:RS):Prop:=∃ s',r=some (v,s')∧DrAt fl n1 b σ s'∧RdS b s s'
theorem DrAt.off {fl:Bool→Bool} {n1 b:Nat} {σ:RS} {s:St} (h:DrAt fl n1 b σ s):∃ s',stv s 1 (.pointer (some ⟨b,0,some 1⟩)) (.bool (fl false))=some s'∧DrAt fl n1 b (σ.1,false) s'∧RdS b s s':=by
  obtain ⟨v,g,hv,hr⟩:=h.row
  have hlt:=h.lt
  refine ⟨s.put b (.row 2 [[v,.bool (fl false)]] false),by rw [stv_row g]; rfl,⟨h.fr.put,⟨v,get_put_same g,hv.to fun x hx=>get_put_ne (by omega),hr⟩,h.lt,h.y,h.sz⟩,⟨Nat.le_refl _,fun x _ hb=>get_put_ne hb⟩⟩
section
variable {n1 b:Nat} {σ:RS} {s:St}
theorem addr_v (h:DrAt id n1 b σ s):RIs id n1 b s (Qr.v (rpt b) s) (.agg ⟨[.bool (addrP σ).1.1,.int .i64 (addrP σ).1.2]⟩) (addrP σ).2:=by
  obtain ⟨w1,s1,e1,_,h1,r1⟩:=take_v kd3 h
  obtain ⟨w2,s2,e2,_,h2,r2⟩:=take_v kd2 h1
  refine ⟨s2,?_,h2,r1.trans r2⟩
  have z2:bx (.agg #[.bool false,.int .i64 0])=some [.bool false,.int .i64 0]:=rfl
  have b2:∀ t i,bld [.bool false,.int .i64 0] [(0,1,.bool t),(1,1,.int .i64 i)]=some (.agg ⟨[.bool t,.int .i64 i]⟩):=fun _ _=>rfl
  have t2:∀ t i,stl [.bool false,.int .i64 0] 0 2 (.agg ⟨[.bool t,.int .i64 i]⟩)=some [.bool t,.int .i64 i]:=fun _ _=>rfl
  have l2:∀ t i,lal [.bool t,.int .i64 i] 0 2=some (.agg ⟨[.bool t,.int .i64 i]⟩):=fun _ _=>rfl
  unfold Qr.v Qr.t addrP
  simp only [std_bd,std_cnd,z2,e1,p3,e2,p2,b2,t2,l2,bds]
theorem side_v (h:DrAt id n1 b σ s):RIs id n1 b s (Qv.v (rpt b) s) (.agg ⟨(sideP σ).1.cs⟩) (sideP σ).2:=by
  obtain ⟨w1,s1,e1,_,h1,r1⟩:=take_v kd3 h
  obtain ⟨w2,s2,e2,_,h2,r2⟩:=take_v kd7 h1
  have z5:bx (.agg #[.int .i64 0,.int .i64 0,.int .u64 0,.int .i64 0,.int .u64 0])=some zR.cs:=rfl
  have b5:bld [.int .i64 0,.int .i64 0,.int .u64 0,.int .i64 0,.int .u64 0] []=some (.agg ⟨zR.cs⟩):=rfl
  have t5:∀ r:Rf,stl zR.cs 0 5 (.agg ⟨r.cs⟩)=some r.cs:=fun _=>rfl
  have l5:∀ r:Rf,lal r.cs 0 5=some (.agg ⟨r.cs⟩):=fun _=>rfl
  have ht:un .not (.bool true)=some (.bool false):=rfl
  have hf:un .not (.bool false)=some (.bool true):=rfl
  have ep:=p3 (takeP 3 σ).1.1 w1
  generalize ({ (takeP 3 σ).1.1 with b:=w1 }:Fd).v=V at e1 ep
  unfold Qv.v Qv.t sideP
  cases c:(takeP 3 σ).1.1.t <;> rw [c] at ep
  · refine ⟨s1,?_,by simpa using h1,r1⟩
    simp only [Bool.false_eq_true,if_false]
    simp only [std_bd,std_cnd,z5,e1,ep,hf,cndt,b5,t5,l5,bds]
  · refine ⟨s2,?_,by simpa using h2,r1.trans r2⟩
    simp only [if_true]
    simp only [std_bd,std_cnd,z5,e1,ep,ht,cndf,e2,p9,t5,l5,bds]
theorem gt100 (n:Int):bin .gtr (.int .u64 n) (.int .u64 100)=some (.bool (decide (100 < n))):=by rw [bin_gtr]
theorem cv_small {n:Int} (h0:0≤n) (h1:¬ 100 < n):cvi .i64 (.int .u64 n)=some (.int .i64 n):=by rw [cvi_int,wrap64 (by omega) (by omega)]
theorem kind_v (h:DrAt id n1 b σ s):RIs id n1 b s (Qu.v (rpt b) s) (.int .i64 (kindP σ).1) (kindP σ).2:=by
  obtain ⟨w1,s1,e1,_,h1,r1⟩:=take_v kd1 h
  have hn:=(takeP_a h.y kd1).1.n0
  have n1':nck (rpt b)=some (rpt b):=rfl
  have fl1:fld 1 (rpt b)=some (.pointer (some ⟨b,0,some 1⟩)):=rfl
  unfold Qu.v Qu.t kindP
  by_cases c:100 < (takeP 1 σ).1.1.n
  · obtain ⟨s2,o1,o2,o3⟩:=h1.off
    have o1:stv s1 1 (.pointer (some ⟨b,0,some 1⟩)) (.bool false)=some s2:=o1
    rw [if_pos c]
    refine ⟨s2,?_,o2,r1.trans o3⟩
    simp only [std_bd,std_cnd,e1,p1,gt100,decide_eq_true c,cndt,n1',fl1,o1,bds]
  · rw [if_neg c]
    refine ⟨s1,?_,h1,r1⟩
    simp only [std_bd,std_cnd,e1,p1,gt100,decide_eq_false c,cndf,cv_small hn c,bds]
def NIs (fl:Bool→Bool) (n1 b:Nat) (s:St) (r:Option (Value×St)) (P:(Ans×List Int)×RS):Prop:=∃ w s',r=some (.agg ⟨({ P.1.1 with v:=w }:Ans).cs⟩,s')∧Ful s.n s' 1 w (br P.1.2)∧DrAt fl n1 b P.2 s'∧RdS b s s'
theorem answer_v (h:DrAt id n1 b σ s):NIs id n1 b s (Qs.v (rpt b) s) (ansP σ):=by
  obtain ⟨s0,e0,h0,r0⟩:=kind_v h
  unfold ansP
  generalize (kindP σ).1=k at *
  generalize (kindP σ).2=τ at *
  obtain ⟨w1,s1,e1,_,h1,r1⟩:=take_v kd3 h0
  obtain ⟨s2,e2,h2,r2⟩:=side_v h1
  obtain ⟨s3,e3,h3,r3⟩:=side_v h2
  obtain ⟨w4,s4,e4,u4,h4,r4⟩:=take_v kd4 h3
  have z13:bx (.agg #[.int .i64 0,.bool false,.int .i64 0,.int .i64 0,.int .u64 0,.int .i64 0,.int .u64 0,.int .i64 0,.int .i64 0,.int .u64 0,.int .i64 0,.int .u64 0,.slice none 0 0])=some (zN 0).cs:=rfl
  have b13:bld [.int .i64 0,.bool false,.int .i64 0,.int .i64 0,.int .u64 0,.int .i64 0,.int .u64 0,.int .i64 0,.int .i64 0,.int .u64 0,.int .i64 0,.int .u64 0,.slice none 0 0] [(0,1,.int .i64 k)]=some (.agg ⟨(zN k).cs⟩):=rfl
  have b0:bld [.int .i64 0,.bool false,.int .i64 0,.int .i64 0,.int .u64 0,.int .i64 0,.int .u64 0,.int .i64 0,.int .i64 0,.int .u64 0,.int .i64 0,.int .u64 0,.slice none 0 0] []=some (.agg ⟨(zN 0).cs⟩):=rfl
  have t0:∀ a:Ans,stl (zN 0).cs 0 13 (.agg ⟨a.cs⟩)=some a.cs:=fun _=>rfl
  have l13:∀ a:Ans,lal a.cs 0 13=some (.agg ⟨a.cs⟩):=fun _=>rfl
  have cz:lcl (zN k).cs 0=some (.int .i64 k):=rfl
  have cA:∀ t l r,lcl (⟨k,t,l,r,nilB⟩:Ans).cs 0=some (.int .i64 k):=fun _ _ _=>rfl
  have t1:∀ t,stl (zN k).cs 1 1 (.bool t)=some (⟨k,t,zR,zR,nilB⟩:Ans).cs:=fun _=>rfl
  have t2:∀ t (l:Rf),stl (⟨k,t,zR,zR,nilB⟩:Ans).cs 2 5 (.agg ⟨l.cs⟩)=some (⟨k,t,l,zR,nilB⟩:Ans).cs:=fun _ _=>rfl
  have t3:∀ t (l r:Rf),stl (⟨k,t,l,zR,nilB⟩:Ans).cs 7 5 (.agg ⟨r.cs⟩)=some (⟨k,t,l,r,nilB⟩:Ans).cs:=fun _ _ _=>rfl
  have hw:=u4.isR.bx
  have t4:∀ t (l r:Rf),stl (⟨k,t,l,r,nilB⟩:Ans).cs 12 1 w4=some (⟨k,t,l,r,w4⟩:Ans).cs:=fun t l r=>by
    show (bx w4).bind _=_
    rw [hw]
    rfl
  unfold Qs.v Qs.t ansQ
  by_cases k1:k=1
  · rw [if_pos k1]
    refine ⟨w4,s4,?_,u4.le ((((r0.trans r1).trans r2).trans r3).n),h4,(((r0.trans r1).trans r2).trans r3).trans r4⟩
    have d1:eqb [1] false true (.int .i64 k) (.int .i64 1)=some (.bool false):=by rw [neb1,decide_eq_false (fun e=>e k1)]
    have d2:eqb [1] false false (.int .i64 k) (.int .i64 1)=some (.bool true):=by rw [eqb1,decide_eq_true k1]
    simp only [std_bd,std_cnd,std_gd,z13,e0,b13,t0,cz,d1,gdft,pikf,cndf,e1,p3,t1,e2,t2,e3,t3,cA,d2,cndt,e4,p4,t4,l13,bds]
  · rw [if_neg k1]
    have d1:eqb [1] false true (.int .i64 k) (.int .i64 1)=some (.bool true):=by rw [neb1,decide_eq_true k1]
    have d2:eqb [1] false false (.int .i64 k) (.int .i64 1)=some (.bool false):=by rw [eqb1,decide_eq_false k1]
    by_cases k3:k=3
    · rw [if_pos k3]
      have d3:eqb [1] false true (.int .i64 k) (.int .i64 3)=some (.bool false):=by rw [neb1,decide_eq_false (fun e=>e k3)]
      refine ⟨nilB,s3,?_,.inl ⟨rfl,rfl⟩,h3,((r0.trans r1).trans r2).trans r3⟩
      simp only [std_bd,std_cnd,std_gd,z13,e0,b13,t0,cz,d1,d3,gdtt,pikt,cndf,e1,p3,t1,e2,t2,e3,t3,cA,d2,l13,bds]
    · rw [if_neg k3]
      have d3:eqb [1] false true (.int .i64 k) (.int .i64 3)=some (.bool true):=by rw [neb1,decide_eq_true k3]
      refine ⟨nilB,s0,?_,.inl ⟨rfl,rfl⟩,h0,r0⟩
      simp only [std_bd,std_cnd,std_gd,z13,e0,b13,t0,cz,d1,d3,gdtt,pikt,cndt,l13,bds]
      rfl
theorem raddr_v (h:DrAt Bool.not n1 b σ s):RIs Bool.not n1 b s (Q2b.v (rpt b) s) (.agg ⟨[.bool (addrP σ).1.1,.int .i64 (addrP σ).1.2]⟩) (addrP σ).2:=by
  obtain ⟨w1,s1,e1,_,h1,r1⟩:=rtake_v kd3 h
  obtain ⟨w2,s2,e2,_,h2,r2⟩:=rtake_v kd2 h1
  refine ⟨s2,?_,h2,r1.trans r2⟩
  have z2:bx (.agg #[.bool false,.int .i64 0])=some [.bool false,.int .i64 0]:=rfl
  have b2:∀ t i,bld [.bool false,.int .i64 0] [(0,1,.bool t),(1,1,.int .i64 i)]=some (.agg ⟨[.bool t,.int .i64 i]⟩):=fun _ _=>rfl
  have t2:∀ t i,stl [.bool false,.int .i64 0] 0 2 (.agg ⟨[.bool t,.int .i64 i]⟩)=some [.bool t,.int .i64 i]:=fun _ _=>rfl
  have l2:∀ t i,lal [.bool t,.int .i64 i] 0 2=some (.agg ⟨[.bool t,.int .i64 i]⟩):=fun _ _=>rfl
  unfold Q2b.v Q2b.t addrP
  simp only [std_bd,std_cnd,z2,e1,p3,e2,p2,b2,t2,l2,bds]
theorem rside_v (h:DrAt Bool.not n1 b σ s):RIs Bool.not n1 b s (Q2e.v (rpt b) s) (.agg ⟨(sideP σ).1.cs⟩) (sideP σ).2:=by
  obtain ⟨w1,s1,e1,_,h1,r1⟩:=rtake_v kd3 h
  obtain ⟨w2,s2,e2,_,h2,r2⟩:=rtake_v kd7 h1
  have z5:bx (.agg #[.int .i64 0,.int .i64 0,.int .u64 0,.int .i64 0,.int .u64 0])=some zR.cs:=rfl
  have b5:bld [.int .i64 0,.int .i64 0,.int .u64 0,.int .i64 0,.int .u64 0] []=some (.agg ⟨zR.cs⟩):=rfl
  have t5:∀ r:Rf,stl zR.cs 0 5 (.agg ⟨r.cs⟩)=some r.cs:=fun _=>rfl
  have l5:∀ r:Rf,lal r.cs 0 5=some (.agg ⟨r.cs⟩):=fun _=>rfl
  have ht:un .not (.bool true)=some (.bool false):=rfl
  have hf:un .not (.bool false)=some (.bool true):=rfl
  have ep:=p3 (takeP 3 σ).1.1 w1
  generalize ({ (takeP 3 σ).1.1 with b:=w1 }:Fd).v=V at e1 ep
  unfold Q2e.v Q2e.t sideP
  cases c:(takeP 3 σ).1.1.t <;> rw [c] at ep
  · refine ⟨s1,?_,by simpa using h1,r1⟩
    simp only [Bool.false_eq_true,if_false]
    simp only [std_bd,std_cnd,z5,e1,ep,hf,cndt,b5,t5,l5,bds]
  · refine ⟨s2,?_,by simpa using h2,r1.trans r2⟩
    simp only [if_true]
    simp only [std_bd,std_cnd,z5,e1,ep,ht,cndf,e2,p9,t5,l5,bds]
theorem ranswer_v (h:DrAt Bool.not n1 b σ s):NIs Bool.not n1 b s (Q2c.v (rpt b) s) (ansP σ):=by
  obtain ⟨w0,s0,e0,_,h0,r0⟩:=rtake_v kd1 h
  have hn:=(takeP_a h.y kd1).1.n0
  have n1':nck (rpt b)=some (rpt b):=rfl
  have fl1:fld 1 (rpt b)=some (.pointer (some ⟨b,0,some 1⟩)):=rfl
  unfold ansP kindP
  by_cases c:100 < (takeP 1 σ).1.1.n
  · obtain ⟨s2,o1,o2,o3⟩:=h0.off
    have o1:stv s0 1 (.pointer (some ⟨b,0,some 1⟩)) (.bool true)=some s2:=o1
    rw [if_pos c]
    refine ⟨nilB,s2,?_,.inl ⟨rfl,rfl⟩,o2,r0.trans o3⟩
    have z13:bx (.agg #[.int .i64 0,.bool false,.int .i64 0,.int .i64 0,.int .u64 0,.int .i64 0,.int .u64 0,.int .i64 0,.int .i64 0,.int .u64 0,.int .i64 0,.int .u64 0,.slice none 0 0])=some (zN 0).cs:=rfl
    have b0:bld [.int .i64 0,.bool false,.int .i64 0,.int .i64 0,.int .u64 0,.int .i64 0,.int .u64 0,.int .i64 0,.int .i64 0,.int .u64 0,.int .i64 0,.int .u64 0,.slice none 0 0] []=some (.agg ⟨(zN 0).cs⟩):=rfl
    have t0:∀ a:Ans,stl (zN 0).cs 0 13 (.agg ⟨a.cs⟩)=some a.cs:=fun _=>rfl
    have l13:∀ a:Ans,lal a.cs 0 13=some (.agg ⟨a.cs⟩):=fun _=>rfl
    unfold Q2c.v Q2c.t
    simp only [std_bd,std_cnd,z13,e0,p1,gt100,decide_eq_true c,cndt,n1',fl1,o1,b0,t0,l13,bds]
    rfl
  · rw [if_neg c]
    have cv:=cv_small hn c
    have hgt:=gt100 (takeP 1 σ).1.1.n
    rw [decide_eq_false c] at hgt
    have ep:=p1 (takeP 1 σ).1.1 w0
    generalize ({ (takeP 1 σ).1.1 with b:=w0 }:Fd).v=V0 at e0 ep
    generalize (takeP 1 σ).1.1.n=k at *
    generalize (takeP 1 σ).2=τ at *
    dsimp only
    obtain ⟨w1,s1,e1,_,h1,r1⟩:=rtake_v kd3 h0
    obtain ⟨s2,e2,h2,r2⟩:=rside_v h1
    obtain ⟨s3,e3,h3,r3⟩:=rside_v h2
    obtain ⟨w4,s4,e4,u4,h4,r4⟩:=rtake_v kd4 h3
    have z13:bx (.agg #[.int .i64 0,.bool false,.int .i64 0,.int .i64 0,.int .u64 0,.int .i64 0,.int .u64 0,.int .i64 0,.int .i64 0,.int .u64 0,.int .i64 0,.int .u64 0,.slice none 0 0])=some (zN 0).cs:=rfl
    have b13:bld [.int .i64 0,.bool false,.int .i64 0,.int .i64 0,.int .u64 0,.int .i64 0,.int .u64 0,.int .i64 0,.int .i64 0,.int .u64 0,.int .i64 0,.int .u64 0,.slice none 0 0] [(0,1,.int .i64 k)]=some (.agg ⟨(zN k).cs⟩):=rfl
    have b0:bld [.int .i64 0,.bool false,.int .i64 0,.int .i64 0,.int .u64 0,.int .i64 0,.int .u64 0,.int .i64 0,.int .i64 0,.int .u64 0,.int .i64 0,.int .u64 0,.slice none 0 0] []=some (.agg ⟨(zN 0).cs⟩):=rfl
    have t0:∀ a:Ans,stl (zN 0).cs 0 13 (.agg ⟨a.cs⟩)=some a.cs:=fun _=>rfl
    have l13:∀ a:Ans,lal a.cs 0 13=some (.agg ⟨a.cs⟩):=fun _=>rfl
    have cz:lcl (zN k).cs 0=some (.int .i64 k):=rfl
    have cA:∀ t l r,lcl (⟨k,t,l,r,nilB⟩:Ans).cs 0=some (.int .i64 k):=fun _ _ _=>rfl
    have t1:∀ t,stl (zN k).cs 1 1 (.bool t)=some (⟨k,t,zR,zR,nilB⟩:Ans).cs:=fun _=>rfl
    have t2:∀ t (l:Rf),stl (⟨k,t,zR,zR,nilB⟩:Ans).cs 2 5 (.agg ⟨l.cs⟩)=some (⟨k,t,l,zR,nilB⟩:Ans).cs:=fun _ _=>rfl
    have t3:∀ t (l r:Rf),stl (⟨k,t,l,zR,nilB⟩:Ans).cs 7 5 (.agg ⟨r.cs⟩)=some (⟨k,t,l,r,nilB⟩:Ans).cs:=fun _ _ _=>rfl
    have hw:=u4.isR.bx
    have t4:∀ t (l r:Rf),stl (⟨k,t,l,r,nilB⟩:Ans).cs 12 1 w4=some (⟨k,t,l,r,w4⟩:Ans).cs:=fun t l r=>by
      show (bx w4).bind _=_
      rw [hw]
      rfl
    unfold Q2c.v Q2c.t Q2c.t.p1 ansQ
    by_cases k1:k=1
    · rw [if_pos k1]
      refine ⟨w4,s4,?_,u4.le ((((r0.trans r1).trans r2).trans r3).n),h4,(((r0.trans r1).trans r2).trans r3).trans r4⟩
      have d2:eqb [1] false false (.int .i64 k) (.int .i64 1)=some (.bool true):=by rw [eqb1,decide_eq_true k1]
      simp only [std_bd,std_cnd,std_gd,z13,e0,ep,hgt,cndf,cv,b13,t0,cz,d2,gdtf,gdun,pikt,cndt,e1,p3,t1,e2,t2,e3,t3,List.getD_cons_zero,List.getD_cons_succ,cellsA,cA,e4,p4,t4,l13,bds]
    · rw [if_neg k1]
      have d2:eqb [1] false false (.int .i64 k) (.int .i64 1)=some (.bool false):=by rw [eqb1,decide_eq_false k1]
      by_cases k3:k=3
      · rw [if_pos k3]
        have d3:eqb [1] false false (.int .i64 k) (.int .i64 3)=some (.bool true):=by rw [eqb1,decide_eq_true k3]
        refine ⟨nilB,s3,?_,.inl ⟨rfl,rfl⟩,h3,((r0.trans r1).trans r2).trans r3⟩
        simp only [std_bd,std_cnd,std_gd,z13,e0,ep,hgt,cndf,cv,b13,t0,cz,d2,d3,gdff,pikf,cndt,e1,p3,t1,e2,t2,e3,t3,List.getD_cons_zero,List.getD_cons_succ,cellsA,cA,l13,bds]
      · rw [if_neg k3]
        have d3:eqb [1] false false (.int .i64 k) (.int .i64 3)=some (.bool false):=by rw [eqb1,decide_eq_false k3]
        refine ⟨nilB,s0,?_,.inl ⟨rfl,rfl⟩,h0,r0⟩
        simp only [std_bd,std_cnd,std_gd,z13,e0,ep,hgt,cndf,cv,b13,t0,cz,d2,d3,gdff,pikf,cndf,List.getD_cons_zero,List.getD_cons_succ,cellsA,l13,bds]
        rfl
end
end Go.Proofs.Yteapmnolmfickaa
/-
  Reading a packet: an ask.
-/
set_option linter.unusedSimpArgs false
set_option linter.unusedVariables false
set_option maxRecDepth 100000
set_option maxHeartbeats 4000000
namespace Go.Proofs.Yteapmnolmfickaa
open Go.Sim Go.Sim.Bt
attribute [local congr] bdc cndc itec gdc gdSc gdUc
def takesP:List Int→RS→List FB×RS
  | [],σ=>([],σ)
  | k :: ks,σ=>((takeP k σ).1 :: (takesP ks (takeP k σ).2).1,(takesP ks (takeP k σ).2).2)
def askQ (k:Int) (τ:RS):AskP×RS:=match needsP k with
  | none=>(a0K k,(τ.1,false))
  | some L=>(madeL ((takesP L τ).1.map fun p=>p.1) false false (a0K k),(takesP L τ).2)
def askR (σ:RS):AskP×RS:=askQ (kindP σ).1 (kindP σ).2
def setW (a:AskP) (f:Fd):AskP:={ a with wl:=f.vl,wb:=f.vb }
def setR (a:AskP) (f:Fd):AskP:={ a with r:=rfOf f }
def setR2 (a:AskP) (f:Fd):AskP:={ a with r2:=rfOf f }
def setO1 (a:AskP) (f:Fd):AskP:={ a with oa:=f.i }
def setO2 (a:AskP) (f:Fd):AskP:={ a with oo:=f.i }
def raskQ (k:Int) (τ:RS):AskP×RS :=
  if k=1 then (setW (a0K k) (takeP 5 τ).1.1,(takeP 5 τ).2)
  else if k=3∨k=4∨k=8 then (setO2 (setO1 (setW (a0K k) (takeP 5 τ).1.1) (takeP 2 (takeP 5 τ).2).1.1) (takeP 2 (takeP 2 (takeP 5 τ).2).2).1.1,(takeP 2 (takeP 2 (takeP 5 τ).2).2).2)
  else if k=5 then (setO2 (setO1 (setR (setW (a0K k) (takeP 5 τ).1.1) (takeP 7 (takeP 5 τ).2).1.1) (takeP 2 (takeP 7 (takeP 5 τ).2).2).1.1) (takeP 2 (takeP 2 (takeP 7 (takeP 5 τ).2).2).2).1.1,(takeP 2 (takeP 2 (takeP 7 (takeP 5 τ).2).2).2).2)
  else if k=6 then (setR (setW (a0K k) (takeP 5 τ).1.1) (takeP 7 (takeP 5 τ).2).1.1,(takeP 7 (takeP 5 τ).2).2)
  else if k=7 then (setO2 (setO1 (setR2 (setR (setW (a0K k) (takeP 5 τ).1.1) (takeP 7 (takeP 5 τ).2).1.1) (takeP 7 (takeP 7 (takeP 5 τ).2).2).1.1) (takeP 2 (takeP 7 (takeP 7 (takeP 5 τ).2).2).2).1.1) (takeP 2 (takeP 2 (takeP 7 (takeP 7 (takeP 5 τ).2).2).2).2).1.1,(takeP 2 (takeP 2 (takeP 7 (takeP 7 (takeP 5 τ).2).2).2).2).2)
  else (a0K k,τ)
def raskR (σ:RS):AskP×RS:=raskQ (kindP σ).1 (kindP σ).2
theorem takeP_on {k:Int} {σ:RS} (h:(takeP k σ).2.2=true):σ.2=true:=by
  unfold takeP at h
  split at h
  · rename_i g; exact g
  · exact h
theorem takeP_k {k:Int} {σ:RS} (hy:okY σ.1) (hk:isKd k) (h:(takeP k σ).2.2=true):(takeP k σ).1.1.k=k:=by
  unfold takeP at h ⊢
  split at h
  · rename_i g
    rw [if_pos g]
    split
    · rename_i a n e
      exact (fieldP_r hy hk e).2.2.1
    · rename_i e q e'
      rw [e'] at h
      cases h
  · rename_i g
    exact absurd h g
theorem raskQ_no {k:Int} (h:needsP k=none) (τ:RS):raskQ k τ=(a0K k,τ):=by
  unfold needsP at h
  unfold raskQ
  split at h
  · cases h
  · split at h
    · cases h
    · split at h
      · cases h
      · split at h
        · cases h
        · split at h
          · cases h
          · rename_i h1 h2 h3 h4 h5
            rw [if_neg h1,if_neg h2,if_neg h3,if_neg h4,if_neg h5]
theorem madeL_5 {f:Fd} {fs:List Fd} {rf it:Bool} {a:AskP} (h:f.k=5):madeL (f :: fs) rf it a=madeL fs rf it (setW a f):=by
  rw [madeL,if_pos h]; rfl
theorem madeL_7 {f:Fd} {fs:List Fd} {it:Bool} {a:AskP} (h:f.k=7):madeL (f :: fs) false it a=madeL fs true it (setR a f):=by
  rw [madeL,if_neg (by omega),if_pos h]; rfl
theorem madeL_77 {f:Fd} {fs:List Fd} {it:Bool} {a:AskP} (h:f.k=7):madeL (f :: fs) true it a=madeL fs true it (setR2 a f):=by
  rw [madeL,if_neg (by omega),if_pos h]; rfl
theorem madeL_2 {f:Fd} {fs:List Fd} {rf:Bool} {a:AskP} (h:f.k=2):madeL (f :: fs) rf false a=madeL fs rf true (setO1 a f):=by
  rw [madeL,if_neg (by omega),if_neg (by omega)]; rfl
theorem madeL_22 {f:Fd} {fs:List Fd} {rf:Bool} {a:AskP} (h:f.k=2):madeL (f :: fs) rf true a=madeL fs rf true (setO2 a f):=by
  rw [madeL,if_neg (by omega),if_neg (by omega)]; rfl
theorem raskQ_yes {k:Int} {τ:RS} (hy:okY τ.1) (h:(askQ k τ).2.2=true):raskQ k τ=askQ k τ:=by
  have y5:=(takeP_a hy kd5).2.2.2
  unfold askQ needsP at h ⊢
  unfold raskQ
  by_cases c0:k=1
  · rw [if_pos c0] at h ⊢
    rw [if_pos c0]
    simp only [takesP] at h
    have o1:(takeP 5 τ).2.2=true:=h
    have f1:=takeP_k hy kd5 o1
    have y1:=(takeP_a hy kd5).2.2.2
    simp only [takesP,List.map_cons,List.map_nil]
    rw [madeL_5 f1]
    rfl
  rw [if_neg c0] at h ⊢
  rw [if_neg c0]
  by_cases c1:k=3∨k=4∨k=8
  · rw [if_pos c1] at h ⊢
    rw [if_pos c1]
    simp only [takesP] at h
    have o3:(takeP 2 (takeP 2 (takeP 5 τ).2).2).2.2=true:=h
    have o2:=takeP_on o3
    have o1:=takeP_on o2
    have f1:=takeP_k hy kd5 o1
    have y1:=(takeP_a hy kd5).2.2.2
    have f2:=takeP_k y1 kd2 o2
    have y2:=(takeP_a y1 kd2).2.2.2
    have f3:=takeP_k y2 kd2 o3
    have y3:=(takeP_a y2 kd2).2.2.2
    simp only [takesP,List.map_cons,List.map_nil]
    rw [madeL_5 f1]
    rw [madeL_2 f2]
    rw [madeL_22 f3]
    rfl
  rw [if_neg c1] at h ⊢
  rw [if_neg c1]
  by_cases c2:k=5
  · rw [if_pos c2] at h ⊢
    rw [if_pos c2]
    simp only [takesP] at h
    have o4:(takeP 2 (takeP 2 (takeP 7 (takeP 5 τ).2).2).2).2.2=true:=h
    have o3:=takeP_on o4
    have o2:=takeP_on o3
    have o1:=takeP_on o2
    have f1:=takeP_k hy kd5 o1
    have y1:=(takeP_a hy kd5).2.2.2
    have f2:=takeP_k y1 kd7 o2
    have y2:=(takeP_a y1 kd7).2.2.2
    have f3:=takeP_k y2 kd2 o3
    have y3:=(takeP_a y2 kd2).2.2.2
    have f4:=takeP_k y3 kd2 o4
    have y4:=(takeP_a y3 kd2).2.2.2
    simp only [takesP,List.map_cons,List.map_nil]
    rw [madeL_5 f1]
    rw [madeL_7 f2]
    rw [madeL_2 f3]
    rw [madeL_22 f4]
    rfl
  rw [if_neg c2] at h ⊢
  rw [if_neg c2]
  by_cases c3:k=6
  · rw [if_pos c3] at h ⊢
    rw [if_pos c3]
    simp only [takesP] at h
    have o2:(takeP 7 (takeP 5 τ).2).2.2=true:=h
    have o1:=takeP_on o2
    have f1:=takeP_k hy kd5 o1
    have y1:=(takeP_a hy kd5).2.2.2
    have f2:=takeP_k y1 kd7 o2
    have y2:=(takeP_a y1 kd7).2.2.2
    simp only [takesP,List.map_cons,List.map_nil]
    rw [madeL_5 f1]
    rw [madeL_7 f2]
    rfl
  rw [if_neg c3] at h ⊢
  rw [if_neg c3]
  by_cases c4:k=7
  · rw [if_pos c4] at h ⊢
    rw [if_pos c4]
    simp only [takesP] at h
    have o5:(takeP 2 (takeP 2 (takeP 7 (takeP 7 (takeP 5 τ).2).2).2).2).2.2=true:=h
    have o4:=takeP_on o5
    have o3:=takeP_on o4
    have o2:=takeP_on o3
    have o1:=takeP_on o2
    have f1:=takeP_k hy kd5 o1
    have y1:=(takeP_a hy kd5).2.2.2
    have f2:=takeP_k y1 kd7 o2
    have y2:=(takeP_a y1 kd7).2.2.2
    have f3:=takeP_k y2 kd7 o3
    have y3:=(takeP_a y2 kd7).2.2.2
    have f4:=takeP_k y3 kd2 o4
    have y4:=(takeP_a y3 kd2).2.2.2
    have f5:=takeP_k y4 kd2 o5
    have y5:=(takeP_a y4 kd2).2.2.2
    simp only [takesP,List.map_cons,List.map_nil]
    rw [madeL_5 f1]
    rw [madeL_7 f2]
    rw [madeL_77 f3]
    rw [madeL_2 f4]
    rw [madeL_22 f5]
    rfl
  rw [if_neg c4] at h ⊢
  rw [if_neg c4]
  by_cases c5:k=2∨k=9∨k=10
  · rw [if_pos c5]
    rfl
  · rw [if_neg c5] at h
    cases h
theorem DrAt.app {fl:Bool→Bool} {n1 b n0:Nat} {σ:RS} {s s':St} (h:DrAt fl n1 b σ s) (hb:b < n0) (m:More ⟨s.h,n0⟩ s') (f:Fresh s'):DrAt fl n1 b σ s':=by
  obtain ⟨v,g,hv,hr⟩:=h.row
  have hlt:=h.lt
  exact ⟨f,⟨v,(m.old b hb).trans g,hv.to fun x hx=>m.old x (by simp only; omega),hr⟩,h.lt,h.y,h.sz⟩
def noBf (f:Fd):Fd:={ f with b:=nilB }
theorem madeL_noB:∀ (fs:List Fd) (rf it:Bool) (a:AskP),madeL (fs.map noBf) rf it a=madeL fs rf it a
  | [],_,_,_=>rfl
  | f :: fs,rf,it,a=>by
    rw [List.map_cons,madeL,madeL]
    have e:(noBf f).k=f.k:=rfl
    rw [e]
    repeat' split
    all_goals exact madeL_noB fs _ _ _
section
variable {n1 b:Nat} {σ:RS} {s:St}
theorem askread {n0:Nat} {kv:Value} {L:List Int} {k:Int} {z:List Value} (hb:b < n0) (hL:L.length≤10) (hkd:∀ x ∈ L,isKd x) {s0:St} (hn0:s0.n=n0):∀ (ks:List Int) (j:Nat) {σ:RS} {fs:List Fd} {lv:Value} {s:St},L.drop j=ks→j≤L.length→DrAt id n1 b σ s→RdS b s0 s→Ful n0 s 1 kv (ki L)→Ful n0 s 14 lv (fs.map Fd.cs)→fs.length=j →
    ∃ s' lv' gs,(∀ e,iter (Qt.l6 std) (e+ks.length+1) [rpt b,.int .i64 k,lv,kv,.int .i64 (L.length:Int),.int .i64 (j:Int),.agg ⟨z⟩] s=some ((0,[.int .i64 k,lv',.agg ⟨z⟩],s'):Cut))∧DrAt id n1 b (takesP ks σ).2 s'∧RdS b s0 s'∧Ful n0 s' 14 lv' ((fs++gs).map Fd.cs)∧gs.map noBf=(takesP ks σ).1.map (fun p=>noBf p.1)∧gs.length=ks.length
  | [],j,σ,fs,lv,s,hd,hj,h,hr,hkv,hlv,hl=>by
    have:j=L.length:=by
      have:=congrArg List.length hd
      simp at this; omega
    subst this
    refine ⟨s,lv,[],fun e=>?_,h,hr,by simpa using hlv,rfl,rfl⟩
    have lt1:bin .lss (.int .i64 (L.length:Int)) (.int .i64 (L.length:Int))=some (.bool false):=by
      rw [bin_lss,decide_eq_false (by omega)]
    rw [iter_succ]
    unfold Qt.l6
    simp only [std_bd,std_cnd,List.getD_cons_zero,List.getD_cons_succ,lt1,bds,cndf,cellsA]
  | q :: ks,j,σ,fs,lv,s,hd,hj,h,hr,hkv,hlv,hl=>by
    have hlt:j < L.length:=by
      have:=congrArg List.length hd
      simp at this; omega
    have hqj:L[j]?=some q:=by
      have e:=congrArg (fun l=>l[0]?) hd
      simpa using e
    have hd':L.drop (j+1)=ks:=by
      have e:=congrArg List.tail hd
      simpa [List.tail_drop] using e
    obtain ⟨c,all,ro,i1,i2,i3⟩:=hkv.isR.at (j:=j) (r:=[.int .i64 q]) (by simp [ki,hqj])
    have i4:ldc s (.pointer (some ⟨c,j,some 0⟩))=some (.int .i64 q):=by rw [ldc_row i2,i3]; rfl
    obtain ⟨w,s1,e1,u1,h1,r1⟩:=take_v (hkd q (List.mem_of_getElem? hqj)) h
    have hlv1:=hlv.rdS (N:=0) h.fr r1 hb
    have hkv1:=hkv.rdS (N:=0) h.fr r1 hb
    have hr1:=hr.trans r1
    have m0:More ⟨s1.h,n0⟩ s1:=⟨by simp only; have:=hr1.n; omega,fun _ _=>rfl,fun _=>h1.fr⟩
    obtain ⟨lv',s2,a1,a2,a3,a4,a5⟩:=push (s0:=⟨s1.h,n0⟩) h1.fr hlv1 m0 (by_:=128) ({ (takeP q σ).1.1 with b:=w }:Fd).cs (by simp; omega) (by simp; omega)
    have h2:=h1.app hb a2 a4
    have hr2:RdS b s0 s2:=⟨by have:=a2.n; simp only at this; omega,fun x hx hne=>(a2.old x (by simp only; omega)).trans (hr1.keep x hx hne)⟩
    have hkv2:Ful n0 s2 1 kv (ki L):=hkv1.stp a5 (by simp)
    have hlv2:Ful n0 s2 14 lv' ((fs++[({ (takeP q σ).1.1 with b:=w }:Fd)]).map Fd.cs):=by rw [List.map_append]; exact a3
    obtain ⟨s',lv'',gs,ih,d1,d2,d3,d4,d5⟩:=askread (k:=k) (z:=z) hb hL hkd hn0 ks (j+1) hd' (by omega) h2 hr2 hkv2 hlv2 (by simp [hl])
    refine ⟨s',lv'',({ (takeP q σ).1.1 with b:=w }:Fd) :: gs,fun e=>?_,d1,d2,by simpa using d3,?_,by simp [d5]⟩
    · have ih:=ih e
      have lt0:bin .lss (.int .i64 (j:Int)) (.int .i64 (L.length:Int))=some (.bool true):=by
        rw [bin_lss,decide_eq_true (by omega)]
      have add0:bin .add (.int .i64 (j:Int)) (.int .i64 1)=some (.int .i64 ((j+1:Nat):Int)):=by
        rw [bin_add,wrap64 (by omega) (by omega)]; rfl
      rw [show e+(q :: ks).length+1=(e+ks.length+1)+1 by simp; omega,iter_succ]
      revert ih
      generalize iter (Qt.l6 std) (e+ks.length+1)=R
      intro ih
      unfold Qt.l6
      simp only [std_bd,std_cnd,List.getD_cons_zero,List.getD_cons_succ,lt0,cndt,i1,i4,e1,bls_1,a1,add0,cellsA,bds]
      exact ih
    · show noBf _ :: _=noBf _ :: _
      rw [d4]
      rfl
theorem ask_read (h:DrAt id n1 b σ s):RIs id n1 b s (Qt.v (rpt b) s) (.agg ⟨aC (askR σ).1⟩) (askR σ).2:=by
  obtain ⟨s0,e0,h0,r0⟩:=kind_v h
  unfold askR
  generalize (kindP σ).1=k at *
  generalize (kindP σ).2=τ at *
  have nd:=needs_v k h0.fr
  have z15:bx (.agg #[.int .i64 0,.int .i64 0,.int .u64 0,.int .i64 0,.int .i64 0,.int .u64 0,.int .i64 0,.int .u64 0,.int .i64 0,.int .i64 0,.int .u64 0,.int .i64 0,.int .u64 0,.int .i64 0,.int .i64 0])=some (aC (a0K 0)):=rfl
  have n1':nck (rpt b)=some (rpt b):=rfl
  have fl1:fld 1 (rpt b)=some (.pointer (some ⟨b,0,some 1⟩)):=rfl
  have t15:∀ a:AskP,stl (aC (a0K 0)) 0 15 (.agg ⟨aC a⟩)=some (aC a):=fun _=>rfl
  have l15:∀ a:AskP,lal (aC a) 0 15=some (.agg ⟨aC a⟩):=fun _=>rfl
  unfold askQ
  revert nd
  cases hL:needsP k with
  | none =>
    intro nd
    have nd:Qq.v (.int .i64 k) s0=some (.tuple ⟨[.slice none 0 0,.bool false]⟩,s0):=nd
    obtain ⟨s1,o1,o2,o3⟩:=h0.off
    have o1:stv s0 1 (.pointer (some ⟨b,0,some 1⟩)) (.bool false)=some s1:=o1
    obtain ⟨v,g,hv,hr⟩:=h0.row
    have d0:ldc s0 (.pointer (some ⟨b,0,some 1⟩))=some (.bool τ.2):=by rw [ldc_row g]; rfl
    have hc:(gd (.bool τ.2) true (some (.bool false))).bind (fun x9=>pik (.bool τ.2) x9 (.bool false))=some (.bool false):=by cases τ.2 <;> rfl
    have ln:lenL (.slice none 0 0)=some (.int .i64 0):=rfl
    have it:iter (Qt.l6 std) BIG [rpt b,.int .i64 k,.slice none 0 0,.slice none 0 0,.int .i64 0,.int .i64 0,.agg ⟨aC (a0K 0)⟩] s1=some ((0,[.int .i64 k,.slice none 0 0,.agg ⟨aC (a0K 0)⟩],s1):Cut):=by
      rw [show BIG=(BIG - 1)+1 from rfl,iter_succ]
      have lt1:bin .lss (.int .i64 0) (.int .i64 0)=some (.bool false):=rfl
      unfold Qt.l6
      simp only [std_bd,std_cnd,List.getD_cons_zero,List.getD_cons_succ,lt1,bds,cndf,cellsA]
    have mk:=made_r (s:=s1) (v:=.slice none 0 0) (fs:=[]) k (.inl ⟨rfl,rfl⟩) (by simp)
    have mk:Qp.r (.int .i64 k) (.slice none 0 0) s1=some (.agg ⟨aC (a0K k)⟩):=mk
    refine ⟨s1,?_,o2,r0.trans o3⟩
    unfold Qt.v Qt.t
    cases hτ:τ.2
    all_goals
      rw [hτ] at d0
      simp only [std_bd,std_cnd,std_gd,std_it,z15,e0,nd,xtr_eq,List.getElem?_cons_zero,List.getElem?_cons_succ,n1',fl1,d0,gdtt,gdft,pikt,pikf,o1,ln,it,List.getD_cons_zero,List.getD_cons_succ,cellsA,mk,t15,l15,bds]
  | some L =>
    intro nd
    obtain ⟨kv,s1,nd,m1,u1,f1⟩:=nd
    obtain ⟨hl10,hin,_,_⟩:=needs_in hL
    have hkd:∀ x ∈ L,isKd x:=fun x hx=>by
      rcases hin x hx with rfl | rfl | rfl
      · exact kd5
      · exact kd7
      · exact kd2
    obtain ⟨v,g,hv,hr⟩:=h0.row
    have hbn:=h0.n
    have hlt:=h0.lt
    have h1:DrAt id n1 b τ s1:=⟨f1,⟨v,m1.get h0.fr g,hv.to fun x hx=>m1.old x (by omega),hr⟩,h0.lt,h0.y,h0.sz⟩
    have g1:s1.get b=some (.row 2 [[v,.bool τ.2]] false):=m1.get h0.fr g
    have d0:ldc s1 (.pointer (some ⟨b,0,some 1⟩))=some (.bool τ.2):=by rw [ldc_row g1]; rfl
    have o1:stv s1 1 (.pointer (some ⟨b,0,some 1⟩)) (.bool τ.2)=some (s1.put b (.row 2 [[v,.bool τ.2]] false)):=by rw [stv_row g1]; rfl
    have o2:DrAt id n1 b τ (s1.put b (.row 2 [[v,.bool τ.2]] false)):=by
      refine ⟨f1.put,⟨v,get_put_same g1,hv.to fun x hx=>?_,hr⟩,h0.lt,h0.y,h0.sz⟩
      rw [get_put_ne (by omega),m1.old x (by omega)]
    have o3:RdS b s0 (s1.put b (.row 2 [[v,.bool τ.2]] false)):=⟨m1.n,fun x hx hne=>by rw [get_put_ne hne,m1.old x hx]⟩
    have u2:Ful s0.n (s1.put b (.row 2 [[v,.bool τ.2]] false)) 1 kv (ki L):=u1.putN (by omega)
    generalize s1.put b (.row 2 [[v,.bool τ.2]] false)=s2 at *
    have hlen:lenL kv=some (.int .i64 (L.length:Int)):=by
      have:=u1.isR.len
      simpa [ki] using this
    obtain ⟨s3,lv,gs,it,d1,d2,d3,d4,d5⟩:=askread (k:=k) (z:=aC (a0K 0)) hbn hl10 hkd rfl L 0 (lv:=.slice none 0 0) (fs:=[]) (by simp) (by omega) o2 o3 u2 (.inl ⟨rfl,rfl⟩) rfl
    have it:=it (BIG - L.length - 1)
    rw [show BIG - L.length - 1+L.length+1=BIG by unfold BIG; omega] at it
    have it:iter (Qt.l6 std) BIG [rpt b,.int .i64 k,.slice none 0 0,kv,.int .i64 (L.length:Int),.int .i64 0,.agg ⟨aC (a0K 0)⟩] s2=_:=it
    rw [List.nil_append] at d3
    have mk:=made_r (s:=s3) (v:=lv) (fs:=gs) k d3.isR (by omega)
    have hmk:madeL gs false false ⟨k,0,0,zR,zR,0,0⟩=madeL ((takesP L τ).1.map fun p=>p.1) false false (a0K k):=by
      rw [← madeL_noB gs,d4,← madeL_noB ((takesP L τ).1.map fun p=>p.1),List.map_map]
      rfl
    rw [hmk] at mk
    refine ⟨s3,?_,d1,r0.trans d2⟩
    unfold Qt.v Qt.t
    cases hτ:τ.2
    all_goals
      rw [hτ] at d0 o1
      simp only [std_bd,std_cnd,std_gd,std_it,z15,e0,nd,xtr_eq,List.getElem?_cons_zero,List.getElem?_cons_succ,n1',fl1,d0,gdtt,gdft,pikt,pikf,o1,hlen,it,List.getD_cons_zero,List.getD_cons_succ,cellsA,mk,t15,l15,bds]
theorem rask_read (h:DrAt Bool.not n1 b σ s):RIs Bool.not n1 b s (Q2d.v (rpt b) s) (.agg ⟨aC (raskR σ).1⟩) (raskR σ).2:=by
  obtain ⟨w0,s0,e0,_,h0,r0⟩:=rtake_v kd1 h
  have hn:=(takeP_a h.y kd1).1.n0
  have n1':nck (rpt b)=some (rpt b):=rfl
  have fl1:fld 1 (rpt b)=some (.pointer (some ⟨b,0,some 1⟩)):=rfl
  have z15:bx (.agg #[.int .i64 0,.int .i64 0,.int .u64 0,.int .i64 0,.int .i64 0,.int .u64 0,.int .i64 0,.int .u64 0,.int .i64 0,.int .i64 0,.int .u64 0,.int .i64 0,.int .u64 0,.int .i64 0,.int .i64 0])=some (aC (a0K 0)):=rfl
  have t15:∀ a:AskP,stl (aC (a0K 0)) 0 15 (.agg ⟨aC a⟩)=some (aC a):=fun _=>rfl
  have l15:∀ a:AskP,lal (aC a) 0 15=some (.agg ⟨aC a⟩):=fun _=>rfl
  unfold raskR kindP
  by_cases c:100 < (takeP 1 σ).1.1.n
  · obtain ⟨s2,o1,o2,o3⟩:=h0.off
    have o1:stv s0 1 (.pointer (some ⟨b,0,some 1⟩)) (.bool true)=some s2:=o1
    rw [if_pos c]
    have e:raskQ 0 ((takeP 1 σ).2.1,false)=(a0K 0,((takeP 1 σ).2.1,false)):=raskQ_no rfl _
    rw [e]
    refine ⟨s2,?_,o2,r0.trans o3⟩
    have b0:bld [.int .i64 0,.int .i64 0,.int .u64 0,.int .i64 0,.int .i64 0,.int .u64 0,.int .i64 0,.int .u64 0,.int .i64 0,.int .i64 0,.int .u64 0,.int .i64 0,.int .u64 0,.int .i64 0,.int .i64 0] []=some (.agg ⟨aC (a0K 0)⟩):=rfl
    unfold Q2d.v Q2d.t
    simp only [std_bd,std_cnd,z15,e0,p1,gt100,decide_eq_true c,cndt,n1',fl1,o1,b0,t15,l15,bds]
  · rw [if_neg c]
    have cv:=cv_small hn c
    have hgt:=gt100 (takeP 1 σ).1.1.n
    rw [decide_eq_false c] at hgt
    have ep:=p1 (takeP 1 σ).1.1 w0
    obtain ⟨V0,hV0⟩:∃ V0,V0=({ (takeP 1 σ).1.1 with b:=w0 }:Fd).v:=⟨_,rfl⟩
    rw [← hV0] at e0 ep
    clear hV0
    generalize (takeP 1 σ).1.1.n=k at *
    generalize (takeP 1 σ).2=τ at *
    dsimp only
    have bk:bld [.int .i64 0,.int .i64 0,.int .u64 0,.int .i64 0,.int .i64 0,.int .u64 0,.int .i64 0,.int .u64 0,.int .i64 0,.int .i64 0,.int .u64 0,.int .i64 0,.int .u64 0,.int .i64 0,.int .i64 0] [(0,1,.int .i64 k)]=some (.agg ⟨aC (a0K k)⟩):=rfl
    have ck:lcl (aC (a0K k)) 0=some (.int .i64 k):=rfl
    have tW:∀ (a:AskP) (f:Fd),stl (aC a) 1 2 (.agg ⟨[.int .i64 f.vl,.int .u64 f.vb]⟩)=some (aC (setW a f)):=fun _ _=>rfl
    have tR:∀ (a:AskP) (f:Fd),stl (aC a) 3 5 (.agg ⟨(rfOf f).cs⟩)=some (aC (setR a f)):=fun _ _=>rfl
    have tR2:∀ (a:AskP) (f:Fd),stl (aC a) 8 5 (.agg ⟨(rfOf f).cs⟩)=some (aC (setR2 a f)):=fun _ _=>rfl
    have tO1:∀ (a:AskP) (f:Fd),stl (aC a) 13 1 (.int .i64 f.i)=some (aC (setO1 a f)):=fun _ _=>rfl
    have tO2:∀ (a:AskP) (f:Fd),stl (aC a) 14 1 (.int .i64 f.i)=some (aC (setO2 a f)):=fun _ _=>rfl
    unfold Q2d.v Q2d.t Q2d.t.p1 raskQ
    by_cases c0:k=1
    · rw [if_pos c0]
      have hh:Q2n.r (.int .i64 k) s0=some (.tuple ⟨[.bool true,.bool false,.bool false,.bool false]⟩):=by simp only [Q2n.r,Q2n.t,sy,reduceIte,Nat.reduceAdd,Nat.reduceLeDiff,Nat.reduceLT,Nat.reduceEqDiff,Int.reduceEq,Int.reduceLT,Int.reduceLE,Int.reduceNe,ly,c0]
      obtain ⟨w1,s1,e1,_,h1,r1⟩:=rtake_v kd5 h0
      refine ⟨s1,?_,h1,(r0.trans r1)⟩
      simp only [std_bd,std_cnd,std_gd,z15,e0,ep,hgt,cndf,cv,bk,t15,ck,hh,xtr_eq,List.getElem?_cons_zero,List.getElem?_cons_succ,List.getD_cons_zero,List.getD_cons_succ,cellsA,cndt,tW,tR,tR2,tO1,tO2,p5,p9,p2,l15,e1,bds]
    rw [if_neg c0]
    by_cases c1:k=3∨k=4∨k=8
    · rw [if_pos c1]
      have hh:Q2n.r (.int .i64 k) s0=some (.tuple ⟨[.bool true,.bool false,.bool false,.bool true]⟩):=by
        rcases c1 with c1 | c1 | c1 <;> simp only [Q2n.r,Q2n.t,sy,reduceIte,Nat.reduceAdd,Nat.reduceLeDiff,Nat.reduceLT,Nat.reduceEqDiff,Int.reduceEq,Int.reduceLT,Int.reduceLE,Int.reduceNe,ly,c1]
      obtain ⟨w1,s1,e1,_,h1,r1⟩:=rtake_v kd5 h0
      obtain ⟨w2,s2,e2,_,h2,r2⟩:=rtake_v kd2 h1
      obtain ⟨w3,s3,e3,_,h3,r3⟩:=rtake_v kd2 h2
      refine ⟨s3,?_,h3,(((r0.trans r1).trans r2).trans r3)⟩
      simp only [std_bd,std_cnd,std_gd,z15,e0,ep,hgt,cndf,cv,bk,t15,ck,hh,xtr_eq,List.getElem?_cons_zero,List.getElem?_cons_succ,List.getD_cons_zero,List.getD_cons_succ,cellsA,cndt,tW,tR,tR2,tO1,tO2,p5,p9,p2,l15,e1,e2,e3,bds]
    rw [if_neg c1]
    by_cases c2:k=5
    · rw [if_pos c2]
      have hh:Q2n.r (.int .i64 k) s0=some (.tuple ⟨[.bool true,.bool true,.bool false,.bool true]⟩):=by simp only [Q2n.r,Q2n.t,sy,reduceIte,Nat.reduceAdd,Nat.reduceLeDiff,Nat.reduceLT,Nat.reduceEqDiff,Int.reduceEq,Int.reduceLT,Int.reduceLE,Int.reduceNe,ly,c2]
      obtain ⟨w1,s1,e1,_,h1,r1⟩:=rtake_v kd5 h0
      obtain ⟨w2,s2,e2,_,h2,r2⟩:=rtake_v kd7 h1
      obtain ⟨w3,s3,e3,_,h3,r3⟩:=rtake_v kd2 h2
      obtain ⟨w4,s4,e4,_,h4,r4⟩:=rtake_v kd2 h3
      refine ⟨s4,?_,h4,((((r0.trans r1).trans r2).trans r3).trans r4)⟩
      simp only [std_bd,std_cnd,std_gd,z15,e0,ep,hgt,cndf,cv,bk,t15,ck,hh,xtr_eq,List.getElem?_cons_zero,List.getElem?_cons_succ,List.getD_cons_zero,List.getD_cons_succ,cellsA,cndt,tW,tR,tR2,tO1,tO2,p5,p9,p2,l15,e1,e2,e3,e4,bds]
    rw [if_neg c2]
    by_cases c3:k=6
    · rw [if_pos c3]
      have hh:Q2n.r (.int .i64 k) s0=some (.tuple ⟨[.bool true,.bool true,.bool false,.bool false]⟩):=by simp only [Q2n.r,Q2n.t,sy,reduceIte,Nat.reduceAdd,Nat.reduceLeDiff,Nat.reduceLT,Nat.reduceEqDiff,Int.reduceEq,Int.reduceLT,Int.reduceLE,Int.reduceNe,ly,c3]
      obtain ⟨w1,s1,e1,_,h1,r1⟩:=rtake_v kd5 h0
      obtain ⟨w2,s2,e2,_,h2,r2⟩:=rtake_v kd7 h1
      refine ⟨s2,?_,h2,((r0.trans r1).trans r2)⟩
      simp only [std_bd,std_cnd,std_gd,z15,e0,ep,hgt,cndf,cv,bk,t15,ck,hh,xtr_eq,List.getElem?_cons_zero,List.getElem?_cons_succ,List.getD_cons_zero,List.getD_cons_succ,cellsA,cndt,tW,tR,tR2,tO1,tO2,p5,p9,p2,l15,e1,e2,bds]
    rw [if_neg c3]
    by_cases c4:k=7
    · rw [if_pos c4]
      have hh:Q2n.r (.int .i64 k) s0=some (.tuple ⟨[.bool true,.bool true,.bool true,.bool true]⟩):=by simp only [Q2n.r,Q2n.t,sy,reduceIte,Nat.reduceAdd,Nat.reduceLeDiff,Nat.reduceLT,Nat.reduceEqDiff,Int.reduceEq,Int.reduceLT,Int.reduceLE,Int.reduceNe,ly,c4]
      obtain ⟨w1,s1,e1,_,h1,r1⟩:=rtake_v kd5 h0
      obtain ⟨w2,s2,e2,_,h2,r2⟩:=rtake_v kd7 h1
      obtain ⟨w3,s3,e3,_,h3,r3⟩:=rtake_v kd7 h2
      obtain ⟨w4,s4,e4,_,h4,r4⟩:=rtake_v kd2 h3
      obtain ⟨w5,s5,e5,_,h5,r5⟩:=rtake_v kd2 h4
      refine ⟨s5,?_,h5,(((((r0.trans r1).trans r2).trans r3).trans r4).trans r5)⟩
      simp only [std_bd,std_cnd,std_gd,z15,e0,ep,hgt,cndf,cv,bk,t15,ck,hh,xtr_eq,List.getElem?_cons_zero,List.getElem?_cons_succ,List.getD_cons_zero,List.getD_cons_succ,cellsA,cndt,tW,tR,tR2,tO1,tO2,p5,p9,p2,l15,e1,e2,e3,e4,e5,bds]
    rw [if_neg c4]
    have k3:¬ k=3:=fun e=>c1 (.inl e)
    have k4:¬ k=4:=fun e=>c1 (.inr (.inl e))
    have k8:¬ k=8:=fun e=>c1 (.inr (.inr e))
    have hh:Q2n.r (.int .i64 k) s0=some (.tuple ⟨[.bool false,.bool false,.bool false,.bool false]⟩):=by simp only [Q2n.r,Q2n.t,sy,reduceIte,Nat.reduceAdd,Nat.reduceLeDiff,Nat.reduceLT,Nat.reduceEqDiff,Int.reduceEq,Int.reduceLT,Int.reduceLE,Int.reduceNe,ly,c0,c2,c3,c4,k3,k4,k8]
    refine ⟨s0,?_,h0,r0⟩
    simp only [std_bd,std_cnd,std_gd,z15,e0,ep,hgt,cndf,cv,bk,t15,ck,hh,xtr_eq,List.getElem?_cons_zero,List.getElem?_cons_succ,List.getD_cons_zero,List.getD_cons_succ,cellsA,cndt,tW,tR,tR2,tO1,tO2,p5,p9,p2,l15,bds]
end
end Go.Proofs.Yteapmnolmfickaa
/-
  Reading a packet: Decode of both.
-/
set_option linter.unusedSimpArgs false
set_option linter.unusedVariables false
set_option maxRecDepth 100000
set_option maxHeartbeats 4000000
namespace Go.Proofs.Yteapmnolmfickaa
open Go.Sim Go.Sim.Bt
attribute [local congr] bdc cndc itec gdc gdSc gdUc
def setRep (t:Bool):Pk:={ zPk with rep:=t }
def setFrom (p:Pk) (x:Bool) (n:Int):Pk:={ p with fa:=x,fn:=n }
def setTo (p:Pk) (x:Bool) (n:Int):Pk:={ p with ta:=x,tn:=n }
def setId (p:Pk) (n:Int):Pk:={ p with id:=n }
def setAns (p:Pk) (a:Ans):Pk:={ p with ans:=a }
def setAsk (p:Pk) (a:AskP):Pk:={ p with ask:=a }
def setV (p:Pk) (w:Value):Pk:={ p with ans:={ p.ans with v:=w } }
def hdP (bs:List Int):Pk:=setId (setTo (setFrom (setRep (takeP 3 (bs,true)).1.1.t) (addrP (takeP 3 (bs,true)).2).1.1 (addrP (takeP 3 (bs,true)).2).1.2) (addrP (addrP (takeP 3 (bs,true)).2).2).1.1 (addrP (addrP (takeP 3 (bs,true)).2).2).1.2) (takeP 2 (addrP (addrP (takeP 3 (bs,true)).2).2).2).1.1.i
def hdS (bs:List Int):RS:=(takeP 2 (addrP (addrP (takeP 3 (bs,true)).2).2).2).2
def decG (A:RS→AskP×RS) (bs:List Int):Pk×List Int×Bool :=
  if (takeP 3 (bs,true)).1.1.t=true then (setAns (hdP bs) (ansP (hdS bs)).1.1,(ansP (hdS bs)).1.2,(ansP (hdS bs)).2.2)
  else (setAsk (hdP bs) (A (hdS bs)).1,[],(A (hdS bs)).2.2)
def okD (D:Pk×List Int×Bool) (bs:List Int):Prop:=D.2.2=true∧okPk D.1 ⟨⟨bts D.2.1⟩⟩ D.2.1.length∧wBs ((encF D.1).map (fb D.2.1))=bs
open Classical in
noncomputable def decX (A:RS→AskP×RS) (bs:List Int):Pk×List Int×Int :=
  if okD (decG A bs) bs then ((decG A bs).1,(decG A bs).2.1,0) else (zPk,[],40)
theorem hd_y {bs:List Int} (hy:okY bs):okY (hdS bs).1∧i64R (hdP bs).fn∧i64R (hdP bs).tn∧i64R (hdP bs).id:=by
  obtain ⟨_,_,_,h1⟩:=takeP_a (σ:=(bs,true)) hy kd3
  obtain ⟨h2,h3⟩:=addrP_a h1
  obtain ⟨h4,h5⟩:=addrP_a h3
  obtain ⟨h6,_,_,h7⟩:=takeP_a h5 kd2
  exact ⟨h7,h2,h4,⟨h6.i0,h6.i1⟩⟩
def R3 (r:Rf):Prop:=i64R r.id∧u64R r.n∧0≤r.bt
def AskA (a:AskP):Prop:=0≤a.wb∧R3 a.r∧R3 a.r2∧i64R a.oa∧i64R a.oo
theorem a0K_a (k:Int):AskA (a0K k):=⟨by simp [a0K],zR_a,zR_a,by unfold i64R a0K; simp,by unfold i64R a0K; simp⟩
theorem setW_a {a:AskP} {f:Fd} (h:AskA a) (g:FdA f):AskA (setW a f):=⟨g.vb,h.2⟩
theorem setR_a {a:AskP} {f:Fd} (h:AskA a) (g:FdA f):AskA (setR a f):=⟨h.1,rfOf_a g,h.2.2⟩
theorem setR2_a {a:AskP} {f:Fd} (h:AskA a) (g:FdA f):AskA (setR2 a f):=⟨h.1,h.2.1,rfOf_a g,h.2.2.2⟩
theorem setO1_a {a:AskP} {f:Fd} (h:AskA a) (g:FdA f):AskA (setO1 a f):=⟨h.1,h.2.1,h.2.2.1,⟨g.i0,g.i1⟩,h.2.2.2.2⟩
theorem setO2_a {a:AskP} {f:Fd} (h:AskA a) (g:FdA f):AskA (setO2 a f):=⟨h.1,h.2.1,h.2.2.1,h.2.2.2.1,⟨g.i0,g.i1⟩⟩
theorem raskQ_a {k:Int} {τ:RS} (hy:okY τ.1):AskA (raskQ k τ).1:=by
  have t:=fun {σ:RS} (h:okY σ.1)=>takeP_a h kd5
  have t2:=fun {σ:RS} (h:okY σ.1)=>takeP_a h kd2
  have t7:=fun {σ:RS} (h:okY σ.1)=>takeP_a h kd7
  have z:=a0K_a k
  obtain ⟨w1,_,_,w2⟩:=t hy
  unfold raskQ
  split
  · exact setW_a z w1
  · split
    · obtain ⟨o1,_,_,o2⟩:=t2 w2
      obtain ⟨q1,_,_,q2⟩:=t2 o2
      exact setO2_a (setO1_a (setW_a z w1) o1) q1
    · obtain ⟨r1,_,_,r2⟩:=t7 w2
      split
      · obtain ⟨o1,_,_,o2⟩:=t2 r2
        obtain ⟨q1,_,_,q2⟩:=t2 o2
        exact setO2_a (setO1_a (setR_a (setW_a z w1) r1) o1) q1
      · split
        · exact setR_a (setW_a z w1) r1
        · split
          · obtain ⟨x1,_,_,x2⟩:=t7 r2
            obtain ⟨o1,_,_,o2⟩:=t2 x2
            obtain ⟨q1,_,_,q2⟩:=t2 o2
            exact setO2_a (setO1_a (setR2_a (setR_a (setW_a z w1) r1) x1) o1) q1
          · exact z
theorem pkA_ans {bs:List Int} (hy:okY bs) {a:Ans} (h:AnsA a) (w:Value):PkA (setV (setAns (hdP bs) a) w)∧PkR (setV (setAns (hdP bs) a) w):=by
  obtain ⟨_,h1,h2,h3⟩:=hd_y hy
  obtain ⟨z1,z2,z3,z4,z5⟩:=a0K_a 0
  exact ⟨⟨z1,z2.2.2,z3.2.2,h.1.2.2,h.2.1.2.2⟩,⟨h1,h2,h3,z4,z5,z2.1,z2.2.1,z3.1,z3.2.1,h.1.1,h.1.2.1,h.2.1.1,h.2.1.2.1⟩⟩
theorem pkA_ask {bs:List Int} (hy:okY bs) {a:AskP} (h:AskA a) (w:Value):PkA (setV (setAsk (hdP bs) a) w)∧PkR (setV (setAsk (hdP bs) a) w):=by
  obtain ⟨_,h1,h2,h3⟩:=hd_y hy
  obtain ⟨z1,z2,z3,z4,z5⟩:=h
  exact ⟨⟨z1,z2.2.2,z3.2.2,zR_a.2.2,zR_a.2.2⟩,⟨h1,h2,h3,z4,z5,z2.1,z2.2.1,z3.1,z3.2.1,zR_a.1,zR_a.2.1,zR_a.1,zR_a.2.1⟩⟩
theorem dec_a {bs:List Int} (hy:okY bs):okY (decG raskR bs).2.1∧(decG raskR bs).2.1.length≤65536∧∀ w,PkA (setV (decG raskR bs).1 w)∧PkR (setV (decG raskR bs).1 w):=by
  obtain ⟨h0,_⟩:=hd_y hy
  unfold decG
  split
  · obtain ⟨h1,h2,h3⟩:=ansP_a h0
    exact ⟨h2,h3,fun w=>pkA_ans hy h1 w⟩
  · exact ⟨okY_nil,by simp,fun w=>pkA_ask hy (raskQ_a (kindP_a h0).2) w⟩
theorem dec_yes {bs:List Int} (hy:okY bs) (h:(decG askR bs).2.2=true):decG raskR bs=decG askR bs:=by
  obtain ⟨h0,_⟩:=hd_y hy
  unfold decG at h ⊢
  split
  · rfl
  · rename_i c
    rw [if_neg c] at h
    have:raskR (hdS bs)=askR (hdS bs):=raskQ_yes (kindP_a h0).2 h
    rw [this]
theorem askQ_snd {k:Int} {τ:RS} {L:List Int} (hy:okY τ.1) (h:needsP k=some L):(raskQ k τ).2=(askQ k τ).2:=by
  unfold askQ
  rw [h]
  unfold needsP at h
  unfold raskQ
  split at h
  · rename_i c
    cases h
    rw [if_pos c]; rfl
  · rename_i c0
    rw [if_neg c0]
    split at h
    · rename_i c
      cases h
      rw [if_pos c]; rfl
    · rename_i c1
      rw [if_neg c1]
      split at h
      · rename_i c
        cases h
        rw [if_pos c]; rfl
      · rename_i c2
        rw [if_neg c2]
        split at h
        · rename_i c
          cases h
          rw [if_pos c]; rfl
        · rename_i c3
          rw [if_neg c3]
          split at h
          · rename_i c
            cases h
            rw [if_pos c]; rfl
          · rename_i c4
            rw [if_neg c4]
            split at h
            · cases h; rfl
            · cases h
theorem dec_no {bs:List Int} (hy:okY bs) (h:¬ (decG askR bs).2.2=true):¬ okD (decG raskR bs) bs:=by
  obtain ⟨h0,_⟩:=hd_y hy
  rintro ⟨h1,h2,_⟩
  apply h
  unfold decG at h h1 h2 ⊢
  split
  · rename_i c
    rw [if_pos c] at h1
    exact h1
  · rename_i c
    rw [if_neg c] at h1 h2
    have hrep:(setAsk (hdP bs) (raskR (hdS bs)).1).rep=false:=by
      have:(setAsk (hdP bs) (raskR (hdS bs)).1).rep=(takeP 3 (bs,true)).1.1.t:=rfl
      rw [this]
      simpa using c
    have hok:okA (raskR (hdS bs)).1:=by
      rcases h2.2 with h2 | h2
      · have e:=h2.1
        rw [hrep] at e
        cases e
      · exact h2.2.2
    show (askQ _ _).2.2=true
    have h1:(raskQ (kindP (hdS bs)).1 (kindP (hdS bs)).2).2.2=true:=h1
    cases hn:needsP (kindP (hdS bs)).1 with
    | none =>
      exfalso
      have e:(raskR (hdS bs)).1=a0K (kindP (hdS bs)).1:=by unfold raskR; rw [raskQ_no hn]
      rw [e] at hok
      have hk:=hok.1
      have hk:1≤(kindP (hdS bs)).1∧(kindP (hdS bs)).1≤10:=hk
      generalize (kindP (hdS bs)).1=k at *
      have hc:k=1∨k=2∨k=3∨k=4∨k=5∨k=6∨k=7∨k=8∨k=9∨k=10:=by omega
      rcases hc with rfl | rfl | rfl | rfl | rfl | rfl | rfl | rfl | rfl | rfl <;> cases hn
    | some L =>
      rw [← askQ_snd (kindP_a h0).2 hn]
      exact h1
theorem dec_same {bs:List Int} (hy:okY bs):decX askR bs=decX raskR bs:=by
  by_cases h:(decG askR bs).2.2=true
  · unfold decX
    rw [dec_yes hy h]
  · unfold decX
    rw [if_neg (fun e=>h e.1),if_neg (dec_no hy h)]
theorem wBs_V (p:Pk) (w:Value) (lb:List Int):wBs ((encF (setV p w)).map (fb lb))=wBs ((encF p).map (fb lb)):=by
  have e:∀ v,wBs (([mB v]:List Fd).map (fb lb))=wB (mB nilB) (fb lb (mB nilB)).2++[]:=fun _=>rfl
  have h:∀ a:Ans,wBs ((ansF { a with v:=w }).map (fb lb))=wBs ((ansF a).map (fb lb)):=by
    rintro ⟨k,f,l,r,v⟩
    show wBs ((ansF ⟨k,f,l,r,w⟩).map (fb lb))=_
    unfold ansF
    dsimp only
    rw [List.map_cons,List.map_cons,List.map_append,List.map_append]
    show wB _ _++wBs _=wB _ _++wBs _
    rw [wBs_app,wBs_app]
    by_cases c:k=1
    · rw [if_pos c,if_pos c,e,e]
    · rw [if_neg c,if_neg c]
  unfold encF
  rw [List.map_append,List.map_append,wBs_app,wBs_app]
  have e1:(setV p w).rep=p.rep:=rfl
  rw [e1]
  split
  · have:(setV p w).ans = { p.ans with v:=w }:=rfl
    rw [this,h]
    rfl
  · rfl
def DecIs (s:St) (P:Pk×List Int×Int) (r:Option (Value×St)):Prop :=
  ∃ w s',r=some (.tuple ⟨[.agg ⟨(setV P.1 w).cs⟩,.int .i64 P.2.2]⟩,s')∧More s s'∧Fresh s'∧Ful s.n s' 1 w (br P.2.1)
theorem bytesEq_r {s:St} {v w:Value} {x y:ByteArray} (hv:b2s s v=some (.string x)) (hw:b2s s w=some (.string y)):Q0.r v w s=some (.bool (@decide (x=y) (Classical.propDecidable _))):=by
  by_cases h:x=y
  · rw [@decide_eq_true _ (Classical.propDecidable _) h]
    simp only [Q0.r,Q0.t,hv,hw,sy,reduceIte,Nat.reduceAdd,Nat.reduceLeDiff,Nat.reduceLT,Nat.reduceEqDiff,Int.reduceEq,Int.reduceLT,Int.reduceLE,Int.reduceNe,ly,eq_true h]
  · rw [@decide_eq_false _ (Classical.propDecidable _) h]
    simp only [Q0.r,Q0.t,hv,hw,sy,reduceIte,Nat.reduceAdd,Nat.reduceLeDiff,Nat.reduceLT,Nat.reduceEqDiff,Int.reduceEq,Int.reduceLT,Int.reduceLE,Int.reduceNe,ly,eq_false h]
theorem bts_iff {X bs:List Int} (h:okY X) (k:okY bs):((⟨⟨bts X⟩⟩:ByteArray)=⟨⟨bts bs⟩⟩)↔X=bs:=by
  constructor
  · intro e
    have e:=congrArg (fun b:ByteArray=>b.data.toList) e
    exact bts_inj h k e
  · rintro rfl; rfl
theorem z34:bx (.agg #[.bool false,.bool false,.int .i64 0,.bool false,.int .i64 0,.int .i64 0,.int .i64 0,.int .i64 0,.int .u64 0,.int .i64 0,.int .i64 0,.int .u64 0,.int .i64 0,.int .u64 0,.int .i64 0,.int .i64 0,.int .u64 0,.int .i64 0,.int .u64 0,.int .i64 0,.int .i64 0,.int .i64 0,.bool false,.int .i64 0,.int .i64 0,.int .u64 0,.int .i64 0,.int .u64 0,.int .i64 0,.int .i64 0,.int .u64 0,.int .i64 0,.int .u64 0,.slice none 0 0])=some zPk.cs:=rfl
theorem b34:bld [.bool false,.bool false,.int .i64 0,.bool false,.int .i64 0,.int .i64 0,.int .i64 0,.int .i64 0,.int .u64 0,.int .i64 0,.int .i64 0,.int .u64 0,.int .i64 0,.int .u64 0,.int .i64 0,.int .i64 0,.int .u64 0,.int .i64 0,.int .u64 0,.int .i64 0,.int .i64 0,.int .i64 0,.bool false,.int .i64 0,.int .i64 0,.int .u64 0,.int .i64 0,.int .u64 0,.int .i64 0,.int .i64 0,.int .u64 0,.int .i64 0,.int .u64 0,.slice none 0 0] []=some (.agg ⟨zPk.cs⟩):=rfl
theorem b34t (t:Bool):bld [.bool false,.bool false,.int .i64 0,.bool false,.int .i64 0,.int .i64 0,.int .i64 0,.int .i64 0,.int .u64 0,.int .i64 0,.int .i64 0,.int .u64 0,.int .i64 0,.int .u64 0,.int .i64 0,.int .i64 0,.int .u64 0,.int .i64 0,.int .u64 0,.int .i64 0,.int .i64 0,.int .i64 0,.bool false,.int .i64 0,.int .i64 0,.int .u64 0,.int .i64 0,.int .u64 0,.int .i64 0,.int .i64 0,.int .u64 0,.int .i64 0,.int .u64 0,.slice none 0 0] [(0,1,.bool t)]=some (.agg ⟨(setRep t).cs⟩):=rfl
theorem t34 (p:Pk):stl zPk.cs 0 34 (.agg ⟨p.cs⟩)=some p.cs:=rfl
theorem l34 (p:Pk):lal p.cs 0 34=some (.agg ⟨p.cs⟩):=rfl
theorem c34 (p:Pk):lcl p.cs 0=some (.bool p.rep):=rfl
theorem tFrom (p:Pk) (x:Bool) (n:Int):stl p.cs 1 2 (.agg ⟨[.bool x,.int .i64 n]⟩)=some (setFrom p x n).cs:=rfl
theorem tTo (p:Pk) (x:Bool) (n:Int):stl p.cs 3 2 (.agg ⟨[.bool x,.int .i64 n]⟩)=some (setTo p x n).cs:=rfl
theorem tId (p:Pk) (n:Int):stl p.cs 5 1 (.int .i64 n)=some (setId p n).cs:=rfl
theorem tAns (p:Pk) (a:Ans):stl p.cs 21 13 (.agg ⟨a.cs⟩)=some (setAns p a).cs:=rfl
theorem tAsk (p:Pk) (a:AskP):stl p.cs 6 15 (.agg ⟨aC a⟩)=some (setAsk p a).cs:=rfl
open Classical in
theorem dec_end {s:St} {p:Pk} {lb bs:List Int} {bv r:Value} (f:Fresh s) (hA:PkA p) (hR:PkR p) (hv:Byt s p.ans.v (br lb)) (hy:okY lb) (hl:lb.length≤65536) (hb:Byt s bv (br bs)) (hyb:okY bs) :
    ∃ s',Qg.t.p1 std (0,[bv,r,.agg ⟨zPk.cs⟩,.agg ⟨p.cs⟩],s)=some (.tuple ⟨[.agg ⟨(if okPk p ⟨⟨bts lb⟩⟩ lb.length∧wBs ((encF p).map (fb lb))=bs then p else zPk).cs⟩,.int .i64 (if okPk p ⟨⟨bts lb⟩⟩ lb.length∧wBs ((encF p).map (fb lb))=bs then 0 else 40)]⟩,s')∧More s s'∧Fresh s':=by
  have nt:un .not (.bool true)=some (.bool false):=rfl
  have nf:un .not (.bool false)=some (.bool true):=rfl
  unfold Qg.t.p1
  by_cases ok:okPk p ⟨⟨bts lb⟩⟩ lb.length
  · obtain ⟨w,s1,e1,e2,e3,e4⟩:=encode_v p f hA hR (MsgApart.vb_of hv) hv hl ok
    obtain ⟨o1,_⟩:=MsgApart.enc_ok hA hR hy hl ok
    have n0:eqb [1] false true (.int .i64 0) (.int .i64 0)=some (.bool false):=rfl
    have q1:=byt_b2s (hb.mr e2 f)
    have q2:=byt_b2s e3.byt
    have be:=bytesEq_r q2 q1
    have hi:=bts_iff o1 hyb
    by_cases c:wBs ((encF p).map (fb lb))=bs
    · rw [@decide_eq_true _ (Classical.propDecidable _) (hi.2 c)] at be
      rw [if_pos ⟨ok,c⟩,if_pos ⟨ok,c⟩]
      refine ⟨s1,?_,e2,e4⟩
      simp only [std_bd,std_cnd,std_gd,List.getD_cons_zero,List.getD_cons_succ,cellsA,l34,e1,xtr_eq,List.getElem?_cons_zero,List.getElem?_cons_succ,n0,gdff,be,nt,pikf,cndf,t34,bds]
    · rw [@decide_eq_false _ (Classical.propDecidable _) (fun e=>c (hi.1 e))] at be
      rw [if_neg (fun e=>c e.2),if_neg (fun e=>c e.2)]
      refine ⟨s1,?_,e2,e4⟩
      simp only [std_bd,std_cnd,std_gd,List.getD_cons_zero,List.getD_cons_succ,cellsA,l34,e1,xtr_eq,List.getElem?_cons_zero,List.getElem?_cons_succ,n0,gdff,be,nf,pikf,cndt,b34,t34,bds]
  · have e1:=encode_no p f hA (MsgApart.vb_of hv) ok
    have n0:eqb [1] false true (.int .i64 40) (.int .i64 0)=some (.bool true):=rfl
    rw [if_neg (fun e=>ok e.1),if_neg (fun e=>ok e.1)]
    refine ⟨s,?_,.refl _,f⟩
    simp only [std_bd,std_cnd,std_gd,List.getD_cons_zero,List.getD_cons_succ,cellsA,l34,e1,xtr_eq,List.getElem?_cons_zero,List.getElem?_cons_succ,n0,gdtf,gdun,pikt,cndt,b34,t34,bds]
theorem dr_new {fl:Bool→Bool} {s:St} {bv:Value} {bs:List Int} (hF:Fresh s) (hb:Byt s bv (br bs)) (hr:Rmy bv) (hy:okY bs) (hl:bs.length≤100000000):DrAt fl s.n s.n (bs,true) (s.new (.row 2 [[bv,.bool (fl true)]] false)) :=
  ⟨hF.new,⟨bv,get_new_same,(hb.pers hF).to fun x hx=>(More.new (x:=.row 2 [[bv,.bool (fl true)]] false)).old x hx,hr⟩,Nat.le_refl _,hy,hl⟩
theorem more_rd {s s1 s':St} (m:More s s1) (h:RdS s.n s1 s') (f:Fresh s'):More s s':=⟨Nat.le_trans m.n h.n,fun x hx=>by rw [h.keep x (Nat.lt_of_lt_of_le hx m.n) (by omega),m.old x hx],fun _=>f⟩
theorem decode_v {s:St} {bv:Value} {bs:List Int} (hF:Fresh s) (hb:Byt s bv (br bs)) (hr:Rmy bv) (hy:okY bs) (hl:bs.length≤100000000):DecIs s (decX askR bs) (Qg.v bv s):=by
  have hbx:=hb.bx
  have B1:bld [.slice none 0 0,.bool false] [(0,1,bv),(1,1,.bool true)]=some (.agg ⟨[bv,.bool true]⟩):=by simp only [sy,reduceIte,Nat.reduceAdd,Nat.reduceLeDiff,Nat.reduceLT,Nat.reduceEqDiff,Int.reduceEq,Int.reduceLT,Int.reduceLE,Int.reduceNe,ly,hbx]
  have A1:alv s (.agg ⟨[bv,.bool true]⟩)=some (rpt s.n,s.new (.row 2 [[bv,.bool true]] false)):=rfl
  have h0:DrAt id s.n s.n (bs,true) (s.new (.row 2 [[bv,.bool true]] false)):=dr_new hF hb hr hy hl
  have m0:More s (s.new (.row 2 [[bv,.bool true]] false)):=.new
  generalize s.new (.row 2 [[bv,.bool true]] false)=s0 at *
  obtain ⟨w1,s1,e1,_,h1,r1⟩:=take_v kd3 h0
  obtain ⟨s2,e2,h2,r2⟩:=addr_v h1
  obtain ⟨s3,e3,h3,r3⟩:=addr_v h2
  obtain ⟨w4,s4,e4,_,h4,r4⟩:=take_v kd2 h3
  have r04:=((r1.trans r2).trans r3).trans r4
  have ep:=p3 (takeP 3 (bs,true)).1.1 w1
  have eq:=p2 (takeP 2 (addrP (addrP (takeP 3 (bs,true)).2).2).2).1.1 w4
  generalize ({ (takeP 3 (bs,true)).1.1 with b:=w1 }:Fd).v=V1 at e1 ep
  generalize ({ (takeP 2 (addrP (addrP (takeP 3 (bs,true)).2).2).2).1.1 with b:=w4 }:Fd).v=V4 at e4 eq
  have hdS_:hdS bs=(takeP 2 (addrP (addrP (takeP 3 (bs,true)).2).2).2).2:=rfl
  rw [← hdS_] at h4
  have hrep:(hdP bs).rep=(takeP 3 (bs,true)).1.1.t:=rfl
  have hhd:setId (setTo (setFrom (setRep (takeP 3 (bs,true)).1.1.t) (addrP (takeP 3 (bs,true)).2).1.1 (addrP (takeP 3 (bs,true)).2).1.2) (addrP (addrP (takeP 3 (bs,true)).2).2).1.1 (addrP (addrP (takeP 3 (bs,true)).2).2).1.2) (takeP 2 (addrP (addrP (takeP 3 (bs,true)).2).2).2).1.1.i=hdP bs:=rfl
  have nt:un .not (.bool true)=some (.bool false):=rfl
  have nf:un .not (.bool false)=some (.bool true):=rfl
  have n1':nck (rpt s.n)=some (rpt s.n):=rfl
  have fl1:fld 1 (rpt s.n)=some (.pointer (some ⟨s.n,0,some 1⟩)):=rfl
  have hD:=@dec_a bs hy
  have hY:=@dec_yes bs hy
  unfold decX
  unfold Qg.v Qg.t Qg.t.p2
  by_cases c:(takeP 3 (bs,true)).1.1.t=true
  · obtain ⟨w,s5,e5,u5,h5,r5⟩:=answer_v h4
    have r05:=r04.trans r5
    have m5:=more_rd m0 r05 h5.fr
    have hc:(hdP bs).rep=true:=hrep.trans c
    have hG:decG askR bs=(setAns (hdP bs) (ansP (hdS bs)).1.1,(ansP (hdS bs)).1.2,(ansP (hdS bs)).2.2):=by unfold decG; rw [if_pos c]
    obtain ⟨v5,g5,_⟩:=h5.row
    have d5:ldc s5 (.pointer (some ⟨s.n,0,some 1⟩))=some (.bool (ansP (hdS bs)).2.2):=by rw [ldc_row g5]; rfl
    cases ho:(ansP (hdS bs)).2.2 with
    | false =>
      rw [ho] at d5
      rw [if_neg (fun e=>by have:=e.1; rw [hG] at this; simp only [ho] at this; cases this)]
      refine ⟨nilB,s5,?_,m5,h5.fr,.inl ⟨rfl,rfl⟩⟩
      simp only [std_bd,std_cnd,std_gd,z34,B1,A1,e1,ep,b34t,t34,e2,tFrom,e3,tTo,e4,eq,tId,hhd,c34,hc,cndt,e5,tAns,List.getD_cons_zero,List.getD_cons_succ,cellsA,n1',fl1,d5,nf,b34,l34,bds]
      rfl
    | true =>
      rw [ho] at d5
      have hok:(decG askR bs).2.2=true:=by rw [hG]; exact ho
      rw [hY hok,hG] at hD
      obtain ⟨a1,a2,a3⟩:=hD
      obtain ⟨b1,b2⟩:=a3 w
      obtain ⟨s6,x1,x2,x3⟩:=dec_end (r:=rpt s.n) h5.fr b1 b2 u5.byt a1 a2 (hb.mr m5 hF) hy
      have hu:Ful s.n s6 1 w (br (ansP (hdS bs)).1.2):=(u5.more x2 h5.fr).le (by have:=(m0.n); have:=r04.n; omega)
      have run:Qg.v bv s=Qg.t.p1 std (0,[bv,rpt s.n,.agg ⟨zPk.cs⟩,.agg ⟨(setV (setAns (hdP bs) (ansP (hdS bs)).1.1) w).cs⟩],s5):=by
        unfold Qg.v Qg.t Qg.t.p2
        simp only [std_bd,std_cnd,std_gd,z34,B1,A1,e1,ep,b34t,t34,e2,tFrom,e3,tTo,e4,eq,tId,hhd,c34,hc,cndt,e5,tAns,List.getD_cons_zero,List.getD_cons_succ,cellsA,n1',fl1,d5,nt,cndf,bds]
        rfl
      have run':Qg.v bv s=_:=run.trans x1
      unfold Qg.v Qg.t Qg.t.p2 at run'
      rw [run',wBs_V]
      have hokV:okPk (setV (setAns (hdP bs) (ansP (hdS bs)).1.1) w) ⟨⟨bts (ansP (hdS bs)).1.2⟩⟩ (ansP (hdS bs)).1.2.length=okPk (setAns (hdP bs) (ansP (hdS bs)).1.1) ⟨⟨bts (ansP (hdS bs)).1.2⟩⟩ (ansP (hdS bs)).1.2.length:=rfl
      rw [hokV,hG]
      unfold okD
      by_cases k:okPk (setAns (hdP bs) (ansP (hdS bs)).1.1) ⟨⟨bts (ansP (hdS bs)).1.2⟩⟩ (ansP (hdS bs)).1.2.length∧wBs ((encF (setAns (hdP bs) (ansP (hdS bs)).1.1)).map (fb (ansP (hdS bs)).1.2))=bs
      · rw [if_pos k,if_pos k,if_pos ⟨ho,k⟩]
        exact ⟨w,s6,rfl,m5.trans x2,x3,hu⟩
      · rw [if_neg k,if_neg k,if_neg (fun e=>k e.2)]
        exact ⟨nilB,s6,rfl,m5.trans x2,x3,.inl ⟨rfl,rfl⟩⟩
  · obtain ⟨s5,e5,h5,r5⟩:=ask_read h4
    have r05:=r04.trans r5
    have m5:=more_rd m0 r05 h5.fr
    have hc:(hdP bs).rep=false:=hrep.trans (by simpa using c)
    have hG:decG askR bs=(setAsk (hdP bs) (askR (hdS bs)).1,[],(askR (hdS bs)).2.2):=by unfold decG; rw [if_neg c]
    obtain ⟨v5,g5,_⟩:=h5.row
    have d5:ldc s5 (.pointer (some ⟨s.n,0,some 1⟩))=some (.bool (askR (hdS bs)).2.2):=by rw [ldc_row g5]; rfl
    cases ho:(askR (hdS bs)).2.2 with
    | false =>
      rw [ho] at d5
      rw [if_neg (fun e=>by have:=e.1; rw [hG] at this; simp only [ho] at this; cases this)]
      refine ⟨nilB,s5,?_,m5,h5.fr,.inl ⟨rfl,rfl⟩⟩
      simp only [std_bd,std_cnd,std_gd,z34,B1,A1,e1,ep,b34t,t34,e2,tFrom,e3,tTo,e4,eq,tId,hhd,c34,hc,cndf,e5,tAsk,List.getD_cons_zero,List.getD_cons_succ,cellsA,n1',fl1,d5,nf,cndt,b34,l34,bds]
      rfl
    | true =>
      rw [ho] at d5
      have hok:(decG askR bs).2.2=true:=by rw [hG]; exact ho
      rw [hY hok,hG] at hD
      obtain ⟨a1,a2,a3⟩:=hD
      obtain ⟨b1,b2⟩:=a3 nilB
      obtain ⟨s6,x1,x2,x3⟩:=dec_end (r:=rpt s.n) (lb:=[]) h5.fr b1 b2 (byt_nil s5) a1 a2 (hb.mr m5 hF) hy
      have run:Qg.v bv s=Qg.t.p1 std (0,[bv,rpt s.n,.agg ⟨zPk.cs⟩,.agg ⟨(setV (setAsk (hdP bs) (askR (hdS bs)).1) nilB).cs⟩],s5):=by
        unfold Qg.v Qg.t Qg.t.p2
        simp only [std_bd,std_cnd,std_gd,z34,B1,A1,e1,ep,b34t,t34,e2,tFrom,e3,tTo,e4,eq,tId,hhd,c34,hc,cndf,e5,tAsk,List.getD_cons_zero,List.getD_cons_succ,cellsA,n1',fl1,d5,nt,bds]
        rfl
      have run':Qg.v bv s=_:=run.trans x1
      unfold Qg.v Qg.t Qg.t.p2 at run'
      rw [run',wBs_V]
      have hokV:okPk (setV (setAsk (hdP bs) (askR (hdS bs)).1) nilB) ⟨⟨bts []⟩⟩ ([]:List Int).length=okPk (setAsk (hdP bs) (askR (hdS bs)).1) ⟨⟨bts []⟩⟩ ([]:List Int).length:=rfl
      rw [hokV,hG]
      unfold okD
      by_cases k:okPk (setAsk (hdP bs) (askR (hdS bs)).1) ⟨⟨bts []⟩⟩ ([]:List Int).length∧wBs ((encF (setAsk (hdP bs) (askR (hdS bs)).1)).map (fb []))=bs
      · rw [if_pos k,if_pos k,if_pos ⟨ho,k⟩]
        exact ⟨nilB,s6,rfl,m5.trans x2,x3,.inl ⟨rfl,rfl⟩⟩
      · rw [if_neg k,if_neg k,if_neg (fun e=>k e.2)]
        exact ⟨nilB,s6,rfl,m5.trans x2,x3,.inl ⟨rfl,rfl⟩⟩
end Go.Proofs.Yteapmnolmfickaa
/-
  Reading a packet: the reference's Decode; what was written is read.
-/
set_option linter.unusedSimpArgs false
set_option linter.unusedVariables false
set_option maxRecDepth 100000
set_option maxHeartbeats 4000000
namespace Go.Proofs.Yteapmnolmfickaa
open Go.Sim Go.Sim.Bt
attribute [local congr] bdc cndc itec gdc gdSc gdUc
theorem renc_end {s:St} {p:Pk} {lb bs:List Int} (f:Fresh s) (hA:PkA p) (hR:PkR p) (hv:Byt s p.ans.v (br lb)) (hy:okY lb) (hl:lb.length≤65536) :
    ∃ own er s',Q2a.v (.agg ⟨p.cs⟩) s=some (.tuple ⟨[own,.int .i64 er]⟩,s')∧More s s'∧Fresh s' ∧
      ((er=0∧okPk p ⟨⟨bts lb⟩⟩ lb.length∧b2s s' own=some (.string ⟨⟨bts (wBs ((encF p).map (fb lb)))⟩⟩)∧okY (wBs ((encF p).map (fb lb))))∨(er=40∧¬ okPk p ⟨⟨bts lb⟩⟩ lb.length)):=by
  by_cases ok:okPk p ⟨⟨bts lb⟩⟩ lb.length
  · obtain ⟨w,s1,e1,e2,e3,e4⟩:=rencode_v p f hA hR (MsgApart.vb_of hv) hv hl ok
    obtain ⟨o1,_⟩:=MsgApart.enc_ok hA hR hy hl ok
    exact ⟨w,0,s1,e1,e2,e4,.inl ⟨rfl,ok,byt_b2s e3.byt,o1⟩⟩
  · exact ⟨nilB,40,s,rencode_no p f hA (MsgApart.vb_of hv) ok,.refl _,f,.inr ⟨rfl,ok⟩⟩
theorem rdecode_v {s:St} {bv:Value} {bs:List Int} (hF:Fresh s) (hb:Byt s bv (br bs)) (hr:Rmy bv) (hy:okY bs) (hl:bs.length≤100000000):DecIs s (decX raskR bs) (Q29.v bv s):=by
  have hbx:=hb.bx
  have B1:bld [.slice none 0 0,.bool false] [(0,1,bv)]=some (.agg ⟨[bv,.bool false]⟩):=by simp only [sy,reduceIte,Nat.reduceAdd,Nat.reduceLeDiff,Nat.reduceLT,Nat.reduceEqDiff,Int.reduceEq,Int.reduceLT,Int.reduceLE,Int.reduceNe,ly,hbx]
  have A1:alv s (.agg ⟨[bv,.bool false]⟩)=some (rpt s.n,s.new (.row 2 [[bv,.bool false]] false)):=rfl
  have h0:DrAt Bool.not s.n s.n (bs,true) (s.new (.row 2 [[bv,.bool false]] false)):=dr_new hF hb hr hy hl
  have m0:More s (s.new (.row 2 [[bv,.bool false]] false)):=.new
  generalize s.new (.row 2 [[bv,.bool false]] false)=s0 at *
  obtain ⟨w1,s1,e1,_,h1,r1⟩:=rtake_v kd3 h0
  obtain ⟨s2,e2,h2,r2⟩:=raddr_v h1
  obtain ⟨s3,e3,h3,r3⟩:=raddr_v h2
  obtain ⟨w4,s4,e4,_,h4,r4⟩:=rtake_v kd2 h3
  have r04:=((r1.trans r2).trans r3).trans r4
  have ep:=p3 (takeP 3 (bs,true)).1.1 w1
  have eq:=p2 (takeP 2 (addrP (addrP (takeP 3 (bs,true)).2).2).2).1.1 w4
  generalize ({ (takeP 3 (bs,true)).1.1 with b:=w1 }:Fd).v=V1 at e1 ep
  generalize ({ (takeP 2 (addrP (addrP (takeP 3 (bs,true)).2).2).2).1.1 with b:=w4 }:Fd).v=V4 at e4 eq
  have hdS_:hdS bs=(takeP 2 (addrP (addrP (takeP 3 (bs,true)).2).2).2).2:=rfl
  rw [← hdS_] at h4
  have hrep:(hdP bs).rep=(takeP 3 (bs,true)).1.1.t:=rfl
  have hhd:setId (setTo (setFrom (setRep (takeP 3 (bs,true)).1.1.t) (addrP (takeP 3 (bs,true)).2).1.1 (addrP (takeP 3 (bs,true)).2).1.2) (addrP (addrP (takeP 3 (bs,true)).2).2).1.1 (addrP (addrP (takeP 3 (bs,true)).2).2).1.2) (takeP 2 (addrP (addrP (takeP 3 (bs,true)).2).2).2).1.1.i=hdP bs:=rfl
  have n1':nck (rpt s.n)=some (rpt s.n):=rfl
  have fl1:fld 1 (rpt s.n)=some (.pointer (some ⟨s.n,0,some 1⟩)):=rfl
  have n0:eqb [1] false true (.int .i64 0) (.int .i64 0)=some (.bool false):=rfl
  have n40:eqb [1] false true (.int .i64 40) (.int .i64 0)=some (.bool true):=rfl
  have nt0:Bool.not true=false:=rfl
  have nt1:Bool.not false=true:=rfl
  have hD:=@dec_a bs hy
  unfold decX
  by_cases c:(takeP 3 (bs,true)).1.1.t=true
  · obtain ⟨w,s5,e5,u5,h5,r5⟩:=ranswer_v h4
    have r05:=r04.trans r5
    have m5:=more_rd m0 r05 h5.fr
    have hc:(hdP bs).rep=true:=hrep.trans c
    have hG:decG raskR bs=((setAns (hdP bs) (ansP (hdS bs)).1.1),(ansP (hdS bs)).1.2,(ansP (hdS bs)).2.2):=by unfold decG; rw [if_pos c]
    obtain ⟨v5,g5,_⟩:=h5.row
    rw [hG] at hD
    obtain ⟨a1,a2,a3⟩:=hD
    obtain ⟨b1,b2⟩:=a3 w
    obtain ⟨own,er,s6,x1,x2,x3,x4⟩:=renc_end (bs:=bs) h5.fr b1 b2 u5.byt a1 a2
    have hu:Ful s.n s6 1 w (br (ansP (hdS bs)).1.2):=(u5.more x2 h5.fr).le (by have:=(m0.n); have:=r04.n; omega)
    have q1:=byt_b2s (hb.mr (m5.trans x2) hF)
    have d6:ldc s6 (.pointer (some ⟨s.n,0,some 1⟩))=some (.bool (Bool.not (ansP (hdS bs)).2.2)):=by rw [ldc_row (x2.get h5.fr g5)]; rfl
    have hv:setAns (hdP bs) { (ansP (hdS bs)).1.1 with v:=w }=setV (setAns (hdP bs) (ansP (hdS bs)).1.1) w:=rfl
    have hokV:okPk (setV (setAns (hdP bs) (ansP (hdS bs)).1.1) w) ⟨⟨bts (ansP (hdS bs)).1.2⟩⟩ ((ansP (hdS bs)).1.2).length=okPk (setAns (hdP bs) (ansP (hdS bs)).1.1) ⟨⟨bts (ansP (hdS bs)).1.2⟩⟩ ((ansP (hdS bs)).1.2).length:=rfl
    rw [wBs_V,hokV] at x4
    rw [hG]
    unfold okD
    unfold Q29.v Q29.t Q29.t.p1
    cases ho:(ansP (hdS bs)).2.2 with
    | false =>
      rw [ho,nt1] at d6
      rw [if_neg (fun e=>by have:=e.1; cases this)]
      refine ⟨nilB,s6,?_,m5.trans x2,x3,.inl ⟨rfl,rfl⟩⟩
      simp only [std_bd,std_cnd,std_gd,z34,B1,A1,e1,ep,b34t,t34,e2,tFrom,e3,tTo,e4,eq,tId,hhd,c34,hc,cndt,e5,tAns,List.getD_cons_zero,List.getD_cons_succ,cellsA,n1',fl1,l34,hv,x1,xtr_eq,List.getElem?_cons_zero,List.getElem?_cons_succ,d6,gdtf,gdun,pikt,cndt,b34,bds]
      rfl
    | true =>
      rw [ho,nt0] at d6
      rcases x4 with ⟨rfl,k1,k2,k3⟩ | ⟨rfl,k1⟩
      · have hi:=bts_iff k3 hy
        by_cases k:wBs ((encF (setAns (hdP bs) (ansP (hdS bs)).1.1)).map (fb (ansP (hdS bs)).1.2))=bs
        · rw [if_pos ⟨rfl,k1,k⟩]
          have e2':eqb [2] false true (.string ⟨⟨bts (wBs ((encF (setAns (hdP bs) (ansP (hdS bs)).1.1)).map (fb (ansP (hdS bs)).1.2)))⟩⟩) (.string ⟨⟨bts bs⟩⟩)=some (.bool false):=by rw [neb2,decide_eq_false (fun e=>e (hi.2 k))]
          refine ⟨w,s6,?_,m5.trans x2,x3,hu⟩
          simp only [std_bd,std_cnd,std_gd,z34,B1,A1,e1,ep,b34t,t34,e2,tFrom,e3,tTo,e4,eq,tId,hhd,c34,hc,cndt,e5,tAns,List.getD_cons_zero,List.getD_cons_succ,cellsA,n1',fl1,l34,hv,x1,xtr_eq,List.getElem?_cons_zero,List.getElem?_cons_succ,d6,gdff,n0,pikf,k2,q1,e2',cndf,bds]
        · rw [if_neg (fun e=>k e.2.2)]
          have e2':eqb [2] false true (.string ⟨⟨bts (wBs ((encF (setAns (hdP bs) (ansP (hdS bs)).1.1)).map (fb (ansP (hdS bs)).1.2)))⟩⟩) (.string ⟨⟨bts bs⟩⟩)=some (.bool true):=by rw [neb2,decide_eq_true (show (⟨⟨bts _⟩⟩:ByteArray)≠⟨⟨bts bs⟩⟩ from fun e=>k (hi.1 e))]
          refine ⟨nilB,s6,?_,m5.trans x2,x3,.inl ⟨rfl,rfl⟩⟩
          simp only [std_bd,std_cnd,std_gd,z34,B1,A1,e1,ep,b34t,t34,e2,tFrom,e3,tTo,e4,eq,tId,hhd,c34,hc,cndt,e5,tAns,List.getD_cons_zero,List.getD_cons_succ,cellsA,n1',fl1,l34,hv,x1,xtr_eq,List.getElem?_cons_zero,List.getElem?_cons_succ,d6,gdff,n0,pikf,k2,q1,e2',cndt,b34,bds]
          rfl
      · rw [if_neg (fun e=>k1 e.2.1)]
        refine ⟨nilB,s6,?_,m5.trans x2,x3,.inl ⟨rfl,rfl⟩⟩
        simp only [std_bd,std_cnd,std_gd,z34,B1,A1,e1,ep,b34t,t34,e2,tFrom,e3,tTo,e4,eq,tId,hhd,c34,hc,cndt,e5,tAns,List.getD_cons_zero,List.getD_cons_succ,cellsA,n1',fl1,l34,hv,x1,xtr_eq,List.getElem?_cons_zero,List.getElem?_cons_succ,d6,gdff,n40,pikf,gdtf,gdun,pikt,cndt,b34,bds]
        rfl
  · obtain ⟨s5,e5,h5,r5⟩:=rask_read h4
    have r05:=r04.trans r5
    have m5:=more_rd m0 r05 h5.fr
    have hc:(hdP bs).rep=false:=hrep.trans (by simpa using c)
    have hG:decG raskR bs=((setAsk (hdP bs) (raskR (hdS bs)).1),[],(raskR (hdS bs)).2.2):=by unfold decG; rw [if_neg c]
    obtain ⟨v5,g5,_⟩:=h5.row
    rw [hG] at hD
    obtain ⟨a1,a2,a3⟩:=hD
    obtain ⟨b1,b2⟩:=a3 nilB
    obtain ⟨own,er,s6,x1,x2,x3,x4⟩:=renc_end (bs:=bs) (lb:=[]) h5.fr b1 b2 (byt_nil s5) a1 a2
    have hu:Ful s.n s6 1 nilB (br []):=.inl ⟨rfl,rfl⟩
    have q1:=byt_b2s (hb.mr (m5.trans x2) hF)
    have d6:ldc s6 (.pointer (some ⟨s.n,0,some 1⟩))=some (.bool (Bool.not (raskR (hdS bs)).2.2)):=by rw [ldc_row (x2.get h5.fr g5)]; rfl
    have x1:Q2a.v (.agg ⟨(setAsk (hdP bs) (raskR (hdS bs)).1).cs⟩) s5=_:=x1
    have hokV:okPk (setV (setAsk (hdP bs) (raskR (hdS bs)).1) nilB) ⟨⟨bts ([]:List Int)⟩⟩ (([]:List Int)).length=okPk (setAsk (hdP bs) (raskR (hdS bs)).1) ⟨⟨bts ([]:List Int)⟩⟩ (([]:List Int)).length:=rfl
    rw [wBs_V,hokV] at x4
    rw [hG]
    unfold okD
    unfold Q29.v Q29.t Q29.t.p1
    cases ho:(raskR (hdS bs)).2.2 with
    | false =>
      rw [ho,nt1] at d6
      rw [if_neg (fun e=>by have:=e.1; cases this)]
      refine ⟨nilB,s6,?_,m5.trans x2,x3,.inl ⟨rfl,rfl⟩⟩
      simp only [std_bd,std_cnd,std_gd,z34,B1,A1,e1,ep,b34t,t34,e2,tFrom,e3,tTo,e4,eq,tId,hhd,c34,hc,cndf,e5,tAsk,List.getD_cons_zero,List.getD_cons_succ,cellsA,n1',fl1,l34,x1,xtr_eq,List.getElem?_cons_zero,List.getElem?_cons_succ,d6,gdtf,gdun,pikt,cndt,b34,bds]
      rfl
    | true =>
      rw [ho,nt0] at d6
      rcases x4 with ⟨rfl,k1,k2,k3⟩ | ⟨rfl,k1⟩
      · have hi:=bts_iff k3 hy
        by_cases k:wBs ((encF (setAsk (hdP bs) (raskR (hdS bs)).1)).map (fb ([]:List Int)))=bs
        · rw [if_pos ⟨rfl,k1,k⟩]
          have e2':eqb [2] false true (.string ⟨⟨bts (wBs ((encF (setAsk (hdP bs) (raskR (hdS bs)).1)).map (fb ([]:List Int))))⟩⟩) (.string ⟨⟨bts bs⟩⟩)=some (.bool false):=by rw [neb2,decide_eq_false (fun e=>e (hi.2 k))]
          refine ⟨nilB,s6,?_,m5.trans x2,x3,hu⟩
          simp only [std_bd,std_cnd,std_gd,z34,B1,A1,e1,ep,b34t,t34,e2,tFrom,e3,tTo,e4,eq,tId,hhd,c34,hc,cndf,e5,tAsk,List.getD_cons_zero,List.getD_cons_succ,cellsA,n1',fl1,l34,x1,xtr_eq,List.getElem?_cons_zero,List.getElem?_cons_succ,d6,gdff,n0,pikf,k2,q1,e2',cndf,bds]
          rfl
        · rw [if_neg (fun e=>k e.2.2)]
          have e2':eqb [2] false true (.string ⟨⟨bts (wBs ((encF (setAsk (hdP bs) (raskR (hdS bs)).1)).map (fb ([]:List Int))))⟩⟩) (.string ⟨⟨bts bs⟩⟩)=some (.bool true):=by rw [neb2,decide_eq_true (show (⟨⟨bts _⟩⟩:ByteArray)≠⟨⟨bts bs⟩⟩ from fun e=>k (hi.1 e))]
          refine ⟨nilB,s6,?_,m5.trans x2,x3,.inl ⟨rfl,rfl⟩⟩
          simp only [std_bd,std_cnd,std_gd,z34,B1,A1,e1,ep,b34t,t34,e2,tFrom,e3,tTo,e4,eq,tId,hhd,c34,hc,cndf,e5,tAsk,List.getD_cons_zero,List.getD_cons_succ,cellsA,n1',fl1,l34,x1,xtr_eq,List.getElem?_cons_zero,List.getElem?_cons_succ,d6,gdff,n0,pikf,k2,q1,e2',cndt,b34,bds]
          rfl
      · rw [if_neg (fun e=>k1 e.2.1)]
        refine ⟨nilB,s6,?_,m5.trans x2,x3,.inl ⟨rfl,rfl⟩⟩
        simp only [std_bd,std_cnd,std_gd,z34,B1,A1,e1,ep,b34t,t34,e2,tFrom,e3,tTo,e4,eq,tId,hhd,c34,hc,cndf,e5,tAsk,List.getD_cons_zero,List.getD_cons_succ,cellsA,n1',fl1,l34,x1,xtr_eq,List.getElem?_cons_zero,List.getElem?_cons_succ,d6,gdff,n40,pikf,gdtf,gdun,pikt,cndt,b34,bds]
        rfl
end Go.Proofs.Yteapmnolmfickaa
/-
  Reading a packet: what is handed in,and what is read.
-/
set_option linter.unusedSimpArgs false
set_option linter.unusedVariables false
set_option maxRecDepth 100000
set_option maxHeartbeats 4000000
namespace Go.Proofs.Yteapmnolmfickaa
open Go.Sim Go.Sim.Bt
attribute [local congr] bdc cndc itec gdc gdSc gdUc
theorem val_rmy {s:St} {v:Value} (h:ValIs s v):Rmy v:=by
  unfold ValIs Leaf.Is at h
  rcases h with h | ⟨b,len,cap,all,rfl,h1,h2,h3,h4,h5⟩
  · exact .inl h
  · exact .inr ⟨b,0,len,2 * cap,rfl,.inr (by omega)⟩
theorem cut_rmy {s:St} {v w:Value} (h:ValIs s v) {k:Nat} (e:slc s 1 v none (some (.int .i64 (k:Int))) none=some w):Rmy w:=by
  unfold ValIs Leaf.Is at h
  have e2:optN none 0=some 0:=rfl
  rcases h with rfl | ⟨b,n,cap,all,rfl,g1,g2,g3,g4,g5⟩
  · have e1:optN (some (Value.int .i64 (k:Int))) 0=some k:=by simp [optN,isNat]
    left
    unfold slc at e
    simp only [e1,e2,bds] at e
    split at e
    · simpa using e.symm
    · cases e
  · have g3:s.get b=some (.row 1 all true):=g3
    have e1:optN (some (Value.int .i64 (k:Int))) n=some k:=by simp [optN,isNat]
    unfold slc at e
    simp only [e1,e2,bds,g3] at e
    split at e
    · rename_i hc
      split at e
      · rename_i h1
        split at e
        · have e:=Option.some.inj e
          refine .inr ⟨b,0+0,k - 0,_,e.symm,.inl rfl⟩
        · cases e
      · rename_i h1
        split at e
        · rename_i h2
          have e:=Option.some.inj e
          refine .inr ⟨b,0+0,k - 0,_,e.symm,.inr ?_⟩
          omega
        · cases e
    · cases e
theorem cut_y {s:St} {v:Value} (h:ValIs s v):∃ w bs,Qa.r v s=some w∧Byt s w (br bs)∧okY bs∧Rmy w∧bs.length≤3000:=by
  obtain ⟨l,hb,hy⟩:=val_br h
  have hl:=hb.lenL
  rw [br_length] at hl
  by_cases c:3000 < l.length
  · obtain ⟨w,l',g1,g2,g3,g4⟩:=val_cut h hl (k:=3000) (by omega)
    have c':(3000:Int) < (l.length:Int):=by omega
    have gr:=cut_rmy h g1
    have g1:slc s 1 v none (some (.int .i64 3000)) none=some w:=g1
    refine ⟨w,l',?_,g2,g4,gr,by omega⟩
    simp only [Qa.r,Qa.t,sy,reduceIte,Nat.reduceAdd,Nat.reduceLeDiff,Nat.reduceLT,Nat.reduceEqDiff,Int.reduceEq,Int.reduceLT,Int.reduceLE,Int.reduceNe,ly,hl,c',g1]
  · have c':¬ (3000:Int) < (l.length:Int):=by omega
    refine ⟨v,l,?_,hb,hy,val_rmy h,by omega⟩
    simp only [Qa.r,Qa.t,sy,reduceIte,Nat.reduceAdd,Nat.reduceLeDiff,Nat.reduceLT,Nat.reduceEqDiff,Int.reduceEq,Int.reduceLT,Int.reduceLE,Int.reduceNe,ly,hl,c']
theorem sameK_self (p q:Pk) (x:ByteArray) (h1:p.rep=q.rep) (h2:p.fa=q.fa) (h3:p.fn=q.fn) (h4:p.ta=q.ta) (h5:p.tn=q.tn) (h6:p.id=q.id) (h7:p.ask=q.ask) (h8:p.ans.k=q.ans.k) (h9:p.ans.f=q.ans.f) (h10:p.ans.l=q.ans.l) (h11:p.ans.r=q.ans.r):sameK p q x x:=⟨h1,⟨h2,h3⟩,⟨h4,h5⟩,h6,h7,h8,h9,h10,h11,rfl⟩
theorem sameV (p:Pk) (w w':Value) (x:ByteArray):sameK (setV p w) (setV p w') x x:=sameK_self _ _ _ rfl rfl rfl rfl rfl rfl rfl rfl rfl rfl rfl
end Go.Proofs.Yteapmnolmfickaa
