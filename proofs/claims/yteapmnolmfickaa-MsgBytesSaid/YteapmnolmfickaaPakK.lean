/-
  A writer: a row of one cell that holds a slice of bytes, all its own.
-/
import Derived.Test.YteapmnolmfickaaPakB
import Derived.Test.YteapmnolmfickaaMachV
set_option linter.unusedSimpArgs false
set_option linter.unusedVariables false
set_option maxRecDepth 100000
set_option maxHeartbeats 4000000
namespace Go.Proofs.Yteapmnolmfickaa
open Go.Sim Go.Sim.Bt
attribute [local congr] bdc cndc itec gdc gdSc gdUc
def wpt (b:Nat):Value:=.pointer (some ⟨b,0,some 0⟩)
def u8 (y:Int):Value:=.int .u8 y
def br (l:List Int):List (List Value):=l.map fun y=>[u8 y]
theorem br_length (l:List Int):(br l).length=l.length:=by simp [br]
theorem br_append (l m:List Int):br (l++m)=br l++br m:=by simp [br]
structure WrAt (b n0:Nat) (s:St) (l:List Int):Prop where
  fr:Fresh s
  lt:b < n0
  le:n0≤s.n
  at_:∃ v,s.get b=some (.row 1 [[v]] false)∧Ful n0 s 1 v (br l)
structure WSt (b n0:Nat) (s s':St):Prop where
  n:s.n≤s'.n
  keep:∀ x,x < n0→x≠b→s'.get x=s.get x
theorem WSt.refl (b n0:Nat) (s:St):WSt b n0 s s:=⟨Nat.le_refl _,fun _ _ _=>rfl⟩
theorem WSt.trans {b n0:Nat} {s s' s'':St} (h:WSt b n0 s s') (k:WSt b n0 s' s''):WSt b n0 s s'':=⟨Nat.le_trans h.n k.n,fun x h1 h2=>(k.keep x h1 h2).trans (h.keep x h1 h2)⟩
theorem wr_step {b n0:Nat} {s:St} {l:List Int} (h:WrAt b n0 s l) (hl:l.length+1≤140737488355328):∃ v,ldc s (wpt b)=some v∧∀ y:Int,∃ v' s' s'',
    app (s.new (.row 1 [[u8 y]] false)) 1 1 v (.slice (some ⟨s.n,0,some 0⟩) 1 2)=some (v',s')∧stv s' 1 (wpt b) v'=some s''∧WrAt b n0 s'' (l++[y])∧WSt b n0 s s'':=by
  obtain ⟨v,hg,hv⟩:=h.at_
  refine ⟨v,by rw [wpt,ldc_row hg]; rfl,fun y=>?_⟩
  have m:More ⟨s.h,n0⟩ s:=⟨h.le,fun _ _=>rfl,fun _=>h.fr⟩
  obtain ⟨v',s',h1,h2,h3,h4,h5⟩:=push (s0:=⟨s.h,n0⟩) h.fr hv m (by_:=1) [u8 y] (by rw [br_length]; omega) (by rw [br_length]; omega)
  have hg':s'.get b=some (.row 1 [[v]] false):=(h2.old b h.lt).trans hg
  have hbx:bx v'=some [v']:=h3.isR.bx
  refine ⟨v',s',s'.put b (.row 1 [[v']] false),h1,?_,⟨h4.put,h.lt,h2.n,v',get_put_same hg',?_⟩,⟨?_,fun x hx hne=>?_⟩⟩
  · rw [wpt,stv_row hg',hbx]; rfl
  · rw [br_append]
    rcases h3 with ⟨e1,e2⟩ | ⟨c,e,e0,e1,e2,e3⟩
    · exact .inl ⟨e1,e2⟩
    · exact .inr ⟨c,e,e0,e1,by rw [get_put_ne (by have:=h.lt; simp only at e0; omega)]; exact e2,e3⟩
  · exact h5.1
  · rw [get_put_ne hne]
    exact h2.old x hx
end Go.Proofs.Yteapmnolmfickaa
/-
  What a writer writes of a key.
-/
set_option linter.unusedSimpArgs false
set_option linter.unusedVariables false
set_option maxRecDepth 100000
set_option maxHeartbeats 4000000
namespace Go.Proofs.Yteapmnolmfickaa
open Go.Sim Go.Sim.Bt
attribute [local congr] bdc cndc itec gdc gdSc gdUc
def kb (n:Nat):Nat→List Int
  | 0=>[]
  | m+1=>((n / 2 ^ (8 * m) % 256:Nat):Int) :: kb n m
theorem kb_length (n:Nat):∀ m,(kb n m).length=m
  | 0=>rfl
  | m+1=>by simp [kb,kb_length n m]
theorem cvi_u8 (k:IntKind) (x:Nat):cvi .u8 (.int k (x:Int))=some (u8 ((x % 256:Nat):Int)):=by
  rw [cvi_int]
  simp [u8,IntKind.wrap,IntKind.signed,IntKind.bits]
theorem keyloop {b n0:Nat} (r:Int) (n:Nat):∀ (m:Nat),m≤8→∀ {s:St} {l:List Int},WrAt b n0 s l→l.length+m≤140737488355328 →
    ∃ s',(∀ k,iter (Q1f.l4 std) (k+m+1) [wpt b,.int .i64 ((m:Int) - 1),.agg ⟨[.int .i64 r,.int .u64 (n:Int)]⟩] s=some (0,[],s'))∧WrAt b n0 s' (l++kb n m)∧WSt b n0 s s'
  | 0,_,s,l,h,_=>⟨s,fun k=>by
      rw [iter_succ]
      simp only [Q1f.l4,sy,reduceIte,Nat.reduceAdd,Nat.reduceLeDiff,Nat.reduceLT,Nat.reduceEqDiff,Int.reduceEq,Int.reduceLT,Int.reduceLE,Int.reduceNe,ly]
      rfl,by simpa [kb] using h,.refl _ _ _⟩
  | m+1,hm,s,l,h,hl=>by
    obtain ⟨v,hv,hstep⟩:=wr_step h (by omega)
    obtain ⟨v',s1,s2,p1,p2,p3,p4⟩:=hstep ((n / 2 ^ (8 * m) % 256:Nat):Int)
    obtain ⟨s',q1,q2,q3⟩:=keyloop r n m (by omega) p3 (by simp; omega)
    refine ⟨s',fun k=>?_,by rw [kb,List.append_cons]; exact q2,p4.trans q3⟩
    rw [show ((m+1:Nat):Int) - 1=(m:Int) by omega,show k+(m+1)+1=(k+m+1)+1 by omega,iter_succ]
    have c:m=0∨m=1∨m=2∨m=3∨m=4∨m=5∨m=6∨m=7:=by omega
    have e1:bin .mul (.int .i64 8) (.int .i64 (m:Int))=some (.int .i64 ((8 * m:Nat):Int)):=by rcases c with rfl | rfl | rfl | rfl | rfl | rfl | rfl | rfl <;> rfl
    have e2:cvi .u64 (.int .i64 ((8 * m:Nat):Int))=some (.int .u64 ((8 * m:Nat):Int)):=by rcases c with rfl | rfl | rfl | rfl | rfl | rfl | rfl | rfl <;> rfl
    have e3:=shr_u64 (a:=n) (k:=8 * m) (k':=.u64) (by omega)
    have e4:=cvi_u8 .u64 (n / 2 ^ (8 * m))
    have e5:bin .geq (.int .i64 (m:Int)) (.int .i64 0)=some (.bool true):=by rcases c with rfl | rfl | rfl | rfl | rfl | rfl | rfl | rfl <;> rfl
    have e6:bin .sub (.int .i64 (m:Int)) (.int .i64 1)=some (.int .i64 ((m:Int) - 1)):=by rcases c with rfl | rfl | rfl | rfl | rfl | rfl | rfl | rfl <;> rfl
    have e7:nck (wpt b)=some (wpt b):=rfl
    have e8:fld 0 (wpt b)=some (wpt b):=rfl
    have e9:∀ y:Int,((bls 1 (List.replicate 1 [(.int .u8 0)]) [(0,u8 y)]).bind fun rows=>als s 1 1 rows)=some (.slice (some ⟨s.n,0,some 0⟩) 1 2,s.new (.row 1 [[u8 y]] false)):=fun y=>rfl
    unfold Q1f.l4
    simp only [std_bd,std_cnd,List.getD_cons_zero,List.getD_cons_succ,cellsA,lcl,List.getElem?_cons_succ,List.getElem?_cons_zero,e1,e2,e3,e4,e5,e6,e7,e8,e9,hv,p1,p2,Option.bind_some,cnd]
    exact q1 k
def keyB (r:Int) (n:Nat):List Int:=IntKind.u8.wrap r :: if r=2 then kb n 8 else []
theorem key_w {b n0:Nat} {s:St} {l:List Int} (r:Int) (n:Nat) (h:WrAt b n0 s l) (hl:l.length+9≤140737488355328) :
    ∃ s',Q1f.v (wpt b) (.agg ⟨[.int .i64 r,.int .u64 (n:Int)]⟩) s=some (.tuple ⟨[]⟩,s')∧WrAt b n0 s' (l++keyB r n)∧WSt b n0 s s':=by
  obtain ⟨v,hv,hstep⟩:=wr_step h (by omega)
  obtain ⟨v',s1,s2,p1,p2,p3,p4⟩:=hstep (IntKind.u8.wrap r)
  have e4:cvi .u8 (.int .i64 r)=some (u8 (IntKind.u8.wrap r)):=rfl
  have e7:nck (wpt b)=some (wpt b):=rfl
  have e8:fld 0 (wpt b)=some (wpt b):=rfl
  have e9:∀ y:Int,((bls 1 (List.replicate 1 [(.int .u8 0)]) [(0,u8 y)]).bind fun rows=>als s 1 1 rows)=some (.slice (some ⟨s.n,0,some 0⟩) 1 2,s.new (.row 1 [[u8 y]] false)):=fun y=>rfl
  have e1:bx (.agg ⟨[.int .i64 r,.int .u64 (n:Int)]⟩)=some [.int .i64 r,.int .u64 (n:Int)]:=rfl
  have e2:lcl [.int .i64 r,.int .u64 (n:Int)] 0=some (.int .i64 r):=rfl
  unfold keyB
  by_cases h2:r=2
  · obtain ⟨s',q1,q2,q3⟩:=keyloop r n 8 (by omega) p3 (by simp; omega)
    refine ⟨s',?_,by rw [if_pos h2]; simpa using q2,p4.trans q3⟩
    have q:=q1 (BIG - 9)
    rw [show BIG - 9+8+1=BIG from rfl] at q
    have ee:eqb [1] false false (.int .i64 r) (.int .i64 2)=some (.bool true):=by rw [eqb1,decide_eq_true h2]
    unfold Q1f.v Q1f.t
    simp only [std_bd,std_cnd,std_it,e1,e2,e4,e7,e8,e9,hv,p1,p2,ee,Option.bind_some,cnd]
    rw [show iter (Q1f.l4 std) BIG [wpt b,.int .i64 7,.agg ⟨[.int .i64 r,.int .u64 (n:Int)]⟩] s2=_ from q]
    rfl
  · refine ⟨s2,?_,by rw [if_neg h2]; simpa using p3,p4⟩
    have ee:eqb [1] false false (.int .i64 r) (.int .i64 2)=some (.bool false):=by rw [eqb1,decide_eq_false h2]
    unfold Q1f.v Q1f.t
    simp only [std_bd,std_cnd,std_it,e1,e2,e4,e7,e8,e9,hv,p1,p2,ee,Option.bind_some,cnd]
end Go.Proofs.Yteapmnolmfickaa
/-
  One key packed.
-/
set_option linter.unusedSimpArgs false
set_option linter.unusedVariables false
set_option maxRecDepth 100000
set_option maxHeartbeats 4000000
namespace Go.Proofs.Yteapmnolmfickaa
open Go.Sim Go.Sim.Bt
attribute [local congr] bdc cndc itec gdc gdSc gdUc
def bts (l:List Int):List UInt8:=l.map fun y=>UInt8.ofNat y.toNat
theorem bytesOf_br:∀ l:List Int,bytesOf (br l)=some (bts l)
  | []=>rfl
  | y :: l=>by
    have:=bytesOf_br l
    simp only [br,List.map_cons,u8,bytesOf] at this ⊢
    rw [this]
    rfl
end Go.Proofs.Yteapmnolmfickaa
/-
  Keys' bytes stand in their order (plain).
-/
set_option linter.unusedSimpArgs false
set_option linter.unusedVariables false
namespace Go.Proofs.Yteapmnolmfickaa
open Go.Sim Go.Sim.Bt
end Go.Proofs.Yteapmnolmfickaa
/-
  What a writer writes of a number; the reference's bytes of it.
-/
set_option linter.unusedSimpArgs false
set_option linter.unusedVariables false
set_option maxRecDepth 100000
set_option maxHeartbeats 4000000
namespace Go.Proofs.Yteapmnolmfickaa
open Go.Sim Go.Sim.Bt
attribute [local congr] bdc cndc itec gdc gdSc gdUc
def numB (x:Nat):List Int:=if h:x < 128 then [(x:Int)] else ((x % 128+128:Nat):Int) :: numB (x / 128)
termination_by x
decreasing_by omega
theorem or_u8 (x:Nat):bin .or (.int .u8 ((x % 256:Nat):Int)) (.int .u8 128)=some (u8 ((x % 128+128:Nat):Int)):=by
  have h:∀ y:Fin 256,bin .or (.int .u8 (y.val:Int)) (.int .u8 128)=some (u8 ((y.val % 128+128:Nat):Int)):=by
    intro y
    rw [bin_or]
    have:∀ y:Fin 256,IntKind.u8.wrap ((BitVec.ofInt IntKind.u8.bits (y.val:Int) ||| BitVec.ofInt IntKind.u8.bits 128).toNat:Int)=((y.val % 128+128:Nat):Int):=by decide
    rw [this y]
    rfl
  have h1:=h ⟨x % 256,Nat.mod_lt _ (by decide)⟩
  simp only at h1
  rw [h1,show x % 256 % 128=x % 128 by omega]
theorem numloop {b n0:Nat}:∀ (d x:Nat),x < 2 ^ (7 * (d+1))→x < 2 ^ 64→∀ {s:St} {l:List Int},WrAt b n0 s l→l.length+d+1≤140737488355328 →
    ∃ s' y fr,(∀ k,iter (Q1g.l0 std) (k+d+1) [wpt b,.int .u64 (x:Int)] s=some (0,[wpt b,.int .u64 ((y:Nat):Int)],s'))∧y < 128∧numB x=fr++[(y:Int)]∧fr.length≤d∧WrAt b n0 s' (l++fr)∧WSt b n0 s s'
  | d,x,hx,h64,s,l,h,hl=>by
    by_cases h1:x < 128
    · refine ⟨s,x,[],fun k=>?_,h1,by rw [numB,dif_pos h1]; rfl,Nat.zero_le _,by simpa using h,.refl _ _ _⟩
      have e1:bin .geq (.int .u64 (x:Int)) (.int .u64 128)=some (.bool false):=by
        rw [bin_geq,decide_eq_false (by omega)]
      rw [iter_succ]
      unfold Q1g.l0
      simp only [std_bd,std_cnd,List.getD_cons_zero,List.getD_cons_succ,e1,Option.bind_some,cnd]
    · cases d with
      | zero=>simp at hx; omega
      | succ d =>
        obtain ⟨v,hv,hstep⟩:=wr_step h (by omega)
        obtain ⟨v',s1,s2,p1,p2,p3,p4⟩:=hstep ((x % 128+128:Nat):Int)
        have hx2:x / 128 < 2 ^ (7 * (d+1)):=by
          rw [show 7 * (d+1+1)=7 * (d+1)+7 by omega,Nat.pow_add] at hx
          exact Nat.div_lt_of_lt_mul (by rw [Nat.mul_comm]; exact hx)
        obtain ⟨s',y,fr,q1,q2,q3,q4,q5,q6⟩:=numloop d (x / 128) hx2 (by omega) p3 (by simp; omega)
        refine ⟨s',y,((x % 128+128:Nat):Int) :: fr,fun k=>?_,q2,by rw [numB,dif_neg h1,q3]; rfl,by simp; omega,by simpa using q5,p4.trans q6⟩
        have e1:bin .geq (.int .u64 (x:Int)) (.int .u64 128)=some (.bool true):=by
          rw [bin_geq,decide_eq_true (by omega)]
        have e2:=cvi_u8 .u64 x
        have e3:=or_u8 x
        have e4:=shr_u64 (a:=x) (k:=7) (k':=.u64) (by omega)
        rw [show (2:Nat) ^ 7=128 from rfl] at e4
        have e7:nck (wpt b)=some (wpt b):=rfl
        have e8:fld 0 (wpt b)=some (wpt b):=rfl
        have e9:∀ y:Int,((bls 1 (List.replicate 1 [(.int .u8 0)]) [(0,u8 y)]).bind fun rows=>als s 1 1 rows)=some (.slice (some ⟨s.n,0,some 0⟩) 1 2,s.new (.row 1 [[u8 y]] false)):=fun y=>rfl
        rw [show k+(d+1)+1=(k+d+1)+1 by omega,iter_succ]
        unfold Q1g.l0
        simp only [u8] at e2 e3 ⊢
        simp only [std_bd,std_cnd,List.getD_cons_zero,List.getD_cons_succ,e1,e2,e3,e7,e8,hv,Option.bind_some,cnd]
        have e9':=e9 ((x % 128+128:Nat):Int)
        simp only [u8] at e9' p1
        simp only [e9',p1,p2,Option.bind_some]
        rw [show ((7:Nat):Int)=7 from rfl] at e4
        rw [e4]
        exact q1 k
theorem number_w {b n0:Nat} {s:St} {l:List Int} (x:Nat) (h64:x < 2 ^ 64) (h:WrAt b n0 s l) (hl:l.length+20≤140737488355328) :
    ∃ s',Q1g.v (wpt b) (.int .u64 (x:Int)) s=some (.tuple ⟨[]⟩,s')∧WrAt b n0 s' (l++numB x)∧WSt b n0 s s':=by
  obtain ⟨s1,y,fr,q1,q2,q3,q4,q5,q6⟩:=numloop 9 x (Nat.lt_of_lt_of_le h64 (by decide)) h64 h (by omega)
  obtain ⟨v,hv,hstep⟩:=wr_step q5 (by simp; omega)
  obtain ⟨v',s2,s3,p1,p2,p3,p4⟩:=hstep (y:Int)
  refine ⟨s3,?_,by rw [q3,← List.append_assoc]; exact p3,q6.trans p4⟩
  have q:=q1 (BIG - 10)
  rw [show BIG - 10+9+1=BIG from rfl] at q
  have e2:=cvi_u8 .u64 y
  rw [Nat.mod_eq_of_lt (by omega)] at e2
  have e7:nck (wpt b)=some (wpt b):=rfl
  have e8:fld 0 (wpt b)=some (wpt b):=rfl
  have e9:((bls 1 (List.replicate 1 [(.int .u8 0)]) [(0,u8 (y:Int))]).bind fun rows=>als s1 1 1 rows)=some (.slice (some ⟨s1.n,0,some 0⟩) 1 2,s1.new (.row 1 [[u8 (y:Int)]] false)):=rfl
  unfold Q1g.v Q1g.t
  simp only [u8] at e2 e9 p1
  simp only [std_bd,std_cnd,std_it,q,List.getD_cons_zero,List.getD_cons_succ,e2,e7,e8,e9,hv,p1,p2,Option.bind_some]
end Go.Proofs.Yteapmnolmfickaa
/-
  Many bytes appended at once; the reference's bytes of a number,of a whole number,of a key.
-/
set_option linter.unusedSimpArgs false
set_option linter.unusedVariables false
set_option maxRecDepth 100000
set_option maxHeartbeats 4000000
namespace Go.Proofs.Yteapmnolmfickaa
open Go.Sim Go.Sim.Bt
attribute [local congr] bdc cndc itec gdc gdSc gdUc
theorem app_ful {s0 s:St} {v w:Value} {rows news:List (List Value)} (f:Fresh s) (h:Ful s0.n s 1 v rows) (m:More s0 s) (hl:lenV w=some news.length) (hr:rowsOf s 1 news.length w=some news) (hb:rows.length+news.length≤140737488355328) :
    ∃ v' s',app s 1 1 v w=some (v',s')∧More s0 s'∧Ful s0.n s' 1 v' (rows++news)∧Fresh s':=by
  rcases Nat.eq_zero_or_pos news.length with e0 | e0
  · have en:news=[]:=List.eq_nil_of_length_eq_zero e0
    subst en
    rw [List.append_nil]
    rcases h with ⟨rfl,rfl⟩ | ⟨b,e,h0,rfl,hg,he⟩
    · exact ⟨_,_,app_nil0 hl hr,m,.inl ⟨rfl,rfl⟩,f⟩
    · simp only [List.length_nil] at hl hr hb
      rcases he with rfl | rfl
      · refine ⟨.slice (some ⟨b,0,some 0⟩) rows.length 1,s,?_,m,.inr ⟨b,1,h0,rfl,hg,.inl rfl⟩,f⟩
        simp only [app,hl,hr,hg]
        rw [if_pos ⟨trivial,by omega⟩,if_pos ⟨by omega,by omega⟩]
        simp
      · refine ⟨.slice (some ⟨b,0,some 0⟩) rows.length (2 * rows.length),s.put b (.row 1 rows false),?_,m.put h0,.inr ⟨b,_,h0,rfl,get_put_same hg,.inr rfl⟩,f.put⟩
        simp only [app,hl,hr,hg]
        rw [if_pos ⟨trivial,by omega⟩,if_pos ⟨by omega,by omega⟩,if_neg (by omega),if_pos (by omega)]
        simp
  · rcases h with ⟨rfl,rfl⟩ | ⟨b,e,h0,rfl,hg,he⟩
    · refine ⟨_,_,app_nil hl hr e0 (by simp at hb; omega) (by simp at hb; omega),m.trans .new,.inr ⟨s.n,1,m.n,by simp,get_new_same,.inl rfl⟩,f.new⟩
    · rcases he with rfl | rfl
      · refine ⟨_,_,app_own hl hr hg (Nat.le_refl _) e0 (by omega) (by omega),(m.del h0).trans .new,.inr ⟨s.n,1,m.n,by simp,?_,.inl rfl⟩,f.del.new⟩
        rw [List.take_length]; exact get_new_same (s:=s.del b)
      · refine ⟨_,_,app_full hl hr hg (by omega) (by omega) (by omega) (by omega) (by omega),m.trans .new,.inr ⟨s.n,1,m.n,by simp,?_,.inl rfl⟩,f.new⟩
        simp only [List.drop_zero,List.take_length]
        exact get_new_same
theorem Ful.lenV {n0 sz:Nat} {s:St} {v:Value} {rows:List (List Value)} (h:Ful n0 s sz v rows):lenV v=some rows.length:=by
  rcases h with ⟨rfl,rfl⟩ | ⟨b,e,h0,rfl,hg,he⟩ <;> rfl
theorem Ful.rowsOf {n0 sz:Nat} {s:St} {v:Value} {rows:List (List Value)} (h:Ful n0 s sz v rows):rowsOf s sz rows.length v=some rows:=by
  rcases h with ⟨rfl,rfl⟩ | ⟨b,e,h0,rfl,hg,he⟩
  · rfl
  · rw [rowsOf_row hg (Nat.le_refl _) (by omega)]; simp
def Mk (s:St) (r:Option (Value×St)) (l:List Int):Prop:=∃ v s',r=some (v,s')∧More s s'∧Ful s.n s' 1 v (br l)∧Fresh s'
theorem bls1 (s:St) (y:Int):((bls 1 (List.replicate 1 [(.int .u8 0)]) [(0,.int .u8 y)]).bind fun rows=>als s 1 1 rows)=some (.slice (some ⟨s.n,0,some 0⟩) 1 2,s.new (.row 1 [[.int .u8 y]] false)):=rfl
theorem br_one {s0 s:St} {v:Value} {l:List Int} (f:Fresh s) (h:Ful s0.n s 1 v (br l)) (m:More s0 s) (y:Int) (hl:l.length+1≤140737488355328) :
    ∃ v' s',app (s.new (.row 1 [[.int .u8 y]] false)) 1 1 v (.slice (some ⟨s.n,0,some 0⟩) 1 2)=some (v',s')∧More s0 s'∧Ful s0.n s' 1 v' (br (l++[y]))∧Fresh s':=by
  obtain ⟨v',s',h1,h2,h3,h4,_⟩:=push f h m (by_:=1) [.int .u8 y] (by rw [br_length]; omega) (by rw [br_length]; omega)
  exact ⟨v',s',h1,h2,by rw [br_append]; exact h3,h4⟩
theorem br_app {s0 s:St} {v w:Value} {l m:List Int} {n1:Nat} (f:Fresh s) (h:Ful s0.n s 1 v (br l)) (k:Ful n1 s 1 w (br m)) (mo:More s0 s) (hl:l.length+m.length≤140737488355328) :
    ∃ v' s',app s 1 1 v w=some (v',s')∧More s0 s'∧Ful s0.n s' 1 v' (br (l++m))∧Fresh s':=by
  have e1:=k.lenV
  have e2:=k.rowsOf
  obtain ⟨v',s',h1,h2,h3,h4⟩:=app_ful f h mo e1 e2 (by simp [br_length]; exact hl)
  exact ⟨v',s',h1,h2,by rw [br_append]; exact h3,h4⟩
theorem rnumloop {s0:St}:∀ (d x:Nat),x < 2 ^ (7 * (d+1))→x < 2 ^ 64→∀ {s:St} {v:Value} {l:List Int},Fresh s→Ful s0.n s 1 v (br l)→More s0 s→l.length+d+1≤140737488355328 →
    ∃ v' s' y fr,(∀ k,iter (Q20.l2 std) (k+d+1) [.int .u64 (x:Int),v] s=some (0,[.int .u64 ((y:Nat):Int),v'],s'))∧y < 128∧numB x=fr++[(y:Int)]∧fr.length≤d∧Ful s0.n s' 1 v' (br (l++fr))∧More s0 s'∧Fresh s'
  | d,x,hx,h64,s,v,l,f,h,m,hl=>by
    by_cases h1:x < 128
    · refine ⟨v,s,x,[],fun k=>?_,h1,by rw [numB,dif_pos h1]; rfl,Nat.zero_le _,by simpa using h,m,f⟩
      have e1:bin .geq (.int .u64 (x:Int)) (.int .u64 128)=some (.bool false):=by
        rw [bin_geq,decide_eq_false (by omega)]
      rw [iter_succ]
      unfold Q20.l2
      simp only [std_bd,std_cnd,List.getD_cons_zero,List.getD_cons_succ,e1,Option.bind_some,cnd]
    · cases d with
      | zero=>simp at hx; omega
      | succ d =>
        obtain ⟨v1,s1,p1,p2,p3,p4⟩:=br_one f h m ((x % 128+128:Nat):Int) (by omega)
        have hx2:x / 128 < 2 ^ (7 * (d+1)):=by
          rw [show 7 * (d+1+1)=7 * (d+1)+7 by omega,Nat.pow_add] at hx
          exact Nat.div_lt_of_lt_mul (by rw [Nat.mul_comm]; exact hx)
        obtain ⟨v',s',y,fr,q1,q2,q3,q4,q5,q6,q7⟩:=rnumloop d (x / 128) hx2 (by omega) p4 p3 p2 (by simp; omega)
        refine ⟨v',s',y,((x % 128+128:Nat):Int) :: fr,fun k=>?_,q2,by rw [numB,dif_neg h1,q3]; rfl,by simp; omega,by simpa using q5,q6,q7⟩
        have e1:bin .geq (.int .u64 (x:Int)) (.int .u64 128)=some (.bool true):=by
          rw [bin_geq,decide_eq_true (by omega)]
        have e2:bin .rem (.int .u64 (x:Int)) (.int .u64 128)=some (.int .u64 ((x % 128:Nat):Int)):=by
          rw [bin_rem (by omega),Int.tmod_eq_emod_of_nonneg (by omega)]; rfl
        have e3:=cvi_u8 .u64 (x % 128)
        rw [Nat.mod_eq_of_lt (show x % 128 < 256 by omega)] at e3
        have e4:bin .add (.int .u8 ((x % 128:Nat):Int)) (.int .u8 128)=some (.int .u8 ((x % 128+128:Nat):Int)):=by
          rw [bin_add,wrapu8 (by omega) (by omega)]; rfl
        have e5:=quo_u64 (a:=x) (b:=128) h64 (by omega)
        rw [show ((128:Nat):Int)=128 from rfl] at e5
        rw [show k+(d+1)+1=(k+d+1)+1 by omega,iter_succ]
        unfold Q20.l2
        simp only [u8] at e3
        simp only [std_bd,std_cnd,List.getD_cons_zero,List.getD_cons_succ,e1,e2,e3,e4,e5,bls1,p1,Option.bind_some,cnd]
        exact q1 k
theorem numB_len:∀ (d x:Nat),x < 2 ^ (7 * (d+1))→(numB x).length≤d+1
  | d,x,h=>by
    rw [numB]
    split
    · simp
    · cases d with
      | zero=>simp at h; omega
      | succ d =>
        have hx2:x / 128 < 2 ^ (7 * (d+1)):=by
          rw [show 7 * (d+1+1)=7 * (d+1)+7 by omega,Nat.pow_add] at h
          exact Nat.div_lt_of_lt_mul (by rw [Nat.mul_comm]; exact h)
        have:=numB_len d (x / 128) hx2
        simp; omega
theorem numB_le {x:Nat} (h:x < 2 ^ 64):(numB x).length≤10:=numB_len 9 x (Nat.lt_of_lt_of_le h (by decide))
theorem rnumber_v {s:St} (x:Nat) (h64:x < 2 ^ 64) (f:Fresh s):Mk s (Q20.v (.int .u64 (x:Int)) s) (numB x):=by
  obtain ⟨v1,s1,y,fr,q1,q2,q3,q4,q5,q6,q7⟩:=rnumloop (s0:=s) 9 x (Nat.lt_of_lt_of_le h64 (by decide)) h64 f (v:=.slice none 0 0) (l:=[]) (.inl ⟨rfl,rfl⟩) (.refl _) (by simp)
  obtain ⟨v',s',p1,p2,p3,p4⟩:=br_one q7 q5 q6 (y:Int) (by simp; omega)
  refine ⟨v',s',?_,p2,by rw [q3]; simpa using p3,p4⟩
  have q:=q1 (BIG - 10)
  rw [show BIG - 10+9+1=BIG from rfl] at q
  have e2:=cvi_u8 .u64 y
  rw [Nat.mod_eq_of_lt (by omega)] at e2
  unfold Q20.v Q20.t
  simp only [u8] at e2
  simp only [std_bd,std_cnd,std_it,q,List.getD_cons_zero,List.getD_cons_succ,e2,bls1,p1,Option.bind_some]
def zz (i:Int):Nat:=if i < 0 then (2 * (-(i+1))+1).toNat else (2 * i).toNat
theorem zz_lt {i:Int} (h1:-9223372036854775808≤i) (h2:i≤9223372036854775807):zz i < 2 ^ 64:=by
  unfold zz; split <;> omega
theorem rwhole_v {s:St} {i:Int} (h1:-9223372036854775808≤i) (h2:i≤9223372036854775807) (f:Fresh s):Mk s (Q24.v (.int .i64 i) s) (numB (zz i)):=by
  obtain ⟨v,s',g1,g⟩:=rnumber_v (s:=s) (zz i) (zz_lt h1 h2) f
  refine ⟨v,s',?_,g⟩
  by_cases h:i < 0
  · have e1:IntKind.i64.wrap (i+1)=i+1:=wrap64 (by omega) (by omega)
    have e0:un .neg (.int .i64 (i+1))=some (.int .i64 (-(i+1))):=by
      rw [← wrap64 (n:=-(i+1)) (by omega) (by omega)]; simp [un,Op.unary,run0,Op.intArith]; rfl
    have e2:IntKind.u64.wrap (-(i+1)) = -(i+1):=wrapu64 (by omega) (by omega)
    have e3:IntKind.u64.wrap (-(i+1) * 2) = -(i+1) * 2:=wrapu64 (by omega) (by omega)
    have e4:IntKind.u64.wrap (-(i+1) * 2+1)=(zz i:Int):=by
      rw [wrapu64 (by omega) (by omega)]; unfold zz; rw [if_pos h]; omega
    simp only [Q24.v,Q24.t,sy,reduceIte,Nat.reduceAdd,Nat.reduceLeDiff,Nat.reduceLT,Nat.reduceEqDiff,Int.reduceEq,Int.reduceLT,Int.reduceLE,Int.reduceNe,ly,h,e0,e1,e2,e3,e4,g1]
  · have e2:IntKind.u64.wrap i=i:=wrapu64 (by omega) (by omega)
    have e3:IntKind.u64.wrap (i * 2)=(zz i:Int):=by
      rw [wrapu64 (by omega) (by omega)]; unfold zz; rw [if_neg h]; omega
    simp only [Q24.v,Q24.t,sy,reduceIte,Nat.reduceAdd,Nat.reduceLeDiff,Nat.reduceLT,Nat.reduceEqDiff,Int.reduceEq,Int.reduceLT,Int.reduceLE,Int.reduceNe,ly,h,e2,e3,g1]
theorem rkeyloop {s0:St} (r:Int) (n:Nat) (hn:n < 2 ^ 64):∀ (m:Nat),m≤8→∀ {s:St} {v:Value} {l:List Int},Fresh s→Ful s0.n s 1 v (br l)→More s0 s→l.length+m≤140737488355328 →
    ∃ v' s',(∀ k,iter (Q1q.l4 std) (k+m+1) [v,.int .i64 ((m:Int) - 1),.agg ⟨[.int .i64 r,.int .u64 (n:Int)]⟩] s=some (0,[v'],s'))∧Ful s0.n s' 1 v' (br (l++kb n m))∧More s0 s'∧Fresh s'
  | 0,_,s,v,l,f,h,m,_=>⟨v,s,fun k=>by
      rw [iter_succ]
      simp only [Q1q.l4,sy,reduceIte,Nat.reduceAdd,Nat.reduceLeDiff,Nat.reduceLT,Nat.reduceEqDiff,Int.reduceEq,Int.reduceLT,Int.reduceLE,Int.reduceNe,ly]
      rfl,by simpa [kb] using h,m,f⟩
  | m+1,hm,s,v,l,f,h,mo,hl=>by
    obtain ⟨v1,s1,p1,p2,p3,p4⟩:=br_one f h mo ((n / 2 ^ (8 * m) % 256:Nat):Int) (by omega)
    obtain ⟨v',s',q1,q2,q3,q4⟩:=rkeyloop r n hn m (by omega) p4 p3 p2 (by simp; omega)
    refine ⟨v',s',fun k=>?_,by rw [kb,List.append_cons]; exact q2,q3,q4⟩
    rw [show ((m+1:Nat):Int) - 1=(m:Int) by omega,show k+(m+1)+1=(k+m+1)+1 by omega,iter_succ]
    have c:m=0∨m=1∨m=2∨m=3∨m=4∨m=5∨m=6∨m=7:=by omega
    have e1:bin .mul (.int .i64 8) (.int .i64 (m:Int))=some (.int .i64 ((8 * m:Nat):Int)):=by rcases c with rfl | rfl | rfl | rfl | rfl | rfl | rfl | rfl <;> rfl
    have e2:=power_r (8 * m) s (by omega)
    have e3:=quo_u64 (a:=n) (b:=2 ^ (8 * m)) hn (Nat.two_pow_pos _)
    have e4:=cvi_u8 .u64 (n / 2 ^ (8 * m))
    have e5:bin .geq (.int .i64 (m:Int)) (.int .i64 0)=some (.bool true):=by rcases c with rfl | rfl | rfl | rfl | rfl | rfl | rfl | rfl <;> rfl
    have e6:bin .sub (.int .i64 (m:Int)) (.int .i64 1)=some (.int .i64 ((m:Int) - 1)):=by rcases c with rfl | rfl | rfl | rfl | rfl | rfl | rfl | rfl <;> rfl
    unfold Q1q.l4
    simp only [u8] at e4
    simp only [std_bd,std_cnd,List.getD_cons_zero,List.getD_cons_succ,cellsA,lcl,List.getElem?_cons_succ,List.getElem?_cons_zero,e1,e2,e3,e4,e5,e6,bls1,p1,Option.bind_some,cnd]
    exact q1 k
theorem keyB_len (r:Int) (n:Nat):(keyB r n).length≤9:=by
  unfold keyB; split <;> simp [kb_length]
theorem rkey_v {s:St} (r:Int) (n:Nat) (hn:n < 2 ^ 64) (f:Fresh s):Mk s (Q1q.v (.agg ⟨[.int .i64 r,.int .u64 (n:Int)]⟩) s) (keyB r n):=by
  have f1:Fresh (s.new (.row 1 (br [IntKind.u8.wrap r]) false)):=f.new
  have h1:Ful s.n (s.new (.row 1 (br [IntKind.u8.wrap r]) false)) 1 (.slice (some ⟨s.n,0,some 0⟩) 1 2) (br [IntKind.u8.wrap r]):=.inr ⟨s.n,2,Nat.le_refl _,rfl,get_new_same,.inr rfl⟩
  have m1:More s (s.new (.row 1 (br [IntKind.u8.wrap r]) false)):=.new
  have e0:s.new (.row 1 [[.int .u8 (IntKind.u8.wrap r)]] false)=s.new (.row 1 (br [IntKind.u8.wrap r]) false):=rfl
  generalize hs1:s.new (.row 1 (br [IntKind.u8.wrap r]) false)=s1 at *
  unfold keyB
  by_cases h2:r=2
  · obtain ⟨v',s',q1,q2,q3,q4⟩:=rkeyloop (s0:=s) r n hn 8 (by omega) f1 h1 m1 (by simp)
    refine ⟨v',s',?_,q3,by rw [if_pos h2]; simpa using q2,q4⟩
    have q:=q1 (BIG - 9)
    rw [show BIG - 9+8+1=BIG from rfl,show ((8:Nat):Int) - 1=7 from rfl] at q
    have ee:(r=2)=True:=eq_true h2
    have el:bx (.agg ⟨[.int .i64 r,.int .u64 (n:Int)]⟩)=some [.int .i64 r,.int .u64 (n:Int)]:=rfl
    have ec:cvi .u8 (.int .i64 r)=some (.int .u8 (IntKind.u8.wrap r)):=rfl
    have eq2:eqb [1] false false (.int .i64 r) (.int .i64 2)=some (.bool true):=by rw [eqb1,decide_eq_true h2]
    unfold Q1q.v Q1q.t
    simp only [std_bd,std_cnd,std_it,el,lcl,List.getElem?_cons_zero,ec,bls1,e0,eq2,q,Option.bind_some,cnd,List.getD_cons_zero]
  · refine ⟨_,s1,?_,m1,by rw [if_neg h2]; exact h1,f1⟩
    have el:bx (.agg ⟨[.int .i64 r,.int .u64 (n:Int)]⟩)=some [.int .i64 r,.int .u64 (n:Int)]:=rfl
    have ec:cvi .u8 (.int .i64 r)=some (.int .u8 (IntKind.u8.wrap r)):=rfl
    have eq2:eqb [1] false false (.int .i64 r) (.int .i64 2)=some (.bool false):=by rw [eqb1,decide_eq_false h2]
    unfold Q1q.v Q1q.t
    simp only [std_bd,std_cnd,std_it,el,lcl,List.getElem?_cons_zero,ec,bls1,e0,eq2,Option.bind_some,cnd]
end Go.Proofs.Yteapmnolmfickaa
/-
  A whole number and a vector,as the writer and the reference write them.
-/
set_option linter.unusedSimpArgs false
set_option linter.unusedVariables false
set_option maxRecDepth 100000
set_option maxHeartbeats 4000000
namespace Go.Proofs.Yteapmnolmfickaa
open Go.Sim Go.Sim.Bt
attribute [local congr] bdc cndc itec gdc gdSc gdUc
theorem xor_ones (a:Nat) (h:a < 2 ^ 64):a ^^^ (2 ^ 64 - 1)=2 ^ 64 - 1 - a:=by
  have e:BitVec.ofNat 64 a ^^^ BitVec.allOnes 64 = ~~~ (BitVec.ofNat 64 a):=BitVec.xor_allOnes
  have:=congrArg BitVec.toNat e
  rw [BitVec.toNat_xor,BitVec.toNat_not,BitVec.toNat_allOnes,BitVec.toNat_ofNat,Nat.mod_eq_of_lt h] at this
  exact this
theorem int_w {b n0:Nat} {s:St} {l:List Int} {i:Int} (h1:-9223372036854775808≤i) (h2:i≤9223372036854775807) (h:WrAt b n0 s l) (hl:l.length+20≤140737488355328) :
    ∃ s',Q1e.v (wpt b) (.int .i64 i) s=some (.tuple ⟨[]⟩,s')∧WrAt b n0 s' (l++numB (zz i))∧WSt b n0 s s':=by
  obtain ⟨s',g1,g2,g3⟩:=number_w (zz i) (zz_lt h1 h2) h hl
  refine ⟨s',?_,g2,g3⟩
  have e1:cvi .u64 (.int .i64 i)=some (.int .u64 (((i % 18446744073709551616).toNat:Nat):Int)):=by
    rw [cvi_int,wrapu64_eq]
    have:(((i % 18446744073709551616).toNat:Nat):Int)=i % 18446744073709551616:=by omega
    rw [this]
  have e2:bin .shl (.int .u64 (((i % 18446744073709551616).toNat:Nat):Int)) (.int .u64 1)=some (.int .u64 (((2 * (i % 18446744073709551616).toNat) % 2 ^ 64:Nat):Int)):=by
    rw [bin_shl (by omega)]
    have e:IntKind.u64.wrap ((((i % 18446744073709551616).toNat:Nat):Int) * 2 ^ (min (1:Int).toNat IntKind.u64.bits))=(((2 * (i % 18446744073709551616).toNat) % 2 ^ 64:Nat):Int):=by
      rw [show min (1:Int).toNat IntKind.u64.bits=1 from rfl,wrapu64_eq]
      omega
    rw [e]
  have e3:bin .shr (.int .i64 i) (.int .u64 63)=some (.int .i64 (if i < 0 then -1 else 0)):=by
    rw [bin_shr (by omega)]
    have e:i.fdiv (2 ^ (min (63:Int).toNat IntKind.i64.bits))=if i < 0 then -1 else 0:=by
      rw [show min (63:Int).toNat IntKind.i64.bits=63 from rfl,Int.fdiv_eq_ediv_of_nonneg _ (by decide)]
      split <;> omega
    rw [e]
  have e4:cvi .u64 (.int .i64 (if i < 0 then -1 else 0))=some (.int .u64 ((if i < 0 then 2 ^ 64 - 1 else 0:Nat):Int)):=by
    rw [cvi_int,wrapu64_eq]
    split <;> rfl
  have e5:bin .xor (.int .u64 (((2 * (i % 18446744073709551616).toNat) % 2 ^ 64:Nat):Int)) (.int .u64 ((if i < 0 then 2 ^ 64 - 1 else 0:Nat):Int))=some (.int .u64 (zz i:Int)):=by
    rw [xor_u64 (Nat.mod_lt _ (by decide)) (by split <;> decide)]
    have e:((2 * (i % 18446744073709551616).toNat) % 2 ^ 64) ^^^ (if i < 0 then 2 ^ 64 - 1 else 0)=zz i:=by
      unfold zz
      split
      · rw [xor_ones _ (Nat.mod_lt _ (by decide))]; omega
      · rw [Nat.xor_zero]; omega
    rw [e]
  unfold Q1e.v Q1e.t
  simp only [std_bd,e1,e2,e3,e4,e5,g1,bds]
def vp (L B:Nat):Nat:=B * 2 ^ (8 * ((L+7) / 8) - L)
def vecB (L B:Nat):List Int:=(L:Int) :: kb (vp L B) ((L+7) / 8)
theorem vp_lt {L B:Nat} (h2:B < 2 ^ L):vp L B < 2 ^ (8 * ((L+7) / 8)):=by
  unfold vp
  have e:8 * ((L+7) / 8)=L+(8 * ((L+7) / 8) - L):=by omega
  rw [e,Nat.pow_add,show L+(8 * ((L+7) / 8) - L) - L=8 * ((L+7) / 8) - L by omega]
  exact Nat.mul_lt_mul_of_lt_of_le h2 (Nat.le_refl _) (Nat.two_pow_pos _)
theorem vp_64 {L B:Nat} (h1:L≤32) (h2:B < 2 ^ L):vp L B < 2 ^ 64 :=
  Nat.lt_of_lt_of_le (vp_lt h2) (Nat.pow_le_pow_right (by omega) (by omega))
theorem vecloop {b n0:Nat} (n:Nat):∀ (m:Nat),m≤8→∀ {s:St} {l:List Int},WrAt b n0 s l→l.length+m≤140737488355328 →
    ∃ s',(∀ k,iter (Q1h.l5 std) (k+m+1) [wpt b,.int .u64 (n:Int),.int .i64 ((m:Int) - 1)] s=some (0,[],s'))∧WrAt b n0 s' (l++kb n m)∧WSt b n0 s s'
  | 0,_,s,l,h,_=>⟨s,fun k=>by
      rw [iter_succ]
      simp only [Q1h.l5,sy,reduceIte,Nat.reduceAdd,Nat.reduceLeDiff,Nat.reduceLT,Nat.reduceEqDiff,Int.reduceEq,Int.reduceLT,Int.reduceLE,Int.reduceNe,ly]
      rfl,by simpa [kb] using h,.refl _ _ _⟩
  | m+1,hm,s,l,h,hl=>by
    obtain ⟨v,hv,hstep⟩:=wr_step h (by omega)
    obtain ⟨v',s1,s2,p1,p2,p3,p4⟩:=hstep ((n / 2 ^ (8 * m) % 256:Nat):Int)
    obtain ⟨s',q1,q2,q3⟩:=vecloop n m (by omega) p3 (by simp; omega)
    refine ⟨s',fun k=>?_,by rw [kb,List.append_cons]; exact q2,p4.trans q3⟩
    rw [show ((m+1:Nat):Int) - 1=(m:Int) by omega,show k+(m+1)+1=(k+m+1)+1 by omega,iter_succ]
    have c:m=0∨m=1∨m=2∨m=3∨m=4∨m=5∨m=6∨m=7:=by omega
    have e1:bin .mul (.int .i64 8) (.int .i64 (m:Int))=some (.int .i64 ((8 * m:Nat):Int)):=by rcases c with rfl | rfl | rfl | rfl | rfl | rfl | rfl | rfl <;> rfl
    have e2:cvi .u64 (.int .i64 ((8 * m:Nat):Int))=some (.int .u64 ((8 * m:Nat):Int)):=by rcases c with rfl | rfl | rfl | rfl | rfl | rfl | rfl | rfl <;> rfl
    have e3:=shr_u64 (a:=n) (k:=8 * m) (k':=.u64) (by omega)
    have e4:=cvi_u8 .u64 (n / 2 ^ (8 * m))
    have e5:bin .geq (.int .i64 (m:Int)) (.int .i64 0)=some (.bool true):=by rcases c with rfl | rfl | rfl | rfl | rfl | rfl | rfl | rfl <;> rfl
    have e6:bin .sub (.int .i64 (m:Int)) (.int .i64 1)=some (.int .i64 ((m:Int) - 1)):=by rcases c with rfl | rfl | rfl | rfl | rfl | rfl | rfl | rfl <;> rfl
    have e7:nck (wpt b)=some (wpt b):=rfl
    have e8:fld 0 (wpt b)=some (wpt b):=rfl
    have e9:=bls1 s ((n / 2 ^ (8 * m) % 256:Nat):Int)
    unfold Q1h.l5
    simp only [u8] at e4 p1
    simp only [std_bd,std_cnd,List.getD_cons_zero,List.getD_cons_succ,e1,e2,e3,e4,e5,e6,e7,e8,e9,hv,p1,p2,bds,cnd]
    exact q1 k
theorem vec_w {b n0:Nat} {s:St} {l:List Int} {L B:Nat} (h1:L≤32) (h2:B < 2 ^ L) (h:WrAt b n0 s l) (hl:l.length+9≤140737488355328) :
    ∃ s',Q1h.v (wpt b) (.agg ⟨[.int .i64 (L:Int),.int .u64 (B:Int)]⟩) s=some (.tuple ⟨[]⟩,s')∧WrAt b n0 s' (l++vecB L B)∧WSt b n0 s s':=by
  obtain ⟨v,hv,hstep⟩:=wr_step h (by omega)
  obtain ⟨v',s1,s2,p1,p2,p3,p4⟩:=hstep (L:Int)
  obtain ⟨s',q1,q2,q3⟩:=vecloop (vp L B) ((L+7) / 8) (by omega) p3 (by simp; omega)
  refine ⟨s',?_,by rw [vecB]; simpa using q2,p4.trans q3⟩
  have q:=q1 (BIG - (L+7) / 8 - 1)
  rw [show BIG - (L+7) / 8 - 1+(L+7) / 8+1=BIG by unfold BIG; omega] at q
  have e0:cvi .u8 (.int .i64 (L:Int))=some (.int .u8 (L:Int)):=by
    rw [cvi_int,wrapu8 (by omega) (by omega)]
  have e1:bin .add (.int .i64 (L:Int)) (.int .i64 7)=some (.int .i64 ((L+7:Nat):Int)):=by
    rw [bin_add,wrap64 (by omega) (by omega)]; rfl
  have e2:bin .quo (.int .i64 ((L+7:Nat):Int)) (.int .i64 8)=some (.int .i64 (((L+7) / 8:Nat):Int)):=by
    rw [bin_quo (by omega),Int.tdiv_eq_ediv_of_nonneg (by omega),wrap64 (by omega) (by omega),show ((L+7:Nat):Int) / 8=(((L+7) / 8:Nat):Int) by omega]
  have e3:bin .mul (.int .i64 8) (.int .i64 (((L+7) / 8:Nat):Int))=some (.int .i64 ((8 * ((L+7) / 8):Nat):Int)):=by
    rw [bin_mul,wrap64 (by omega) (by omega),show (8:Int) * (((L+7) / 8:Nat):Int)=((8 * ((L+7) / 8):Nat):Int) by omega]
  have e4:bin .sub (.int .i64 ((8 * ((L+7) / 8):Nat):Int)) (.int .i64 (L:Int))=some (.int .i64 ((8 * ((L+7) / 8) - L:Nat):Int)):=by
    rw [bin_sub,wrap64 (by omega) (by omega),show ((8 * ((L+7) / 8):Nat):Int) - (L:Int)=((8 * ((L+7) / 8) - L:Nat):Int) by omega]
  have e5:cvi .u64 (.int .i64 ((8 * ((L+7) / 8) - L:Nat):Int))=some (.int .u64 ((8 * ((L+7) / 8) - L:Nat):Int)):=by
    rw [cvi_int,wrapu64 (by omega) (by omega)]
  have e6:bin .shl (.int .u64 (B:Int)) (.int .u64 ((8 * ((L+7) / 8) - L:Nat):Int))=some (.int .u64 (vp L B:Int)):=shl_u64 (by omega) (vp_64 h1 h2)
  have e7:bin .sub (.int .i64 (((L+7) / 8:Nat):Int)) (.int .i64 1)=some (.int .i64 ((((L+7) / 8:Nat):Int) - 1)):=by
    rw [bin_sub,wrap64 (by omega) (by omega)]
  have e8:nck (wpt b)=some (wpt b):=rfl
  have e9:fld 0 (wpt b)=some (wpt b):=rfl
  have f1:bx (.agg ⟨[.int .i64 (L:Int),.int .u64 (B:Int)]⟩)=some [.int .i64 (L:Int),.int .u64 (B:Int)]:=rfl
  have f2:lcl [.int .i64 (L:Int),.int .u64 (B:Int)] 0=some (.int .i64 (L:Int)):=rfl
  have f3:lcl [.int .i64 (L:Int),.int .u64 (B:Int)] 1=some (.int .u64 (B:Int)):=rfl
  have f4:=bls1 s (L:Int)
  simp only [u8] at p1
  clear q1 q2 q3 p3 p4 hstep h
  generalize ((8 * ((L+7) / 8) - L:Nat):Int)=z3 at *
  generalize ((8 * ((L+7) / 8):Nat):Int)=z2 at *
  generalize (((L+7) / 8:Nat):Int)=z1 at *
  generalize ((L+7:Nat):Int)=z0 at *
  generalize ((vp L B:Nat):Int)=z4 at *
  unfold Q1h.v Q1h.t
  simp only [std_bd,std_cnd,std_it,f1,f2,f3,f4,e0,e1,e2,e3,e4,e5,e6,e7,e8,e9,hv,p1,p2,q,bds]
theorem half_step (Q k:Nat):Q / 2 % 2 ^ k * 2+Q % 2=Q % 2 ^ (k+1):=by
  rw [Nat.pow_succ,Nat.mul_comm (2 ^ k) 2,Nat.mod_mul]; omega
theorem vp_bit {L B j:Nat} (hj:j < 8 * ((L+7) / 8)):vp L B / 2 ^ (8 * ((L+7) / 8) - 1 - j) % 2=if j < L then B / 2 ^ (L - 1 - j) % 2 else 0:=by
  unfold vp
  by_cases h:j < L
  · rw [if_pos h,show 8 * ((L+7) / 8) - 1 - j=(8 * ((L+7) / 8) - L)+(L - 1 - j) by omega,Nat.pow_add,← Nat.div_div_eq_div_mul,Nat.mul_div_cancel _ (Nat.two_pow_pos _)]
  · rw [if_neg h,show 8 * ((L+7) / 8) - L=(8 * ((L+7) / 8) - 1 - j)+((j - L)+1) by omega,Nat.pow_add,← Nat.mul_assoc,Nat.mul_right_comm,Nat.mul_div_cancel _ (Nat.two_pow_pos _),Nat.pow_succ,← Nat.mul_assoc,Nat.mul_mod_left]
theorem ext_step {L B i k:Nat} (hk:k < 8) (hi:i+8≤8 * ((L+7) / 8)) :
    (vp L B / 2 ^ (8 * ((L+7) / 8) - (i+k)) % 2 ^ k) * 2+(if i+k < L then B / 2 ^ (L - 1 - (i+k)) % 2 else 0)=vp L B / 2 ^ (8 * ((L+7) / 8) - (i+(k+1))) % 2 ^ (k+1):=by
  rw [← vp_bit (by omega),show 8 * ((L+7) / 8) - (i+k)=8 * ((L+7) / 8) - 1 - (i+k)+1 by omega,Nat.pow_succ,← Nat.div_div_eq_div_mul,half_step,
    show 8 * ((L+7) / 8) - (i+(k+1))=8 * ((L+7) / 8) - 1 - (i+k) by omega]
theorem rbyteloop {s:St} {u w:Value} {L B i:Nat} (h1:L≤32) (hw:IsI s w (bl L B)) (hi:i+8≤8 * ((L+7) / 8)):∀ (d k:Nat),k+d=8 →
    ∀ e,iter (Q23.l8 std) (e+d+1) [u,w,.int .i64 (i:Int),.int .u8 ((vp L B / 2 ^ (8 * ((L+7) / 8) - (i+k)) % 2 ^ k:Nat):Int),.int .i64 (k:Int)] s
      = some (0,[u,w,.int .i64 (i:Int),.int .u8 ((vp L B / 2 ^ (8 * ((L+7) / 8) - (i+8)) % 256:Nat):Int)],s)
  | 0,k,hk,e=>by
    have:k=8:=by omega
    subst this
    have e1:bin .lss (.int .i64 ((8:Nat):Int)) (.int .i64 8)=some (.bool false):=rfl
    rw [iter_succ]
    unfold Q23.l8
    simp only [std_bd,std_cnd,List.getD_cons_zero,List.getD_cons_succ,e1,bds,cnd]
  | d+1,k,hk,e=>by
    have ih:=rbyteloop (u:=u) h1 hw hi d (k+1) (by omega) e
    have hx:vp L B / 2 ^ (8 * ((L+7) / 8) - (i+k)) % 2 ^ k < 128:=Nat.lt_of_lt_of_le (Nat.mod_lt _ (Nat.two_pow_pos _)) (Nat.pow_le_pow_right (n:=2) (by omega) (show k≤7 by omega))
    have hst:=ext_step (L:=L) (B:=B) (i:=i) (k:=k) (by omega) hi
    generalize hX:vp L B / 2 ^ (8 * ((L+7) / 8) - (i+k)) % 2 ^ k=X at *
    have e1:bin .lss (.int .i64 (k:Int)) (.int .i64 8)=some (.bool true):=by
      rw [bin_lss,decide_eq_true (by omega)]
    have e2:bin .mul (.int .u8 (X:Int)) (.int .u8 2)=some (.int .u8 ((X * 2:Nat):Int)):=by
      rw [bin_mul,wrapu8 (by omega) (by omega)]; rfl
    have e3:bin .add (.int .i64 (i:Int)) (.int .i64 (k:Int))=some (.int .i64 ((i+k:Nat):Int)):=by
      rw [bin_add,wrap64 (by omega) (by omega)]; rfl
    have e4:=hw.len
    rw [bl_length] at e4
    have e5:bin .add (.int .i64 (k:Int)) (.int .i64 1)=some (.int .i64 ((k+1:Nat):Int)):=by
      rw [bin_add,wrap64 (by omega) (by omega)]; rfl
    rw [show e+(d+1)+1=(e+d+1)+1 by omega,iter_succ]
    unfold Q23.l8
    by_cases h:i+k < L
    · rw [if_pos h] at hst
      obtain ⟨p,p1,p2⟩:=hw.at (bl_get (n:=L) (b:=B) h)
      have hb:B / 2 ^ (L - 1 - (i+k)) % 2 < 2:=Nat.mod_lt _ (by omega)
      generalize B / 2 ^ (L - 1 - (i+k)) % 2=D at *
      have e6:bin .lss (.int .i64 ((i+k:Nat):Int)) (.int .i64 (L:Int))=some (.bool true):=by
        rw [bin_lss,decide_eq_true (by omega)]
      have e7:cvi .u8 (.int .i64 (D:Int))=some (.int .u8 (D:Int)):=by
        rw [cvi_int,wrapu8 (by omega) (by omega)]
      have e8:bin .add (.int .u8 ((X * 2:Nat):Int)) (.int .u8 (D:Int))=some (.int .u8 ((X * 2+D:Nat):Int)):=by
        rw [bin_add,wrapu8 (by omega) (by omega)]; rfl
      simp only [std_bd,std_cnd,List.getD_cons_zero,List.getD_cons_succ,e1,e2,e3,e4,e5,e6,e7,e8,p1,p2,bds,cnd]
      rw [hst]
      exact ih
    · rw [if_neg h,Nat.add_zero] at hst
      have e6:bin .lss (.int .i64 ((i+k:Nat):Int)) (.int .i64 (L:Int))=some (.bool false):=by
        rw [bin_lss,decide_eq_false (by omega)]
      simp only [std_bd,std_cnd,List.getD_cons_zero,List.getD_cons_succ,e1,e2,e3,e4,e5,e6,bds,cnd]
      rw [hst]
      exact ih
theorem rvecloop {s0:St} {w:Value} {L B n0:Nat} (h1:L≤32) (h0:n0≤s0.n) (hk:∀ s',More s0 s'→IsI s' w (bl L B)):∀ (m t:Nat),t+m=(L+7) / 8→∀ {s:St} {v:Value} {l:List Int},Fresh s→Ful n0 s 1 v (br l) →
      (∀ y,∃ v' s',app (s.new (.row 1 [[.int .u8 y]] false)) 1 1 v (.slice (some ⟨s.n,0,some 0⟩) 1 2)=some (v',s')∧More s0 s'∧Ful s0.n s' 1 v' (br (l++[y]))∧Fresh s')→More s0 s→l.length+m+1≤140737488355328 →
    ∃ v' s',(∀ e,iter (Q23.l4 std) (e+m+1) [v,w,.int .i64 ((8 * t:Nat):Int)] s=some (0,[v'],s'))∧Ful n0 s' 1 v' (br (l++kb (vp L B) m))∧More s0 s'∧Fresh s'
  | 0,t,ht,s,v,l,f,h,hp,mo,hl=>by
    refine ⟨v,s,fun e=>?_,by simpa [kb] using h,mo,f⟩
    have e4:=(hk s mo).len
    rw [bl_length] at e4
    have e6:bin .lss (.int .i64 ((8 * t:Nat):Int)) (.int .i64 (L:Int))=some (.bool false):=by
      rw [bin_lss,decide_eq_false (by omega)]
    rw [iter_succ]
    unfold Q23.l4
    simp only [std_bd,std_cnd,List.getD_cons_zero,List.getD_cons_succ,e4,e6,bds,cnd]
  | m+1,t,ht,s,v,l,f,h,hp,mo,hl=>by
    have e4:=(hk s mo).len
    rw [bl_length] at e4
    have e6:bin .lss (.int .i64 ((8 * t:Nat):Int)) (.int .i64 (L:Int))=some (.bool true):=by
      rw [bin_lss,decide_eq_true (by omega)]
    have q:=rbyteloop (u:=v) h1 (hk s mo) (i:=8 * t) (by omega) 8 0 rfl (BIG - 9)
    rw [show BIG - 9+8+1=BIG from rfl,Nat.pow_zero,Nat.mod_one,show 8 * ((L+7) / 8) - (8 * t+8)=8 * m by omega] at q
    obtain ⟨v1,s1,p1,p2,p3,p4⟩:=hp ((vp L B / 2 ^ (8 * m) % 256:Nat):Int)
    obtain ⟨v',s',q1,q2,q3,q4⟩:=rvecloop (B:=B) h1 h0 hk m (t+1) (by omega) p4 (p3.le h0) (fun y=>br_one p4 p3 p2 y (by simp; omega)) p2 (by simp; omega)
    refine ⟨v',s',fun e=>?_,by rw [kb,List.append_cons]; exact q2,q3,q4⟩
    have e5:bin .add (.int .i64 ((8 * t:Nat):Int)) (.int .i64 8)=some (.int .i64 ((8 * (t+1):Nat):Int)):=by
      rw [bin_add,wrap64 (by omega) (by omega)]; rfl
    rw [show e+(m+1)+1=(e+m+1)+1 by omega,iter_succ]
    unfold Q23.l4
    have q':iter (Q23.l8 std) BIG [v,w,.int .i64 ((8 * t:Nat):Int),.int .u8 0,.int .i64 0] s=_:=q
    simp only [std_bd,std_cnd,std_it,List.getD_cons_zero,List.getD_cons_succ,e4,e6,q',bls1,p1,e5,bds,cnd]
    exact q1 e
theorem vecB_len (L B:Nat):(vecB L B).length=(L+7) / 8+1:=by simp [vecB,kb_length]
theorem rvector_v {s:St} {L B:Nat} (h1:L≤32) (h2:B < 2 ^ L) (f:Fresh s):Mk s (Q23.v (.agg ⟨[.int .i64 (L:Int),.int .u64 (B:Int)]⟩) s) (vecB L B):=by
  have f1:Fresh (s.new (.row 1 (br [(L:Int)]) false)):=f.new
  have g1:Ful s.n (s.new (.row 1 (br [(L:Int)]) false)) 1 (.slice (some ⟨s.n,0,some 0⟩) 1 2) (br [(L:Int)]):=.inr ⟨s.n,2,Nat.le_refl _,rfl,get_new_same,.inr rfl⟩
  have m1:More s (s.new (.row 1 (br [(L:Int)]) false)):=.new
  have e0:s.new (.row 1 [[.int .u8 (L:Int)]] false)=s.new (.row 1 (br [(L:Int)]) false):=rfl
  generalize hs1:s.new (.row 1 (br [(L:Int)]) false)=s1 at *
  obtain ⟨w,s2,b1,b2,b3⟩:=bits_is s1 h1 h2
  have f2:=b2.fresh f1
  have g2:Ful s.n s2 1 (.slice (some ⟨s.n,0,some 0⟩) 1 2) (br [(L:Int)]):=g1.more b2 f1
  have gr:s2.get s.n=some (.row 1 (br [(L:Int)]) false):=b2.get f1 (by rw [← hs1]; exact get_new_same)
  have m2:=m1.trans b2
  have hp:∀ y,∃ v' s',app (s2.new (.row 1 [[.int .u8 y]] false)) 1 1 (.slice (some ⟨s.n,0,some 0⟩) 1 2) (.slice (some ⟨s2.n,0,some 0⟩) 1 2)=some (v',s')∧More s2 s'∧Ful s2.n s' 1 v' (br ([(L:Int)]++[y]))∧Fresh s':=by
    intro y
    have gn:(s2.new (.row 1 [[.int .u8 y]] false)).get s.n=some (.row 1 (br [(L:Int)]) false):=More.new.get f2 gr
    refine ⟨_,_,app_full (by rfl) rowsOf_one gn (by simp [br_length]) (by omega) (by omega) (by omega) (by omega),More.new.trans .new,.inr ⟨_,1,by rw [new_n]; omega,rfl,get_new_same,.inl rfl⟩,f2.new.new⟩
  obtain ⟨v',s',q1,q2,q3,q4⟩:=rvecloop (s0:=s2) (w:=w) (B:=B) (n0:=s.n) h1 m2.n (fun s' m=>b3.more m f2) ((L+7) / 8) 0 (by omega) f2 g2 hp (.refl _) (by simp; omega)
  refine ⟨v',s',?_,m2.trans q3,by rw [vecB]; simpa using q2,q4⟩
  have q:=q1 (BIG - (L+7) / 8 - 1)
  rw [show BIG - (L+7) / 8 - 1+(L+7) / 8+1=BIG by unfold BIG; omega] at q
  have e1:cvi .u8 (.int .i64 (L:Int))=some (.int .u8 (L:Int)):=by
    rw [cvi_int,wrapu8 (by omega) (by omega)]
  have e2:bx (.agg ⟨[.int .i64 (L:Int),.int .u64 (B:Int)]⟩)=some [.int .i64 (L:Int),.int .u64 (B:Int)]:=rfl
  have e3:lcl [.int .i64 (L:Int),.int .u64 (B:Int)] 0=some (.int .i64 (L:Int)):=rfl
  have e4:lal [.int .i64 (L:Int),.int .u64 (B:Int)] 0 2=some (VV L B):=rfl
  unfold Q23.v Q23.t
  simp only [std_bd,std_cnd,std_it,e1,e2,e3,e4,bls1,e0,b1,bds]
  rw [show iter (Q23.l4 std) BIG [.slice (some ⟨s.n,0,some 0⟩) 1 2,w,.int .i64 0] s2=_ from q]
  rfl
end Go.Proofs.Yteapmnolmfickaa
/-
  A field,as the writer and the reference write it.
-/
set_option linter.unusedSimpArgs false
set_option linter.unusedVariables false
set_option maxRecDepth 100000
set_option maxHeartbeats 4000000
namespace Go.Proofs.Yteapmnolmfickaa
open Go.Sim Go.Sim.Bt
attribute [local congr] bdc cndc itec gdc gdSc gdUc
structure FdA (f:Fd):Prop where
  n0:0≤f.n
  n1:f.n < 18446744073709551616
  i0:-9223372036854775808≤f.i
  i1:f.i≤9223372036854775807
  vb:0≤f.vb
  kn0:0≤f.kn
  kn1:f.kn < 18446744073709551616
  d0:-9223372036854775808≤f.id
  d1:f.id≤9223372036854775807
  rn0:0≤f.rn
  rn1:f.rn < 18446744073709551616
  rb:0≤f.rb
def Pers (n:Nat) (s:St) (P:St→Prop):Prop:=∀ s',(∀ x,x < n→s'.get x=s.get x)→P s'
theorem Pers.here {n:Nat} {s:St} {P:St→Prop} (h:Pers n s P):P s:=h s fun _ _=>rfl
theorem Pers.to {n:Nat} {s s':St} {P:St→Prop} (h:Pers n s P) (k:∀ x,x < n→s'.get x=s.get x):Pers n s' P:=fun s'' h''=>h s'' fun x hx=>(h'' x hx).trans (k x hx)
def wB (f:Fd) (l:List Int):List Int :=
  if f.k=1 then numB f.n.toNat else if f.k=2 then numB (zz f.i) else if f.k=3 then [if f.t then 1 else 0] else if f.k=4 then numB l.length++l
  else if f.k=5 then vecB f.vl.toNat f.vb.toNat else if f.k=6 then keyB f.kr f.kn.toNat else (numB (zz f.id)++keyB f.rr f.rn.toNat)++vecB f.rl.toNat f.rb.toNat
theorem wB_len {f:Fd} {l:List Int} {x:ByteArray} (a:FdA f) (h:okF f x l.length):(wB f l).length≤65600:=by
  have a1:=a.n0; have a2:=a.n1; have a3:=a.i0; have a4:=a.i1; have a5:=a.d0; have a6:=a.d1
  have hv:∀ {L B:Int},okV L B→(vecB L.toNat B.toNat).length≤5:=by
    rintro L B ⟨n,b,rfl,rfl,h1,h2⟩
    rw [vecB_len]; simp only [Int.toNat_natCast]; omega
  unfold wB
  split
  · have:=numB_le (x:=f.n.toNat) (by omega); omega
  · split
    · have:=numB_le (zz_lt a3 a4); omega
    · split
      · simp
      · split
        · rename_i h4
          have:=h.2.2.1 h4
          have:=numB_le (x:=l.length) (by omega)
          simp; omega
        · split
          · rename_i h5
            have:=hv (h.2.2.2.1 h5); omega
          · split
            · have:=keyB_len f.kr f.kn.toNat; omega
            · rename_i h1 h2 h3 h4 h5 h6
              have h7:f.k=7:=by have:=h.1.1; have:=h.1.2; omega
              have:=hv (h.2.2.2.2.2 h7).2
              have:=keyB_len f.rr f.rn.toNat
              have:=numB_le (zz_lt a5 a6)
              simp; omega
theorem wr_app {b n0:Nat} {s:St} {l m:List Int} (h:WrAt b n0 s l) (hl:l.length+m.length≤140737488355328) {w:Value} (hw:lenV w=some m.length) (hr:rowsOf s 1 m.length w=some (br m)) :
    ∃ v,ldc s (wpt b)=some v∧∃ v' s' s'',app s 1 1 v w=some (v',s')∧stv s' 1 (wpt b) v'=some s''∧WrAt b n0 s'' (l++m)∧WSt b n0 s s'':=by
  obtain ⟨v,hg,hv⟩:=h.at_
  refine ⟨v,by rw [wpt,ldc_row hg]; rfl,?_⟩
  have mo:More ⟨s.h,n0⟩ s:=⟨h.le,fun _ _=>rfl,fun _=>h.fr⟩
  obtain ⟨v',s',h1,h2,h3,h4⟩:=app_ful (s0:=⟨s.h,n0⟩) (news:=br m) h.fr hv mo (by rw [br_length]; exact hw) (by rw [br_length]; exact hr) (by rw [br_length,br_length]; exact hl)
  have hg':s'.get b=some (.row 1 [[v]] false):=(h2.old b h.lt).trans hg
  have hbx:bx v'=some [v']:=h3.isR.bx
  have hn:s.n≤s'.n:=by
    have:∀ {a:Option (Value×St)},a=app s 1 1 v w→∀ p,a=some p→s.n≤p.2.n:=by
      intro a ha p hp
      rw [ha] at hp
      unfold app at hp
      repeat' (split at hp <;> try cases hp)
      all_goals first | exact Nat.le_refl _ | (simp only [new_n,put_n,del_n]; omega)
    exact this h1.symm _ rfl
  refine ⟨v',s',s'.put b (.row 1 [[v']] false),h1,?_,⟨h4.put,h.lt,h2.n,v',get_put_same hg',?_⟩,⟨hn,fun x hx hne=>?_⟩⟩
  · rw [wpt,stv_row hg',hbx]; rfl
  · rw [br_append]
    rcases h3 with ⟨e1,e2⟩ | ⟨c,e,e0,e1,e2,e3⟩
    · exact .inl ⟨e1,e2⟩
    · exact .inr ⟨c,e,e0,e1,by rw [get_put_ne (by have:=h.lt; simp only at e0; omega)]; exact e2,e3⟩
  · rw [get_put_ne hne]
    exact h2.old x hx
theorem len_u64 (n:Nat) (h:n≤65536):cvi .u64 (.int .i64 (n:Int))=some (.int .u64 (n:Int)):=by
  rw [cvi_int,wrapu64 (by omega) (by omega)]
theorem field_w {b n0 n1:Nat} {s:St} {m:List Int} {f:Fd} {l:List Int} {x:ByteArray} (a:FdA f) (ok:okF f x l.length) (hb:Pers n1 s fun s=>Byt s f.b (br l)) (hn:n1≤b) (h:WrAt b n0 s m) (hl:m.length+65600≤140737488355328) :
    ∃ s',Q1d.v (wpt b) f.v s=some (.tuple ⟨[]⟩,s')∧WrAt b n0 s' (m++wB f l)∧WSt b n0 s s':=by
  obtain ⟨f1,f2,f3,f4,f5,f6,f7,f8,f9,f10,f11,f12⟩:=a
  have e7:nck (wpt b)=some (wpt b):=rfl
  have e8:fld 0 (wpt b)=some (wpt b):=rfl
  have k1:=ok.1.1
  have k2:=ok.1.2
  have c:f.k=1∨f.k=2∨f.k=3∨f.k=4∨f.k=5∨f.k=6∨f.k=7:=by omega
  rcases c with c | c | c | c | c | c | c
  · obtain ⟨n,hn⟩:∃ n:Nat,f.n=n:=⟨f.n.toNat,by omega⟩
    obtain ⟨s',h1,h2,h3⟩:=number_w n (by omega) h (by omega)
    refine ⟨s',?_,by unfold wB; rw [if_pos c,hn]; exact h2,h3⟩
    simp only [Q1d.v,Q1d.t,Fd.v,Fd.cs,sy,reduceIte,Nat.reduceAdd,Nat.reduceLeDiff,Nat.reduceLT,Nat.reduceEqDiff,Int.reduceEq,Int.reduceLT,Int.reduceLE,Int.reduceNe,ly,c,hn,h1]
  · obtain ⟨s',h1,h2,h3⟩:=int_w f3 f4 h (by omega)
    refine ⟨s',?_,by unfold wB; rw [if_neg (by omega),if_pos c]; exact h2,h3⟩
    simp only [Q1d.v,Q1d.t,Fd.v,Fd.cs,sy,reduceIte,Nat.reduceAdd,Nat.reduceLeDiff,Nat.reduceLT,Nat.reduceEqDiff,Int.reduceEq,Int.reduceLT,Int.reduceLE,Int.reduceNe,ly,c,h1]
  · obtain ⟨v,hv,hstep⟩:=wr_step h (by omega)
    obtain ⟨v',s1,s2,p1,p2,p3,p4⟩:=hstep (if f.t then 1 else 0)
    refine ⟨s2,?_,by unfold wB; rw [if_neg (by omega),if_neg (by omega),if_pos c]; exact p3,p4⟩
    simp only [u8] at p1
    cases ht:f.t
    · simp only [ht] at p1
      simp only [Bool.false_eq_true,if_false] at p1
      simp only [Q1d.v,Q1d.t,Fd.v,Fd.cs,sy,reduceIte,Nat.reduceAdd,Nat.reduceLeDiff,Nat.reduceLT,Nat.reduceEqDiff,Int.reduceEq,Int.reduceLT,Int.reduceLE,Int.reduceNe,ly,c,ht,e7,e8,hv,als_eq,p1,p2]
    · simp only [ht] at p1
      simp only [if_true] at p1
      simp only [Q1d.v,Q1d.t,Fd.v,Fd.cs,sy,reduceIte,Nat.reduceAdd,Nat.reduceLeDiff,Nat.reduceLT,Nat.reduceEqDiff,Int.reduceEq,Int.reduceLT,Int.reduceLE,Int.reduceNe,ly,c,ht,e7,e8,hv,als_eq,p1,p2]
  · have hln:=ok.2.2.1 c
    obtain ⟨s1,h1,h2,h3⟩:=number_w l.length (by omega) h (by omega)
    have hb1:=(hb.to fun x hx=>h3.keep x (by have:=h.lt; omega) (by omega)).here
    have hlen:=hb.here.lenL
    have hrow:=hb1.rows
    have hlv:=hb1.len
    rw [br_length] at hlen hrow hlv
    have hnl:=numB_le (x:=l.length) (by omega)
    obtain ⟨v,hv,v',s2,s3,p1,p2,p3,p4⟩:=wr_app h2 (m:=l) (by simp; omega) hlv hrow
    refine ⟨s3,?_,by unfold wB; rw [if_neg (by omega),if_neg (by omega),if_neg (by omega),if_pos c,← List.append_assoc]; exact p3,h3.trans p4⟩
    have hu:=len_u64 l.length hln
    have hw:IntKind.u64.wrap ((l.length:Nat):Int)=(l.length:Int):=wrapu64 (by omega) (by omega)
    simp only [Q1d.v,Q1d.t,Fd.v,Fd.cs,sy,reduceIte,Nat.reduceAdd,Nat.reduceLeDiff,Nat.reduceLT,Nat.reduceEqDiff,Int.reduceEq,Int.reduceLT,Int.reduceLE,Int.reduceNe,ly,c,hlen,hw,h1,e7,e8,hv,p1,p2]
  · obtain ⟨L,B,hL,hB,g1,g2⟩:=ok.2.2.2.1 c
    obtain ⟨s',h1,h2,h3⟩:=vec_w g1 g2 h (by omega)
    refine ⟨s',?_,by unfold wB; rw [if_neg (by omega),if_neg (by omega),if_neg (by omega),if_neg (by omega),if_pos c,hL,hB]; exact h2,h3⟩
    simp only [Q1d.v,Q1d.t,Fd.v,Fd.cs,sy,reduceIte,Nat.reduceAdd,Nat.reduceLeDiff,Nat.reduceLT,Nat.reduceEqDiff,Int.reduceEq,Int.reduceLT,Int.reduceLE,Int.reduceNe,ly,c,hL,hB,h1]
  · obtain ⟨n,hn⟩:∃ n:Nat,f.kn=n:=⟨f.kn.toNat,by omega⟩
    obtain ⟨s',h1,h2,h3⟩:=key_w f.kr n h (by omega)
    refine ⟨s',?_,by unfold wB; rw [if_neg (by omega),if_neg (by omega),if_neg (by omega),if_neg (by omega),if_neg (by omega),if_pos c,hn]; exact h2,h3⟩
    simp only [Q1d.v,Q1d.t,Fd.v,Fd.cs,sy,reduceIte,Nat.reduceAdd,Nat.reduceLeDiff,Nat.reduceLT,Nat.reduceEqDiff,Int.reduceEq,Int.reduceLT,Int.reduceLE,Int.reduceNe,ly,c,hn,h1]
  · obtain ⟨L,B,hL,hB,g1,g2⟩:=(ok.2.2.2.2.2 c).2
    obtain ⟨n,hn⟩:∃ n:Nat,f.rn=n:=⟨f.rn.toNat,by omega⟩
    have y1:=numB_le (zz_lt f8 f9)
    have y2:=keyB_len f.rr n
    obtain ⟨s1,h1,h2,h3⟩:=int_w f8 f9 h (by omega)
    obtain ⟨s2,i1,i2,i3⟩:=key_w f.rr n h2 (by simp; omega)
    obtain ⟨s',j1,j2,j3⟩:=vec_w g1 g2 i2 (by simp; omega)
    refine ⟨s',?_,by
      unfold wB
      rw [if_neg (by omega),if_neg (by omega),if_neg (by omega),if_neg (by omega),if_neg (by omega),if_neg (by omega),hn,hL,hB]
      simpa [List.append_assoc] using j2,(h3.trans i3).trans j3⟩
    simp only [Q1d.v,Q1d.t,Fd.v,Fd.cs,sy,reduceIte,Nat.reduceAdd,Nat.reduceLeDiff,Nat.reduceLT,Nat.reduceEqDiff,Int.reduceEq,Int.reduceLT,Int.reduceLE,Int.reduceNe,ly,c,hn,hL,hB,h1,i1,j1]
theorem one_v {n1:Nat} {s:St} {f:Fd} {l:List Int} {x:ByteArray} (a:FdA f) (ok:okF f x l.length) (hb:Pers n1 s fun s=>Byt s f.b (br l)) (hn:n1≤s.n) (hf:Fresh s) :
    Mk s (Q21.v f.v s) (wB f l):=by
  obtain ⟨f1,f2,f3,f4,f5,f6,f7,f8,f9,f10,f11,f12⟩:=a
  have k1:=ok.1.1
  have k2:=ok.1.2
  have c:f.k=1∨f.k=2∨f.k=3∨f.k=4∨f.k=5∨f.k=6∨f.k=7:=by omega
  rcases c with c | c | c | c | c | c | c
  · obtain ⟨n,hn⟩:∃ n:Nat,f.n=n:=⟨f.n.toNat,by omega⟩
    obtain ⟨v,s',h1,h2⟩:=rnumber_v (s:=s) n (by omega) hf
    refine ⟨v,s',?_,by unfold wB; rw [if_pos c,hn]; exact h2⟩
    simp only [Q21.v,Q21.t,Fd.v,Fd.cs,sy,reduceIte,Nat.reduceAdd,Nat.reduceLeDiff,Nat.reduceLT,Nat.reduceEqDiff,Int.reduceEq,Int.reduceLT,Int.reduceLE,Int.reduceNe,ly,c,hn,h1]
  · obtain ⟨v,s',h1,h2⟩:=rwhole_v (s:=s) f3 f4 hf
    refine ⟨v,s',?_,by unfold wB; rw [if_neg (by omega),if_pos c]; exact h2⟩
    simp only [Q21.v,Q21.t,Q21.t.p1,Fd.v,Fd.cs,sy,reduceIte,Nat.reduceAdd,Nat.reduceLeDiff,Nat.reduceLT,Nat.reduceEqDiff,Int.reduceEq,Int.reduceLT,Int.reduceLE,Int.reduceNe,ly,c,h1]
  · have hh:∀ y:Int,More s (s.new (.row 1 [[.int .u8 y]] false))∧Ful s.n (s.new (.row 1 [[.int .u8 y]] false)) 1 (.slice (some ⟨s.n,0,some 0⟩) 1 2) (br [y])∧Fresh (s.new (.row 1 [[.int .u8 y]] false)) :=
      fun y=>⟨.new,.inr ⟨s.n,2,Nat.le_refl _,rfl,get_new_same,.inr rfl⟩,hf.new⟩
    refine ⟨_,_,?_,by unfold wB; rw [if_neg (by omega),if_neg (by omega),if_pos c]; exact hh _⟩
    cases ht:f.t
    · simp only [Q21.v,Q21.t,Q21.t.p1,Fd.v,Fd.cs,sy,reduceIte,Nat.reduceAdd,Nat.reduceLeDiff,Nat.reduceLT,Nat.reduceEqDiff,Int.reduceEq,Int.reduceLT,Int.reduceLE,Int.reduceNe,ly,c,ht,als_eq]
    · simp only [Q21.v,Q21.t,Q21.t.p1,Fd.v,Fd.cs,sy,reduceIte,Nat.reduceAdd,Nat.reduceLeDiff,Nat.reduceLT,Nat.reduceEqDiff,Int.reduceEq,Int.reduceLT,Int.reduceLE,Int.reduceNe,ly,c,ht,als_eq]
  · have hln:=ok.2.2.1 c
    obtain ⟨v,s1,h1,h2,h3,h4⟩:=rnumber_v (s:=s) l.length (by omega) hf
    have hb1:=(hb.to fun x hx=>h2.old x (by omega)).here
    have hlen:=hb.here.lenL
    have hrow:=hb1.rows
    have hlv:=hb1.len
    have hnl:=numB_le (x:=l.length) (by omega)
    obtain ⟨v',s',p1,p2,p3,p4⟩:=app_ful h4 h3 h2 hlv hrow (by simp only [br_length]; omega)
    rw [br_length] at hlen
    refine ⟨v',s',?_,p2,by unfold wB; rw [if_neg (by omega),if_neg (by omega),if_neg (by omega),if_pos c,br_append]; exact p3,p4⟩
    have hw:IntKind.u64.wrap ((l.length:Nat):Int)=(l.length:Int):=wrapu64 (by omega) (by omega)
    have sm:sameV (.int .i64 ((l.length:Nat):Int)) (.int .i64 ((l.length:Nat):Int))=true:=sameII
    simp only [Q21.v,Q21.t,Q21.t.p1,Fd.v,Fd.cs,sy,reduceIte,Nat.reduceAdd,Nat.reduceLeDiff,Nat.reduceLT,Nat.reduceEqDiff,Int.reduceEq,Int.reduceLT,Int.reduceLE,Int.reduceNe,ly,c,hlen,hw,h1,sm,p1]
  · obtain ⟨L,B,hL,hB,g1,g2⟩:=ok.2.2.2.1 c
    obtain ⟨v,s',h1,h2⟩:=rvector_v (s:=s) g1 g2 hf
    refine ⟨v,s',?_,by unfold wB; rw [if_neg (by omega),if_neg (by omega),if_neg (by omega),if_neg (by omega),if_pos c,hL,hB]; exact h2⟩
    simp only [Q21.v,Q21.t,Q21.t.p1,Fd.v,Fd.cs,sy,reduceIte,Nat.reduceAdd,Nat.reduceLeDiff,Nat.reduceLT,Nat.reduceEqDiff,Int.reduceEq,Int.reduceLT,Int.reduceLE,Int.reduceNe,ly,c,hL,hB,h1]
  · obtain ⟨n,hn⟩:∃ n:Nat,f.kn=n:=⟨f.kn.toNat,by omega⟩
    obtain ⟨v,s',h1,h2⟩:=rkey_v (s:=s) f.kr n (by omega) hf
    refine ⟨v,s',?_,by unfold wB; rw [if_neg (by omega),if_neg (by omega),if_neg (by omega),if_neg (by omega),if_neg (by omega),if_pos c,hn]; exact h2⟩
    simp only [Q21.v,Q21.t,Q21.t.p1,Fd.v,Fd.cs,sy,reduceIte,Nat.reduceAdd,Nat.reduceLeDiff,Nat.reduceLT,Nat.reduceEqDiff,Int.reduceEq,Int.reduceLT,Int.reduceLE,Int.reduceNe,ly,c,hn,h1]
  · obtain ⟨L,B,hL,hB,g1,g2⟩:=(ok.2.2.2.2.2 c).2
    obtain ⟨n,hn⟩:∃ n:Nat,f.rn=n:=⟨f.rn.toNat,by omega⟩
    have y1:=numB_le (zz_lt f8 f9)
    have y2:=keyB_len f.rr n
    have y3:=vecB_len L B
    obtain ⟨v1,s1,h1,h2,h3,h4⟩:=rwhole_v (s:=s) f8 f9 hf
    obtain ⟨v2,s2,i1,i2,i3,i4⟩:=rkey_v (s:=s1) f.rr n (by omega) h4
    obtain ⟨v3,s3,p1,p2,p3,p4⟩:=br_app i4 (h3.more i2 h4) i3 (h2.trans i2) (by omega)
    obtain ⟨v4,s4,j1,j2,j3,j4⟩:=rvector_v (s:=s3) g1 g2 p4
    obtain ⟨v5,s5,q1,q2,q3,q4⟩:=br_app j4 (p3.more j2 p4) j3 (p2.trans j2) (by simp; omega)
    refine ⟨v5,s5,?_,q2,by
      unfold wB
      rw [if_neg (by omega),if_neg (by omega),if_neg (by omega),if_neg (by omega),if_neg (by omega),if_neg (by omega),hn,hL,hB]
      exact q3,q4⟩
    simp only [Q21.v,Q21.t,Q21.t.p1,Fd.v,Fd.cs,sy,reduceIte,Nat.reduceAdd,Nat.reduceLeDiff,Nat.reduceLT,Nat.reduceEqDiff,Int.reduceEq,Int.reduceLT,Int.reduceLE,Int.reduceNe,ly,c,hn,hL,hB,h1,i1,p1,j1,q1]
end Go.Proofs.Yteapmnolmfickaa
/-
  Fields packed,as the program and the reference pack them.
-/
set_option linter.unusedSimpArgs false
set_option linter.unusedVariables false
set_option maxRecDepth 100000
set_option maxHeartbeats 4000000
namespace Go.Proofs.Yteapmnolmfickaa
open Go.Sim Go.Sim.Bt
attribute [local congr] bdc cndc itec gdc gdSc gdUc
abbrev FB:=Fd×List Int
def okP (p:FB):Prop:=okF p.1 ⟨⟨bts p.2⟩⟩ p.2.length
structure FL (n:Nat) (s:St) (v:Value) (fs:List FB):Prop where
  rows:Pers n s fun s=>IsR s 14 v (fs.map fun p=>p.1.cs)
  els:∀ p ∈ fs,FdA p.1∧Pers n s fun s=>Byt s p.1.b (br p.2)
theorem FL.to {n:Nat} {s s':St} {v:Value} {fs:List FB} (h:FL n s v fs) (k:∀ x,x < n→s'.get x=s.get x):FL n s' v fs:=⟨h.rows.to k,fun p hp=>⟨(h.els p hp).1,(h.els p hp).2.to k⟩⟩
theorem FL.len {n:Nat} {s:St} {v:Value} {fs:List FB} (h:FL n s v fs):lenL v=some (.int .i64 fs.length):=by
  have:=h.rows.here.len
  rwa [List.length_map] at this
theorem FL.bx {n:Nat} {s:St} {v:Value} {fs:List FB} (h:FL n s v fs):bx v=some [v]:=h.rows.here.bx
theorem FL.at {n:Nat} {s:St} {v:Value} {fs:List FB} (h:FL n s v fs) {j:Nat} {p:FB} (hj:fs[j]?=some p):∃ q,idx s 14 v (.int .i64 (j:Int))=some q∧lda s 14 q=some p.1.v:=by
  obtain ⟨b,all,ro,h1,h2,h3⟩:=h.rows.here.at (j:=j) (r:=p.1.cs) (by rw [List.getElem?_map,hj]; rfl)
  exact ⟨_,h1,by rw [lda_row h2,h3]; rfl⟩
theorem FL.mem {n:Nat} {s:St} {v:Value} {fs:List FB} (h:FL n s v fs) {j:Nat} {p:FB} (hj:fs[j]?=some p):FdA p.1∧Pers n s fun s=>Byt s p.1.b (br p.2):=h.els p (List.mem_of_getElem? hj)
theorem byt_b2s {s:St} {v:Value} {l:List Int} (h:Byt s v (br l)):b2s s v=some (.string ⟨⟨bts l⟩⟩):=h.b2s _ (bytesOf_br l)
open Classical in
theorem pcheck {s:St} {f:Fd} {l:List Int} (a:FdA f) (h:Byt s f.b (br l)):Qy.r f.v s=some (.int .i64 (if okP (f,l) then 0 else 30)):=by
  have hl:=h.lenL
  rw [br_length] at hl
  exact check_r f s h.bx (byt_b2s h) hl a.vb a.rb
open Classical in
theorem rcheck {s:St} {f:Fd} {l:List Int} (a:FdA f) (h:Byt s f.b (br l)):Q1m.r f.v s=some (.int .i64 (if okP (f,l) then 0 else 30)):=by
  have hl:=h.lenL
  rw [br_length] at hl
  exact rcheck_r f s h.bx (byt_b2s h) hl a.vb a.rb
def wBs:List FB→List Int
  | []=>[]
  | p :: r=>wB p.1 p.2++wBs r
open Classical in
theorem chkloop {n:Nat} {s:St} {v:Value} {fs:List FB} (h:FL n s v fs) (hb:fs.length≤1000):∀ (d j:Nat),j+d=fs.length→∀ e,iter (Q11.l2 std) (e+d+1) [v,v,.int .i64 (fs.length:Int),.int .i64 (j:Int)] s
    = if ∀ p ∈ fs.drop j,okP p then some (0,[v],s) else some (1,[nilB,.int .i64 30],s)
  | 0,j,hj,e=>by
    have:j=fs.length:=by omega
    subst this
    have lt1:bin .lss (.int .i64 (fs.length:Int)) (.int .i64 (fs.length:Int))=some (.bool false):=by
      rw [bin_lss,decide_eq_false (by omega)]
    rw [iter_succ,if_pos (by intro p hp; simp at hp)]
    unfold Q11.l2
    simp only [std_bd,std_cnd,List.getD_cons_zero,List.getD_cons_succ,lt1,bds,cnd]
  | d+1,j,hj,e=>by
    have ih:=chkloop h hb d (j+1) (by omega) e
    obtain ⟨p,hp⟩:=get_some (l:=fs) (j:=j) (by omega)
    obtain ⟨q,q1,q2⟩:=h.at hp
    obtain ⟨a1,a2⟩:=h.mem hp
    have hc:=pcheck a1 a2.here
    have lt0:bin .lss (.int .i64 (j:Int)) (.int .i64 (fs.length:Int))=some (.bool true):=by
      rw [bin_lss,decide_eq_true (by omega)]
    have add0:bin .add (.int .i64 (j:Int)) (.int .i64 1)=some (.int .i64 ((j+1:Nat):Int)):=by
      rw [bin_add,wrap64 (by omega) (by omega)]; rfl
    have hz:bx (.agg #[(.int .i64 0),(.int .u64 0),(.int .i64 0),(.bool false),(.slice none 0 0),(.int .i64 0),(.int .u64 0),(.int .i64 0),(.int .u64 0),(.int .i64 0),(.int .i64 0),(.int .u64 0),(.int .i64 0),(.int .u64 0)])=some [(.int .i64 0),(.int .u64 0),(.int .i64 0),(.bool false),(.slice none 0 0),(.int .i64 0),(.int .u64 0),(.int .i64 0),(.int .u64 0),(.int .i64 0),(.int .i64 0),(.int .u64 0),(.int .i64 0),(.int .u64 0)]:=rfl
    have hst:∀ a0 a1 a2 a3 a4 a5 a6 a7 a8 a9 a10 a11 a12 a13:Value,stl [a0,a1,a2,a3,a4,a5,a6,a7,a8,a9,a10,a11,a12,a13] 0 14 p.1.v=some p.1.cs:=fun _ _ _ _ _ _ _ _ _ _ _ _ _ _=>rfl
    have hal:lal p.1.cs 0 14=some p.1.v:=rfl
    rw [show e+(d+1)+1=(e+d+1)+1 by omega,iter_succ,drop_get hp]
    unfold Q11.l2
    by_cases ok:okP p
    · rw [if_pos ok] at hc
      have eq0:eqb [1] false true (.int .i64 0) (.int .i64 0)=some (.bool false):=rfl
      simp only [std_bd,std_cnd,List.getD_cons_zero,List.getD_cons_succ,lt0,q1,q2,hz,hst,hal,hc,eq0,add0,bds,cnd]
      simp only [List.mem_cons,forall_eq_or_imp,ok,true_and]
      exact ih
    · rw [if_neg ok] at hc
      have eq0:eqb [1] false true (.int .i64 30) (.int .i64 0)=some (.bool true):=rfl
      simp only [std_bd,std_cnd,List.getD_cons_zero,List.getD_cons_succ,lt0,q1,q2,hz,hst,hal,hc,eq0,add0,bds,cnd]
      simp only [List.mem_cons,forall_eq_or_imp,ok,false_and,if_false]
      rfl
open Classical in
theorem rchkloop {n:Nat} {s:St} {v:Value} {fs:List FB} (h:FL n s v fs) (hb:fs.length≤1000):∀ (d j:Nat),j+d=fs.length→∀ e,iter (Q1r.l2 std) (e+d+1) [v,.int .i64 (j:Int)] s
    = if ∀ p ∈ fs.drop j,okP p then some (0,[v],s) else some (1,[nilB,.int .i64 30],s)
  | 0,j,hj,e=>by
    have:j=fs.length:=by omega
    subst this
    have hl:=h.len
    have lt1:bin .lss (.int .i64 (fs.length:Int)) (.int .i64 (fs.length:Int))=some (.bool false):=by
      rw [bin_lss,decide_eq_false (by omega)]
    rw [iter_succ,if_pos (by intro p hp; simp at hp)]
    unfold Q1r.l2
    simp only [std_bd,std_cnd,List.getD_cons_zero,List.getD_cons_succ,hl,lt1,bds,cnd]
  | d+1,j,hj,e=>by
    have ih:=rchkloop h hb d (j+1) (by omega) e
    have hl:=h.len
    obtain ⟨p,hp⟩:=get_some (l:=fs) (j:=j) (by omega)
    obtain ⟨q,q1,q2⟩:=h.at hp
    obtain ⟨a1,a2⟩:=h.mem hp
    have hc:=rcheck a1 a2.here
    have lt0:bin .lss (.int .i64 (j:Int)) (.int .i64 (fs.length:Int))=some (.bool true):=by
      rw [bin_lss,decide_eq_true (by omega)]
    have add0:bin .add (.int .i64 (j:Int)) (.int .i64 1)=some (.int .i64 ((j+1:Nat):Int)):=by
      rw [bin_add,wrap64 (by omega) (by omega)]; rfl
    rw [show e+(d+1)+1=(e+d+1)+1 by omega,iter_succ,drop_get hp]
    unfold Q1r.l2
    by_cases ok:okP p
    · rw [if_pos ok] at hc
      have eq0:eqb [1] false true (.int .i64 0) (.int .i64 0)=some (.bool false):=rfl
      simp only [std_bd,std_cnd,List.getD_cons_zero,List.getD_cons_succ,hl,lt0,q1,q2,hc,eq0,add0,bds,cnd]
      simp only [List.mem_cons,forall_eq_or_imp,ok,true_and]
      exact ih
    · rw [if_neg ok] at hc
      have eq0:eqb [1] false true (.int .i64 30) (.int .i64 0)=some (.bool true):=rfl
      simp only [std_bd,std_cnd,List.getD_cons_zero,List.getD_cons_succ,hl,lt0,q1,q2,hc,eq0,add0,bds,cnd]
      simp only [List.mem_cons,forall_eq_or_imp,ok,false_and,if_false]
      rfl
theorem wrloop {n b n0:Nat} {s0:St} {v:Value} {fs:List FB} (h:FL n s0 v fs) (hnb:n≤b) (hb:fs.length≤1000) (hok:∀ p ∈ fs,okP p):∀ (d j:Nat),j+d=fs.length→∀ {s:St} {m:List Int},WrAt b n0 s m→(∀ x,x < n→s.get x=s0.get x)→m.length+65600 * d≤140737488355328 →
    ∃ s',(∀ e,iter (Q11.l10 std) (e+d+1) [wpt b,v,.int .i64 (fs.length:Int),.int .i64 (j:Int)] s=some (0,[wpt b],s'))∧WrAt b n0 s' (m++wBs (fs.drop j))∧WSt b n0 s s'
  | 0,j,hj,s,m,hw,hk,hl=>by
    have:j=fs.length:=by omega
    subst this
    refine ⟨s,fun e=>?_,by simpa [wBs] using hw,.refl _ _ _⟩
    have lt1:bin .lss (.int .i64 (fs.length:Int)) (.int .i64 (fs.length:Int))=some (.bool false):=by
      rw [bin_lss,decide_eq_false (by omega)]
    rw [iter_succ]
    unfold Q11.l10
    simp only [std_bd,std_cnd,List.getD_cons_zero,List.getD_cons_succ,lt1,bds,cnd]
  | d+1,j,hj,s,m,hw,hk,hl=>by
    have hs:=h.to hk
    obtain ⟨p,hp⟩:=get_some (l:=fs) (j:=j) (by omega)
    obtain ⟨q,q1,q2⟩:=hs.at hp
    obtain ⟨a1,a2⟩:=hs.mem hp
    have ok:=hok p (List.mem_of_getElem? hp)
    have hlen:=wB_len a1 ok
    have hl0:m.length+65600≤140737488355328:=by
      rw [Nat.mul_succ] at hl
      exact Nat.le_trans (by rw [← Nat.add_assoc] at hl; have:=Nat.le_add_right (m.length) (65600 * d); omega) hl
    obtain ⟨s1,g1,g2,g3⟩:=field_w a1 ok a2 hnb hw hl0
    have hnn:=hw.lt
    obtain ⟨s',k1,k2,k3⟩:=wrloop h hnb hb hok d (j+1) (by omega) g2 (fun x hx=>(g3.keep x (by omega) (by omega)).trans (hk x hx)) (by simp; omega)
    refine ⟨s',fun e=>?_,by rw [drop_get hp,wBs,← List.append_assoc]; exact k2,g3.trans k3⟩
    have lt0:bin .lss (.int .i64 (j:Int)) (.int .i64 (fs.length:Int))=some (.bool true):=by
      rw [bin_lss,decide_eq_true (by omega)]
    have add0:bin .add (.int .i64 (j:Int)) (.int .i64 1)=some (.int .i64 ((j+1:Nat):Int)):=by
      rw [bin_add,wrap64 (by omega) (by omega)]; rfl
    have hz:bx (.agg #[(.int .i64 0),(.int .u64 0),(.int .i64 0),(.bool false),(.slice none 0 0),(.int .i64 0),(.int .u64 0),(.int .i64 0),(.int .u64 0),(.int .i64 0),(.int .i64 0),(.int .u64 0),(.int .i64 0),(.int .u64 0)])=some [(.int .i64 0),(.int .u64 0),(.int .i64 0),(.bool false),(.slice none 0 0),(.int .i64 0),(.int .u64 0),(.int .i64 0),(.int .u64 0),(.int .i64 0),(.int .i64 0),(.int .u64 0),(.int .i64 0),(.int .u64 0)]:=rfl
    have hst:∀ a0 a1 a2 a3 a4 a5 a6 a7 a8 a9 a10 a11 a12 a13:Value,stl [a0,a1,a2,a3,a4,a5,a6,a7,a8,a9,a10,a11,a12,a13] 0 14 p.1.v=some p.1.cs:=fun _ _ _ _ _ _ _ _ _ _ _ _ _ _=>rfl
    have hal:lal p.1.cs 0 14=some p.1.v:=rfl
    rw [show e+(d+1)+1=(e+d+1)+1 by omega,iter_succ]
    unfold Q11.l10
    simp only [std_bd,std_cnd,List.getD_cons_zero,List.getD_cons_succ,lt0,q1,q2,hz,hst,hal,g1,add0,bds,cnd]
    exact k1 e
theorem rwrloop {n:Nat} {s0:St} {v:Value} {fs:List FB} (h:FL n s0 v fs) (hnb:n≤s0.n) (hb:fs.length≤1000) (hok:∀ p ∈ fs,okP p):∀ (d j:Nat),j+d=fs.length→∀ {s:St} {u:Value} {m:List Int},Fresh s→Ful s0.n s 1 u (br m)→More s0 s→m.length+65600 * d≤140737488355328 →
    ∃ u' s',(∀ e,iter (Q1r.l8 std) (e+d+1) [v,u,.int .i64 (j:Int)] s=some (0,[u'],s'))∧More s0 s'∧Ful s0.n s' 1 u' (br (m++wBs (fs.drop j)))∧Fresh s'
  | 0,j,hj,s,u,m,hf,hw,hk,hl=>by
    have:j=fs.length:=by omega
    subst this
    refine ⟨u,s,fun e=>?_,hk,by simpa [wBs] using hw,hf⟩
    have hlen:=(h.to (fun x hx=>hk.old x (by omega))).len
    have lt1:bin .lss (.int .i64 (fs.length:Int)) (.int .i64 (fs.length:Int))=some (.bool false):=by
      rw [bin_lss,decide_eq_false (by omega)]
    rw [iter_succ]
    unfold Q1r.l8
    simp only [std_bd,std_cnd,List.getD_cons_zero,List.getD_cons_succ,hlen,lt1,bds,cnd]
  | d+1,j,hj,s,u,m,hf,hw,hk,hl=>by
    have hs:=h.to (fun x hx=>hk.old x (by omega))
    have hlen:=hs.len
    obtain ⟨p,hp⟩:=get_some (l:=fs) (j:=j) (by omega)
    obtain ⟨q,q1,q2⟩:=hs.at hp
    obtain ⟨a1,a2⟩:=hs.mem hp
    have ok:=hok p (List.mem_of_getElem? hp)
    have hlenB:=wB_len a1 ok
    have hkn:=hk.n
    obtain ⟨w,s1,g1,g2,g3,g4⟩:=one_v a1 ok a2 (by omega) hf
    obtain ⟨u1,s2,c1,c2,c3,c4⟩:=br_app g4 (hw.more g2 hf) g3 (hk.trans g2) (by omega)
    obtain ⟨u',s',k1,k2,k3,k4⟩:=rwrloop h hnb hb hok d (j+1) (by omega) c4 c3 c2 (by simp; omega)
    refine ⟨u',s',fun e=>?_,k2,by rw [drop_get hp,wBs,← List.append_assoc]; exact k3,k4⟩
    have lt0:bin .lss (.int .i64 (j:Int)) (.int .i64 (fs.length:Int))=some (.bool true):=by
      rw [bin_lss,decide_eq_true (by omega)]
    have add0:bin .add (.int .i64 (j:Int)) (.int .i64 1)=some (.int .i64 ((j+1:Nat):Int)):=by
      rw [bin_add,wrap64 (by omega) (by omega)]; rfl
    rw [show e+(d+1)+1=(e+d+1)+1 by omega,iter_succ]
    unfold Q1r.l8
    simp only [std_bd,std_cnd,List.getD_cons_zero,List.getD_cons_succ,hlen,lt0,q1,q2,g1,c1,add0,bds,cnd]
    exact k1 e
open Classical in
noncomputable def outB (fs:List FB):List Int:=if ∀ p ∈ fs,okP p then wBs fs else []
open Classical in
noncomputable def outE (fs:List FB):Int:=if ∀ p ∈ fs,okP p then 0 else 30
def PackIs (s:St) (fs:List FB) (r:Option (Value×St)):Prop:=∃ w s',r=some (.tuple ⟨[w,.int .i64 (outE fs)]⟩,s')∧More s s'∧Ful s.n s' 1 w (br (outB fs))∧Fresh s'
theorem pack_v {n:Nat} {s:St} {v:Value} {fs:List FB} (h:FL n s v fs) (hn:n≤s.n) (hb:fs.length≤1000) (hf:Fresh s):PackIs s fs (Q11.v v s):=by
  have q:=chkloop h hb fs.length 0 (by omega) (BIG - fs.length - 1)
  rw [show BIG - fs.length - 1+fs.length+1=BIG by unfold BIG; omega,List.drop_zero] at q
  have q:iter (Q11.l2 std) BIG [v,v,.int .i64 (fs.length:Int),.int .i64 0] s=_:=q
  have hlen:=h.len
  unfold PackIs outE outB
  by_cases ok:∀ p ∈ fs,okP p
  · rw [if_pos ok] at q
    rw [if_pos ok,if_pos ok]
    have hbl:bld [.slice none 0 0] []=some (.agg ⟨[nilB]⟩):=rfl
    have hav:alv s (.agg ⟨[nilB]⟩)=some (wpt s.n,s.new (.row 1 [[nilB]] false)):=rfl
    have m1:More s (s.new (.row 1 [[nilB]] false)):=.new
    have hw:WrAt s.n (s.n+1) (s.new (.row 1 [[nilB]] false)) []:=⟨hf.new,Nat.lt_succ_self _,Nat.le_refl _,nilB,get_new_same,.inl ⟨rfl,rfl⟩⟩
    generalize s.new (.row 1 [[nilB]] false)=s1 at *
    obtain ⟨s2,k1,k2,k3⟩:=wrloop (h.to (fun x hx=>m1.old x (by omega))) hn hb ok fs.length 0 (by omega) hw (fun _ _=>rfl) (by simp; omega)
    have k:=k1 (BIG - fs.length - 1)
    rw [show BIG - fs.length - 1+fs.length+1=BIG by unfold BIG; omega] at k
    have k:iter (Q11.l10 std) BIG [wpt s.n,v,.int .i64 (fs.length:Int),.int .i64 0] s1=_:=k
    obtain ⟨w,k4,k5⟩:=k2.at_
    have e7:nck (wpt s.n)=some (wpt s.n):=rfl
    have e8:fld 0 (wpt s.n)=some (wpt s.n):=rfl
    have e9:ldc s2 (wpt s.n)=some w:=by rw [wpt,ldc_row k4]; rfl
    refine ⟨w,s2,?_,⟨?_,fun x hx=>?_,fun _=>k2.fr⟩,by simpa using k5.le (Nat.le_succ _),k2.fr⟩
    · unfold Q11.v Q11.t
      simp only [std_bd,std_cnd,std_it,hlen,q,bds,if_true,List.getD_cons_zero,hbl,hav,k,e7,e8,e9]
    · have:=k3.n; have:=m1.n; omega
    · rw [k3.keep x (by omega) (by omega),m1.old x hx]
  · rw [if_neg ok] at q
    rw [if_neg ok,if_neg ok]
    refine ⟨nilB,s,?_,.refl _,.inl ⟨rfl,rfl⟩,hf⟩
    unfold Q11.v Q11.t
    simp only [std_bd,std_cnd,std_it,hlen,q,bds]
    rfl
theorem rpack_v {n:Nat} {s:St} {v:Value} {fs:List FB} (h:FL n s v fs) (hn:n≤s.n) (hb:fs.length≤1000) (hf:Fresh s):PackIs s fs (Q1r.v v s):=by
  have q:=rchkloop h hb fs.length 0 (by omega) (BIG - fs.length - 1)
  rw [show BIG - fs.length - 1+fs.length+1=BIG by unfold BIG; omega,List.drop_zero] at q
  have q:iter (Q1r.l2 std) BIG [v,.int .i64 0] s=_:=q
  unfold PackIs outE outB
  by_cases ok:∀ p ∈ fs,okP p
  · rw [if_pos ok] at q
    rw [if_pos ok,if_pos ok]
    obtain ⟨w,s2,k1,k2,k3,k4⟩:=rwrloop h hn hb ok fs.length 0 (by omega) hf (u:=nilB) (m:=[]) (.inl ⟨rfl,rfl⟩) (.refl _) (by simp; omega)
    have k:=k1 (BIG - fs.length - 1)
    rw [show BIG - fs.length - 1+fs.length+1=BIG by unfold BIG; omega] at k
    have k:iter (Q1r.l8 std) BIG [v,.slice none 0 0,.int .i64 0] s=_:=k
    refine ⟨w,s2,?_,k2,by simpa using k3,k4⟩
    unfold Q1r.v Q1r.t
    simp only [std_bd,std_cnd,std_it,q,bds,if_true,List.getD_cons_zero,k]
  · rw [if_neg ok] at q
    rw [if_neg ok,if_neg ok]
    refine ⟨nilB,s,?_,.refl _,.inl ⟨rfl,rfl⟩,hf⟩
    unfold Q1r.v Q1r.t
    simp only [std_bd,std_cnd,std_it,q,bds]
    rfl
end Go.Proofs.Yteapmnolmfickaa
