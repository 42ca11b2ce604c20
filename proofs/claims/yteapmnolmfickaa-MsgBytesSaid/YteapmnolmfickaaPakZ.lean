/-
  A reader: a row of two cells, a slice of bytes and a place; its byte, its number, its whole number.
-/
import Derived.Test.YteapmnolmfickaaPakM
import Derived.KernelRfl
set_option linter.unusedSimpArgs false
set_option linter.unusedVariables false
set_option maxRecDepth 100000
set_option maxHeartbeats 4000000
namespace Go.Proofs.Yteapmnolmfickaa
open Go.Sim Go.Sim.Bt
attribute [local congr] bdc cndc itec gdc gdSc gdUc
inductive RdR (α:Type) where
  | ok (a:α) (p:Nat)
  | bad (e:Int) (p:Nat)
def RdR.at {α:Type}:RdR α→Nat
  | .ok _ p=>p
  | .bad _ p=>p
def byteP (bs:List Int) (c:Nat→Bool) (p:Nat):RdR Nat:=match bs[p]? with
  | none=>.bad 32 p
  | some y=>if c y.toNat=true then .ok y.toNat (p+1) else .bad 31 p
def maxU:Nat:=18446744073709551615
def condN (most i x y:Nat):Bool:=decide (¬ (0 < i∧y=0)∧¬ (i=9∧y≠1)∧(most=maxU∨x+y % 128 * 128 ^ i+(if 128≤y then 128 ^ (i+1) else 0)≤most))
def numL (bs:List Int) (most:Nat):Nat→Nat→Nat→Nat→RdR Nat
  | 0,_,_,p=>.bad 0 p
  | d+1,i,x,p=>match byteP bs (condN most i x) p with
    | .bad e q=>.bad e q
    | .ok y q=>if y < 128 then .ok (x+y % 128 * 128 ^ i) q else numL bs most d (i+1) (x+y % 128 * 128 ^ i) q
def numP (bs:List Int) (most p:Nat):RdR Nat:=numL bs most 10 0 0 p
def unzz (x:Nat):Int:=if x % 2=1 then -((x / 2:Nat):Int) - 1 else ((x / 2:Nat):Int)
def intP (bs:List Int) (p:Nat):RdR Int:=match numP bs maxU p with
  | .bad e q=>.bad e q
  | .ok x q=>.ok (unzz x) q
theorem numL_lt {bs:List Int} {most:Nat}:∀ {d i x p a q:Nat},i+d=10→x < 128 ^ i→numL bs most d i x p=.ok a q→a < 2 ^ 64
  | 0,i,x,p,a,q,hi,hx,h=>by simp [numL] at h
  | d+1,i,x,p,a,q,hi,hx,h=>by
    unfold numL at h
    split at h
    · cases h
    · rename_i y q' hy
      have hc:condN most i x y=true:=by
        unfold byteP at hy
        split at hy
        · cases hy
        · split at hy
          · rename_i hc
            cases hy; exact hc
          · cases hy
      unfold condN at hc
      have hc:=of_decide_eq_true hc
      have hb:x+y % 128 * 128 ^ i < 128 ^ (i+1):=by
        have:y % 128 * 128 ^ i≤127 * 128 ^ i:=Nat.mul_le_mul_right _ (by omega)
        rw [Nat.pow_succ]; omega
      split at h
      · cases h
        by_cases h9:i=9
        · subst h9
          have h1:y=1:=by
            have:=hc.2.1
            simp only [true_and] at this
            exact Decidable.of_not_not this
          subst h1
          simp only [Nat.reducePow,Nat.reduceMod] at hx ⊢
          omega
        · have:128 ^ (i+1)≤128 ^ 9:=Nat.pow_le_pow_right (by omega) (by omega)
          have e:128 ^ 9≤2 ^ 64:=by decide
          omega
      · exact numL_lt (by omega) hb h
def rpt (b:Nat):Value:=.pointer (some ⟨b,0,some 0⟩)
def pv (e:Int):Value:=.iface 135 (.agg ⟨[.int .i64 e]⟩)
structure RdAt (n1 b:Nat) (bv:Value) (bs:List Int) (p:Nat) (s:St):Prop where
  fr:Fresh s
  row:s.get b=some (.row 2 [[bv,.int .i64 (p:Int)]] false)
  byt:Pers n1 s fun s=>Byt s bv (br bs)
  lt:n1≤b
  le:p≤bs.length
  sz:bs.length≤1000000000
  ok:okY bs
structure RdS (b:Nat) (s s':St):Prop where
  n:s.n≤s'.n
  keep:∀ x,x < s.n→x≠b→s'.get x=s.get x
theorem RdS.refl (b:Nat) (s:St):RdS b s s:=⟨Nat.le_refl _,fun _ _ _=>rfl⟩
theorem RdS.trans {b:Nat} {s s1 s2:St} (h:RdS b s s1) (k:RdS b s1 s2):RdS b s s2 :=
  ⟨Nat.le_trans h.n k.n,fun x hx hb=>(k.keep x (Nat.lt_of_lt_of_le hx h.n) hb).trans (h.keep x hx hb)⟩
theorem RdAt.n {n1 b p:Nat} {bv:Value} {bs:List Int} {s:St} (h:RdAt n1 b bv bs p s):b < s.n:=h.fr.lt h.row
theorem RdAt.put {n1 b p:Nat} {bv:Value} {bs:List Int} {s:St} (h:RdAt n1 b bv bs p s) {q:Nat} (hq:q≤bs.length) :
    RdAt n1 b bv bs q (s.put b (.row 2 [[bv,.int .i64 (q:Int)]] false))∧RdS b s (s.put b (.row 2 [[bv,.int .i64 (q:Int)]] false)) :=
  ⟨⟨h.fr.put,get_put_same h.row,h.byt.to fun x hx=>get_put_ne (by have:=h.lt; omega),h.lt,hq,h.sz,h.ok⟩,⟨Nat.le_refl _,fun x _ hx=>get_put_ne hx⟩⟩
theorem byt_at {s:St} {v:Value} {bs:List Int} (h:Byt s v (br bs)) {p:Nat} {y:Int} (hp:bs[p]?=some y) (hl:bs.length≤1000000000):∃ q,idx s 1 v (.int .i64 (p:Int))=some q∧ldc s q=some (.int .u8 y):=by
  have hlt:p < bs.length:=(List.getElem?_eq_some_iff.1 hp).1
  obtain ⟨a,n,c,rfl⟩:=h.sl
  have hr:=h.rows
  have hn:=h.len
  simp only [lenV,Option.some.injEq,br_length] at hn
  subst hn
  rw [br_length] at hr
  unfold rowsOf at hr
  split at hr
  · rename_i b i len e heq
    injection heq with h1 h2 h3
    subst h1 h2 h3
    split at hr
    · rename_i sz' rows ro hg
      split at hr
      · rename_i hc
        have hs:=hc.1
        subst hs
        simp only [Option.some.injEq] at hr
        have hx:rows[i+p]?=some [.int .u8 y]:=by
          have:((rows.drop i).take bs.length)[p]?=some [.int .u8 y]:=by rw [hr]; simp [br,hp,u8]
          rw [List.getElem?_take,if_pos hlt,List.getElem?_drop] at this
          exact this
        have hi:=idx_row (k:=.i64) (i:=i) (n:=(p:Int)) (len:=bs.length) (e:=c) hg (by omega) (by omega)
        rw [Int.toNat_natCast] at hi
        exact ⟨_,hi,by rw [ldc_row hg,hx]; rfl⟩
      · cases hr
    · cases hr
  · split at hr
    · omega
    · cases hr
  · rename_i heq; cases heq
  · cases hr
section
variable {n1 b p:Nat} {bv:Value} {bs:List Int} {s:St}
theorem peek_ok (h:RdAt n1 b bv bs p s) {y:Int} (hp:bs[p]?=some y):Q16.q (rpt b) s=some (true,.int .u8 y,s):=by
  have hlt:p < bs.length:=(List.getElem?_eq_some_iff.1 hp).1
  have hl:=h.byt.here.lenL
  rw [br_length] at hl
  obtain ⟨q,q1,q2⟩:=byt_at h.byt.here hp h.sz
  have k:¬ ((bs.length:Int)≤(p:Int)):=by omega
  simp only [Q16.q,Q16.t,rpt,sy,reduceIte,Nat.reduceAdd,Nat.reduceLeDiff,Nat.reduceLT,Nat.reduceEqDiff,Int.reduceEq,Int.reduceLT,Int.reduceLE,Int.reduceNe,ly,ldc_row h.row,hl,k,q1,q2]
theorem peek_no (h:RdAt n1 b bv bs p s) (hp:bs[p]?=none):Q16.q (rpt b) s=some (false,pv 32,s):=by
  have hlt:bs.length≤p:=by simpa using hp
  have hl:=h.byt.here.lenL
  rw [br_length] at hl
  have k:(bs.length:Int)≤(p:Int):=by omega
  simp only [Q16.q,Q16.t,rpt,sy,reduceIte,Nat.reduceAdd,Nat.reduceLeDiff,Nat.reduceLT,Nat.reduceEqDiff,Int.reduceEq,Int.reduceLT,Int.reduceLE,Int.reduceNe,ly,ldc_row h.row,hl,k,panV,pv]
theorem next_bad (h:RdAt n1 b bv bs p s):Q15.q (rpt b) (.bool false) s=some (false,pv 31,s):=by
  simp only [Q15.q,Q15.t,rpt,sy,reduceIte,Nat.reduceAdd,Nat.reduceLeDiff,Nat.reduceLT,Nat.reduceEqDiff,Int.reduceEq,Int.reduceLT,Int.reduceLE,Int.reduceNe,ly,panV,pv]
theorem next_no (h:RdAt n1 b bv bs p s) (hp:bs[p]?=none):Q15.q (rpt b) (.bool true) s=some (false,pv 32,s):=by
  have k:=peek_no h hp
  unfold rpt at k
  simp only [Q15.q,Q15.t,rpt,sy,reduceIte,Nat.reduceAdd,Nat.reduceLeDiff,Nat.reduceLT,Nat.reduceEqDiff,Int.reduceEq,Int.reduceLT,Int.reduceLE,Int.reduceNe,ly,k]
theorem next_ok (h:RdAt n1 b bv bs p s) {y:Int} (hp:bs[p]?=some y):∃ s',Q15.q (rpt b) (.bool true) s=some (true,.int .u8 y,s')∧RdAt n1 b bv bs (p+1) s'∧RdS b s s':=by
  have hlt:p < bs.length:=(List.getElem?_eq_some_iff.1 hp).1
  have hsz:=h.sz
  have k:=peek_ok h hp
  unfold rpt at k
  have e:IntKind.i64.wrap ((p:Int)+1)=((p+1:Nat):Int):=by rw [wrap64 (by omega) (by omega)]; omega
  refine ⟨_,?_,h.put (by omega)⟩
  simp only [Q15.q,Q15.t,rpt,sy,reduceIte,Nat.reduceAdd,Nat.reduceLeDiff,Nat.reduceLT,Nat.reduceEqDiff,Int.reduceEq,Int.reduceLT,Int.reduceLE,Int.reduceNe,ly,k,ldc_row h.row,stv_row h.row,e]
def RdIs (n1 b:Nat) (bv:Value) (bs:List Int) (s:St) {α:Type} (f:α→Value) (r:Option (Bool×Value×St)):RdR α→Prop
  | .ok a q=>∃ s',r=some (true,f a,s')∧RdAt n1 b bv bs q s'∧RdS b s s'
  | .bad e q=>∃ s',r=some (false,pv e,s')∧RdAt n1 b bv bs q s'∧RdS b s s'
theorem and_u8 {a b:Nat} (ha:a < 256) (hb:b < 256):bin .and (.int .u8 (a:Int)) (.int .u8 (b:Int))=some (.int .u8 ((a &&& b:Nat):Int)):=by
  rw [bin_and]
  change some (Value.int .u8 (IntKind.u8.wrap ((BitVec.ofInt 8 (a:Int) &&& BitVec.ofInt 8 (b:Int):BitVec 8).toNat:Int)))=_
  rw [BitVec.ofInt_natCast,BitVec.ofInt_natCast,BitVec.toNat_and,BitVec.toNat_ofNat,BitVec.toNat_ofNat,Nat.mod_eq_of_lt ha,Nat.mod_eq_of_lt hb]
  have:a &&& b < 2 ^ 8:=Nat.and_lt_two_pow _ hb
  simp [IntKind.wrap,IntKind.signed,IntKind.bits]; omega
theorem and127 {y:Nat} (h:y < 256):bin .and (.int .u8 (y:Int)) (.int .u8 127)=some (.int .u8 ((y % 128:Nat):Int)):=by
  rw [show (127:Int)=((127:Nat):Int) from rfl,and_u8 h (by omega),show y &&& 127=y % 128 from Nat.and_two_pow_sub_one_eq_mod y 7]
theorem cvu {k:IntKind} {x:Nat} (h:x < 2 ^ 64):cvi .u64 (.int k (x:Int))=some (.int .u64 (x:Int)):=by
  rw [cvi_int,wrapu64 (by omega) (by omega)]
theorem fits_max (x sh y:Value) (s:St):Q13.r x sh y (.int .u64 18446744073709551615) s=some (.bool true):=by
  simp only [Q13.r,Q13.t,sy,reduceIte,Nat.reduceAdd,Nat.reduceLeDiff,Nat.reduceLT,Nat.reduceEqDiff,Int.reduceEq,Int.reduceLT,Int.reduceLE,Int.reduceNe,ly]
theorem fits_r {i x y most:Nat} (hi:i≤2) (hx:x < 128 ^ i) (hy:y < 256) (hm:most≤65536) (s:St) :
    Q13.r (.int .u64 (x:Int)) (.int .i64 ((7 * i:Nat):Int)) (.int .u8 (y:Int)) (.int .u64 (most:Int)) s=some (.bool (decide (x+y % 128 * 128 ^ i+(if 128≤y then 128 ^ (i+1) else 0)≤most))):=by
  have k1:¬ ((most:Int)=18446744073709551615):=by omega
  have k2:¬ ((28:Int) < ((7 * i:Nat):Int)):=by omega
  have a1:=and127 hy
  have a2:IntKind.u64.wrap ((y % 128:Nat):Int)=((y % 128:Nat):Int):=wrapu64 (by omega) (by omega)
  have a3:IntKind.u64.wrap ((7 * i:Nat):Int)=((7 * i:Nat):Int):=wrapu64 (by omega) (by omega)
  have p1:128 ^ i=2 ^ (7 * i):=by rw [Nat.pow_mul]
  have p2:128 ^ i≤16384:=Nat.le_trans (Nat.pow_le_pow_right (by omega) hi) (by decide)
  have hb:y % 128 * 128 ^ i≤127 * 16384:=Nat.mul_le_mul (by omega) p2
  have a4:bin .shl (.int .u64 ((y % 128:Nat):Int)) (.int .u64 ((7 * i:Nat):Int))=some (.int .u64 ((y % 128 * 128 ^ i:Nat):Int)):=by
    rw [shl_u64 (by omega) (by rw [← p1]; omega),p1]
  have a5:IntKind.u64.wrap ((x:Int)+((y % 128 * 128 ^ i:Nat):Int))=((x+y % 128 * 128 ^ i:Nat):Int):=by
    rw [wrapu64 (by omega) (by omega)]; omega
  have k3:((128:Int)≤(y:Int))=(128≤y):=propext (by omega)
  by_cases h:128≤y
  · have a6:IntKind.i64.wrap (((7 * i:Nat):Int)+7)=((7 * (i+1):Nat):Int):=by rw [wrap64 (by omega) (by omega)]; omega
    have a7:IntKind.u64.wrap ((7 * (i+1):Nat):Int)=((7 * (i+1):Nat):Int):=wrapu64 (by omega) (by omega)
    have p3:128 ^ (i+1)=2 ^ (7 * (i+1)):=by rw [Nat.pow_mul]
    have p4:128 ^ (i+1)≤2097152:=Nat.le_trans (Nat.pow_le_pow_right (by omega) (show i+1≤3 by omega)) (by decide)
    have a8:bin .shl (.int .u64 1) (.int .u64 ((7 * (i+1):Nat):Int))=some (.int .u64 ((128 ^ (i+1):Nat):Int)):=by
      have:=shl_u64 (a:=1) (k:=7 * (i+1)) (k':=.u64) (by omega) (by rw [← p3]; omega)
      rw [Nat.one_mul,← p3] at this
      exact this
    have a9:IntKind.u64.wrap (((x+y % 128 * 128 ^ i:Nat):Int)+((128 ^ (i+1):Nat):Int))=((x+y % 128 * 128 ^ i+128 ^ (i+1):Nat):Int):=by
      rw [wrapu64 (by omega) (by omega)]; omega
    have k4:(((x+y % 128 * 128 ^ i+128 ^ (i+1):Nat):Int)≤(most:Int))=(x+y % 128 * 128 ^ i+128 ^ (i+1)≤most):=propext (by omega)
    simp only [Q13.r,Q13.t,sy,reduceIte,Nat.reduceAdd,Nat.reduceLeDiff,Nat.reduceLT,Nat.reduceEqDiff,Int.reduceEq,Int.reduceLT,Int.reduceLE,Int.reduceNe,ly,k1,k2,a1,a2,a3,a4,a5,k3,h,a6,a7,a8,a9,k4]
  · have k4:(((x+y % 128 * 128 ^ i:Nat):Int)≤(most:Int))=(x+y % 128 * 128 ^ i≤most):=propext (by omega)
    simp only [Q13.r,Q13.t,sy,reduceIte,Nat.reduceAdd,Nat.reduceLeDiff,Nat.reduceLT,Nat.reduceEqDiff,Int.reduceEq,Int.reduceLT,Int.reduceLE,Int.reduceNe,ly,k1,k2,a1,a2,a3,a4,a5,k3,h,k4]
end
end Go.Proofs.Yteapmnolmfickaa
/-
  The program's reader: a number,a whole number.
-/
set_option linter.unusedSimpArgs false
set_option linter.unusedVariables false
set_option maxRecDepth 100000
set_option maxHeartbeats 4000000
namespace Go.Proofs.Yteapmnolmfickaa
open Go.Sim Go.Sim.Bt
attribute [local congr] bdc cndc itec gdc gdSc gdUc
theorem okY.at {bs:List Int} (h:okY bs) {p:Nat} {y:Int} (hp:bs[p]?=some y):∃ z:Nat,y=z∧z < 256:=by
  have:=h y (List.mem_of_getElem? hp)
  exact ⟨y.toNat,by omega,by omega⟩
theorem byteP_none {bs:List Int} {c:Nat→Bool} {p:Nat} (h:bs[p]?=none):byteP bs c p=.bad 32 p:=by unfold byteP; rw [h]
theorem byteP_some {bs:List Int} {c:Nat→Bool} {p y:Nat} (h:bs[p]?=some (y:Int)):byteP bs c p=if c y=true then .ok y (p+1) else .bad 31 p:=by unfold byteP; rw [h]; rfl
theorem pow128_le {i:Nat} (h:i≤9):128 ^ i≤9223372036854775808:=Nat.le_trans (Nat.pow_le_pow_right (by omega) h) (by decide)
section
variable {n1 b p:Nat} {bv:Value} {bs:List Int} {s:St}
theorem numstep {most i x y:Nat} (hm:most=maxU∨(most≤65536∧i≤2)) (hi:i≤9) (hx:x < 128 ^ i) (h:RdAt n1 b bv bs p s) (hp:bs[p]?=some (y:Int)) (hy:y < 256) :
    ∃ s',RdAt n1 b bv bs (p+1) s'∧RdS b s s'∧∀ e,iter (Q1b.l4 std) (e+1) [rpt b,.int .u64 (most:Int),.int .u64 (x:Int),.int .i64 (i:Int)] s =
      if condN most i x y=true then
        (if y < 128 then some (1,[.int .u64 ((x+y % 128 * 128 ^ i:Nat):Int)],s') else iter (Q1b.l4 std) e [rpt b,.int .u64 (most:Int),.int .u64 ((x+y % 128 * 128 ^ i:Nat):Int),.int .i64 ((i+1:Nat):Int)] s')
      else some (0,[pv 31],s):=by
  have pk:=peek_ok h hp
  have nb:=next_bad h
  obtain ⟨s',no,h1,h2⟩:=next_ok h hp
  refine ⟨s',h1,h2,fun e=>?_⟩
  have p128:=pow128_le hi
  have p1:128 ^ i=2 ^ (7 * i):=by rw [Nat.pow_mul]
  have hF:Q13.r (.int .u64 (x:Int)) (.int .i64 ((7 * i:Nat):Int)) (.int .u8 (y:Int)) (.int .u64 (most:Int)) s=some (.bool (decide (most=maxU∨x+y % 128 * 128 ^ i+(if 128≤y then 128 ^ (i+1) else 0)≤most))):=by
    rcases hm with rfl | ⟨hm,hi2⟩
    · rw [show ((maxU:Nat):Int)=18446744073709551615 from rfl,fits_max,decide_eq_true (.inl rfl)]
    · rw [fits_r hi2 hx hy hm]
      have:(most=maxU∨x+y % 128 * 128 ^ i+(if 128≤y then 128 ^ (i+1) else 0)≤most)↔x+y % 128 * 128 ^ i+(if 128≤y then 128 ^ (i+1) else 0)≤most:=by
        constructor
        · rintro (e | e)
          · unfold maxU at e; omega
          · exact e
        · exact .inr
      simp only [this]
  have e7:IntKind.i64.wrap (7 * (i:Int))=((7 * i:Nat):Int):=by rw [wrap64 (by omega) (by omega)]; omega
  have e8:IntKind.i64.wrap ((i:Int)+1)=((i+1:Nat):Int):=by rw [wrap64 (by omega) (by omega)]; omega
  have k1:((0:Int) < (i:Int))=(0 < i):=propext (by omega)
  have k2:((y:Int)=0)=(y=0):=propext (by omega)
  have k3:((i:Int)=9)=(i=9):=propext (by omega)
  have k4:((y:Int)=1)=(y=1):=propext (by omega)
  have k5:((y:Int) < 128)=(y < 128):=propext (by omega)
  have nk:nck (rpt b)=some (rpt b):=rfl
  have fl:fld 0 (rpt b)=some (rpt b):=rfl
  rw [iter_succ]
  by_cases hc:condN most i x y=true
  · rw [if_pos hc]
    obtain ⟨c1,c2,c3⟩:=of_decide_eq_true hc
    rw [decide_eq_true c3] at hF
    have a1:=and127 hy
    have a2:IntKind.u64.wrap ((y % 128:Nat):Int)=((y % 128:Nat):Int):=wrapu64 (by omega) (by omega)
    have a3:IntKind.u64.wrap ((7 * i:Nat):Int)=((7 * i:Nat):Int):=wrapu64 (by omega) (by omega)
    have hb:y % 128 * 128 ^ i < 2 ^ 64:=by
      by_cases h9:i=9
      · have:y=1:=Decidable.of_not_not fun e=>c2 ⟨h9,e⟩
        subst this
        rw [show 1 % 128=1 from rfl,Nat.one_mul]; omega
      · have:=Nat.mul_le_mul (show y % 128≤127 by omega) (show 128 ^ i≤128 ^ 8 from Nat.pow_le_pow_right (by omega) (by omega))
        have e:127 * 128 ^ 8 < 2 ^ 64:=by decide
        omega
    have a4:bin .shl (.int .u64 ((y % 128:Nat):Int)) (.int .u64 ((7 * i:Nat):Int))=some (.int .u64 ((y % 128 * 128 ^ i:Nat):Int)):=by
      rw [shl_u64 (by omega) (by rw [← p1]; exact hb),p1]
    have a5:bin .or (.int .u64 (x:Int)) (.int .u64 ((y % 128 * 128 ^ i:Nat):Int))=some (.int .u64 ((x+y % 128 * 128 ^ i:Nat):Int)):=by
      rw [or_u64 (by omega) hb,Nat.or_comm,Nat.mul_comm (y % 128),p1,← Nat.two_pow_add_eq_or_of_lt (by rw [← p1]; exact hx),Nat.add_comm]
    rcases Classical.propComplete (0 < i) with d1 | d1 <;> rcases Classical.propComplete (i=9) with d3 | d3 <;> rcases Classical.propComplete (y=0) with d2 | d2 <;> rcases Classical.propComplete (y=1) with d4 | d4 <;>
      first
      | (exfalso; simp only [d1,d2,d3,d4,true_and,and_true,not_true_eq_false,ne_eq,not_false_eq_true,and_self] at c1 c2; done)
      | (exfalso; have:=of_eq_true d2; have:=of_eq_true d4; omega)
      | (exfalso; have:=of_eq_true d3; have:=of_eq_false d1; omega)
      | (rcases Classical.propComplete (y < 128) with d5 | d5 <;>
          simp only [Q1b.l4,Q1b.l4.p1,nk,fl,pk,sy,reduceIte,Nat.reduceAdd,Nat.reduceLeDiff,Nat.reduceLT,Nat.reduceEqDiff,Int.reduceEq,Int.reduceLT,Int.reduceLE,Int.reduceNe,ly,k1,k2,k3,k4,k5,d1,d2,d3,d4,d5,e7,hF,no,a1,a2,a3,a4,a5,e8])
  · rw [if_neg hc]
    have hcn:¬ (¬ (0 < i∧y=0)∧¬ (i=9∧y≠1)∧(most=maxU∨x+y % 128 * 128 ^ i+(if 128≤y then 128 ^ (i+1) else 0)≤most)):=fun e=>hc (decide_eq_true e)
    rcases Classical.propComplete (0 < i) with d1 | d1 <;> rcases Classical.propComplete (i=9) with d3 | d3 <;> rcases Classical.propComplete (y=0) with d2 | d2 <;> rcases Classical.propComplete (y=1) with d4 | d4 <;>
      first
      | (exfalso; have:=of_eq_true d2; have:=of_eq_true d4; omega)
      | (exfalso; have:=of_eq_true d3; have:=of_eq_false d1; omega)
      | (simp only [Q1b.l4,Q1b.l4.p1,nk,fl,pk,sy,reduceIte,Nat.reduceAdd,Nat.reduceLeDiff,Nat.reduceLT,Nat.reduceEqDiff,Int.reduceEq,Int.reduceLT,Int.reduceLE,Int.reduceNe,ly,k1,k2,k3,k4,k5,d1,d2,d3,d4,e7,nb]; done)
      | (have c3:¬ (most=maxU∨x+y % 128 * 128 ^ i+(if 128≤y then 128 ^ (i+1) else 0)≤most):=fun e=>hcn (by simp only [d1,d2,d3,d4,e,true_and,and_true,and_false,false_and,not_false_eq_true,not_true_eq_false,ne_eq,and_self])
         rw [decide_eq_false c3] at hF
         simp only [Q1b.l4,Q1b.l4.p1,nk,fl,pk,sy,reduceIte,Nat.reduceAdd,Nat.reduceLeDiff,Nat.reduceLT,Nat.reduceEqDiff,Int.reduceEq,Int.reduceLT,Int.reduceLE,Int.reduceNe,ly,k1,k2,k3,k4,k5,d1,d2,d3,d4,e7,hF,nb])
def NumIs (n1 b:Nat) (bv:Value) (bs:List Int) (s:St) (r:Nat→Option Cut):RdR Nat→Prop
  | .ok a q=>∃ s',(∀ e,r e=some (1,[.int .u64 (a:Int)],s'))∧RdAt n1 b bv bs q s'∧RdS b s s'
  | .bad er q=>∃ s',(∀ e,r e=some (0,[pv er],s'))∧RdAt n1 b bv bs q s'∧RdS b s s'
theorem numloop_q {most:Nat}:∀ (d i x:Nat) {p:Nat} {s:St},i+d=9→x < 128 ^ i→(most=maxU∨(most≤65536∧i≤2))→RdAt n1 b bv bs p s →
    NumIs n1 b bv bs s (fun e=>iter (Q1b.l4 std) (e+d+1) [rpt b,.int .u64 (most:Int),.int .u64 (x:Int),.int .i64 (i:Int)] s) (numL bs most (d+1) i x p)
  | d,i,x,p,s,hi,hx,hm,h=>by
    unfold numL
    cases hp:bs[p]? with
    | none =>
      rw [byteP_none hp]
      have pk:=peek_no h hp
      have nk:nck (rpt b)=some (rpt b):=rfl
      have fl:fld 0 (rpt b)=some (rpt b):=rfl
      refine ⟨s,fun e=>?_,h,.refl _ _⟩
      dsimp only
      rw [iter_succ]
      simp only [Q1b.l4,nk,fl,pk,sy,reduceIte,Nat.reduceAdd,Nat.reduceLeDiff,Nat.reduceLT,Nat.reduceEqDiff,Int.reduceEq,Int.reduceLT,Int.reduceLE,Int.reduceNe,ly]
    | some y' =>
      obtain ⟨y,rfl,hy⟩:=h.ok.at hp
      rw [byteP_some hp]
      obtain ⟨s1,h1,h2,h3⟩:=numstep hm (by omega) hx h hp hy
      by_cases hc:condN most i x y=true
      · rw [if_pos hc]
        simp only []
        by_cases h128:y < 128
        · rw [if_pos h128]
          refine ⟨s1,fun e=>?_,h1,h2⟩
          show iter _ (e+d+1) _ _=_
          rw [h3,if_pos hc,if_pos h128]
        · rw [if_neg h128]
          obtain ⟨c1,c2,c3⟩:=of_decide_eq_true hc
          have h9:i≠9:=fun e=>c2 ⟨e,by omega⟩
          have hb:x+y % 128 * 128 ^ i < 128 ^ (i+1):=by
            have:y % 128 * 128 ^ i≤127 * 128 ^ i:=Nat.mul_le_mul_right _ (by omega)
            rw [Nat.pow_succ]; omega
          have hm':most=maxU∨(most≤65536∧i+1≤2):=by
            rcases hm with e | ⟨e,e2⟩
            · exact .inl e
            · refine .inr ⟨e,?_⟩
              rcases c3 with c3 | c3
              · unfold maxU at c3; omega
              · rw [if_pos (by omega)] at c3
                rcases Nat.lt_or_ge i 2 with k | k
                · omega
                · have:128 ^ 3≤128 ^ (i+1):=Nat.pow_le_pow_right (by omega) (by omega)
                  have e:128 ^ 3=2097152:=by decide
                  omega
          obtain ⟨d',rfl⟩:∃ d',d=d'+1:=⟨d - 1,by omega⟩
          have ih:=numloop_q d' (i+1) (x+y % 128 * 128 ^ i) (by omega) hb hm' h1
          revert ih
          cases numL bs most (d'+1) (i+1) (x+y % 128 * 128 ^ i) (p+1) with
          | ok a q =>
            rintro ⟨s',k1,k2,k3⟩
            refine ⟨s',fun e=>?_,k2,h2.trans k3⟩
            show iter _ (e+(d'+1)+1) _ _=_
            rw [h3,if_pos hc,if_neg h128]
            exact k1 e
          | bad er q =>
            rintro ⟨s',k1,k2,k3⟩
            refine ⟨s',fun e=>?_,k2,h2.trans k3⟩
            show iter _ (e+(d'+1)+1) _ _=_
            rw [h3,if_pos hc,if_neg h128]
            exact k1 e
      · rw [if_neg hc]
        refine ⟨s,fun e=>?_,h,.refl _ _⟩
        show iter _ (e+d+1) _ _=_
        rw [h3,if_neg hc]
theorem number_q {most:Nat} (hm:most=maxU∨most≤65536) (h:RdAt n1 b bv bs p s):RdIs n1 b bv bs s (fun a:Nat=>.int .u64 (a:Int)) (Q1b.q (rpt b) (.int .u64 (most:Int)) s) (numP bs most p):=by
  have:=numloop_q 9 0 0 (by omega) (by decide) (hm.imp id fun e=>⟨e,by omega⟩) h
  unfold numP
  revert this
  cases numL bs most 10 0 0 p with
  | ok a q =>
    rintro ⟨s',k1,k2,k3⟩
    refine ⟨s',?_,k2,k3⟩
    have:=k1 (BIG - 10)
    dsimp only at this
    rw [show BIG - 10+9+1=BIG from rfl] at this
    have this:iter (Q1b.l4 std) BIG [rpt b,.int .u64 (most:Int),.int .u64 0,.int .i64 0] s=_:=this
    unfold Q1b.q Q1b.t
    simp only [std_bd,std_it,this,bds,List.getD_cons_zero]
    rfl
  | bad er q =>
    rintro ⟨s',k1,k2,k3⟩
    refine ⟨s',?_,k2,k3⟩
    have:=k1 (BIG - 10)
    dsimp only at this
    rw [show BIG - 10+9+1=BIG from rfl] at this
    have this:iter (Q1b.l4 std) BIG [rpt b,.int .u64 (most:Int),.int .u64 0,.int .i64 0] s=_:=this
    unfold Q1b.q Q1b.t
    simp only [std_bd,std_it,this,bds,List.getD_cons_zero]
    rfl
theorem xor_i64 (a:Nat) (h:a < 9223372036854775808):bin .xor (.int .i64 (a:Int)) (.int .i64 (-1))=some (.int .i64 (-(a:Int) - 1)):=by
  rw [bin_xor]
  change some (Value.int .i64 (IntKind.i64.wrap ((BitVec.ofInt 64 (a:Int) ^^^ BitVec.ofInt 64 (-1):BitVec 64).toNat:Int)))=_
  rw [BitVec.ofInt_natCast,show BitVec.ofInt 64 (-1)=BitVec.allOnes 64 by decide,BitVec.xor_allOnes,BitVec.toNat_not,BitVec.toNat_ofNat,Nat.mod_eq_of_lt (by omega)]
  have:IntKind.i64.wrap ((2 ^ 64 - 1 - a:Nat):Int) = -(a:Int) - 1:=by
    simp [IntKind.wrap,IntKind.signed,IntKind.bits]; omega
  rw [this]
theorem xor_i64z (a:Nat) (h:a < 9223372036854775808):bin .xor (.int .i64 (a:Int)) (.int .i64 0)=some (.int .i64 (a:Int)):=by
  rw [bin_xor]
  change some (Value.int .i64 (IntKind.i64.wrap ((BitVec.ofInt 64 (a:Int) ^^^ BitVec.ofInt 64 0:BitVec 64).toNat:Int)))=_
  rw [BitVec.ofInt_natCast,show BitVec.ofInt 64 0=0#64 by decide,BitVec.xor_zero,BitVec.toNat_ofNat,Nat.mod_eq_of_lt (by omega),wrap64 (by omega) (by omega)]
theorem un_neg {a:Int} (h1:-9223372036854775807≤a) (h2:a≤9223372036854775807):un .neg (.int .i64 a)=some (.int .i64 (-a)):=by
  rw [← wrap64 (n:=-a) (by omega) (by omega)]; simp [un,Op.unary,run0,Op.intArith]; rfl
theorem unzz_r {x:Nat} (h:x < 2 ^ 64) {K:Value→Option (Bool×Value×St)}:((bin .shr (.int .u64 (x:Int)) (.int .u64 1)).bind fun x2=>(cvi .i64 x2).bind fun x3=>(bin .and (.int .u64 (x:Int)) (.int .u64 1)).bind fun x4=>(cvi .i64 x4).bind fun x5=>(un .neg x5).bind fun x6=>(bin .xor x3 x6).bind K)=K (.int .i64 (unzz x)):=by
  have e1:=shr_u64 (a:=x) (k:=1) (k':=.u64) (by omega)
  rw [show ((1:Nat):Int)=1 from rfl,Nat.pow_one] at e1
  have e2:cvi .i64 (.int .u64 ((x / 2:Nat):Int))=some (.int .i64 ((x / 2:Nat):Int)):=by rw [cvi_int,wrap64 (by omega) (by omega)]
  have e3:=and_u64 (a:=x) (b:=1) h (by decide)
  rw [show ((1:Nat):Int)=1 from rfl,Nat.and_one_is_mod] at e3
  have e4:cvi .i64 (.int .u64 ((x % 2:Nat):Int))=some (.int .i64 ((x % 2:Nat):Int)):=by rw [cvi_int,wrap64 (by omega) (by omega)]
  have e5:un .neg (.int .i64 ((x % 2:Nat):Int))=some (.int .i64 (-((x % 2:Nat):Int))):=un_neg (by omega) (by omega)
  have hlt:x / 2 < 9223372036854775808:=by omega
  rw [e1,bds,e2,bds,e3,bds,e4,bds,e5,bds]
  unfold unzz
  by_cases hx:x % 2=1
  · rw [if_pos hx,hx,show -((1:Nat):Int) = -1 from rfl,xor_i64 _ hlt,bds]
  · rw [if_neg hx,show x % 2=0 by omega,show -((0:Nat):Int)=0 from rfl,xor_i64z _ hlt,bds]
theorem int_q (h:RdAt n1 b bv bs p s):RdIs n1 b bv bs s (fun a:Int=>.int .i64 a) (Q19.q (rpt b) s) (intP bs p):=by
  have hn:=number_q (most:=maxU) (.inl rfl) h
  rw [show ((maxU:Nat):Int)=18446744073709551615 from rfl] at hn
  have hlt:=@numL_lt bs maxU 10 0 0 p
  unfold intP
  unfold numP at *
  revert hn hlt
  cases numL bs maxU 10 0 0 p with
  | ok a q =>
    rintro ⟨s',k1,k2,k3⟩ hlt
    refine ⟨s',?_,k2,k3⟩
    unfold Q19.q Q19.t
    simp only [std_bd,std_cnd,k1,bds,cnd]
    exact unzz_r (hlt rfl (by decide) rfl)
  | bad er q =>
    rintro ⟨s',k1,k2,k3⟩ _
    refine ⟨s',?_,k2,k3⟩
    unfold Q19.q Q19.t
    simp only [std_bd,std_cnd,k1,bds,cnd]
end
end Go.Proofs.Yteapmnolmfickaa
/-
  The program's reader: a vector,a key,a field.
-/
set_option linter.unusedSimpArgs false
set_option linter.unusedVariables false
set_option maxRecDepth 100000
set_option maxHeartbeats 4000000
namespace Go.Proofs.Yteapmnolmfickaa
open Go.Sim Go.Sim.Bt
attribute [local congr] bdc cndc itec gdc gdSc gdUc
def vecL (bs:List Int):Nat→Nat→Nat→Nat→RdR Nat
  | 0,_,v,p=>.ok v p
  | d+1,m,v,p=>if m=0 then .ok v p else match byteP bs (fun y=>decide (y % 2 ^ (8 - m)=0)) p with
    | .bad e q=>.bad e q
    | .ok y q=>vecL bs d (m - 8) (v * 2 ^ (8 - (8 - m))+y / 2 ^ (8 - m)) q
def vecP (bs:List Int) (p:Nat):RdR (Nat×Nat):=match byteP bs (fun y=>decide (y≤32)) p with
  | .bad e q=>.bad e q
  | .ok n q=>match vecL bs 5 n 0 q with
    | .bad e q=>.bad e q
    | .ok v q=>.ok (n,v) q
def keyL (bs:List Int):Nat→Nat→Nat→RdR Nat
  | 0,x,p=>.ok x p
  | d+1,x,p=>match byteP bs (fun _=>true) p with
    | .bad e q=>.bad e q
    | .ok y q=>keyL bs d (x * 256+y) q
def keyP (bs:List Int) (p:Nat):RdR (Nat×Nat):=match byteP bs (fun y=>decide (1≤y∧y≤3)) p with
  | .bad e q=>.bad e q
  | .ok r q=>if r=2 then (match keyL bs 8 0 q with
    | .bad e q=>.bad e q
    | .ok v q=>.ok (r,v) q) else .ok (r,0) q
theorem byteP_ok {bs:List Int} {c:Nat→Bool} {p y q:Nat} (h:byteP bs c p=.ok y q):c y=true∧q=p+1∧∃ z:Int,bs[p]?=some z∧y=z.toNat:=by
  unfold byteP at h
  split at h
  · cases h
  · rename_i z hz
    split at h
    · rename_i hc; cases h; exact ⟨hc,rfl,z,hz,rfl⟩
    · cases h
section
variable {n1 b p:Nat} {bv:Value} {bs:List Int} {s:St}
theorem byte_q (c:Nat→Bool) (h:RdAt n1 b bv bs p s):match byteP bs c p with
    | .bad e q=>∃ s',RdAt n1 b bv bs q s'∧RdS b s s'∧((Q16.q (rpt b) s=some (false,pv e,s)∧s'=s)∨∃ y:Nat,y < 256∧c y=false∧Q16.q (rpt b) s=some (true,.int .u8 (y:Int),s)∧e=31∧Q15.q (rpt b) (.bool false) s=some (false,pv e,s'))
    | .ok y q=>∃ s',y < 256∧c y=true∧RdAt n1 b bv bs q s'∧RdS b s s'∧Q16.q (rpt b) s=some (true,.int .u8 (y:Int),s)∧Q15.q (rpt b) (.bool true) s=some (true,.int .u8 (y:Int),s'):=by
  cases hp:bs[p]? with
  | none =>
    rw [byteP_none hp]
    exact ⟨s,h,.refl _ _,.inl ⟨peek_no h hp,rfl⟩⟩
  | some y' =>
    obtain ⟨y,rfl,hy⟩:=h.ok.at hp
    rw [byteP_some hp]
    by_cases hc:c y=true
    · rw [if_pos hc]
      obtain ⟨s',k1,k2,k3⟩:=next_ok h hp
      exact ⟨s',hy,hc,k2,k3,peek_ok h hp,k1⟩
    · rw [if_neg hc]
      exact ⟨s,h,.refl _ _,.inr ⟨y,hy,by simpa using hc,peek_ok h hp,rfl,next_bad h⟩⟩
theorem any_q (h:RdAt n1 b bv bs p s):match byteP bs (fun _=>true) p with
    | .bad e q=>∃ s',RdAt n1 b bv bs q s'∧RdS b s s'∧Q15.q (rpt b) (.bool true) s=some (false,pv e,s')
    | .ok y q=>∃ s',y < 256∧RdAt n1 b bv bs q s'∧RdS b s s'∧Q15.q (rpt b) (.bool true) s=some (true,.int .u8 (y:Int),s'):=by
  cases hp:bs[p]? with
  | none =>
    rw [byteP_none hp]
    exact ⟨s,h,.refl _ _,next_no h hp⟩
  | some y' =>
    obtain ⟨y,rfl,hy⟩:=h.ok.at hp
    rw [byteP_some hp,if_pos rfl]
    obtain ⟨s',k1,k2,k3⟩:=next_ok h hp
    exact ⟨s',hy,k2,k3,k1⟩
def VLIs (n1 b:Nat) (bv:Value) (bs:List Int) (s:St) (z:Value) (f:Nat→Value) (r:Nat→Option Cut):RdR Nat→Prop
  | .ok a q=>∃ s',(∀ e,r e=some (0,[z,f a],s'))∧RdAt n1 b bv bs q s'∧RdS b s s'
  | .bad er q=>∃ s',(∀ e,r e=some (1,[pv er],s'))∧RdAt n1 b bv bs q s'∧RdS b s s'
theorem vecloop_q {n:Int} {c0:List Value}:∀ (d:Nat) (m:Int) (t v:Nat) {p:Nat} {s:St},m≤8 * (d:Int)→-8 < m→m≤32→t+m.toNat≤32→v < 2 ^ t→RdAt n1 b bv bs p s →
    VLIs n1 b bv bs s (.agg ⟨c0⟩) (fun a=>.agg ⟨[.int .i64 n,.int .u64 (a:Int)]⟩) (fun e=>iter (Q1c.l5 std) (e+d+1) [rpt b,.int .i64 m,.agg ⟨c0⟩,.agg ⟨[.int .i64 n,.int .u64 (v:Int)]⟩] s) (vecL bs d m.toNat v p)
  | 0,m,t,v,p,s,hd,hm,hm2,ht,hv,h=>by
    unfold vecL
    refine ⟨s,fun e=>?_,h,.refl _ _⟩
    dsimp only
    have k:bin .gtr (.int .i64 m) (.int .i64 0)=some (.bool false):=by rw [bin_gtr,decide_eq_false (by omega)]
    rw [iter_succ]
    unfold Q1c.l5
    simp only [std_bd,std_cnd,List.getD_cons_zero,List.getD_cons_succ,k,bds,cnd,cellsA]
  | d+1,m,t,v,p,s,hd,hm,hm2,ht,hv,h=>by
    unfold vecL
    by_cases h0:m.toNat=0
    · rw [if_pos h0]
      refine ⟨s,fun e=>?_,h,.refl _ _⟩
      dsimp only
      have k:bin .gtr (.int .i64 m) (.int .i64 0)=some (.bool false):=by rw [bin_gtr,decide_eq_false (by omega)]
      rw [iter_succ]
      unfold Q1c.l5
      simp only [std_bd,std_cnd,List.getD_cons_zero,List.getD_cons_succ,k,bds,cnd,cellsA]
    · rw [if_neg h0]
      obtain ⟨o,ho⟩:∃ o,o=8 - m.toNat:=⟨_,rfl⟩
      have ho7:o≤7:=by omega
      rw [← ho]
      have k:bin .gtr (.int .i64 m) (.int .i64 0)=some (.bool true):=by rw [bin_gtr,decide_eq_true (by omega)]
      have e1:bin .sub (.int .i64 8) (.int .i64 m)=some (.int .i64 (8 - m)):=by rw [bin_sub,wrap64 (by omega) (by omega)]
      have e2:mx2 (.int .i64 (8 - m)) (.int .i64 0)=some (.int .i64 (o:Int)):=by
        rw [mx2_int,show (if (0:Int) > 8 - m then 0 else 8 - m)=(o:Int) by split <;> omega]
      have e3:cvi .u64 (.int .i64 (o:Int))=some (.int .u64 (o:Int)):=cvu (by omega)
      have ho':o=0∨o=1∨o=2∨o=3∨o=4∨o=5∨o=6∨o=7:=by omega
      have e4:((bin .shl (.int .u8 1) (.int .u64 (o:Int))).bind fun x=>bin .sub x (.int .u8 1))=some (.int .u8 ((2 ^ o - 1:Nat):Int)):=by
        rcases ho' with rfl | rfl | rfl | rfl | rfl | rfl | rfl | rfl <;> rfl
      have p256:2 ^ o≤128:=Nat.le_trans (Nat.pow_le_pow_right (by omega) ho7) (by decide)
      have e5:∀ y:Nat,y < 256→bin .and (.int .u8 (y:Int)) (.int .u8 ((2 ^ o - 1:Nat):Int))=some (.int .u8 ((y % 2 ^ o:Nat):Int)):=fun y hy=>by
        rw [and_u8 hy (by omega),Nat.and_two_pow_sub_one_eq_mod]
      have e6:∀ y:Nat,eqb [1] false false (.int .u8 ((y % 2 ^ o:Nat):Int)) (.int .u8 0)=some (.bool (decide (y % 2 ^ o=0))):=fun y=>by
        rw [eqb1]
        have:(((y % 2 ^ o:Nat):Int)=0)=(y % 2 ^ o=0):=propext (by omega)
        simp only [this]
      have nk:nck (rpt b)=some (rpt b):=rfl
      have fl:fld 0 (rpt b)=some (rpt b):=rfl
      have e4':∀ (x:Value),bin .shl (.int .u8 1) (.int .u64 (o:Int))=some x→bin .sub x (.int .u8 1)=some (.int .u8 ((2 ^ o - 1:Nat):Int)):=fun x hx=>by
        rw [hx] at e4; exact e4
      obtain ⟨xs,hxs⟩:∃ x,bin .shl (.int .u8 1) (.int .u64 (o:Int))=some x:=by
        rcases ho' with rfl | rfl | rfl | rfl | rfl | rfl | rfl | rfl <;> exact ⟨_,rfl⟩
      have e4b:=e4' xs hxs
      have hq:=byte_q (fun y=>decide (y % 2 ^ o=0)) h
      cases hb:byteP bs (fun y=>decide (y % 2 ^ o=0)) p with
      | bad er q =>
        rw [hb] at hq
        obtain ⟨s',k1,k2,hq⟩:=hq
        refine ⟨s',fun e=>?_,k1,k2⟩
        dsimp only
        rw [show e+(d+1)+1=(e+d+1)+1 by omega,iter_succ]
        unfold Q1c.l5
        rcases hq with ⟨hq,rfl⟩ | ⟨y,hy,hc,pk,_,nx⟩
        · simp only [std_bd,std_cnd,List.getD_cons_zero,List.getD_cons_succ,k,nk,fl,hq,bds,cnd]
        · have e6':=e6 y
          rw [hc] at e6'
          simp only [std_bd,std_cnd,List.getD_cons_zero,List.getD_cons_succ,k,nk,fl,pk,e1,e2,e3,hxs,e4b,e5 y hy,e6',nx,bds,cnd]
      | ok y q =>
        rw [hb] at hq
        obtain ⟨s1,hy,hc,k1,k2,pk,nx⟩:=hq
        have e6':=e6 y
        rw [hc] at e6'
        have e7:bin .sub (.int .u64 8) (.int .u64 (o:Int))=some (.int .u64 ((8 - o:Nat):Int)):=by
          rw [bin_sub,wrapu64 (by omega) (by omega),show (8:Int) - (o:Int)=((8 - o:Nat):Int) by omega]
        have pm:2 ^ t * 2 ^ (8 - o)≤2 ^ 32:=by rw [← Nat.pow_add]; exact Nat.pow_le_pow_right (by omega) (by omega)
        have hv2:v * 2 ^ (8 - o)+2 ^ (8 - o)≤2 ^ t * 2 ^ (8 - o):=by
          have:=Nat.mul_le_mul_right (2 ^ (8 - o)) (Nat.succ_le_of_lt hv)
          rw [Nat.succ_mul] at this
          exact this
        have r0:=Nat.two_pow_pos (8 - o)
        have hyo:y / 2 ^ o < 2 ^ (8 - o):=by
          apply Nat.div_lt_of_lt_mul
          rw [← Nat.pow_add,show o+(8 - o)=8 by omega]; exact hy
        have e8:bin .shl (.int .u64 (v:Int)) (.int .u64 ((8 - o:Nat):Int))=some (.int .u64 ((v * 2 ^ (8 - o):Nat):Int)):=shl_u64 (by omega) (by omega)
        have e9:bin .shr (.int .u8 (y:Int)) (.int .u64 (o:Int))=some (.int .u8 ((y / 2 ^ o:Nat):Int)):=by
          rw [bin_shr (Int.natCast_nonneg o),show min (o:Int).toNat IntKind.u8.bits=o by simp [IntKind.bits]; omega,show (2:Int) ^ o=((2 ^ o:Nat):Int) by simp,Int.fdiv_eq_ediv_of_nonneg _ (Int.natCast_nonneg _)]
          rfl
        have e10:cvi .u64 (.int .u8 ((y / 2 ^ o:Nat):Int))=some (.int .u64 ((y / 2 ^ o:Nat):Int)):=cvu (by omega)
        have e11:bin .or (.int .u64 ((v * 2 ^ (8 - o):Nat):Int)) (.int .u64 ((y / 2 ^ o:Nat):Int))=some (.int .u64 ((v * 2 ^ (8 - o)+y / 2 ^ o:Nat):Int)):=by
          rw [or_u64 (by omega) (by omega),Nat.mul_comm v,← Nat.two_pow_add_eq_or_of_lt hyo]
        have e12:bin .sub (.int .i64 m) (.int .i64 8)=some (.int .i64 (m - 8)):=by rw [bin_sub,wrap64 (by omega) (by omega)]
        have e13:lcl [.int .i64 n,.int .u64 (v:Int)] 1=some (.int .u64 (v:Int)):=rfl
        have e14:stl [.int .i64 n,.int .u64 (v:Int)] 1 1 (.int .u64 ((v * 2 ^ (8 - o)+y / 2 ^ o:Nat):Int))=some [.int .i64 n,.int .u64 ((v * 2 ^ (8 - o)+y / 2 ^ o:Nat):Int)]:=rfl
        have ih:=vecloop_q (n:=n) (c0:=c0) d (m - 8) (t+(8 - o)) (v * 2 ^ (8 - o)+y / 2 ^ o) (by omega) (by omega) (by omega) (by omega) (by rw [Nat.pow_add]; omega) k1
        rw [show (m - 8).toNat=m.toNat - 8 by omega] at ih
        simp only []
        have step:∀ e,iter (Q1c.l5 std) (e+(d+1)+1) [rpt b,.int .i64 m,.agg ⟨c0⟩,.agg ⟨[.int .i64 n,.int .u64 (v:Int)]⟩] s=iter (Q1c.l5 std) (e+d+1) [rpt b,.int .i64 (m - 8),.agg ⟨c0⟩,.agg ⟨[.int .i64 n,.int .u64 ((v * 2 ^ (8 - o)+y / 2 ^ o:Nat):Int)]⟩] s1:=fun e=>by
          rw [show e+(d+1)+1=(e+d+1)+1 by omega,iter_succ]
          generalize iter (Q1c.l5 std) (e+d+1)=R
          unfold Q1c.l5
          simp only [std_bd,std_cnd,List.getD_cons_zero,List.getD_cons_succ,k,nk,fl,pk,e1,e2,e3,hxs,e4b,e5 y hy,e6',nx,e7,e8,e9,e10,e11,e12,e13,e14,cellsA,bds,cnd]
        revert ih
        cases vecL bs d (m.toNat - 8) (v * 2 ^ (8 - o)+y / 2 ^ o) q with
        | ok a q =>
          rintro ⟨s',g1,g2,g3⟩
          exact ⟨s',fun e=>(step e).trans (g1 e),g2,k2.trans g3⟩
        | bad er q =>
          rintro ⟨s',g1,g2,g3⟩
          exact ⟨s',fun e=>(step e).trans (g1 e),g2,k2.trans g3⟩
def z2:List Value:=[.int .i64 0,.int .u64 0]
theorem vector_q (h:RdAt n1 b bv bs p s):RdIs n1 b bv bs s (fun a:Nat×Nat=>.agg ⟨[.int .i64 (a.1:Int),.int .u64 (a.2:Int)]⟩) (Q1c.q (rpt b) s) (vecP bs p):=by
  unfold vecP
  have nk:nck (rpt b)=some (rpt b):=rfl
  have fl:fld 0 (rpt b)=some (rpt b):=rfl
  have hz:bx (.agg #[.int .i64 0,.int .u64 0])=some z2:=rfl
  have le32:∀ y:Nat,bin .leq (.int .u8 (y:Int)) (.int .u8 32)=some (.bool (decide (y≤32))):=fun y=>by
    rw [bin_leq]
    have:((y:Int)≤32)=(y≤32):=propext (by omega)
    simp only [this]
  have hq:=byte_q (fun y=>decide (y≤32)) h
  cases hb:byteP bs (fun y=>decide (y≤32)) p with
  | bad er q =>
    rw [hb] at hq
    obtain ⟨s',k1,k2,hq⟩:=hq
    refine ⟨s',?_,k1,k2⟩
    unfold Q1c.q Q1c.t
    rcases hq with ⟨hq,rfl⟩ | ⟨y,hy,hc,pk,_,nx⟩
    · simp only [std_bd,std_cnd,hz,nk,fl,hq,bds,cnd]
    · have l:=le32 y
      rw [hc] at l
      simp only [std_bd,std_cnd,hz,nk,fl,pk,l,nx,bds,cnd]
  | ok y q =>
    rw [hb] at hq
    obtain ⟨s1,hy,hc,k1,k2,pk,nx⟩:=hq
    have l:=le32 y
    rw [hc] at l
    have hy32:y≤32:=of_decide_eq_true hc
    have cv:cvi .i64 (.int .u8 (y:Int))=some (.int .i64 (y:Int)):=by rw [cvi_int,wrap64 (by omega) (by omega)]
    have b2:bld [.int .i64 0,.int .u64 0] [(0,1,.int .i64 (y:Int))]=some (.agg ⟨[.int .i64 (y:Int),.int .u64 0]⟩):=rfl
    have st:stl z2 0 2 (.agg ⟨[.int .i64 (y:Int),.int .u64 0]⟩)=some [.int .i64 (y:Int),.int .u64 0]:=rfl
    have hv:=vecloop_q (n:=(y:Int)) (c0:=z2) 5 (y:Int) 0 0 (by omega) (by omega) (by omega) (by omega) (by decide) k1
    rw [Int.toNat_natCast] at hv
    simp only []
    revert hv
    cases vecL bs 5 y 0 q with
    | ok a q =>
      rintro ⟨s',g1,g2,g3⟩
      refine ⟨s',?_,g2,k2.trans g3⟩
      have g:=g1 (BIG - 6)
      dsimp only at g
      rw [show BIG - 6+5+1=BIG from rfl] at g
      have g:iter (Q1c.l5 std) BIG [rpt b,.int .i64 (y:Int),.agg ⟨z2⟩,.agg ⟨[.int .i64 (y:Int),.int .u64 0]⟩] s1=_:=g
      have f1:lal [.int .i64 (y:Int),.int .u64 (a:Int)] 0 2=some (.agg ⟨[.int .i64 (y:Int),.int .u64 (a:Int)]⟩):=rfl
      have f2:stl z2 0 2 (.agg ⟨[.int .i64 (y:Int),.int .u64 (a:Int)]⟩)=some [.int .i64 (y:Int),.int .u64 (a:Int)]:=rfl
      unfold Q1c.q Q1c.t
      simp only [std_bd,std_cnd,std_it,hz,nk,fl,pk,l,nx,cv,b2,st,g,cellsA,List.getD_cons_zero,List.getD_cons_succ,f1,f2,bds,cnd,if_true]
    | bad er q =>
      rintro ⟨s',g1,g2,g3⟩
      refine ⟨s',?_,g2,k2.trans g3⟩
      have g:=g1 (BIG - 6)
      dsimp only at g
      rw [show BIG - 6+5+1=BIG from rfl] at g
      have g:iter (Q1c.l5 std) BIG [rpt b,.int .i64 (y:Int),.agg ⟨z2⟩,.agg ⟨[.int .i64 (y:Int),.int .u64 0]⟩] s1=_:=g
      unfold Q1c.q Q1c.t
      simp only [std_bd,std_cnd,std_it,hz,nk,fl,pk,l,nx,cv,b2,st,g,bds,cnd,List.getD_cons_zero]
      rfl
theorem keyloop_q {n:Int} {c0:List Value}:∀ (d j v:Nat) {p:Nat} {s:St},j+d=8→v < 256 ^ j→RdAt n1 b bv bs p s →
    VLIs n1 b bv bs s (.agg ⟨c0⟩) (fun a=>.agg ⟨[.int .i64 n,.int .u64 (a:Int)]⟩) (fun e=>iter (Q1a.l6 std) (e+d+1) [rpt b,.int .i64 (j:Int),.agg ⟨c0⟩,.agg ⟨[.int .i64 n,.int .u64 (v:Int)]⟩] s) (keyL bs d v p)
  | 0,j,v,p,s,hj,hv,h=>by
    unfold keyL
    refine ⟨s,fun e=>?_,h,.refl _ _⟩
    dsimp only
    have k:bin .lss (.int .i64 (j:Int)) (.int .i64 8)=some (.bool false):=by rw [bin_lss,decide_eq_false (by omega)]
    rw [iter_succ]
    unfold Q1a.l6
    simp only [std_bd,std_cnd,List.getD_cons_zero,List.getD_cons_succ,k,bds,cnd,cellsA]
  | d+1,j,v,p,s,hj,hv,h=>by
    unfold keyL
    have k:bin .lss (.int .i64 (j:Int)) (.int .i64 8)=some (.bool true):=by rw [bin_lss,decide_eq_true (by omega)]
    have nk:nck (rpt b)=some (rpt b):=rfl
    have fl:fld 0 (rpt b)=some (rpt b):=rfl
    have hv2:v * 256+256≤2 ^ 64:=by
      have h1:256 ^ j * 256≤256 ^ 8:=by rw [← Nat.pow_succ]; exact Nat.pow_le_pow_right (by omega) (by omega)
      have h2:=Nat.mul_le_mul_right 256 (Nat.succ_le_of_lt hv)
      have e:256 ^ 8=2 ^ 64:=by decide
      rw [Nat.succ_mul] at h2
      omega
    have e1:lcl [.int .i64 n,.int .u64 (v:Int)] 1=some (.int .u64 (v:Int)):=rfl
    have e2:bin .shl (.int .u64 (v:Int)) (.int .u64 8)=some (.int .u64 ((v * 256:Nat):Int)):=by
      have:=shl_u64 (a:=v) (k:=8) (k':=.u64) (by omega) (by rw [show 2 ^ 8=256 from rfl]; omega)
      exact this
    have hq:=any_q h
    cases hb:byteP bs (fun _=>true) p with
    | bad er q =>
      rw [hb] at hq
      obtain ⟨s',k1,k2,nx⟩:=hq
      refine ⟨s',fun e=>?_,k1,k2⟩
      dsimp only
      rw [show e+(d+1)+1=(e+d+1)+1 by omega,iter_succ]
      unfold Q1a.l6
      simp only [std_bd,std_cnd,List.getD_cons_zero,List.getD_cons_succ,k,cellsA,e1,e2,nk,fl,nx,bds,cnd]
    | ok y q =>
      rw [hb] at hq
      obtain ⟨s1,hy,k1,k2,nx⟩:=hq
      have e3:cvi .u64 (.int .u8 (y:Int))=some (.int .u64 (y:Int)):=cvu (by omega)
      have e4:bin .or (.int .u64 ((v * 256:Nat):Int)) (.int .u64 (y:Int))=some (.int .u64 ((v * 256+y:Nat):Int)):=by
        rw [or_u64 (by omega) (by omega),Nat.mul_comm v,show 256 * v=2 ^ 8 * v from rfl,← Nat.two_pow_add_eq_or_of_lt hy]
      have e5:stl [.int .i64 n,.int .u64 (v:Int)] 1 1 (.int .u64 ((v * 256+y:Nat):Int))=some [.int .i64 n,.int .u64 ((v * 256+y:Nat):Int)]:=rfl
      have e6:bin .add (.int .i64 (j:Int)) (.int .i64 1)=some (.int .i64 ((j+1:Nat):Int)):=by
        rw [bin_add,wrap64 (by omega) (by omega)]; rfl
      have ih:=keyloop_q (n:=n) (c0:=c0) d (j+1) (v * 256+y) (by omega) (by rw [Nat.pow_succ]; omega) k1
      simp only []
      have step:∀ e,iter (Q1a.l6 std) (e+(d+1)+1) [rpt b,.int .i64 (j:Int),.agg ⟨c0⟩,.agg ⟨[.int .i64 n,.int .u64 (v:Int)]⟩] s=iter (Q1a.l6 std) (e+d+1) [rpt b,.int .i64 ((j+1:Nat):Int),.agg ⟨c0⟩,.agg ⟨[.int .i64 n,.int .u64 ((v * 256+y:Nat):Int)]⟩] s1:=fun e=>by
        rw [show e+(d+1)+1=(e+d+1)+1 by omega,iter_succ]
        generalize iter (Q1a.l6 std) (e+d+1)=R
        unfold Q1a.l6
        simp only [std_bd,std_cnd,List.getD_cons_zero,List.getD_cons_succ,k,cellsA,e1,e2,nk,fl,nx,e3,e4,e5,e6,bds,cnd]
      revert ih
      cases keyL bs d (v * 256+y) q with
      | ok a q =>
        rintro ⟨s',g1,g2,g3⟩
        exact ⟨s',fun e=>(step e).trans (g1 e),g2,k2.trans g3⟩
      | bad er q =>
        rintro ⟨s',g1,g2,g3⟩
        exact ⟨s',fun e=>(step e).trans (g1 e),g2,k2.trans g3⟩
theorem key_q (h:RdAt n1 b bv bs p s):RdIs n1 b bv bs s (fun a:Nat×Nat=>.agg ⟨[.int .i64 (a.1:Int),.int .u64 (a.2:Int)]⟩) (Q1a.q (rpt b) s) (keyP bs p):=by
  unfold keyP
  have nk:nck (rpt b)=some (rpt b):=rfl
  have fl:fld 0 (rpt b)=some (rpt b):=rfl
  have hz:bx (.agg #[.int .i64 0,.int .u64 0])=some z2:=rfl
  have hq:=byte_q (fun y=>decide (1≤y∧y≤3)) h
  have ge1:∀ y:Nat,((1:Int)≤(y:Int))=(1≤y):=fun y=>propext (by omega)
  have le3:∀ y:Nat,((y:Int)≤3)=(y≤3):=fun y=>propext (by omega)
  cases hb:byteP bs (fun y=>decide (1≤y∧y≤3)) p with
  | bad er q =>
    rw [hb] at hq
    obtain ⟨s',k1,k2,hq⟩:=hq
    refine ⟨s',?_,k1,k2⟩
    rcases hq with ⟨hq,rfl⟩ | ⟨y,hy,hc,pk,_,nx⟩
    · unfold Q1a.q Q1a.t
      simp only [std_bd,std_cnd,hz,nk,fl,hq,bds,cnd]
    · have hc:=of_decide_eq_false hc
      rcases Classical.propComplete (1≤y) with c1 | c1
      · have c2:(y≤3)=False:=eq_false fun e=>hc ⟨of_eq_true c1,e⟩
        simp only [Q1a.q,Q1a.t,hz,nk,fl,pk,nx,sy,reduceIte,Nat.reduceAdd,Nat.reduceLeDiff,Nat.reduceLT,Nat.reduceEqDiff,Int.reduceEq,Int.reduceLT,Int.reduceLE,Int.reduceNe,ly,ge1,le3,c1,c2]
      · simp only [Q1a.q,Q1a.t,hz,nk,fl,pk,nx,sy,reduceIte,Nat.reduceAdd,Nat.reduceLeDiff,Nat.reduceLT,Nat.reduceEqDiff,Int.reduceEq,Int.reduceLT,Int.reduceLE,Int.reduceNe,ly,ge1,le3,c1]
  | ok y q =>
    rw [hb] at hq
    obtain ⟨s1,hy,hc,k1,k2,pk,nx⟩:=hq
    obtain ⟨c1,c2⟩:=of_decide_eq_true hc
    have cv:IntKind.i64.wrap (y:Int)=(y:Int):=wrap64 (by omega) (by omega)
    by_cases h2:y=2
    · subst h2
      have hk:=keyloop_q (n:=2) (c0:=z2) 8 0 0 (by omega) (by decide) k1
      simp only [if_true]
      revert hk
      cases keyL bs 8 0 q with
      | ok a q =>
        rintro ⟨s',g1,g2,g3⟩
        refine ⟨s',?_,g2,k2.trans g3⟩
        have g:=g1 (BIG - 9)
        dsimp only at g
        rw [show BIG - 9+8+1=BIG from rfl] at g
        have g:iter (Q1a.l6 std) BIG [rpt b,.int .i64 0,.agg ⟨[.int .i64 0,.int .u64 0]⟩,.agg ⟨[.int .i64 2,.int .u64 0]⟩] s1=_:=g
        have pk:Q16.q (rpt b) s=some (true,.int .u8 2,s):=pk
        have nx:Q15.q (rpt b) (.bool true) s=some (true,.int .u8 2,s1):=nx
        have cv:IntKind.i64.wrap 2=2:=rfl
        have ge1:(1:Int)≤2:=by omega
        have le3:(2:Int)≤3:=by omega
        have zz:z2=[.int .i64 0,.int .u64 0]:=rfl
        simp only [Q1a.q,Q1a.t,hz,zz,nk,fl,pk,nx,sy,reduceIte,Nat.reduceAdd,Nat.reduceLeDiff,Nat.reduceLT,Nat.reduceEqDiff,Int.reduceEq,Int.reduceLT,Int.reduceLE,Int.reduceNe,ly,ge1,le3,cv,g]
        rfl
      | bad er q =>
        rintro ⟨s',g1,g2,g3⟩
        refine ⟨s',?_,g2,k2.trans g3⟩
        have g:=g1 (BIG - 9)
        dsimp only at g
        rw [show BIG - 9+8+1=BIG from rfl] at g
        have g:iter (Q1a.l6 std) BIG [rpt b,.int .i64 0,.agg ⟨[.int .i64 0,.int .u64 0]⟩,.agg ⟨[.int .i64 2,.int .u64 0]⟩] s1=_:=g
        have pk:Q16.q (rpt b) s=some (true,.int .u8 2,s):=pk
        have nx:Q15.q (rpt b) (.bool true) s=some (true,.int .u8 2,s1):=nx
        have cv:IntKind.i64.wrap 2=2:=rfl
        have ge1:(1:Int)≤2:=by omega
        have le3:(2:Int)≤3:=by omega
        have zz:z2=[.int .i64 0,.int .u64 0]:=rfl
        simp only [Q1a.q,Q1a.t,hz,zz,nk,fl,pk,nx,sy,reduceIte,Nat.reduceAdd,Nat.reduceLeDiff,Nat.reduceLT,Nat.reduceEqDiff,Int.reduceEq,Int.reduceLT,Int.reduceLE,Int.reduceNe,ly,ge1,le3,cv,g]
    · simp only []
      rw [if_neg h2]
      refine ⟨s1,?_,k1,k2⟩
      have c1':(1≤y)=True:=eq_true c1
      have c2':(y≤3)=True:=eq_true c2
      have y2:((y:Int)=2)=False:=eq_false (by omega)
      have zz:z2=[.int .i64 0,.int .u64 0]:=rfl
      simp only [Q1a.q,Q1a.t,hz,zz,nk,fl,pk,nx,sy,reduceIte,Nat.reduceAdd,Nat.reduceLeDiff,Nat.reduceLT,Nat.reduceEqDiff,Int.reduceEq,Int.reduceLT,Int.reduceLE,Int.reduceNe,ly,ge1,le3,c1',c2',cv,y2]
      rfl
end
end Go.Proofs.Yteapmnolmfickaa
/-
  The program's reader: a field.
-/
set_option linter.unusedSimpArgs false
set_option linter.unusedVariables false
set_option maxRecDepth 100000
set_option maxHeartbeats 4000000
namespace Go.Proofs.Yteapmnolmfickaa
open Go.Sim Go.Sim.Bt
attribute [local congr] bdc cndc itec gdc gdSc gdUc
def fd0 (k:Int):Fd:=⟨k,0,0,false,nilB,0,0,0,0,0,0,0,0,0⟩
def bytesL (bs:List Int):Nat→List Int→Nat→RdR (List Int)
  | 0,l,p=>.ok l p
  | n+1,l,p=>match byteP bs (fun _=>true) p with
    | .bad e q=>.bad e q
    | .ok y q=>bytesL bs n (l++[(y:Int)]) q
def fieldP (bs:List Int) (k:Int) (p:Nat):RdR FB :=
  if k=1 then (match numP bs maxU p with | .bad e q=>.bad e q | .ok x q=>.ok ({ fd0 k with n:=x },[]) q)
  else if k=2 then (match intP bs p with | .bad e q=>.bad e q | .ok x q=>.ok ({ fd0 k with i:=x },[]) q)
  else if k=3 then (match byteP bs (fun y=>decide (y≤1)) p with | .bad e q=>.bad e q | .ok y q=>.ok ({ fd0 k with t:=decide (y=1) },[]) q)
  else if k=4 then (match numP bs 65536 p with | .bad e q=>.bad e q | .ok n q=>(match bytesL bs n [] q with | .bad e q=>.bad e q | .ok l q=>.ok (fd0 k,l) q))
  else if k=5 then (match vecP bs p with | .bad e q=>.bad e q | .ok v q=>.ok ({ fd0 k with vl:=v.1,vb:=v.2 },[]) q)
  else if k=6 then (match keyP bs p with | .bad e q=>.bad e q | .ok v q=>.ok ({ fd0 k with kr:=v.1,kn:=v.2 },[]) q)
  else if k=7 then (match intP bs p with
    | .bad e q=>.bad e q
    | .ok i q=>(match keyP bs q with
      | .bad e q=>.bad e q
      | .ok u q=>(match vecP bs q with
        | .bad e q=>.bad e q
        | .ok v q=>.ok ({ fd0 k with id:=i,rr:=u.1,rn:=u.2,rl:=v.1,rb:=v.2 },[]) q)))
  else .ok (fd0 k,[]) p
def FdIs (n1 b:Nat) (bv:Value) (bs:List Int) (s:St) (r:Option (Bool×Value×St)):RdR FB→Prop
  | .ok a q=>∃ w s',r=some (true,({ a.1 with b:=w }:Fd).v,s')∧Ful s.n s' 1 w (br a.2)∧RdAt n1 b bv bs q s'∧RdS b s s'
  | .bad e q=>∃ s',r=some (false,pv e,s')∧RdAt n1 b bv bs q s'∧RdS b s s'
theorem numL_le {bs:List Int} {most:Nat} (hm:most≤65536):∀ {d i x p a q:Nat},numL bs most d i x p=.ok a q→a≤most
  | 0,i,x,p,a,q,h=>by simp [numL] at h
  | d+1,i,x,p,a,q,h=>by
    unfold numL at h
    split at h
    · cases h
    · rename_i y q' hy
      obtain ⟨hc,_⟩:=byteP_ok hy
      have hc:=(of_decide_eq_true hc).2.2
      split at h
      · cases h
        rcases hc with e | e
        · unfold maxU at e; omega
        · exact Nat.le_trans (Nat.le_add_right _ _) e
      · exact numL_le hm h
theorem numP_le {bs:List Int} {p n q:Nat} (h:numP bs 65536 p=.ok n q):n≤65536:=numL_le (Nat.le_refl _) h
section
variable {n1 b p:Nat} {bv:Value} {bs:List Int} {s:St}
def BLIs (n1 b:Nat) (bv:Value) (bs:List Int) (s:St) (z:Value) (fd:Fd) (r:Nat→Option Cut):RdR (List Int)→Prop
  | .ok a q=>∃ w s',(∀ e,r e=some (0,[z,({ fd with b:=w }:Fd).v],s'))∧Ful s.n s' 1 w (br a)∧RdAt n1 b bv bs q s'∧RdS b s s'
  | .bad er q=>∃ s',(∀ e,r e=some (1,[pv er],s'))∧RdAt n1 b bv bs q s'∧RdS b s s'
theorem RdAt.app {n0:Nat} (h:RdAt n1 b bv bs p s) (hb:b < n0) {s':St} (m:More ⟨s.h,n0⟩ s') (f:Fresh s'):RdAt n1 b bv bs p s' :=
  ⟨f,(m.old b hb).trans h.row,h.byt.to fun x hx=>m.old x (by have:=h.lt; simp only; omega),h.lt,h.le,h.sz,h.ok⟩
theorem bytloop_q {fd:Fd} {c0:List Value} {n:Nat} (hn:n≤65536) {s0:St} (hb0:b < s0.n):∀ (d i:Nat) {l:List Int} {p:Nat} {s:St} {w:Value},i+d=n→l.length=i→RdAt n1 b bv bs p s→RdS b s0 s→Ful s0.n s 1 w (br l) →
    BLIs n1 b bv bs s0 (.agg ⟨c0⟩) fd (fun e=>iter (Q18.l12 std) (e+d+1) [rpt b,.int .u64 (n:Int),.int .u64 (i:Int),.agg ⟨c0⟩,({ fd with b:=w }:Fd).v] s) (bytesL bs d l p)
  | 0,i,l,p,s,w,hi,hl,h,h0,hw=>by
    unfold bytesL
    refine ⟨w,s,fun e=>?_,hw,h,h0⟩
    have k:bin .lss (.int .u64 (i:Int)) (.int .u64 (n:Int))=some (.bool false):=by rw [bin_lss,decide_eq_false (by omega)]
    dsimp only
    rw [iter_succ]
    unfold Q18.l12
    simp only [std_bd,std_cnd,List.getD_cons_zero,List.getD_cons_succ,k,bds,cnd,cellsA,Fd.v]
  | d+1,i,l,p,s,w,hi,hl,h,h0,hw=>by
    unfold bytesL
    have k:bin .lss (.int .u64 (i:Int)) (.int .u64 (n:Int))=some (.bool true):=by rw [bin_lss,decide_eq_true (by omega)]
    have nk:nck (rpt b)=some (rpt b):=rfl
    have fl:fld 0 (rpt b)=some (rpt b):=rfl
    have e1:lcl ({ fd with b:=w }:Fd).cs 4=some w:=rfl
    have hq:=any_q h
    cases hb:byteP bs (fun _=>true) p with
    | bad er q =>
      rw [hb] at hq
      obtain ⟨s',k1,k2,nx⟩:=hq
      refine ⟨s',fun e=>?_,k1,h0.trans k2⟩
      dsimp only
      rw [show e+(d+1)+1=(e+d+1)+1 by omega,iter_succ]
      unfold Q18.l12
      simp only [std_bd,std_cnd,List.getD_cons_zero,List.getD_cons_succ,k,Fd.v,cellsA,e1,nk,fl,nx,bds,cnd]
    | ok y q =>
      rw [hb] at hq
      obtain ⟨s1,hy,k1,k2,nx⟩:=hq
      have hw1:Ful s0.n s1 1 w (br l):=by
        rcases hw with ⟨e1,e2⟩ | ⟨c,e,g0,g1,g2,g3⟩
        · exact .inl ⟨e1,e2⟩
        · exact .inr ⟨c,e,g0,g1,(k2.keep c (h.fr.lt g2) (by omega)).trans g2,g3⟩
      have mo:More ⟨s1.h,s0.n⟩ s1:=⟨(h0.trans k2).n,fun _ _=>rfl,fun _=>k1.fr⟩
      obtain ⟨w',s2,a1,a2,a3,a4,_⟩:=push (s0:=⟨s1.h,s0.n⟩) k1.fr hw1 mo (by_:=1) [.int .u8 (y:Int)] (by rw [br_length]; omega) (by rw [br_length]; omega)
      have r2:=k1.app hb0 a2 a4
      have s02:RdS b s0 s2:=⟨a2.n,fun x hx hne=>(a2.old x hx).trans ((h0.trans k2).keep x hx hne)⟩
      have a3':Ful s0.n s2 1 w' (br (l++[(y:Int)])):=by rw [br_append]; exact a3
      have e5:stl ({ fd with b:=w }:Fd).cs 4 1 w'=some ({ fd with b:=w' }:Fd).cs:=by
        rw [stl_eq,a3.isR.bx]; rfl
      have e6:bin .add (.int .u64 (i:Int)) (.int .u64 1)=some (.int .u64 ((i+1:Nat):Int)):=by
        rw [bin_add,wrapu64 (by omega) (by omega)]; rfl
      have ih:=bytloop_q (fd:=fd) (c0:=c0) hn hb0 d (i+1) (by omega) (by simp [hl]) r2 s02 a3'
      simp only []
      have step:∀ e,iter (Q18.l12 std) (e+(d+1)+1) [rpt b,.int .u64 (n:Int),.int .u64 (i:Int),.agg ⟨c0⟩,({ fd with b:=w }:Fd).v] s=iter (Q18.l12 std) (e+d+1) [rpt b,.int .u64 (n:Int),.int .u64 ((i+1:Nat):Int),.agg ⟨c0⟩,({ fd with b:=w' }:Fd).v] s2:=fun e=>by
        rw [show e+(d+1)+1=(e+d+1)+1 by omega,iter_succ]
        generalize iter (Q18.l12 std) (e+d+1)=R
        unfold Q18.l12
        simp only [std_bd,std_cnd,List.getD_cons_zero,List.getD_cons_succ,k,Fd.v,cellsA,e1,nk,fl,nx,bls1,a1,e5,e6,bds,cnd]
      revert ih
      cases bytesL bs d (l++[(y:Int)]) q with
      | ok a q =>
        rintro ⟨w,s',g1,g2,g3,g4⟩
        exact ⟨w,s',fun e=>(step e).trans (g1 e),g2,g3,g4⟩
      | bad er q =>
        rintro ⟨s',g1,g2,g3⟩
        exact ⟨s',fun e=>(step e).trans (g1 e),g2,g3⟩
theorem field_q (h:RdAt n1 b bv bs p s) (k:Int):FdIs n1 b bv bs s (Q18.q (rpt b) (.int .i64 k) s) (fieldP bs k p):=by
  have nilF:∀ {s':St},Ful s.n s' 1 nilB (br []):=.inl ⟨rfl,rfl⟩
  have nk:nck (rpt b)=some (rpt b):=rfl
  have fl:fld 0 (rpt b)=some (rpt b):=rfl
  unfold fieldP
  by_cases h1:k=1
  · rw [if_pos h1]
    have hq:=number_q (most:=maxU) (.inl rfl) h
    rw [show ((maxU:Nat):Int)=18446744073709551615 from rfl] at hq
    revert hq
    cases numP bs maxU p with
    | ok x q =>
      rintro ⟨s',g1,g2,g3⟩
      refine ⟨nilB,s',?_,nilF,g2,g3⟩
      simp only [Q18.q,Q18.t,sy,reduceIte,Nat.reduceAdd,Nat.reduceLeDiff,Nat.reduceLT,Nat.reduceEqDiff,Int.reduceEq,Int.reduceLT,Int.reduceLE,Int.reduceNe,ly,h1,g1,Fd.v,Fd.cs,fd0,nilB]
    | bad e q =>
      rintro ⟨s',g1,g2,g3⟩
      refine ⟨s',?_,g2,g3⟩
      simp only [Q18.q,Q18.t,sy,reduceIte,Nat.reduceAdd,Nat.reduceLeDiff,Nat.reduceLT,Nat.reduceEqDiff,Int.reduceEq,Int.reduceLT,Int.reduceLE,Int.reduceNe,ly,h1,g1]
  rw [if_neg h1]
  by_cases h2:k=2
  · rw [if_pos h2]
    have hq:=int_q h
    revert hq
    cases intP bs p with
    | ok x q =>
      rintro ⟨s',g1,g2,g3⟩
      refine ⟨nilB,s',?_,nilF,g2,g3⟩
      simp only [Q18.q,Q18.t,sy,reduceIte,Nat.reduceAdd,Nat.reduceLeDiff,Nat.reduceLT,Nat.reduceEqDiff,Int.reduceEq,Int.reduceLT,Int.reduceLE,Int.reduceNe,ly,h2,g1,Fd.v,Fd.cs,fd0,nilB]
    | bad e q =>
      rintro ⟨s',g1,g2,g3⟩
      refine ⟨s',?_,g2,g3⟩
      simp only [Q18.q,Q18.t,sy,reduceIte,Nat.reduceAdd,Nat.reduceLeDiff,Nat.reduceLT,Nat.reduceEqDiff,Int.reduceEq,Int.reduceLT,Int.reduceLE,Int.reduceNe,ly,h2,g1]
  rw [if_neg h2]
  by_cases h3:k=3
  · rw [if_pos h3]
    have hq:=byte_q (fun y=>decide (y≤1)) h
    have le1:∀ y:Nat,((y:Int)≤1)=(y≤1):=fun y=>propext (by omega)
    have eq1:∀ y:Nat,((y:Int)=1)=(y=1):=fun y=>propext (by omega)
    revert hq
    cases byteP bs (fun y=>decide (y≤1)) p with
    | ok y q =>
      rintro ⟨s',hy,hc,g2,g3,pk,nx⟩
      have c:(y≤1)=True:=eq_true (of_decide_eq_true hc)
      refine ⟨nilB,s',?_,nilF,g2,g3⟩
      simp only [Q18.q,Q18.t,sy,reduceIte,Nat.reduceAdd,Nat.reduceLeDiff,Nat.reduceLT,Nat.reduceEqDiff,Int.reduceEq,Int.reduceLT,Int.reduceLE,Int.reduceNe,ly,h3,nk,fl,pk,le1,c,nx,eq1,Fd.v,Fd.cs,fd0,nilB]
    | bad e q =>
      rintro ⟨s',g2,g3,⟨pk,rfl⟩ | ⟨y,hy,hc,pk,he,nx⟩⟩
      · refine ⟨s',?_,g2,g3⟩
        simp only [Q18.q,Q18.t,sy,reduceIte,Nat.reduceAdd,Nat.reduceLeDiff,Nat.reduceLT,Nat.reduceEqDiff,Int.reduceEq,Int.reduceLT,Int.reduceLE,Int.reduceNe,ly,h3,nk,fl,pk]
      · have c:(y≤1)=False:=eq_false (of_decide_eq_false hc)
        refine ⟨s',?_,g2,g3⟩
        simp only [Q18.q,Q18.t,sy,reduceIte,Nat.reduceAdd,Nat.reduceLeDiff,Nat.reduceLT,Nat.reduceEqDiff,Int.reduceEq,Int.reduceLT,Int.reduceLE,Int.reduceNe,ly,h3,nk,fl,pk,le1,c,nx]
  rw [if_neg h3]
  by_cases h4:k=4
  · rw [if_pos h4]
    have hq:=number_q (most:=65536) (.inr (Nat.le_refl _)) h
    rw [show ((65536:Nat):Int)=65536 from rfl] at hq
    have hle:∀ n q,numP bs 65536 p=.ok n q→n≤65536:=fun _ _ h=>numP_le h
    revert hq hle
    cases numP bs 65536 p with
    | ok n q =>
      rintro ⟨s1,g1,g2,g3⟩ hle
      have hl:=bytloop_q (fd:=fd0 k) (c0:=(fd0 0).cs) (hle n q rfl) g2.n n 0 (w:=nilB) (by omega) (rfl:([]:List Int).length=0) g2 (.refl _ _) (.inl ⟨rfl,rfl⟩)
      simp only []
      revert hl
      cases bytesL bs n [] q with
      | ok l q =>
        rintro ⟨w,s',i1,i2,i3,i4⟩
        refine ⟨w,s',?_,i2.le g3.n,i3,g3.trans i4⟩
        have i:=i1 (BIG - n - 1)
        dsimp only at i
        have:=hle n _ rfl
        rw [show BIG - n - 1+n+1=BIG by unfold BIG; omega] at i
        have i:iter (Q18.l12 std) BIG [rpt b,.int .u64 (n:Int),.int .u64 0,.agg ⟨(fd0 0).cs⟩,(fd0 k).v] s1=_:=i
        have hbx:=i2.isR.bx
        simp only [Fd.v,Fd.cs,fd0,nilB,h4] at i
        simp only [Q18.q,Q18.t,Q18.t.p1,sy,reduceIte,Nat.reduceAdd,Nat.reduceLeDiff,Nat.reduceLT,Nat.reduceEqDiff,Int.reduceEq,Int.reduceLT,Int.reduceLE,Int.reduceNe,ly,h1,h2,h3,h4,g1,i,Fd.v,Fd.cs,fd0,nilB]
      | bad e q =>
        rintro ⟨s',i1,i3,i4⟩
        refine ⟨s',?_,i3,g3.trans i4⟩
        have i:=i1 (BIG - n - 1)
        dsimp only at i
        have:=hle n _ rfl
        rw [show BIG - n - 1+n+1=BIG by unfold BIG; omega] at i
        have i:iter (Q18.l12 std) BIG [rpt b,.int .u64 (n:Int),.int .u64 0,.agg ⟨(fd0 0).cs⟩,(fd0 k).v] s1=_:=i
        simp only [Fd.v,Fd.cs,fd0,nilB,h4] at i
        simp only [Q18.q,Q18.t,Q18.t.p1,sy,reduceIte,Nat.reduceAdd,Nat.reduceLeDiff,Nat.reduceLT,Nat.reduceEqDiff,Int.reduceEq,Int.reduceLT,Int.reduceLE,Int.reduceNe,ly,h1,h2,h3,h4,g1,i]
    | bad e q =>
      rintro ⟨s',g1,g2,g3⟩ _
      refine ⟨s',?_,g2,g3⟩
      simp only [Q18.q,Q18.t,Q18.t.p1,sy,reduceIte,Nat.reduceAdd,Nat.reduceLeDiff,Nat.reduceLT,Nat.reduceEqDiff,Int.reduceEq,Int.reduceLT,Int.reduceLE,Int.reduceNe,ly,h4,g1]
  rw [if_neg h4]
  by_cases h5:k=5
  · rw [if_pos h5]
    have hq:=vector_q h
    revert hq
    cases vecP bs p with
    | ok x q =>
      rintro ⟨s',g1,g2,g3⟩
      refine ⟨nilB,s',?_,nilF,g2,g3⟩
      simp only [Q18.q,Q18.t,Q18.t.p1,sy,reduceIte,Nat.reduceAdd,Nat.reduceLeDiff,Nat.reduceLT,Nat.reduceEqDiff,Int.reduceEq,Int.reduceLT,Int.reduceLE,Int.reduceNe,ly,h5,g1,Fd.v,Fd.cs,fd0,nilB]
    | bad e q =>
      rintro ⟨s',g1,g2,g3⟩
      refine ⟨s',?_,g2,g3⟩
      simp only [Q18.q,Q18.t,Q18.t.p1,sy,reduceIte,Nat.reduceAdd,Nat.reduceLeDiff,Nat.reduceLT,Nat.reduceEqDiff,Int.reduceEq,Int.reduceLT,Int.reduceLE,Int.reduceNe,ly,h5,g1]
  rw [if_neg h5]
  by_cases h6:k=6
  · rw [if_pos h6]
    have hq:=key_q h
    revert hq
    cases keyP bs p with
    | ok x q =>
      rintro ⟨s',g1,g2,g3⟩
      refine ⟨nilB,s',?_,nilF,g2,g3⟩
      simp only [Q18.q,Q18.t,Q18.t.p1,sy,reduceIte,Nat.reduceAdd,Nat.reduceLeDiff,Nat.reduceLT,Nat.reduceEqDiff,Int.reduceEq,Int.reduceLT,Int.reduceLE,Int.reduceNe,ly,h6,g1,Fd.v,Fd.cs,fd0,nilB]
    | bad e q =>
      rintro ⟨s',g1,g2,g3⟩
      refine ⟨s',?_,g2,g3⟩
      simp only [Q18.q,Q18.t,Q18.t.p1,sy,reduceIte,Nat.reduceAdd,Nat.reduceLeDiff,Nat.reduceLT,Nat.reduceEqDiff,Int.reduceEq,Int.reduceLT,Int.reduceLE,Int.reduceNe,ly,h6,g1]
  rw [if_neg h6]
  by_cases h7:k=7
  · rw [if_pos h7]
    have hq:=int_q h
    revert hq
    cases intP bs p with
    | ok i q =>
      rintro ⟨s1,g1,g2,g3⟩
      simp only []
      have hq2:=key_q g2
      revert hq2
      cases keyP bs q with
      | ok u q =>
        rintro ⟨s2,i1,i2,i3⟩
        simp only []
        have hq3:=vector_q i2
        revert hq3
        cases vecP bs q with
        | ok v q =>
          rintro ⟨s3,j1,j2,j3⟩
          refine ⟨nilB,s3,?_,nilF,j2,(g3.trans i3).trans j3⟩
          simp only [Q18.q,Q18.t,Q18.t.p1,sy,reduceIte,Nat.reduceAdd,Nat.reduceLeDiff,Nat.reduceLT,Nat.reduceEqDiff,Int.reduceEq,Int.reduceLT,Int.reduceLE,Int.reduceNe,ly,h7,g1,i1,j1,Fd.v,Fd.cs,fd0,nilB]
        | bad e q =>
          rintro ⟨s3,j1,j2,j3⟩
          refine ⟨s3,?_,j2,(g3.trans i3).trans j3⟩
          simp only [Q18.q,Q18.t,Q18.t.p1,sy,reduceIte,Nat.reduceAdd,Nat.reduceLeDiff,Nat.reduceLT,Nat.reduceEqDiff,Int.reduceEq,Int.reduceLT,Int.reduceLE,Int.reduceNe,ly,h7,g1,i1,j1]
      | bad e q =>
        rintro ⟨s2,i1,i2,i3⟩
        refine ⟨s2,?_,i2,g3.trans i3⟩
        simp only [Q18.q,Q18.t,Q18.t.p1,sy,reduceIte,Nat.reduceAdd,Nat.reduceLeDiff,Nat.reduceLT,Nat.reduceEqDiff,Int.reduceEq,Int.reduceLT,Int.reduceLE,Int.reduceNe,ly,h7,g1,i1]
    | bad e q =>
      rintro ⟨s1,g1,g2,g3⟩
      refine ⟨s1,?_,g2,g3⟩
      simp only [Q18.q,Q18.t,Q18.t.p1,sy,reduceIte,Nat.reduceAdd,Nat.reduceLeDiff,Nat.reduceLT,Nat.reduceEqDiff,Int.reduceEq,Int.reduceLT,Int.reduceLE,Int.reduceNe,ly,h7,g1]
  rw [if_neg h7]
  refine ⟨nilB,s,?_,nilF,h,.refl _ _⟩
  simp only [Q18.q,Q18.t,Q18.t.p1,sy,reduceIte,Nat.reduceAdd,Nat.reduceLeDiff,Nat.reduceLT,Nat.reduceEqDiff,Int.reduceEq,Int.reduceLT,Int.reduceLE,Int.reduceNe,ly,h1,h2,h3,h4,h5,h6,h7,Fd.v,Fd.cs,fd0,nilB]
end
end Go.Proofs.Yteapmnolmfickaa
/-
  The fields with which bytes begin,as the program reads them.
-/
set_option linter.unusedSimpArgs false
set_option linter.unusedVariables false
set_option maxRecDepth 100000
set_option maxHeartbeats 4000000
namespace Go.Proofs.Yteapmnolmfickaa
open Go.Sim Go.Sim.Bt
attribute [local congr] bdc cndc itec gdc gdSc gdUc
def clr (p:FB):FB:=({ p.1 with b:=nilB },p.2)
def firstL (bs:List Int):List Int→Nat→List FB→RdR (List FB)
  | [],p,gs=>.ok gs p
  | k :: ks,p,gs=>match fieldP bs k p with
    | .bad e q=>.bad e q
    | .ok a q=>firstL bs ks q (gs++[a])
open Classical in
noncomputable def firstP (bs:List Int) (ks:List Int):List FB×Nat×Int :=
  if ∀ k ∈ ks,isKd k then (match firstL bs ks 0 [] with
    | .ok gs p=>(gs,p,0)
    | .bad e p=>([],p,e)) else ([],0,30)
theorem keyL_lt {bs:List Int} (hb:okY bs):∀ {d j x p a q:Nat},j+d=8→x < 256 ^ j→keyL bs d x p=.ok a q→a < 2 ^ 64
  | 0,j,x,p,a,q,hj,hx,h=>by
    unfold keyL at h
    cases h
    have:j=8:=by omega
    subst this
    have e:256 ^ 8=2 ^ 64:=by decide
    omega
  | d+1,j,x,p,a,q,hj,hx,h=>by
    unfold keyL at h
    split at h
    · cases h
    · rename_i y q' hy
      obtain ⟨_,_,z,hz,rfl⟩:=byteP_ok hy
      obtain ⟨w,rfl,hw⟩:=hb.at hz
      exact keyL_lt hb (j:=j+1) (by omega) (by rw [Nat.pow_succ,Int.toNat_natCast]; omega) h
theorem keyP_lt {bs:List Int} (hb:okY bs) {p q:Nat} {a:Nat×Nat} (h:keyP bs p=.ok a q):a.2 < 2 ^ 64:=by
  unfold keyP at h
  split at h
  · cases h
  · split at h
    · split at h
      · cases h
      · rename_i hk
        cases h
        exact keyL_lt hb (j:=0) (by omega) (by decide) hk
    · cases h; exact Nat.two_pow_pos _
theorem intP_rng {bs:List Int} {p q:Nat} {a:Int} (h:intP bs p=.ok a q):-9223372036854775808≤a∧a≤9223372036854775807:=by
  unfold intP at h
  split at h
  · cases h
  · rename_i x q' hx
    cases h
    have:=numL_lt (by omega) (by decide) hx
    unfold unzz
    split <;> omega
theorem fd0_a (k:Int):FdA (fd0 k):=⟨by simp [fd0],by simp [fd0],by simp [fd0],by simp [fd0],by simp [fd0],by simp [fd0],by simp [fd0],by simp [fd0],by simp [fd0],by simp [fd0],by simp [fd0],by simp [fd0]⟩
theorem fieldP_a {bs:List Int} (hb:okY bs) {k:Int} {p q:Nat} {a:FB} (h:fieldP bs k p=.ok a q):FdA a.1:=by
  obtain ⟨z1,z2,z3,z4,z5,z6,z7,z8,z9,z10,z11,z12⟩:=fd0_a k
  unfold fieldP at h
  split at h
  · split at h
    · cases h
    · rename_i x q' hx
      cases h
      have:=numL_lt (by omega) (by decide) hx
      exact ⟨by simp only; omega,by simp only; omega,z3,z4,z5,z6,z7,z8,z9,z10,z11,z12⟩
  · split at h
    · split at h
      · cases h
      · rename_i x q' hx
        cases h
        obtain ⟨r1,r2⟩:=intP_rng hx
        exact ⟨z1,z2,r1,r2,z5,z6,z7,z8,z9,z10,z11,z12⟩
    · split at h
      · split at h
        · cases h
        · cases h; exact ⟨z1,z2,z3,z4,z5,z6,z7,z8,z9,z10,z11,z12⟩
      · split at h
        · split at h
          · cases h
          · split at h
            · cases h
            · cases h; exact ⟨z1,z2,z3,z4,z5,z6,z7,z8,z9,z10,z11,z12⟩
        · split at h
          · split at h
            · cases h
            · cases h; exact ⟨z1,z2,z3,z4,by simp only; omega,z6,z7,z8,z9,z10,z11,z12⟩
          · split at h
            · split at h
              · cases h
              · rename_i x q' hx
                cases h
                have:=keyP_lt hb hx
                exact ⟨z1,z2,z3,z4,z5,by simp only; omega,by simp only; omega,z8,z9,z10,z11,z12⟩
            · split at h
              · split at h
                · cases h
                · rename_i x q' hx
                  split at h
                  · cases h
                  · rename_i u q'' hu
                    split at h
                    · cases h
                    · cases h
                      obtain ⟨r1,r2⟩:=intP_rng hx
                      have:=keyP_lt hb hu
                      exact ⟨z1,z2,z3,z4,z5,z6,z7,r1,r2,by simp only; omega,by simp only; omega,by simp only; omega⟩
              · cases h; exact ⟨z1,z2,z3,z4,z5,z6,z7,z8,z9,z10,z11,z12⟩
theorem first_no {a0 a1 l n c:Value} {s s1:St} (h:Qz.h std a0 a1 s=some (false,[l,n,c],s1)):Qz.v a0 a1 s=some (.tuple ⟨[l,n,c]⟩,s1):=by
  show ((Qz.h std a0 a1 s).bind fun r=>match r with
    | (false,l,s1)=>some (oneV l,s1)
    | (true,ys,s1)=>_)=_
  rw [h]
  rfl
theorem first_end (p1 p2 p3:Value) (s:St):dfEnd Try.prog Try.f66.results.toList [4,5,6] [p1,p2,p3] s=std.bd (ldc s p1) fun x=>std.bd (ldc s p2) fun y=>std.bd (ldc s p3) fun z=>some (.tuple ⟨[x,y,z]⟩,s):=by kernel_rfl
theorem first_yes {a0 a1 y0 y1 y2 y3 y4 p1 p2 p3 pw l n c:Value} {ok:Bool} {s s1 s2 s3:St} (h:Qz.h std a0 a1 s=some (true,[y0,y1,y2,y3,y4],s1))
    (hb:∀ f,Qz.b std f y0 y1 y2 y3 y4 s1=some (ok,pw,[p1,p2,p3],s2)) (hc:Q10.c std y4 y1 y2 y3 (if ok=true then .nilIface else pw) s2=some s3) (h1:ldc s3 p1=some l) (h2:ldc s3 p2=some n) (h3:ldc s3 p3=some c) :
    Qz.v a0 a1 s=some (.tuple ⟨[l,n,c]⟩,s3):=by
  have e1:Qz.v a0 a1 s=(Qz.h std a0 a1 s).bind fun r=>match r with
    | (false,l,s1)=>some (oneV l,s1)
    | (true,ys,s1)=>(evVs ⟨frV [1,4,5,6,9] ys,[],[]⟩ [Operand.tmp 9,Operand.tmp 4,Operand.tmp 5,Operand.tmp 6]).bind fun cs=>(Qz.bw (.func (.func 87) ⟨[]⟩ ⟨cs⟩) ys s1).bind fun q=>(Q10.cw cs (if q.1 then .nilIface else q.2.1) q.2.2.2).bind fun s3=>dfEnd Try.prog Try.f66.results.toList [4,5,6] q.2.2.1 s3:=rfl
  have e2:evVs ⟨frV [1,4,5,6,9] [y0,y1,y2,y3,y4],[],[]⟩ [Operand.tmp 9,Operand.tmp 4,Operand.tmp 5,Operand.tmp 6]=some [y4,y1,y2,y3]:=rfl
  have e3:∀ f,Qz.bw f [y0,y1,y2,y3,y4] s1=Qz.b std f y0 y1 y2 y3 y4 s1:=fun _=>rfl
  have e4:∀ x s,Q10.cw [y4,y1,y2,y3] x s=Q10.c std y4 y1 y2 y3 x s:=fun _ _=>rfl
  rw [e1,h,bds]
  dsimp only
  rw [e2,bds,e3,hb,bds,e4]
  dsimp only
  rw [hc,bds,first_end]
  simp only [std_bd,h1,h2,h3,bds]
end Go.Proofs.Yteapmnolmfickaa
/-
  The fields with which bytes begin: the program's First.
-/
set_option linter.unusedSimpArgs false
set_option linter.unusedVariables false
set_option maxRecDepth 100000
set_option maxHeartbeats 4000000
namespace Go.Proofs.Yteapmnolmfickaa
open Go.Sim Go.Sim.Bt
attribute [local congr] bdc cndc itec gdc gdSc gdUc
theorem fieldP_b {bs:List Int} {k:Int} {p q:Nat} {a:FB} (h:fieldP bs k p=.ok a q):a.1.b=nilB:=by
  unfold fieldP at h
  repeat' (split at h)
  all_goals first | (cases h; done) | (cases h; rfl)
def kr (ks:List Int):List (List Value):=ks.map fun k=>[.int .i64 k]
def KL (n:Nat) (s:St) (v:Value) (ks:List Int):Prop:=Pers n s fun s=>IsR s 1 v (kr ks)
theorem KL.len {n:Nat} {s:St} {v:Value} {ks:List Int} (h:KL n s v ks):lenL v=some (.int .i64 ks.length):=by
  have:=(Pers.here h).len
  simpa [kr] using this
theorem KL.at {n:Nat} {s:St} {v:Value} {ks:List Int} (h:KL n s v ks) {j:Nat} {k:Int} (hj:ks[j]?=some k):∃ q,idx s 1 v (.int .i64 (j:Int))=some q∧ldc s q=some (.int .i64 k):=by
  obtain ⟨b,all,ro,h1,h2,h3⟩:=(Pers.here h).at (j:=j) (r:=[.int .i64 k]) (by simp [kr,hj])
  exact ⟨_,h1,by rw [ldc_row h2,h3]; rfl⟩
theorem is_r (k:Int) (s:St):Q14.r (.int .i64 k) s=some (.bool (decide (isKd k))):=by
  have:=only_r (fd0 k) rfl s
  simp only [Fd.v,Fd.cs,fd0,nilB] at this
  simp only [Q14.r,Q14.t,sy,reduceIte,Nat.reduceAdd,Nat.reduceLeDiff,Nat.reduceLT,Nat.reduceEqDiff,Int.reduceEq,Int.reduceLT,Int.reduceLE,Int.reduceNe,ly,this]
  first | done | rfl | congr
def cpt (b:Nat):Value:=.pointer (some ⟨b,0,some 0⟩)
open Classical in
theorem kindloop {n N:Nat} {s:St} {a0 v:Value} {ks:List Int} (h:KL n s v ks) (hb:ks.length≤1000000) (g0:s.get N=some (.row 1 [[.slice none 0 0]] false)) (g1:s.get (N+1)=some (.row 1 [[.int .i64 0]] false)) (g2:s.get (N+2)=some (.row 1 [[.int .i64 0]] false)):∀ (d j:Nat),j+d=ks.length →
    if ∀ k ∈ ks.drop j,isKd k then ∀ e,iter (Qz.l2 std) (e+d+1) [a0,v,cpt N,cpt (N+1),cpt (N+2),v,.int .i64 (ks.length:Int),.int .i64 (j:Int)] s=some (0,[a0,v,cpt N,cpt (N+1),cpt (N+2)],s)
    else ∃ s',(∀ e,iter (Qz.l2 std) (e+d+1) [a0,v,cpt N,cpt (N+1),cpt (N+2),v,.int .i64 (ks.length:Int),.int .i64 (j:Int)] s=some (1,[cpt N,cpt (N+1),cpt (N+2)],s'))∧s'.n=s.n∧(∀ x,x < N→s'.get x=s.get x)∧(Fresh s→Fresh s') ∧
      ldc s' (cpt N)=some nilB∧ldc s' (cpt (N+1))=some (.int .i64 0)∧ldc s' (cpt (N+2))=some (.int .i64 30)
  | 0,j,hj=>by
    have:j=ks.length:=by omega
    subst this
    rw [if_pos (by intro p hp; simp at hp)]
    intro e
    have lt1:bin .lss (.int .i64 (ks.length:Int)) (.int .i64 (ks.length:Int))=some (.bool false):=by
      rw [bin_lss,decide_eq_false (by omega)]
    rw [iter_succ]
    unfold Qz.l2
    simp only [std_bd,std_cnd,List.getD_cons_zero,List.getD_cons_succ,lt1,bds,cnd]
  | d+1,j,hj=>by
    have ih:=kindloop (a0:=a0) h hb g0 g1 g2 d (j+1) (by omega)
    obtain ⟨k,hk⟩:=get_some (l:=ks) (j:=j) (by omega)
    obtain ⟨q,q1,q2⟩:=h.at hk
    have hi:=is_r k s
    have lt0:bin .lss (.int .i64 (j:Int)) (.int .i64 (ks.length:Int))=some (.bool true):=by
      rw [bin_lss,decide_eq_true (by omega)]
    have add0:bin .add (.int .i64 (j:Int)) (.int .i64 1)=some (.int .i64 ((j+1:Nat):Int)):=by
      rw [bin_add,wrap64 (by omega) (by omega)]; rfl
    rw [drop_get hk]
    by_cases ok:isKd k
    · rw [decide_eq_true ok] at hi
      have nt:un .not (.bool true)=some (.bool false):=rfl
      have step:∀ e,iter (Qz.l2 std) (e+(d+1)+1) [a0,v,cpt N,cpt (N+1),cpt (N+2),v,.int .i64 (ks.length:Int),.int .i64 (j:Int)] s=iter (Qz.l2 std) (e+d+1) [a0,v,cpt N,cpt (N+1),cpt (N+2),v,.int .i64 (ks.length:Int),.int .i64 ((j+1:Nat):Int)] s:=fun e=>by
        rw [show e+(d+1)+1=(e+d+1)+1 by omega,iter_succ]
        generalize iter (Qz.l2 std) (e+d+1)=R
        unfold Qz.l2
        simp only [std_bd,std_cnd,List.getD_cons_zero,List.getD_cons_succ,lt0,q1,q2,hi,nt,add0,bds,cnd]
      simp only [List.mem_cons,forall_eq_or_imp,ok,true_and]
      split at ih
      · rename_i hh
        rw [if_pos hh]
        exact fun e=>(step e).trans (ih e)
      · rename_i hh
        rw [if_neg hh]
        obtain ⟨s',i1,i2⟩:=ih
        exact ⟨s',fun e=>(step e).trans (i1 e),i2⟩
    · rw [decide_eq_false ok] at hi
      have nt:un .not (.bool false)=some (.bool true):=rfl
      rw [if_neg (fun hh=>ok (hh k (by simp)))]
      have w1:stv s 1 (cpt N) (.slice none 0 0)=some (s.put N (.row 1 [[nilB]] false)):=by rw [cpt,stv_row g0]; rfl
      have g1':(s.put N (.row 1 [[nilB]] false)).get (N+1)=some (.row 1 [[.int .i64 0]] false):=by rw [get_put_ne (by omega)]; exact g1
      have g2':(s.put N (.row 1 [[nilB]] false)).get (N+2)=some (.row 1 [[.int .i64 0]] false):=by rw [get_put_ne (by omega)]; exact g2
      have g0':(s.put N (.row 1 [[nilB]] false)).get N=some (.row 1 [[nilB]] false):=get_put_same g0
      have f1:Fresh s→Fresh (s.put N (.row 1 [[nilB]] false)):=fun f=>f.put
      have o1:∀ x,x < N→(s.put N (.row 1 [[nilB]] false)).get x=s.get x:=fun x hx=>get_put_ne (by omega)
      have n1':(s.put N (.row 1 [[nilB]] false)).n=s.n:=rfl
      generalize s.put N (.row 1 [[nilB]] false)=s1 at *
      have w2:stv s1 1 (cpt (N+1)) (.int .i64 0)=some (s1.put (N+1) (.row 1 [[.int .i64 0]] false)):=by rw [cpt,stv_row g1']; rfl
      have g2'':(s1.put (N+1) (.row 1 [[.int .i64 0]] false)).get (N+2)=some (.row 1 [[.int .i64 0]] false):=by rw [get_put_ne (by omega)]; exact g2'
      have g1'':(s1.put (N+1) (.row 1 [[.int .i64 0]] false)).get (N+1)=some (.row 1 [[.int .i64 0]] false):=get_put_same g1'
      have g0'':(s1.put (N+1) (.row 1 [[.int .i64 0]] false)).get N=some (.row 1 [[nilB]] false):=by rw [get_put_ne (by omega)]; exact g0'
      have f2:Fresh s1→Fresh (s1.put (N+1) (.row 1 [[.int .i64 0]] false)):=fun f=>f.put
      have o2:∀ x,x < N→(s1.put (N+1) (.row 1 [[.int .i64 0]] false)).get x=s1.get x:=fun x hx=>get_put_ne (by omega)
      have n2':(s1.put (N+1) (.row 1 [[.int .i64 0]] false)).n=s1.n:=rfl
      generalize s1.put (N+1) (.row 1 [[.int .i64 0]] false)=s2 at *
      have w3:stv s2 1 (cpt (N+2)) (.int .i64 30)=some (s2.put (N+2) (.row 1 [[.int .i64 30]] false)):=by rw [cpt,stv_row g2'']; rfl
      refine ⟨s2.put (N+2) (.row 1 [[.int .i64 30]] false),fun e=>?_,?_,fun x hx=>?_,fun f=>(f2 (f1 f)).put,?_,?_,?_⟩
      · rw [show e+(d+1)+1=(e+d+1)+1 by omega,iter_succ]
        unfold Qz.l2
        simp only [std_bd,std_cnd,List.getD_cons_zero,List.getD_cons_succ,lt0,q1,q2,hi,nt,w1,w2,w3,bds,cnd]
      · rw [put_n,n2',n1']
      · rw [get_put_ne (by omega),o2 x hx,o1 x hx]
      · rw [cpt,ldc_row (by rw [get_put_ne (by omega)]; exact g0'')]; rfl
      · rw [cpt,ldc_row (by rw [get_put_ne (by omega)]; exact g1'')]; rfl
      · rw [cpt,ldc_row (get_put_same g2'')]; rfl
structure FsAt (N n1:Nat) (s0:St) (bv:Value) (bs:List Int) (fs:List FB) (p:Nat) (s:St):Prop where
  rd:RdAt n1 (N+3) bv bs p s
  lst:∃ lv,s.get N=some (.row 1 [[lv]] false)∧Ful (N+5) s 14 lv (fs.map fun p=>p.1.cs)
  r1:s.get (N+1)=some (.row 1 [[.int .i64 0]] false)
  r2:s.get (N+2)=some (.row 1 [[.int .i64 0]] false)
  box:s.get (N+4)=some (.row 1 [[rpt (N+3)]] false)
  byt:∀ p ∈ fs,FdA p.1∧Ful (N+5) s 1 p.1.b (br p.2)
  le:N+5≤s.n
  old:∀ x,x < N→s.get x=s0.get x
theorem Ful.rdS {N n0 sz b:Nat} {s s':St} {v:Value} {rows:List (List Value)} (h:Ful n0 s sz v rows) (f:Fresh s) (k:RdS b s s') (hb:b < n0):Ful n0 s' sz v rows:=by
  rcases h with h | ⟨c,e,g0,g1,g2,g3⟩
  · exact .inl h
  · exact .inr ⟨c,e,g0,g1,(k.keep c (f.lt g2) (by omega)).trans g2,g3⟩
theorem Ful.putN {n0 sz b:Nat} {s:St} {k:Blk} {v:Value} {rows:List (List Value)} (h:Ful n0 s sz v rows) (hb:b < n0):Ful n0 (s.put b k) sz v rows:=by
  rcases h with h | ⟨c,e,g0,g1,g2,g3⟩
  · exact .inl h
  · exact .inr ⟨c,e,g0,g1,by rw [get_put_ne (by omega)]; exact g2,g3⟩
def FLIs (N n1:Nat) (s0:St) (bv:Value) (bs:List Int) (r:Nat→Option Cut):RdR (List FB)→Prop
  | .ok gs q=>∃ s' fs,(∀ e,r e=some (0,[cpt N,cpt (N+1),cpt (N+2),cpt (N+4)],s'))∧FsAt N n1 s0 bv bs fs q s'∧fs.map clr=gs
  | .bad er q=>∃ s' fs,(∀ e,r e=some (1,[pv er,cpt N,cpt (N+1),cpt (N+2)],s'))∧FsAt N n1 s0 bv bs fs q s'
theorem fieldsloop {N n1 n:Nat} {s0:St} {bv v:Value} {bs ks:List Int} (hn:n≤N) (hn1:n1≤N) (hk:KL n s0 v ks) (hks:ks.length≤1000000):∀ (d j:Nat),j+d=ks.length→∀ {p:Nat} {fs:List FB} {s:St},fs.length=j→FsAt N n1 s0 bv bs fs p s →
    FLIs N n1 s0 bv bs (fun e=>iter (Qz.l10 std) (e+d+1) [cpt N,cpt (N+1),cpt (N+2),cpt (N+4),v,.int .i64 (ks.length:Int),.int .i64 (j:Int)] s) (firstL bs (ks.drop j) p (fs.map clr))
  | 0,j,hj,p,fs,s,hfs,h=>by
    have:j=ks.length:=by omega
    subst this
    rw [List.drop_length]
    unfold firstL
    refine ⟨s,fs,fun e=>?_,h,rfl⟩
    have lt1:bin .lss (.int .i64 (ks.length:Int)) (.int .i64 (ks.length:Int))=some (.bool false):=by
      rw [bin_lss,decide_eq_false (by omega)]
    dsimp only
    rw [iter_succ]
    unfold Qz.l10
    simp only [std_bd,std_cnd,List.getD_cons_zero,List.getD_cons_succ,lt1,bds,cnd]
  | d+1,j,hj,p,fs,s,hfs,h=>by
    obtain ⟨k,hkj⟩:=get_some (l:=ks) (j:=j) (by omega)
    obtain ⟨q0,q1,q2⟩:=KL.at (hk.to fun x hx=>h.old x (by omega)) hkj
    obtain ⟨lv,l1,l2⟩:=h.lst
    have lt0:bin .lss (.int .i64 (j:Int)) (.int .i64 (ks.length:Int))=some (.bool true):=by
      rw [bin_lss,decide_eq_true (by omega)]
    have add0:bin .add (.int .i64 (j:Int)) (.int .i64 1)=some (.int .i64 ((j+1:Nat):Int)):=by
      rw [bin_add,wrap64 (by omega) (by omega)]; rfl
    have d1:ldc s (cpt N)=some lv:=by rw [cpt,ldc_row l1]; rfl
    have d2:ldc s (cpt (N+4))=some (rpt (N+3)):=by rw [cpt,ldc_row h.box]; rfl
    have hq:=field_q h.rd k
    have hle:=h.le
    rw [drop_get hkj]
    unfold firstL
    have keepS:∀ {s':St} {q:Nat},RdAt n1 (N+3) bv bs q s'→RdS (N+3) s s'→FsAt N n1 s0 bv bs fs q s':=fun {s' q} r k =>
      ⟨r,⟨lv,(k.keep N (by omega) (by omega)).trans l1,l2.rdS (N:=N) h.rd.fr k (by omega)⟩,(k.keep _ (by omega) (by omega)).trans h.r1,(k.keep _ (by omega) (by omega)).trans h.r2,(k.keep _ (by omega) (by omega)).trans h.box,
        fun p hp=>⟨(h.byt p hp).1,(h.byt p hp).2.rdS (N:=N) h.rd.fr k (by omega)⟩,Nat.le_trans hle k.n,fun x hx=>(k.keep x (by omega) (by omega)).trans (h.old x hx)⟩
    cases hf:fieldP bs k p with
    | bad er q =>
      rw [hf] at hq
      obtain ⟨s',g1,g2,g3⟩:=hq
      refine ⟨s',fs,fun e=>?_,keepS g2 g3⟩
      dsimp only
      rw [show e+(d+1)+1=(e+d+1)+1 by omega,iter_succ]
      unfold Qz.l10
      simp only [std_bd,std_cnd,List.getD_cons_zero,List.getD_cons_succ,lt0,q1,q2,d1,d2,g1,bds,cnd]
    | ok a q =>
      rw [hf] at hq
      obtain ⟨w,s1,g1,gw,g2,g3⟩:=hq
      have h1:=keepS g2 g3
      have hfa:=fieldP_a h.rd.ok hf
      obtain ⟨lv',l1',l2'⟩:=h1.lst
      have:lv'=lv:=by
        have e:=(g3.keep N (by omega) (by omega)).trans l1
        rw [l1'] at e
        simp only [Option.some.injEq,Blk.row.injEq,List.cons.injEq,and_true,true_and] at e
        exact e
      subst this
      have d1':ldc s1 (cpt N)=some lv':=by rw [cpt,ldc_row l1']; rfl
      have mo:More ⟨s1.h,N+5⟩ s1:=⟨h1.le,fun _ _=>rfl,fun _=>g2.fr⟩
      obtain ⟨f,hfd⟩:∃ f:Fd,f=({ a.1 with b:=w }:Fd):=⟨_,rfl⟩
      rw [← hfd] at g1
      obtain ⟨v',s2,a1,a2,a3,a4,a5⟩:=push (s0:=⟨s1.h,N+5⟩) g2.fr l2' mo (by_:=128) f.cs (by simp; omega) (by simp; omega)
      have gN:s2.get N=some (.row 1 [[lv']] false):=(a2.old N (by simp only; omega)).trans l1'
      have w1:stv s2 1 (cpt N) v'=some (s2.put N (.row 1 [[v']] false)):=by
        rw [cpt,stv_row gN,a3.isR.bx]; rfl
      have old2:∀ x,x < N+5→x≠N→(s2.put N (.row 1 [[v']] false)).get x=s1.get x:=fun x hx hne=>by
        rw [get_put_ne hne]; exact a2.old x hx
      have h3:FsAt N n1 s0 bv bs (fs++[(f,a.2)]) q (s2.put N (.row 1 [[v']] false)):=by
        refine ⟨⟨a4.put,(old2 _ (by omega) (by omega)).trans g2.row,g2.byt.to fun x hx=>?_,g2.lt,g2.le,g2.sz,g2.ok⟩,⟨v',get_put_same gN,?_⟩,(old2 _ (by omega) (by omega)).trans h1.r1,(old2 _ (by omega) (by omega)).trans h1.r2,(old2 _ (by omega) (by omega)).trans h1.box,fun p hp=>?_,a2.n,fun x hx=>(old2 x (by omega) (by omega)).trans (h1.old x hx)⟩
        · exact old2 x (by omega) (by omega)
        · simpa using Ful.putN (k:=.row 1 [[v']] false) (b:=N) a3 (by simp only; omega)
        · rcases List.mem_append.1 hp with hp | hp
          · exact ⟨(h1.byt p hp).1,((h1.byt p hp).2.stp a5 (by simp)).putN (by omega)⟩
          · cases List.mem_singleton.1 hp
            refine ⟨?_,(((gw.le hle).stp a5 (by simp)).putN (by omega):Ful (N+5) (s2.put N (.row 1 [[v']] false)) 1 w (br a.2)) |> fun z=>by rw [hfd]; exact z⟩
            rw [hfd]
            exact ⟨hfa.n0,hfa.n1,hfa.i0,hfa.i1,hfa.vb,hfa.kn0,hfa.kn1,hfa.d0,hfa.d1,hfa.rn0,hfa.rn1,hfa.rb⟩
      have hclr:(fs++[(f,a.2)]).map clr=fs.map clr++[a]:=by
        rw [List.map_append]
        have:clr (f,a.2)=a:=by
          rw [hfd]; unfold clr
          have:=fieldP_b hf
          cases a with
          | mk a1 a2=>cases a1; simp only at this ⊢; rw [← this]
        simp [this]
      have ih:=fieldsloop hn hn1 hk hks d (j+1) (by omega) (by simp [hfs]) h3
      rw [hclr] at ih
      simp only []
      have sm:sameV lv' lv'=true:=l2'.isR.same
      have e9:((bls 14 (List.replicate 1 [(.int .i64 0),(.int .u64 0),(.int .i64 0),(.bool false),(.slice none 0 0),(.int .i64 0),(.int .u64 0),(.int .i64 0),(.int .u64 0),(.int .i64 0),(.int .i64 0),(.int .u64 0),(.int .i64 0),(.int .u64 0)]) [(0,f.v)]).bind fun rows=>als s1 14 1 rows)=some (.slice (some ⟨s1.n,0,some 0⟩) 1 2,s1.new (.row 14 [f.cs] false)):=rfl
      have step:∀ e,iter (Qz.l10 std) (e+(d+1)+1) [cpt N,cpt (N+1),cpt (N+2),cpt (N+4),v,.int .i64 (ks.length:Int),.int .i64 (j:Int)] s=iter (Qz.l10 std) (e+d+1) [cpt N,cpt (N+1),cpt (N+2),cpt (N+4),v,.int .i64 (ks.length:Int),.int .i64 ((j+1:Nat):Int)] (s2.put N (.row 1 [[v']] false)):=fun e=>by
        rw [show e+(d+1)+1=(e+d+1)+1 by omega,iter_succ]
        generalize iter (Qz.l10 std) (e+d+1)=R
        unfold Qz.l10
        simp only [std_bd,std_cnd,List.getD_cons_zero,List.getD_cons_succ,lt0,q1,q2,d1,d2,g1,d1',sm,e9,a1,w1,add0,bds,cnd]
      revert ih
      cases firstL bs (ks.drop (j+1)) q (fs.map clr++[a]) with
      | ok gs q =>
        rintro ⟨s',fs',g1,g2⟩
        exact ⟨s',fs',fun e=>(step e).trans (g1 e),g2⟩
      | bad er q =>
        rintro ⟨s',fs',g1,g2⟩
        exact ⟨s',fs',fun e=>(step e).trans (g1 e),g2⟩
end Go.Proofs.Yteapmnolmfickaa
/-
  The fields with which bytes begin: First,joined; the fields that bytes are.
-/
set_option linter.unusedSimpArgs false
set_option linter.unusedVariables false
set_option maxRecDepth 100000
set_option maxHeartbeats 4000000
namespace Go.Proofs.Yteapmnolmfickaa
open Go.Sim Go.Sim.Bt
attribute [local congr] bdc cndc itec gdc gdSc gdUc
theorem Ful.byt {n0:Nat} {s:St} {v:Value} {l:List Int} (h:Ful n0 s 1 v (br l)):Byt s v (br l):=by
  have h1:=h.lenV
  have h2:=h.rowsOf
  refine ⟨?_,h1,h2,⟨_,bytesOf_br l⟩⟩
  rcases h with ⟨rfl,_⟩ | ⟨b,e,_,rfl,_⟩
  · exact ⟨_,_,_,rfl⟩
  · exact ⟨_,_,_,rfl⟩
def FirstIs (s:St) (P:List FB×Nat×Int) (r:Option (Value×St)):Prop :=
  ∃ v s' fs,r=some (.tuple ⟨[v,.int .i64 (P.2.1:Int),.int .i64 P.2.2]⟩,s')∧More s s'∧Fresh s'∧FL s'.n s' v fs∧fs.map clr=P.1∧Ful s.n s' 14 v (fs.map fun p=>p.1.cs)∧∀ p ∈ fs,Ful s.n s' 1 p.1.b (br p.2)
theorem fl_nil (s:St):FL s.n s nilB []:=⟨fun s' _=>.inl ⟨rfl,rfl⟩,fun p hp=>by cases hp⟩
theorem caught (s:St) (N:Nat) (e:Int) {bv:Value} {p:Nat} {lv v1 v2:Value} (h0:s.get N=some (.row 1 [[lv]] false)) (h1:s.get (N+1)=some (.row 1 [[v1]] false)) (h2:s.get (N+2)=some (.row 1 [[v2]] false)) (h3:s.get (N+3)=some (.row 2 [[bv,.int .i64 (p:Int)]] false)) (h4:s.get (N+4)=some (.row 1 [[rpt (N+3)]] false)) :
    ∃ s',Q10.c std (cpt (N+4)) (cpt N) (cpt (N+1)) (cpt (N+2)) (pv e) s=some s'∧s'.n=s.n∧(Fresh s→Fresh s')∧(∀ x,x < N→s'.get x=s.get x)∧ldc s' (cpt N)=some nilB∧ldc s' (cpt (N+1))=some (.int .i64 (p:Int))∧ldc s' (cpt (N+2))=some (.int .i64 e):=by
  have e1:eqI false (pv e) .nilIface=some (.bool false):=rfl
  have e2:tas Try.prog 135 true (.agg #[.int .i64 0]) (pv e)=some (.tuple ⟨[.agg ⟨[.int .i64 e]⟩,.bool true]⟩):=by kernel_rfl
  have e3:xtr 0 (.tuple ⟨[.agg ⟨[.int .i64 e]⟩,.bool true]⟩)=some (.agg ⟨[.int .i64 e]⟩):=rfl
  have e4:xtr 1 (.tuple ⟨[.agg ⟨[.int .i64 e]⟩,.bool true]⟩)=some (.bool true):=rfl
  have e5:bx (.agg #[.int .i64 0])=some [.int .i64 0]:=rfl
  have e6:stl [.int .i64 0] 0 1 (.agg ⟨[.int .i64 e]⟩)=some [.int .i64 e]:=rfl
  have e7:un .not (.bool true)=some (.bool false):=rfl
  have e8:ldc s (cpt (N+4))=some (rpt (N+3)):=by rw [cpt,ldc_row h4]; rfl
  have e9:nck (rpt (N+3))=some (rpt (N+3)):=rfl
  have e10:fld 0 (rpt (N+3))=some (rpt (N+3)):=rfl
  have e11:fld 1 (rpt (N+3))=some (.pointer (some ⟨N+3,0,some 1⟩)):=rfl
  have e12:ldc s (.pointer (some ⟨N+3,0,some 1⟩))=some (.int .i64 (p:Int)):=by rw [ldc_row h3]; rfl
  have e13:lcl [.int .i64 e] 0=some (.int .i64 e):=rfl
  have w1:stv s 1 (cpt N) (.slice none 0 0)=some (s.put N (.row 1 [[nilB]] false)):=by rw [cpt,stv_row h0]; rfl
  have a0:(s.put N (.row 1 [[nilB]] false)).get N=some (.row 1 [[nilB]] false):=get_put_same h0
  have a1:(s.put N (.row 1 [[nilB]] false)).get (N+1)=some (.row 1 [[v1]] false):=by rw [get_put_ne (by omega)]; exact h1
  have a2:(s.put N (.row 1 [[nilB]] false)).get (N+2)=some (.row 1 [[v2]] false):=by rw [get_put_ne (by omega)]; exact h2
  have f1:Fresh s→Fresh (s.put N (.row 1 [[nilB]] false)):=fun f=>f.put
  have o1:∀ x,x < N→(s.put N (.row 1 [[nilB]] false)).get x=s.get x:=fun x hx=>get_put_ne (by omega)
  have n1:(s.put N (.row 1 [[nilB]] false)).n=s.n:=rfl
  generalize s.put N (.row 1 [[nilB]] false)=s1 at *
  have w2:stv s1 1 (cpt (N+1)) (.int .i64 (p:Int))=some (s1.put (N+1) (.row 1 [[.int .i64 (p:Int)]] false)):=by rw [cpt,stv_row a1]; rfl
  have b0:(s1.put (N+1) (.row 1 [[.int .i64 (p:Int)]] false)).get N=some (.row 1 [[nilB]] false):=by rw [get_put_ne (by omega)]; exact a0
  have b1:(s1.put (N+1) (.row 1 [[.int .i64 (p:Int)]] false)).get (N+1)=some (.row 1 [[.int .i64 (p:Int)]] false):=get_put_same a1
  have b2:(s1.put (N+1) (.row 1 [[.int .i64 (p:Int)]] false)).get (N+2)=some (.row 1 [[v2]] false):=by rw [get_put_ne (by omega)]; exact a2
  have f2:Fresh s1→Fresh (s1.put (N+1) (.row 1 [[.int .i64 (p:Int)]] false)):=fun f=>f.put
  have o2:∀ x,x < N→(s1.put (N+1) (.row 1 [[.int .i64 (p:Int)]] false)).get x=s1.get x:=fun x hx=>get_put_ne (by omega)
  have n2:(s1.put (N+1) (.row 1 [[.int .i64 (p:Int)]] false)).n=s1.n:=rfl
  generalize s1.put (N+1) (.row 1 [[.int .i64 (p:Int)]] false)=s2 at *
  have w3:stv s2 1 (cpt (N+2)) (.int .i64 e)=some (s2.put (N+2) (.row 1 [[.int .i64 e]] false)):=by rw [cpt,stv_row b2]; rfl
  refine ⟨s2.put (N+2) (.row 1 [[.int .i64 e]] false),?_,by rw [put_n,n2,n1],fun f=>(f2 (f1 f)).put,fun x hx=>by rw [get_put_ne (by omega),o2 x hx,o1 x hx],?_,?_,?_⟩
  · unfold Q10.c
    simp only [std_bd,std_cnd,e1,e2,e3,e4,e5,e6,e7,e8,e9,e10,e11,e12,e13,w1,w2,w3,bds,cnd,if_true,List.getD_cons_zero,List.getD_cons_succ,cellsA]
  · rw [cpt,ldc_row (by rw [get_put_ne (by omega)]; exact b0)]; rfl
  · rw [cpt,ldc_row (by rw [get_put_ne (by omega)]; exact b1)]; rfl
  · rw [cpt,ldc_row (get_put_same b2)]; rfl
theorem idle (s:St) (y1 y2 y3 y4:Value):Q10.c std y4 y1 y2 y3 .nilIface s=some s:=by
  have e1:eqI false .nilIface .nilIface=some (.bool true):=rfl
  unfold Q10.c
  simp only [std_bd,std_cnd,e1,bds,cnd]
theorem first_v {n1 n:Nat} {s:St} {bv kv:Value} {bs ks:List Int} (hf:Fresh s) (hb:Pers n1 s fun s=>Byt s bv (br bs)) (hok:okY bs) (hsz:bs.length≤1000000000) (hk:KL n s kv ks) (hks:ks.length≤1000000) (hn:n≤s.n) (hn1:n1≤s.n) :
    FirstIs s (firstP bs ks) (Qz.v bv kv s):=by
  obtain ⟨N,hN⟩:∃ N,N=s.n:=⟨_,rfl⟩
  have A1:alv s (.slice none 0 0)=some (cpt N,s.new (.row 1 [[nilB]] false)):=by rw [hN]; rfl
  have q0:(s.new (.row 1 [[nilB]] false)).get N=some (.row 1 [[nilB]] false):=by rw [hN]; exact get_new_same
  have c1:(s.new (.row 1 [[nilB]] false)).n=N+1:=by rw [hN]; rfl
  have m1:More s (s.new (.row 1 [[nilB]] false)):=.new
  generalize s.new (.row 1 [[nilB]] false)=s1 at *
  have A2:alv s1 (.int .i64 0)=some (cpt (N+1),s1.new (.row 1 [[.int .i64 0]] false)):=by rw [← c1]; rfl
  have q1:(s1.new (.row 1 [[.int .i64 0]] false)).get (N+1)=some (.row 1 [[.int .i64 0]] false):=by rw [← c1]; exact get_new_same
  have c2:(s1.new (.row 1 [[.int .i64 0]] false)).n=N+2:=by rw [new_n,c1]
  have m2:More s1 (s1.new (.row 1 [[.int .i64 0]] false)):=.new
  generalize s1.new (.row 1 [[.int .i64 0]] false)=s2 at *
  have A3:alv s2 (.int .i64 0)=some (cpt (N+2),s2.new (.row 1 [[.int .i64 0]] false)):=by rw [← c2]; rfl
  have q2:(s2.new (.row 1 [[.int .i64 0]] false)).get (N+2)=some (.row 1 [[.int .i64 0]] false):=by rw [← c2]; exact get_new_same
  have c3:(s2.new (.row 1 [[.int .i64 0]] false)).n=N+3:=by rw [new_n,c2]
  have m3:More s2 (s2.new (.row 1 [[.int .i64 0]] false)):=.new
  generalize s2.new (.row 1 [[.int .i64 0]] false)=s3 at *
  have f1:=m1.fresh hf
  have f2:=m2.fresh f1
  have f3:=m3.fresh f2
  have m03:=(m1.trans m2).trans m3
  have q0':s3.get N=some (.row 1 [[nilB]] false):=(m2.trans m3).get f1 q0
  have q1':s3.get (N+1)=some (.row 1 [[.int .i64 0]] false):=m3.get f2 q1
  have hlen:=hk.len
  have kl:=kindloop (a0:=bv) (hk.to fun x hx=>m03.old x (by omega)) hks q0' q1' q2 ks.length 0 (by omega)
  rw [List.drop_zero] at kl
  have hB:BIG - ks.length - 1+ks.length+1=BIG:=by unfold BIG; omega
  unfold firstP
  by_cases hkk:∀ k ∈ ks,isKd k
  · rw [if_pos hkk] at kl ⊢
    have kl:=kl (BIG - ks.length - 1)
    rw [hB] at kl
    have kl:iter (Qz.l2 std) BIG [bv,kv,cpt N,cpt (N+1),cpt (N+2),kv,.int .i64 (ks.length:Int),.int .i64 0] s3=_:=kl
    have hbx:=hb.here.bx
    have B1:bld [.slice none 0 0,.int .i64 0] [(0,1,bv)]=some (.agg ⟨[bv,.int .i64 0]⟩):=by simp only [sy,reduceIte,Nat.reduceAdd,Nat.reduceLeDiff,Nat.reduceLT,Nat.reduceEqDiff,Int.reduceEq,Int.reduceLT,Int.reduceLE,Int.reduceNe,ly,hbx]
    have B2:bld [.slice none 0 0,.int .i64 0] [(0,2,.agg ⟨[bv,.int .i64 0]⟩)]=some (.agg ⟨[bv,.int .i64 0]⟩):=rfl
    have A4:alv s3 (.agg ⟨[bv,.int .i64 0]⟩)=some (rpt (N+3),s3.new (.row 2 [[bv,.int .i64 0]] false)):=by rw [← c3]; rfl
    have q3:(s3.new (.row 2 [[bv,.int .i64 0]] false)).get (N+3)=some (.row 2 [[bv,.int .i64 0]] false):=by rw [← c3]; exact get_new_same
    have c4:(s3.new (.row 2 [[bv,.int .i64 0]] false)).n=N+4:=by rw [new_n,c3]
    have m4:More s3 (s3.new (.row 2 [[bv,.int .i64 0]] false)):=.new
    generalize s3.new (.row 2 [[bv,.int .i64 0]] false)=s4 at *
    have f4:=m4.fresh f3
    have A5:alv s4 (.pointer none)=some (cpt (N+4),s4.new (.row 1 [[.pointer none]] false)):=by rw [← c4]; rfl
    have q4:(s4.new (.row 1 [[.pointer none]] false)).get (N+4)=some (.row 1 [[.pointer none]] false):=by rw [← c4]; exact get_new_same
    have c5:(s4.new (.row 1 [[.pointer none]] false)).n=N+5:=by rw [new_n,c4]
    have m5:More s4 (s4.new (.row 1 [[.pointer none]] false)):=.new
    generalize s4.new (.row 1 [[.pointer none]] false)=s5 at *
    have f5:=m5.fresh f4
    have A6:stv s5 1 (cpt (N+4)) (rpt (N+3))=some (s5.put (N+4) (.row 1 [[rpt (N+3)]] false)):=by rw [cpt,stv_row q4]; rfl
    have q5:(s5.put (N+4) (.row 1 [[rpt (N+3)]] false)).get (N+4)=some (.row 1 [[rpt (N+3)]] false):=get_put_same q4
    have o5:∀ x,x≠N+4→(s5.put (N+4) (.row 1 [[rpt (N+3)]] false)).get x=s5.get x:=fun x hx=>get_put_ne hx
    have f6:Fresh (s5.put (N+4) (.row 1 [[rpt (N+3)]] false)):=f5.put
    have c6:(s5.put (N+4) (.row 1 [[rpt (N+3)]] false)).n=N+5:=c5
    generalize s5.put (N+4) (.row 1 [[rpt (N+3)]] false)=s6 at *
    have m45:=m4.trans m5
    have old6:∀ x,x < N→s6.get x=s.get x:=fun x hx=>by
      rw [o5 x (by omega),m45.old x (by omega),m03.old x (by omega)]
    have hh:Qz.h std bv kv s=some (true,[kv,cpt N,cpt (N+1),cpt (N+2),cpt (N+4)],s6):=by
      unfold Qz.h
      simp only [std_bd,std_cnd,std_it,A1,A2,A3,hlen,kl,bds,if_true,List.getD_cons_zero,List.getD_cons_succ,B1,B2,A4,A5,A6]
    have hFs:FsAt N n1 s bv bs [] 0 s6:=by
      refine ⟨⟨f6,?_,hb.to fun x hx=>old6 x (by omega),by omega,Nat.zero_le _,hsz,hok⟩,⟨nilB,?_,.inl ⟨rfl,rfl⟩⟩,?_,?_,q5,fun p hp=>absurd hp (List.not_mem_nil),by omega,old6⟩
      · rw [o5 _ (by omega)]; exact m5.get f4 q3
      · rw [o5 _ (by omega)]; exact m45.get f3 q0'
      · rw [o5 _ (by omega)]; exact m45.get f3 q1'
      · rw [o5 _ (by omega)]; exact m45.get f3 q2
    have hl:=fieldsloop (n:=n) (by omega) (by omega) hk hks ks.length 0 (by omega) (rfl:([]:List FB).length=0) hFs
    rw [List.drop_zero,List.map_nil] at hl
    revert hl
    cases firstL bs ks 0 [] with
    | ok gs p =>
      rintro ⟨s7,fs,g1,g2,g3⟩
      have g:=g1 (BIG - ks.length - 1)
      dsimp only at g
      rw [hB] at g
      have g:iter (Qz.l10 std) BIG [cpt N,cpt (N+1),cpt (N+2),cpt (N+4),kv,.int .i64 (ks.length:Int),.int .i64 0] s6=_:=g
      obtain ⟨lv,l1,l2⟩:=g2.lst
      have d1:ldc s7 (cpt N)=some lv:=by rw [cpt,ldc_row l1]; rfl
      have d2:ldc s7 (cpt (N+4))=some (rpt (N+3)):=by rw [cpt,ldc_row g2.box]; rfl
      have e9:nck (rpt (N+3))=some (rpt (N+3)):=rfl
      have e10:fld 0 (rpt (N+3))=some (rpt (N+3)):=rfl
      have e11:fld 1 (rpt (N+3))=some (.pointer (some ⟨N+3,0,some 1⟩)):=rfl
      have d3:ldc s7 (.pointer (some ⟨N+3,0,some 1⟩))=some (.int .i64 (p:Int)):=by rw [ldc_row g2.rd.row]; rfl
      have w1:stv s7 1 (cpt N) lv=some (s7.put N (.row 1 [[lv]] false)):=by rw [cpt,stv_row l1,l2.isR.bx]; rfl
      have a0:(s7.put N (.row 1 [[lv]] false)).get N=some (.row 1 [[lv]] false):=get_put_same l1
      have a1:(s7.put N (.row 1 [[lv]] false)).get (N+1)=some (.row 1 [[.int .i64 0]] false):=by rw [get_put_ne (by omega)]; exact g2.r1
      have a2:(s7.put N (.row 1 [[lv]] false)).get (N+2)=some (.row 1 [[.int .i64 0]] false):=by rw [get_put_ne (by omega)]; exact g2.r2
      have a3:(s7.put N (.row 1 [[lv]] false)).get (N+3)=some (.row 2 [[bv,.int .i64 (p:Int)]] false):=by rw [get_put_ne (by omega)]; exact g2.rd.row
      have a4:(s7.put N (.row 1 [[lv]] false)).get (N+4)=some (.row 1 [[rpt (N+3)]] false):=by rw [get_put_ne (by omega)]; exact g2.box
      have F1:Fresh (s7.put N (.row 1 [[lv]] false)):=g2.rd.fr.put
      have u1:∀ {sz:Nat} {w:Value} {rows:List (List Value)},Ful (N+5) s7 sz w rows→Ful (N+5) (s7.put N (.row 1 [[lv]] false)) sz w rows:=fun h=>h.putN (by omega)
      have o1:∀ x,x < N→(s7.put N (.row 1 [[lv]] false)).get x=s7.get x:=fun x hx=>get_put_ne (by omega)
      have n1':(s7.put N (.row 1 [[lv]] false)).n=s7.n:=rfl
      generalize s7.put N (.row 1 [[lv]] false)=s8 at *
      have d4:ldc s8 (cpt (N+4))=some (rpt (N+3)):=by rw [cpt,ldc_row a4]; rfl
      have d5:ldc s8 (.pointer (some ⟨N+3,0,some 1⟩))=some (.int .i64 (p:Int)):=by rw [ldc_row a3]; rfl
      have sm1:sameV (rpt (N+3)) (rpt (N+3))=true:=by simp [rpt,sameV]
      have sm2:sameV (.int .i64 (p:Int)) (.int .i64 (p:Int))=true:=sameII
      have w2:stv s8 1 (cpt (N+1)) (.int .i64 (p:Int))=some (s8.put (N+1) (.row 1 [[.int .i64 (p:Int)]] false)):=by rw [cpt,stv_row a1]; rfl
      have b0:(s8.put (N+1) (.row 1 [[.int .i64 (p:Int)]] false)).get N=some (.row 1 [[lv]] false):=by rw [get_put_ne (by omega)]; exact a0
      have b1:(s8.put (N+1) (.row 1 [[.int .i64 (p:Int)]] false)).get (N+1)=some (.row 1 [[.int .i64 (p:Int)]] false):=get_put_same a1
      have b2:(s8.put (N+1) (.row 1 [[.int .i64 (p:Int)]] false)).get (N+2)=some (.row 1 [[.int .i64 0]] false):=by rw [get_put_ne (by omega)]; exact a2
      have F2:Fresh (s8.put (N+1) (.row 1 [[.int .i64 (p:Int)]] false)):=F1.put
      have u2:∀ {sz:Nat} {w:Value} {rows:List (List Value)},Ful (N+5) s8 sz w rows→Ful (N+5) (s8.put (N+1) (.row 1 [[.int .i64 (p:Int)]] false)) sz w rows:=fun h=>h.putN (by omega)
      have o2:∀ x,x < N→(s8.put (N+1) (.row 1 [[.int .i64 (p:Int)]] false)).get x=s8.get x:=fun x hx=>get_put_ne (by omega)
      have n2':(s8.put (N+1) (.row 1 [[.int .i64 (p:Int)]] false)).n=s8.n:=rfl
      generalize s8.put (N+1) (.row 1 [[.int .i64 (p:Int)]] false)=s9 at *
      have w3:stv s9 1 (cpt (N+2)) (.int .i64 0)=some (s9.put (N+2) (.row 1 [[.int .i64 0]] false)):=by rw [cpt,stv_row b2]; rfl
      have hbd:∀ f,Qz.b std f kv (cpt N) (cpt (N+1)) (cpt (N+2)) (cpt (N+4)) s6=some (true,undef,[cpt N,cpt (N+1),cpt (N+2)],s9.put (N+2) (.row 1 [[.int .i64 0]] false)):=fun f=>by
        unfold Qz.b
        simp only [std_bd,std_cnd,std_it,hlen,g,bds,if_true,List.getD_cons_zero,List.getD_cons_succ,d1,d2,e9,e10,e11,d3,w1,d4,sm1,d5,sm2,w2,w3,cnd]
      have n10:(s9.put (N+2) (.row 1 [[.int .i64 0]] false)).n=s7.n:=by rw [put_n,n2',n1']
      have F3:Fresh (s9.put (N+2) (.row 1 [[.int .i64 0]] false)):=F2.put
      have u3:∀ {sz:Nat} {w:Value} {rows:List (List Value)},Ful (N+5) s7 sz w rows→Ful (N+5) (s9.put (N+2) (.row 1 [[.int .i64 0]] false)) sz w rows:=fun h=>(u2 (u1 h)).putN (by omega)
      refine ⟨lv,s9.put (N+2) (.row 1 [[.int .i64 0]] false),fs,first_yes hh hbd (idle _ _ _ _ _) ?_ ?_ ?_,⟨?_,fun x hx=>?_,fun _=>F3⟩,F3,⟨(u3 l2).isR.pers F3,fun p hp=>⟨(g2.byt p hp).1,(u3 (g2.byt p hp).2).byt.pers F3⟩⟩,g3,(u3 l2).le (by omega),fun p hp=>(u3 (g2.byt p hp).2).le (by omega)⟩
      · rw [cpt,ldc_row (by rw [get_put_ne (by omega)]; exact b0)]; rfl
      · rw [cpt,ldc_row (by rw [get_put_ne (by omega)]; exact b1)]; rfl
      · rw [cpt,ldc_row (get_put_same b2)]; rfl
      · rw [n10]; have:=g2.le; omega
      · rw [get_put_ne (by omega),o2 x (by omega),o1 x (by omega),g2.old x (by omega)]
    | bad e p =>
      rintro ⟨s7,fs,g1,g2⟩
      have g:=g1 (BIG - ks.length - 1)
      dsimp only at g
      rw [hB] at g
      have g:iter (Qz.l10 std) BIG [cpt N,cpt (N+1),cpt (N+2),cpt (N+4),kv,.int .i64 (ks.length:Int),.int .i64 0] s6=_:=g
      obtain ⟨lv,l1,l2⟩:=g2.lst
      obtain ⟨s8,k1,k2,k3,k4,k5,k6,k7⟩:=caught s7 N e l1 g2.r1 g2.r2 g2.rd.row g2.box
      have hbd:∀ f,Qz.b std f kv (cpt N) (cpt (N+1)) (cpt (N+2)) (cpt (N+4)) s6=some (false,pv e,[cpt N,cpt (N+1),cpt (N+2)],s7):=fun f=>by
        unfold Qz.b
        simp only [std_bd,std_cnd,std_it,hlen,g,bds,List.getD_cons_zero,List.getD_cons_succ]
        rfl
      have F:=k3 g2.rd.fr
      refine ⟨nilB,s8,[],first_yes hh hbd k1 k5 k6 k7,⟨?_,fun x hx=>?_,fun _=>F⟩,F,fl_nil s8,rfl,.inl ⟨rfl,rfl⟩,fun p hp=>absurd hp List.not_mem_nil⟩
      · rw [k2]; have:=g2.le; omega
      · rw [k4 x (by omega),g2.old x (by omega)]
  · rw [if_neg hkk] at kl ⊢
    obtain ⟨s',k1,k2,k3,k4,k5,k6,k7⟩:=kl
    have k:=k1 (BIG - ks.length - 1)
    rw [hB] at k
    have k:iter (Qz.l2 std) BIG [bv,kv,cpt N,cpt (N+1),cpt (N+2),kv,.int .i64 (ks.length:Int),.int .i64 0] s3=_:=k
    have F:=k4 f3
    refine ⟨nilB,s',[],first_no (n:=.int .i64 0) (c:=.int .i64 30) ?_,⟨by omega,fun x hx=>by rw [k3 x (by omega),m03.old x hx],fun _=>F⟩,F,fl_nil s',rfl,.inl ⟨rfl,rfl⟩,fun p hp=>absurd hp List.not_mem_nil⟩
    unfold Qz.h
    simp only [std_bd,std_cnd,std_it,A1,A2,A3,hlen,k,bds,List.getD_cons_zero,List.getD_cons_succ,k5,k6,k7]
    rfl
end Go.Proofs.Yteapmnolmfickaa
/-
  The reference's reader: a byte,a number,a whole number,a key.
-/
set_option linter.unusedSimpArgs false
set_option linter.unusedVariables false
set_option maxRecDepth 100000
set_option maxHeartbeats 4000000
namespace Go.Proofs.Yteapmnolmfickaa
open Go.Sim Go.Sim.Bt
attribute [local congr] bdc cndc itec gdc gdSc gdUc
structure RrAt (n1 b:Nat) (bv:Value) (bs:List Int) (p:Nat) (e:Int) (s:St):Prop where
  fr:Fresh s
  row:s.get b=some (.row 3 [[bv,.int .i64 (p:Int),.int .i64 e]] false)
  byt:Pers n1 s fun s=>Byt s bv (br bs)
  lt:n1≤b
  le:p≤bs.length
  sz:bs.length≤1000000000
  ok:okY bs
theorem RrAt.n {n1 b p:Nat} {bv:Value} {bs:List Int} {e:Int} {s:St} (h:RrAt n1 b bv bs p e s):b < s.n:=h.fr.lt h.row
theorem RrAt.put {n1 b p:Nat} {bv:Value} {bs:List Int} {e:Int} {s:St} (h:RrAt n1 b bv bs p e s) {q:Nat} (hq:q≤bs.length) (e':Int) :
    RrAt n1 b bv bs q e' (s.put b (.row 3 [[bv,.int .i64 (q:Int),.int .i64 e']] false))∧RdS b s (s.put b (.row 3 [[bv,.int .i64 (q:Int),.int .i64 e']] false)) :=
  ⟨⟨h.fr.put,get_put_same h.row,h.byt.to fun x hx=>get_put_ne (by have:=h.lt; omega),h.lt,hq,h.sz,h.ok⟩,⟨Nat.le_refl _,fun x _ hx=>get_put_ne hx⟩⟩
theorem RrAt.app {n1 b p:Nat} {bv:Value} {bs:List Int} {e:Int} {s:St} {n0:Nat} (h:RrAt n1 b bv bs p e s) (hb:b < n0) {s':St} (m:More ⟨s.h,n0⟩ s') (f:Fresh s'):RrAt n1 b bv bs p e s' :=
  ⟨f,(m.old b hb).trans h.row,h.byt.to fun x hx=>m.old x (by have:=h.lt; simp only; omega),h.lt,h.le,h.sz,h.ok⟩
section
variable {n1 b p:Nat} {bv:Value} {bs:List Int} {s:St}
def T2b (y:Int) (o:Bool):Value:=.tuple ⟨[.int .u8 y,.bool o]⟩
theorem rnext_e {e:Int} (he:e≠0) (h:RrAt n1 b bv bs p e s):Q1w.v (rpt b) s=some (T2b 0 false,s):=by
  have he':(e=0)=False:=eq_false he
  have hne:(e≠0)=True:=eq_true he
  simp only [Q1w.v,Q1w.t,rpt,sy,reduceIte,Nat.reduceAdd,Nat.reduceLeDiff,Nat.reduceLT,Nat.reduceEqDiff,Int.reduceEq,Int.reduceLT,Int.reduceLE,Int.reduceNe,ly,ldc_row h.row,he',hne,T2b]
theorem rnext_no (h:RrAt n1 b bv bs p 0 s) (hp:bs[p]?=none):∃ s',Q1w.v (rpt b) s=some (T2b 0 false,s')∧RrAt n1 b bv bs p 32 s'∧RdS b s s':=by
  have hlt:bs.length≤p:=by simpa using hp
  have hl:=h.byt.here.lenL
  rw [br_length] at hl
  have k:(bs.length:Int)≤(p:Int):=by omega
  refine ⟨_,?_,h.put h.le 32⟩
  simp only [Q1w.v,Q1w.t,rpt,sy,reduceIte,Nat.reduceAdd,Nat.reduceLeDiff,Nat.reduceLT,Nat.reduceEqDiff,Int.reduceEq,Int.reduceLT,Int.reduceLE,Int.reduceNe,ly,ldc_row h.row,stv_row h.row,hl,k,T2b]
theorem rnext_ok (h:RrAt n1 b bv bs p 0 s) {y:Int} (hp:bs[p]?=some y):Q1w.v (rpt b) s=some (T2b y true,s):=by
  have hlt:p < bs.length:=(List.getElem?_eq_some_iff.1 hp).1
  have hl:=h.byt.here.lenL
  rw [br_length] at hl
  obtain ⟨q,q1,q2⟩:=byt_at h.byt.here hp h.sz
  have k:¬ ((bs.length:Int)≤(p:Int)):=by omega
  simp only [Q1w.v,Q1w.t,rpt,sy,reduceIte,Nat.reduceAdd,Nat.reduceLeDiff,Nat.reduceLT,Nat.reduceEqDiff,Int.reduceEq,Int.reduceLT,Int.reduceLE,Int.reduceNe,ly,ldc_row h.row,hl,k,q1,q2,T2b]
def RrIs (n1 b:Nat) (bv:Value) (bs:List Int) (s:St) {α:Type} (f:α→Value) (r:Option (Value×St)):RdR α→Prop
  | .ok a q=>∃ s',r=some (f a,s')∧RrAt n1 b bv bs q 0 s'∧RdS b s s'
  | .bad e q=>∃ a s',r=some (f a,s')∧RrAt n1 b bv bs q e s'∧RdS b s s'∧e≠0
theorem rbyte_e {e:Int} {x y:Value} (he:e≠0) (h:RrAt n1 b bv bs p e s):Q1s.v (rpt b) x y s=some (.int .u8 0,s):=by
  have k:=rnext_e he h
  simp only [Q1s.v,Q1s.t,sy,reduceIte,Nat.reduceAdd,Nat.reduceLeDiff,Nat.reduceLT,Nat.reduceEqDiff,Int.reduceEq,Int.reduceLT,Int.reduceLE,Int.reduceNe,ly,k,T2b]
theorem rbyte_v (lo hi:Nat) (h:RrAt n1 b bv bs p 0 s):match byteP bs (fun y=>decide (lo≤y∧y≤hi)) p with
    | .ok y q=>∃ s',Q1s.v (rpt b) (.int .u8 (lo:Int)) (.int .u8 (hi:Int)) s=some (.int .u8 (y:Int),s')∧y < 256∧RrAt n1 b bv bs q 0 s'∧RdS b s s'
    | .bad e q=>∃ s',Q1s.v (rpt b) (.int .u8 (lo:Int)) (.int .u8 (hi:Int)) s=some (.int .u8 0,s')∧RrAt n1 b bv bs q e s'∧RdS b s s'∧e≠0:=by
  cases hp:bs[p]? with
  | none =>
    rw [byteP_none hp]
    obtain ⟨s',k,h1,h2⟩:=rnext_no h hp
    refine ⟨s',?_,h1,h2,by omega⟩
    simp only [Q1s.v,Q1s.t,sy,reduceIte,Nat.reduceAdd,Nat.reduceLeDiff,Nat.reduceLT,Nat.reduceEqDiff,Int.reduceEq,Int.reduceLT,Int.reduceLE,Int.reduceNe,ly,k,T2b]
  | some y' =>
    obtain ⟨y,rfl,hy⟩:=h.ok.at hp
    have hlt:p < bs.length:=(List.getElem?_eq_some_iff.1 hp).1
    have hsz:=h.sz
    rw [byteP_some hp]
    have k:=rnext_ok h hp
    unfold rpt at k ⊢
    have k1:((y:Int) < (lo:Int))=(y < lo):=propext (by omega)
    have k2:((hi:Int) < (y:Int))=(hi < y):=propext (by omega)
    have e1:IntKind.i64.wrap ((p:Int)+1)=((p+1:Nat):Int):=by rw [wrap64 (by omega) (by omega)]; omega
    by_cases hc:lo≤y∧y≤hi
    · rw [if_pos (decide_eq_true hc)]
      have c1:(y < lo)=False:=eq_false (by omega)
      have c2:(hi < y)=False:=eq_false (by omega)
      refine ⟨_,?_,hy,h.put (by omega) 0⟩
      simp only [Q1s.v,Q1s.t,sy,reduceIte,Nat.reduceAdd,Nat.reduceLeDiff,Nat.reduceLT,Nat.reduceEqDiff,Int.reduceEq,Int.reduceLT,Int.reduceLE,Int.reduceNe,ly,k,T2b,k1,k2,c1,c2,ldc_row h.row,stv_row h.row,e1]
    · rw [if_neg (by rw [decide_eq_false hc]; simp)]
      have hput:=h.put h.le 31
      refine ⟨_,?_,hput.1,hput.2,by omega⟩
      rcases Classical.propComplete (y < lo) with c1 | c1
      · simp only [Q1s.v,Q1s.t,sy,reduceIte,Nat.reduceAdd,Nat.reduceLeDiff,Nat.reduceLT,Nat.reduceEqDiff,Int.reduceEq,Int.reduceLT,Int.reduceLE,Int.reduceNe,ly,k,T2b,k1,c1,ldc_row h.row,stv_row h.row]
      · have c2:(hi < y)=True:=eq_true (by have:=of_eq_false c1; omega)
        simp only [Q1s.v,Q1s.t,sy,reduceIte,Nat.reduceAdd,Nat.reduceLeDiff,Nat.reduceLT,Nat.reduceEqDiff,Int.reduceEq,Int.reduceLT,Int.reduceLE,Int.reduceNe,ly,k,T2b,k1,k2,c1,c2,ldc_row h.row,stv_row h.row]
theorem within_max (x sc y:Value) (s:St):Q25.r x sc y (.int .u64 18446744073709551615) s=some (.bool true):=by
  simp only [Q25.r,Q25.t,sy,reduceIte,Nat.reduceAdd,Nat.reduceLeDiff,Nat.reduceLT,Nat.reduceEqDiff,Int.reduceEq,Int.reduceLT,Int.reduceLE,Int.reduceNe,ly]
theorem within_r {i x y most:Nat} (hi:i≤2) (hx:x < 128 ^ i) (hy:y < 256) (hm:most=65536) (s:St) :
    Q25.r (.int .u64 (x:Int)) (.int .u64 ((128 ^ i:Nat):Int)) (.int .u8 (y:Int)) (.int .u64 (most:Int)) s=some (.bool (decide (x+y % 128 * 128 ^ i+(if 128≤y then 128 ^ (i+1) else 0)≤most))):=by
  have k1:¬ ((most:Int)=18446744073709551615):=by omega
  have p2:128 ^ i≤16384:=Nat.le_trans (Nat.pow_le_pow_right (by omega) hi) (by decide)
  have hb:y % 128 * 128 ^ i≤127 * 16384:=Nat.mul_le_mul (by omega) p2
  have k3:((y:Int) < 128)=(y < 128):=propext (by omega)
  have p3:128 ^ (i+1)=128 ^ i * 128:=Nat.pow_succ ..
  by_cases h:y < 128
  · rw [if_neg (by omega),Nat.add_zero,Nat.mod_eq_of_lt h]
    rw [Nat.mod_eq_of_lt h] at hb
    have a0:(((128 ^ i:Nat):Int)≤(most:Int)):=by omega
    have a2:IntKind.u64.wrap (y:Int)=(y:Int):=wrapu64 (by omega) (by omega)
    have a3:bin .mul (.int .u64 (y:Int)) (.int .u64 ((128 ^ i:Nat):Int))=some (.int .u64 ((y * 128 ^ i:Nat):Int)):=by
      rw [mul_u64,Nat.mod_eq_of_lt (by omega)]
    have a4:bin .add (.int .u64 (x:Int)) (.int .u64 ((y * 128 ^ i:Nat):Int))=some (.int .u64 ((x+y * 128 ^ i:Nat):Int)):=by
      rw [add_u64,Nat.mod_eq_of_lt (by omega)]
    have k4:(((x+y * 128 ^ i:Nat):Int)≤(most:Int))=(x+y * 128 ^ i≤most):=propext (by omega)
    generalize ((128 ^ i:Nat):Int)=P at *
    generalize ((y * 128 ^ i:Nat):Int)=Q at *
    generalize ((x+y * 128 ^ i:Nat):Int)=R at *
    simp only [Q25.r,Q25.t,std_bd,std_cnd,std_gd,neb1,eqb1,bin_lss,bin_leq,cndt,cndf,cndd,decide_true,decide_false,decide_eq_true_eq,if_true,if_false,bds,gdtt,pikt,cvi_int,k1,k3,h,a0,a2,a3,a4,k4]
  · rw [if_pos (by omega),p3]
    have e1:bin .mul (.int .u64 ((128 ^ i:Nat):Int)) (.int .u64 128)=some (.int .u64 ((128 ^ i * 128:Nat):Int)):=by
      have:=mul_u64 (a:=128 ^ i) (b:=128)
      rw [Nat.mod_eq_of_lt (by omega)] at this
      exact this
    have e2:bin .sub (.int .u8 (y:Int)) (.int .u8 128)=some (.int .u8 ((y % 128:Nat):Int)):=by
      rw [bin_sub,wrapu8 (by omega) (by omega),show (y:Int) - 128=((y % 128:Nat):Int) by omega]
    have a2:IntKind.u64.wrap ((y % 128:Nat):Int)=((y % 128:Nat):Int):=wrapu64 (by omega) (by omega)
    have a3:bin .mul (.int .u64 ((y % 128:Nat):Int)) (.int .u64 ((128 ^ i:Nat):Int))=some (.int .u64 ((y % 128 * 128 ^ i:Nat):Int)):=by
      rw [mul_u64,Nat.mod_eq_of_lt (by omega)]
    have a4:bin .add (.int .u64 (x:Int)) (.int .u64 ((y % 128 * 128 ^ i:Nat):Int))=some (.int .u64 ((x+y % 128 * 128 ^ i:Nat):Int)):=by
      rw [add_u64,Nat.mod_eq_of_lt (by omega)]
    have a5:bin .add (.int .u64 ((x+y % 128 * 128 ^ i:Nat):Int)) (.int .u64 ((128 ^ i * 128:Nat):Int))=some (.int .u64 ((x+y % 128 * 128 ^ i+128 ^ i * 128:Nat):Int)):=by
      rw [add_u64,Nat.mod_eq_of_lt (by omega)]
    have k4:(((x+y % 128 * 128 ^ i+128 ^ i * 128:Nat):Int)≤(most:Int))=(x+y % 128 * 128 ^ i+128 ^ i * 128≤most):=propext (by omega)
    have k5:(((128 ^ i * 128:Nat):Int)≤(most:Int))=(128 ^ i * 128≤most):=propext (by omega)
    have k6:(x+y % 128 * 128 ^ i+128 ^ i * 128≤most)→128 ^ i * 128≤most:=by omega
    generalize 128 ^ i * 128=S at *
    generalize y % 128 * 128 ^ i=Q at *
    generalize 128 ^ i=P at *
    generalize y % 128=Y at *
    rcases Classical.propComplete (S≤most) with c | c
    · simp only [Q25.r,Q25.t,std_bd,std_cnd,std_gd,neb1,eqb1,bin_lss,bin_leq,cndt,cndf,cndd,decide_true,decide_false,decide_eq_true_eq,if_true,if_false,bds,gdtt,pikt,cvi_int,k1,k3,h,e1,e2,a2,a3,a4,a5,k4,k5,c]
    · have c2:(x+Q+S≤most)=False:=eq_false fun e=>of_eq_false c (k6 e)
      simp only [Q25.r,Q25.t,std_bd,std_cnd,std_gd,neb1,eqb1,bin_lss,bin_leq,cndt,cndf,cndd,decide_true,decide_false,decide_eq_true_eq,if_true,if_false,bds,gdtf,gdft,gdun,pikf,cvi_int,k1,k3,h,e1,k5,c,c2]
end
end Go.Proofs.Yteapmnolmfickaa
/-
  The reference's reader: a number,a whole number,a key.
-/
set_option linter.unusedSimpArgs false
set_option linter.unusedVariables false
set_option maxRecDepth 100000
set_option maxHeartbeats 4000000
namespace Go.Proofs.Yteapmnolmfickaa
open Go.Sim Go.Sim.Bt
attribute [local congr] bdc cndc itec gdc gdSc gdUc
section
variable {n1 b p:Nat} {bv:Value} {bs:List Int} {s:St}
theorem rnumstep {most i x y:Nat} (hm:most=maxU∨(most=65536∧i≤2)) (hi:i≤9) (hx:x < 128 ^ i) (h:RrAt n1 b bv bs p 0 s) (hp:bs[p]?=some (y:Int)) (hy:y < 256) :
    if condN most i x y=true then ∃ s',RrAt n1 b bv bs (p+1) 0 s'∧RdS b s s'∧∀ e,iter (Q1x.l3 std) (e+1) [rpt b,.int .u64 (most:Int),.int .u64 (x:Int),.int .u64 ((128 ^ i:Nat):Int),.int .i64 (i:Int)] s =
        (if y < 128 then some (1,[.int .u64 ((x+y % 128 * 128 ^ i:Nat):Int)],s') else iter (Q1x.l3 std) e [rpt b,.int .u64 (most:Int),.int .u64 ((x+y % 128 * 128 ^ i:Nat):Int),.int .u64 ((128 ^ (i+1):Nat):Int),.int .i64 ((i+1:Nat):Int)] s')
      else ∃ s',RrAt n1 b bv bs p 31 s'∧RdS b s s'∧∀ e,iter (Q1x.l3 std) (e+1) [rpt b,.int .u64 (most:Int),.int .u64 (x:Int),.int .u64 ((128 ^ i:Nat):Int),.int .i64 (i:Int)] s=some (1,[.int .u64 0],s'):=by
  have nx:=rnext_ok h hp
  have hlt:p < bs.length:=(List.getElem?_eq_some_iff.1 hp).1
  have hsz:=h.sz
  have p128:=pow128_le hi
  have hF:Q25.r (.int .u64 (x:Int)) (.int .u64 ((128 ^ i:Nat):Int)) (.int .u8 (y:Int)) (.int .u64 (most:Int)) s=some (.bool (decide (most=maxU∨x+y % 128 * 128 ^ i+(if 128≤y then 128 ^ (i+1) else 0)≤most))):=by
    rcases hm with rfl | ⟨hm,hi2⟩
    · rw [show ((maxU:Nat):Int)=18446744073709551615 from rfl,within_max,decide_eq_true (.inl rfl)]
    · rw [within_r hi2 hx hy hm]
      have:(most=maxU∨x+y % 128 * 128 ^ i+(if 128≤y then 128 ^ (i+1) else 0)≤most)↔x+y % 128 * 128 ^ i+(if 128≤y then 128 ^ (i+1) else 0)≤most:=by
        constructor
        · rintro (e | e)
          · unfold maxU at e; omega
          · exact e
        · exact .inr
      simp only [this]
  have e8:IntKind.i64.wrap ((i:Int)+1)=((i+1:Nat):Int):=by rw [wrap64 (by omega) (by omega)]; omega
  have e9:IntKind.i64.wrap ((p:Int)+1)=((p+1:Nat):Int):=by rw [wrap64 (by omega) (by omega)]; omega
  have k1:((0:Int) < (i:Int))=(0 < i):=propext (by omega)
  have k2:((y:Int)=0)=(y=0):=propext (by omega)
  have k3:((i:Int)=9)=(i=9):=propext (by omega)
  have k4:((y:Int)=1)=(y=1):=propext (by omega)
  have k5:((y:Int) < 128)=(y < 128):=propext (by omega)
  have k6:(i:Int) < 10:=by omega
  have nk:nck (rpt b)=some (rpt b):=rfl
  have f1:fld 1 (rpt b)=some (.pointer (some ⟨b,0,some 1⟩)):=rfl
  have f2:fld 2 (rpt b)=some (.pointer (some ⟨b,0,some 2⟩)):=rfl
  by_cases hc:condN most i x y=true
  · rw [if_pos hc]
    have hput:=h.put (q:=p+1) (by omega) 0
    refine ⟨_,hput.1,hput.2,fun e=>?_⟩
    rw [iter_succ]
    obtain ⟨c1,c2,c3⟩:=of_decide_eq_true hc
    rw [decide_eq_true c3] at hF
    have a1:bin .rem (.int .u8 (y:Int)) (.int .u8 128)=some (.int .u8 ((y % 128:Nat):Int)):=by
      rw [bin_rem (by omega),Int.tmod_eq_emod_of_nonneg (by omega)]; rfl
    have a2:IntKind.u64.wrap ((y % 128:Nat):Int)=((y % 128:Nat):Int):=wrapu64 (by omega) (by omega)
    have hb:y % 128 * 128 ^ i < 2 ^ 64∧x+y % 128 * 128 ^ i < 2 ^ 64:=by
      by_cases h9:i=9
      · have:y=1:=Decidable.of_not_not fun e=>c2 ⟨h9,e⟩
        subst this
        rw [show 1 % 128=1 from rfl,Nat.one_mul]; omega
      · have:=Nat.mul_le_mul (show y % 128≤127 by omega) (show 128 ^ i≤128 ^ 8 from Nat.pow_le_pow_right (by omega) (by omega))
        have e:127 * 128 ^ 8 < 2 ^ 63:=by decide
        have e2:(2:Nat) ^ 64=2 ^ 63+2 ^ 63:=by decide
        have e3:(2:Nat) ^ 63=9223372036854775808:=by decide
        omega
    have a4:bin .mul (.int .u64 ((y % 128:Nat):Int)) (.int .u64 ((128 ^ i:Nat):Int))=some (.int .u64 ((y % 128 * 128 ^ i:Nat):Int)):=by
      rw [mul_u64,Nat.mod_eq_of_lt hb.1]
    have a5:bin .add (.int .u64 (x:Int)) (.int .u64 ((y % 128 * 128 ^ i:Nat):Int))=some (.int .u64 ((x+y % 128 * 128 ^ i:Nat):Int)):=by
      rw [add_u64,Nat.mod_eq_of_lt hb.2]
    have a6:i≠9→bin .mul (.int .u64 ((128 ^ i:Nat):Int)) (.int .u64 128)=some (.int .u64 ((128 ^ (i+1):Nat):Int)):=fun h9=>by
      have:=mul_u64 (a:=128 ^ i) (b:=128)
      have e:128 ^ i * 128≤9223372036854775808:=by rw [← Nat.pow_succ]; exact pow128_le (by omega)
      rw [Nat.mod_eq_of_lt (by omega),← Nat.pow_succ] at this
      exact this
    generalize ((128 ^ i:Nat):Int)=P at *
    rcases Classical.propComplete (0 < i) with d1 | d1 <;> rcases Classical.propComplete (i=9) with d3 | d3 <;> rcases Classical.propComplete (y=0) with d2 | d2 <;> rcases Classical.propComplete (y=1) with d4 | d4 <;>
      first
      | (exfalso; simp only [d1,d2,d3,d4,true_and,and_true,not_true_eq_false,ne_eq,not_false_eq_true,and_self] at c1 c2; done)
      | (exfalso; have:=of_eq_true d2; have:=of_eq_true d4; omega)
      | (exfalso; have:=of_eq_true d3; have:=of_eq_false d1; omega)
      | (rcases Classical.propComplete (y < 128) with d5 | d5
         · simp only [Q1x.l3,Q1x.l3.p1,nx,T2b,nk,f1,f2,sy,reduceIte,Nat.reduceAdd,Nat.reduceLeDiff,Nat.reduceLT,Nat.reduceEqDiff,Int.reduceEq,Int.reduceLT,Int.reduceLE,Int.reduceNe,ly,k1,k2,k3,k4,k5,k6,d1,d2,d3,d4,d5,hF,ldc_row h.row,stv_row h.row,e9,a1,a2,a4,a5,e8]
         · first
           | (exfalso; have:=of_eq_true d4; have:=of_eq_false d5; omega)
           | (have a6:=a6 (of_eq_false d3)
              simp only [Q1x.l3,Q1x.l3.p1,nx,T2b,nk,f1,f2,sy,reduceIte,Nat.reduceAdd,Nat.reduceLeDiff,Nat.reduceLT,Nat.reduceEqDiff,Int.reduceEq,Int.reduceLT,Int.reduceLE,Int.reduceNe,ly,k1,k2,k3,k4,k5,k6,d1,d2,d3,d4,d5,hF,ldc_row h.row,stv_row h.row,e9,a1,a2,a4,a5,a6,e8]))
  · rw [if_neg hc]
    have hput:=h.put h.le 31
    refine ⟨_,hput.1,hput.2,fun e=>?_⟩
    rw [iter_succ]
    have hcn:¬ (¬ (0 < i∧y=0)∧¬ (i=9∧y≠1)∧(most=maxU∨x+y % 128 * 128 ^ i+(if 128≤y then 128 ^ (i+1) else 0)≤most)):=fun e=>hc (decide_eq_true e)
    rcases Classical.propComplete (0 < i) with d1 | d1 <;> rcases Classical.propComplete (i=9) with d3 | d3 <;> rcases Classical.propComplete (y=0) with d2 | d2 <;> rcases Classical.propComplete (y=1) with d4 | d4 <;>
      first
      | (exfalso; have:=of_eq_true d2; have:=of_eq_true d4; omega)
      | (exfalso; have:=of_eq_true d3; have:=of_eq_false d1; omega)
      | (simp only [Q1x.l3,Q1x.l3.p1,nx,T2b,nk,f1,f2,sy,reduceIte,Nat.reduceAdd,Nat.reduceLeDiff,Nat.reduceLT,Nat.reduceEqDiff,Int.reduceEq,Int.reduceLT,Int.reduceLE,Int.reduceNe,ly,k1,k2,k3,k4,k6,d1,d2,d3,d4,stv_row h.row]; done)
      | (have c3:¬ (most=maxU∨x+y % 128 * 128 ^ i+(if 128≤y then 128 ^ (i+1) else 0)≤most):=fun e=>hcn (by simp only [d1,d2,d3,d4,e,true_and,and_true,and_false,false_and,not_false_eq_true,not_true_eq_false,ne_eq,and_self])
         rw [decide_eq_false c3] at hF
         simp only [Q1x.l3,Q1x.l3.p1,nx,T2b,nk,f1,f2,sy,reduceIte,Nat.reduceAdd,Nat.reduceLeDiff,Nat.reduceLT,Nat.reduceEqDiff,Int.reduceEq,Int.reduceLT,Int.reduceLE,Int.reduceNe,ly,k1,k2,k3,k4,k6,d1,d2,d3,d4,hF,stv_row h.row])
def RNumIs (n1 b:Nat) (bv:Value) (bs:List Int) (s:St) (r:Nat→Option Cut):RdR Nat→Prop
  | .ok a q=>∃ s',(∀ e,r e=some (1,[.int .u64 (a:Int)],s'))∧RrAt n1 b bv bs q 0 s'∧RdS b s s'
  | .bad er q=>∃ s',(∀ e,r e=some (1,[.int .u64 0],s'))∧RrAt n1 b bv bs q er s'∧RdS b s s'∧er≠0
theorem rnumloop_v {most:Nat}:∀ (d i x:Nat) {p:Nat} {s:St},i+d=9→x < 128 ^ i→(most=maxU∨(most=65536∧i≤2))→RrAt n1 b bv bs p 0 s →
    RNumIs n1 b bv bs s (fun e=>iter (Q1x.l3 std) (e+d+1) [rpt b,.int .u64 (most:Int),.int .u64 (x:Int),.int .u64 ((128 ^ i:Nat):Int),.int .i64 (i:Int)] s) (numL bs most (d+1) i x p)
  | d,i,x,p,s,hi,hx,hm,h=>by
    unfold numL
    cases hp:bs[p]? with
    | none =>
      rw [byteP_none hp]
      obtain ⟨s',nx,h1,h2⟩:=rnext_no h hp
      have k6:(i:Int) < 10:=by omega
      refine ⟨s',fun e=>?_,h1,h2,by omega⟩
      dsimp only
      rw [iter_succ]
      simp only [Q1x.l3,nx,T2b,sy,reduceIte,Nat.reduceAdd,Nat.reduceLeDiff,Nat.reduceLT,Nat.reduceEqDiff,Int.reduceEq,Int.reduceLT,Int.reduceLE,Int.reduceNe,ly,k6]
    | some y' =>
      obtain ⟨y,rfl,hy⟩:=h.ok.at hp
      rw [byteP_some hp]
      have hst:=rnumstep hm (by omega) hx h hp hy
      by_cases hc:condN most i x y=true
      · rw [if_pos hc] at hst ⊢
        obtain ⟨s1,h1,h2,h3⟩:=hst
        simp only []
        by_cases h128:y < 128
        · rw [if_pos h128]
          refine ⟨s1,fun e=>?_,h1,h2⟩
          show iter _ (e+d+1) _ _=_
          rw [h3,if_pos h128]
        · rw [if_neg h128]
          obtain ⟨c1,c2,c3⟩:=of_decide_eq_true hc
          have h9:i≠9:=fun e=>c2 ⟨e,by omega⟩
          have hb:x+y % 128 * 128 ^ i < 128 ^ (i+1):=by
            have:y % 128 * 128 ^ i≤127 * 128 ^ i:=Nat.mul_le_mul_right _ (by omega)
            rw [Nat.pow_succ]; omega
          have hm':most=maxU∨(most=65536∧i+1≤2):=by
            rcases hm with e | ⟨e,e2⟩
            · exact .inl e
            · refine .inr ⟨e,?_⟩
              rcases c3 with c3 | c3
              · unfold maxU at c3; omega
              · rw [if_pos (by omega)] at c3
                rcases Nat.lt_or_ge i 2 with k | k
                · omega
                · have:128 ^ 3≤128 ^ (i+1):=Nat.pow_le_pow_right (by omega) (by omega)
                  have e:128 ^ 3=2097152:=by decide
                  omega
          obtain ⟨d',rfl⟩:∃ d',d=d'+1:=⟨d - 1,by omega⟩
          have ih:=rnumloop_v d' (i+1) (x+y % 128 * 128 ^ i) (by omega) hb hm' h1
          revert ih
          cases numL bs most (d'+1) (i+1) (x+y % 128 * 128 ^ i) (p+1) with
          | ok a q =>
            rintro ⟨s',k1,k2,k3⟩
            refine ⟨s',fun e=>?_,k2,h2.trans k3⟩
            show iter _ (e+(d'+1)+1) _ _=_
            rw [h3,if_neg h128]
            exact k1 e
          | bad er q =>
            rintro ⟨s',k1,k2,k3,k4⟩
            refine ⟨s',fun e=>?_,k2,h2.trans k3,k4⟩
            show iter _ (e+(d'+1)+1) _ _=_
            rw [h3,if_neg h128]
            exact k1 e
      · rw [if_neg hc] at hst ⊢
        obtain ⟨s1,h1,h2,h3⟩:=hst
        exact ⟨s1,fun e=>h3 _,h1,h2,by omega⟩
def fU (a:Nat):Value:=.int .u64 (a:Int)
def RrN (n1 b:Nat) (bv:Value) (bs:List Int) (s:St) (r:Option (Value×St)):RdR Nat→Prop
  | .ok a q=>∃ s',r=some (fU a,s')∧RrAt n1 b bv bs q 0 s'∧RdS b s s'
  | .bad e q=>∃ s',r=some (fU 0,s')∧RrAt n1 b bv bs q e s'∧RdS b s s'∧e≠0
theorem rnumber_rd {most:Nat} (hm:most=maxU∨most=65536) (h:RrAt n1 b bv bs p 0 s):RrN n1 b bv bs s (Q1x.v (rpt b) (.int .u64 (most:Int)) s) (numP bs most p):=by
  have:=rnumloop_v 9 0 0 (by omega) (by decide) (hm.imp id fun e=>⟨e,by omega⟩) h
  unfold numP
  revert this
  cases numL bs most 10 0 0 p with
  | ok a q =>
    rintro ⟨s',k1,k2,k3⟩
    refine ⟨s',?_,k2,k3⟩
    have:=k1 (BIG - 10)
    dsimp only at this
    rw [show BIG - 10+9+1=BIG from rfl] at this
    have this:iter (Q1x.l3 std) BIG [rpt b,.int .u64 (most:Int),.int .u64 0,.int .u64 1,.int .i64 0] s=_:=this
    unfold Q1x.v Q1x.t
    simp only [std_bd,std_it,this,bds,List.getD_cons_zero]
    rfl
  | bad er q =>
    rintro ⟨s',k1,k2,k3,k4⟩
    refine ⟨s',?_,k2,k3,k4⟩
    have:=k1 (BIG - 10)
    dsimp only at this
    rw [show BIG - 10+9+1=BIG from rfl] at this
    have this:iter (Q1x.l3 std) BIG [rpt b,.int .u64 (most:Int),.int .u64 0,.int .u64 1,.int .i64 0] s=_:=this
    unfold Q1x.v Q1x.t
    simp only [std_bd,std_it,this,bds,List.getD_cons_zero]
    rfl
def fI (a:Int):Value:=.int .i64 a
theorem rint_of {x:Nat} (h:x < 2 ^ 64) {a0:Value} {s s':St} (k:Q1x.v a0 (.int .u64 18446744073709551615) s=some (fU x,s')):Q1u.v a0 s=some (fI (unzz x),s'):=by
  unfold fU at k
  have e1:bin .rem (.int .u64 (x:Int)) (.int .u64 2)=some (.int .u64 ((x % 2:Nat):Int)):=by
    rw [bin_rem (by omega),Int.tmod_eq_emod_of_nonneg (by omega)]; rfl
  have e2:=quo_u64 (a:=x) (b:=2) h (by omega)
  rw [show ((2:Nat):Int)=2 from rfl] at e2
  have e3:IntKind.i64.wrap ((x / 2:Nat):Int)=((x / 2:Nat):Int):=wrap64 (by omega) (by omega)
  have e4:un .neg (.int .i64 ((x / 2:Nat):Int))=some (.int .i64 (-((x / 2:Nat):Int))):=un_neg (by omega) (by omega)
  have e5:IntKind.i64.wrap (-((x / 2:Nat):Int) - 1) = -((x / 2:Nat):Int) - 1:=wrap64 (by omega) (by omega)
  have k1:(((x % 2:Nat):Int)=1)=(x % 2=1):=propext (by omega)
  unfold fI unzz
  generalize x / 2=H at *
  generalize x % 2=L at *
  by_cases hx:L=1
  · rw [if_pos hx]
    simp only [Q1u.v,Q1u.t,std_bd,std_cnd,k,bds,e1,e2,e3,e4,e5,eqb1,k1,hx,decide_true,cndt,cvi_int,bin_sub]
    simp only [show ((1:Nat):Int)=1 from rfl,decide_true,cndt,e2,bds,cvi_int,e3,e4,bin_sub,e5]
  · rw [if_neg hx]
    simp only [Q1u.v,Q1u.t,std_bd,std_cnd,k,bds,e1,e2,e3,eqb1,k1,hx,decide_false,cndf,cvi_int]
theorem rint_v (h:RrAt n1 b bv bs p 0 s):RrIs n1 b bv bs s fI (Q1u.v (rpt b) s) (intP bs p):=by
  have hn:=rnumber_rd (most:=maxU) (.inl rfl) h
  rw [show ((maxU:Nat):Int)=18446744073709551615 from rfl] at hn
  have hlt:=@numL_lt bs maxU 10 0 0 p
  unfold intP
  unfold numP at *
  revert hn hlt
  cases numL bs maxU 10 0 0 p with
  | ok a q =>
    rintro ⟨s',k1,k2,k3⟩ hlt
    exact ⟨s',rint_of (hlt rfl (by decide) rfl) k1,k2,k3⟩
  | bad er q =>
    rintro ⟨s',k1,k2,k3,k4⟩ _
    exact ⟨_,s',rint_of (by decide) k1,k2,k3,k4⟩
end
end Go.Proofs.Yteapmnolmfickaa
/-
  The reference's reader: a key,a vector.
-/
set_option linter.unusedSimpArgs false
set_option linter.unusedVariables false
set_option maxRecDepth 100000
set_option maxHeartbeats 4000000
namespace Go.Proofs.Yteapmnolmfickaa
open Go.Sim Go.Sim.Bt
attribute [local congr] bdc cndc itec gdc gdSc gdUc
def fK (a:Nat×Nat):Value:=.agg ⟨[.int .i64 (a.1:Int),.int .u64 (a.2:Int)]⟩
theorem byteP_all {bs:List Int} (hb:okY bs) (p:Nat):byteP bs (fun y=>decide (0≤y∧y≤255)) p=byteP bs (fun _=>true) p:=by
  cases hp:bs[p]? with
  | none=>rw [byteP_none hp,byteP_none hp]
  | some y' =>
    obtain ⟨y,rfl,hy⟩:=hb.at hp
    rw [byteP_some hp,byteP_some hp,if_pos (decide_eq_true ⟨Nat.zero_le _,by omega⟩),if_pos rfl]
section
variable {n1 b p:Nat} {bv:Value} {bs:List Int} {s:St}
theorem rkeyloop_e {n:Int} {c0:List Value} {e:Int} (he:e≠0) (h:RrAt n1 b bv bs p e s):∀ (d j v:Nat),j+d=8→∃ a:Nat,∀ f,iter (Q1v.l4 std) (f+d+1) [rpt b,.int .i64 (j:Int),.agg ⟨c0⟩,.agg ⟨[.int .i64 n,.int .u64 (v:Int)]⟩] s=some (0,[.agg ⟨c0⟩,.agg ⟨[.int .i64 n,.int .u64 (a:Int)]⟩],s)
  | 0,j,v,hj=>by
    refine ⟨v,fun f=>?_⟩
    have k:bin .lss (.int .i64 (j:Int)) (.int .i64 8)=some (.bool false):=by rw [bin_lss,decide_eq_false (by omega)]
    rw [iter_succ]
    unfold Q1v.l4
    simp only [std_bd,std_cnd,List.getD_cons_zero,List.getD_cons_succ,k,bds,cnd,cellsA]
  | d+1,j,v,hj=>by
    obtain ⟨a,ih⟩:=rkeyloop_e (n:=n) (c0:=c0) he h d (j+1) ((((v * 256) % 2 ^ 64)+0) % 2 ^ 64) (by omega)
    refine ⟨a,fun f=>?_⟩
    have k:bin .lss (.int .i64 (j:Int)) (.int .i64 8)=some (.bool true):=by rw [bin_lss,decide_eq_true (by omega)]
    have e1:lcl [.int .i64 n,.int .u64 (v:Int)] 1=some (.int .u64 (v:Int)):=rfl
    have e2:bin .mul (.int .u64 (v:Int)) (.int .u64 256)=some (.int .u64 ((v * 256 % 2 ^ 64:Nat):Int)):=mul_u64
    have e3:=rbyte_e (x:=.int .u8 0) (y:=.int .u8 255) he h
    have e4:cvi .u64 (.int .u8 0)=some (.int .u64 0):=rfl
    have e5:bin .add (.int .u64 ((v * 256 % 2 ^ 64:Nat):Int)) (.int .u64 0)=some (.int .u64 ((((v * 256) % 2 ^ 64+0) % 2 ^ 64:Nat):Int)):=add_u64 (b:=0)
    have e6:∀ x,stl [.int .i64 n,.int .u64 (v:Int)] 1 1 (.int .u64 x)=some [.int .i64 n,.int .u64 x]:=fun _=>rfl
    have e7:bin .add (.int .i64 (j:Int)) (.int .i64 1)=some (.int .i64 ((j+1:Nat):Int)):=by
      rw [bin_add,wrap64 (by omega) (by omega)]; rfl
    have ih:=ih f
    rw [show f+(d+1)+1=(f+d+1)+1 by omega,iter_succ]
    revert ih
    generalize iter (Q1v.l4 std) (f+d+1)=R
    generalize (((v * 256) % 2 ^ 64+0) % 2 ^ 64:Nat)=V at *
    generalize (v * 256 % 2 ^ 64:Nat)=W at *
    intro ih
    unfold Q1v.l4
    simp only [std_bd,std_cnd,List.getD_cons_zero,List.getD_cons_succ,k,cellsA,e1,e2,e3,e4,e5,e6,e7,bds,cnd]
    exact ih
def RVLIs (n1 b:Nat) (bv:Value) (bs:List Int) (s:St) (z:Value) (f:Nat→Value) (r:Nat→Option Cut):RdR Nat→Prop
  | .ok a q=>∃ s',(∀ e,r e=some (0,[z,f a],s'))∧RrAt n1 b bv bs q 0 s'∧RdS b s s'
  | .bad er q=>∃ a s',(∀ e,r e=some (0,[z,f a],s'))∧RrAt n1 b bv bs q er s'∧RdS b s s'∧er≠0
theorem rkeyloop_v {n:Int} {c0:List Value}:∀ (d j v:Nat) {p:Nat} {s:St},j+d=8→v < 256 ^ j→RrAt n1 b bv bs p 0 s →
    RVLIs n1 b bv bs s (.agg ⟨c0⟩) (fun a=>.agg ⟨[.int .i64 n,.int .u64 (a:Int)]⟩) (fun e=>iter (Q1v.l4 std) (e+d+1) [rpt b,.int .i64 (j:Int),.agg ⟨c0⟩,.agg ⟨[.int .i64 n,.int .u64 (v:Int)]⟩] s) (keyL bs d v p)
  | 0,j,v,p,s,hj,hv,h=>by
    unfold keyL
    refine ⟨s,fun e=>?_,h,.refl _ _⟩
    have k:bin .lss (.int .i64 (j:Int)) (.int .i64 8)=some (.bool false):=by rw [bin_lss,decide_eq_false (by omega)]
    dsimp only
    rw [iter_succ]
    unfold Q1v.l4
    simp only [std_bd,std_cnd,List.getD_cons_zero,List.getD_cons_succ,k,bds,cnd,cellsA]
  | d+1,j,v,p,s,hj,hv,h=>by
    unfold keyL
    have k:bin .lss (.int .i64 (j:Int)) (.int .i64 8)=some (.bool true):=by rw [bin_lss,decide_eq_true (by omega)]
    have hv2:v * 256+256≤2 ^ 64:=by
      have h1:256 ^ j * 256≤256 ^ 8:=by rw [← Nat.pow_succ]; exact Nat.pow_le_pow_right (by omega) (by omega)
      have h2:=Nat.mul_le_mul_right 256 (Nat.succ_le_of_lt hv)
      have e:256 ^ 8=2 ^ 64:=by decide
      rw [Nat.succ_mul] at h2
      omega
    have e1:lcl [.int .i64 n,.int .u64 (v:Int)] 1=some (.int .u64 (v:Int)):=rfl
    have e2:bin .mul (.int .u64 (v:Int)) (.int .u64 256)=some (.int .u64 ((v * 256:Nat):Int)):=by
      have:=mul_u64 (a:=v) (b:=256)
      rw [Nat.mod_eq_of_lt (by omega)] at this
      exact this
    have e6:∀ x,stl [.int .i64 n,.int .u64 (v:Int)] 1 1 (.int .u64 x)=some [.int .i64 n,.int .u64 x]:=fun _=>rfl
    have e7:bin .add (.int .i64 (j:Int)) (.int .i64 1)=some (.int .i64 ((j+1:Nat):Int)):=by
      rw [bin_add,wrap64 (by omega) (by omega)]; rfl
    have hq:=rbyte_v 0 255 h
    rw [byteP_all h.ok] at hq
    cases hb:byteP bs (fun _=>true) p with
    | bad er q =>
      rw [hb] at hq
      obtain ⟨s',nx,k1,k2,k3⟩:=hq
      have nx:Q1s.v (rpt b) (.int .u8 0) (.int .u8 255) s=some (.int .u8 0,s'):=nx
      have e4:cvi .u64 (.int .u8 0)=some (.int .u64 0):=rfl
      have e5:bin .add (.int .u64 ((v * 256:Nat):Int)) (.int .u64 0)=some (.int .u64 ((v * 256:Nat):Int)):=by
        have:=add_u64 (a:=v * 256) (b:=0)
        rw [Nat.add_zero,Nat.mod_eq_of_lt (by omega)] at this
        exact this
      obtain ⟨a,ih⟩:=rkeyloop_e (n:=n) (c0:=c0) k3 k1 d (j+1) (v * 256) (by omega)
      refine ⟨a,s',fun e=>?_,k1,k2,k3⟩
      have ih:=ih e
      dsimp only
      rw [show e+(d+1)+1=(e+d+1)+1 by omega,iter_succ]
      revert ih
      generalize iter (Q1v.l4 std) (e+d+1)=R
      intro ih
      unfold Q1v.l4
      simp only [std_bd,std_cnd,List.getD_cons_zero,List.getD_cons_succ,k,cellsA,e1,e2,nx,e4,e5,e6,e7,bds,cnd]
      exact ih
    | ok y q =>
      rw [hb] at hq
      obtain ⟨s1,nx,hy,k1,k2⟩:=hq
      have nx:Q1s.v (rpt b) (.int .u8 0) (.int .u8 255) s=some (.int .u8 (y:Int),s1):=nx
      have e3:cvi .u64 (.int .u8 (y:Int))=some (.int .u64 (y:Int)):=cvu (by omega)
      have e4:bin .add (.int .u64 ((v * 256:Nat):Int)) (.int .u64 (y:Int))=some (.int .u64 ((v * 256+y:Nat):Int)):=by
        rw [add_u64,Nat.mod_eq_of_lt (by omega)]
      have ih:=rkeyloop_v (n:=n) (c0:=c0) d (j+1) (v * 256+y) (by omega) (by rw [Nat.pow_succ]; omega) k1
      simp only []
      have step:∀ e,iter (Q1v.l4 std) (e+(d+1)+1) [rpt b,.int .i64 (j:Int),.agg ⟨c0⟩,.agg ⟨[.int .i64 n,.int .u64 (v:Int)]⟩] s=iter (Q1v.l4 std) (e+d+1) [rpt b,.int .i64 ((j+1:Nat):Int),.agg ⟨c0⟩,.agg ⟨[.int .i64 n,.int .u64 ((v * 256+y:Nat):Int)]⟩] s1:=fun e=>by
        rw [show e+(d+1)+1=(e+d+1)+1 by omega,iter_succ]
        generalize iter (Q1v.l4 std) (e+d+1)=R
        unfold Q1v.l4
        simp only [std_bd,std_cnd,List.getD_cons_zero,List.getD_cons_succ,k,cellsA,e1,e2,nx,e3,e4,e6,e7,bds,cnd]
      revert ih
      cases keyL bs d (v * 256+y) q with
      | ok a q =>
        rintro ⟨s',g1,g2,g3⟩
        exact ⟨s',fun e=>(step e).trans (g1 e),g2,k2.trans g3⟩
      | bad er q =>
        rintro ⟨a,s',g1,g2,g3,g4⟩
        exact ⟨a,s',fun e=>(step e).trans (g1 e),g2,k2.trans g3,g4⟩
theorem rkey_fin {r:Nat} (hr:r < 256) {a0:Value} {s s1:St} (h2:r≠2) (k:Q1s.v a0 (.int .u8 1) (.int .u8 3) s=some (.int .u8 (r:Int),s1)):Q1v.v a0 s=some (fK (r,0),s1):=by
  have cv:IntKind.i64.wrap (r:Int)=(r:Int):=wrap64 (by omega) (by omega)
  have hz:bx (.agg #[.int .i64 0,.int .u64 0])=some z2:=rfl
  have y2:((r:Int)=2)=False:=eq_false (by omega)
  have zz:z2=[.int .i64 0,.int .u64 0]:=rfl
  simp only [Q1v.v,Q1v.t,hz,zz,k,sy,reduceIte,Nat.reduceAdd,Nat.reduceLeDiff,Nat.reduceLT,Nat.reduceEqDiff,Int.reduceEq,Int.reduceLT,Int.reduceLE,Int.reduceNe,ly,cv,y2]
  rfl
theorem rkey_e {e:Int} (he:e≠0) (h:RrAt n1 b bv bs p e s):Q1v.v (rpt b) s=some (fK (0,0),s) :=
  rkey_fin (by omega) (by omega) (rbyte_e he h)
theorem rkey_rd (h:RrAt n1 b bv bs p 0 s):RrIs n1 b bv bs s fK (Q1v.v (rpt b) s) (keyP bs p):=by
  unfold keyP
  have hq:=rbyte_v 1 3 h
  revert hq
  cases byteP bs (fun y=>decide (1≤y∧y≤3)) p with
  | bad er q =>
    rintro ⟨s',nx,k1,k2,k3⟩
    exact ⟨(0,0),s',rkey_fin (by omega) (by omega) nx,k1,k2,k3⟩
  | ok y q =>
    rintro ⟨s1,nx,hy,k1,k2⟩
    simp only []
    by_cases h2:y=2
    · subst h2
      rw [if_pos rfl]
      have nx:Q1s.v (rpt b) (.int .u8 1) (.int .u8 3) s=some (.int .u8 2,s1):=nx
      have hk:=rkeyloop_v (n:=2) (c0:=z2) 8 0 0 (by omega) (by decide) k1
      have hz:bx (.agg #[.int .i64 0,.int .u64 0])=some z2:=rfl
      have zz:z2=[.int .i64 0,.int .u64 0]:=rfl
      have cv:IntKind.i64.wrap 2=2:=rfl
      revert hk
      cases keyL bs 8 0 q with
      | ok a q =>
        rintro ⟨s',g1,g2,g3⟩
        refine ⟨s',?_,g2,k2.trans g3⟩
        have g:=g1 (BIG - 9)
        dsimp only at g
        rw [show BIG - 9+8+1=BIG from rfl] at g
        have g:iter (Q1v.l4 std) BIG [rpt b,.int .i64 0,.agg ⟨[.int .i64 0,.int .u64 0]⟩,.agg ⟨[.int .i64 2,.int .u64 0]⟩] s1=_:=g
        simp only [Q1v.v,Q1v.t,hz,zz,nx,sy,reduceIte,Nat.reduceAdd,Nat.reduceLeDiff,Nat.reduceLT,Nat.reduceEqDiff,Int.reduceEq,Int.reduceLT,Int.reduceLE,Int.reduceNe,ly,cv,g]
        rfl
      | bad er q =>
        rintro ⟨a,s',g1,g2,g3,g4⟩
        refine ⟨(2,a),s',?_,g2,k2.trans g3,g4⟩
        have g:=g1 (BIG - 9)
        dsimp only at g
        rw [show BIG - 9+8+1=BIG from rfl] at g
        have g:iter (Q1v.l4 std) BIG [rpt b,.int .i64 0,.agg ⟨[.int .i64 0,.int .u64 0]⟩,.agg ⟨[.int .i64 2,.int .u64 0]⟩] s1=_:=g
        simp only [Q1v.v,Q1v.t,hz,zz,nx,sy,reduceIte,Nat.reduceAdd,Nat.reduceLeDiff,Nat.reduceLT,Nat.reduceEqDiff,Int.reduceEq,Int.reduceLT,Int.reduceLE,Int.reduceNe,ly,cv,g]
        rfl
    · rw [if_neg h2]
      exact ⟨s1,rkey_fin hy h2 nx,k1,k2⟩
theorem ofBits_snoc (l:List Nat) (d:Nat):ofBits (l++[d])=ofBits l * 2+d:=by simp [ofBits,List.foldl_append]
theorem rowsI_snoc (l:List Nat) (d:Nat):rowsI (l++[d])=rowsI l++[[.int .i64 (d:Int)]]:=by simp [rowsI]
structure RvAt (n1 n0 b:Nat) (bv:Value) (bs:List Int) (p:Nat) (s0:St) (w:Value) (l:List Nat) (s:St):Prop where
  rd:RrAt n1 b bv bs p 0 s
  st:RdS b s0 s
  ful:Ful n0 s 1 w (rowsI l)
  lt:b < n0
  le:n0=s0.n
  bit:∀ d ∈ l,d < 2
theorem rbitloop {n0 n i t y v:Nat} {s0:St} {a3 b7 b8 b9 b10 b11 b12 b13 cc:Value} {c:List Value} (hy:y < 256) (ht:t≤32) (ht0:0 < t):∀ (d k:Nat) {w:Value} {l:List Nat} {s:St},k+d=min 8 t→l.length≤32 - d→ofBits l=v * 2 ^ k+y / 2 ^ (8 - k)→RvAt n1 n0 b bv bs p s0 w l s →
    ∃ w' l' z1 z2 z3 s',(∀ e,iter (Q1y.l15 std) (e+d+1) [rpt b,a3,w,.int .i64 (i:Int),.int .u8 (y:Int),.int .i64 (t:Int),.int .i64 (k:Int),b7,b8,b9,b10,b11,b12,b13,.agg ⟨c⟩] s=some (0,[rpt b,a3,w',.int .i64 (i:Int),b7,b8,b9,b10,b11,b12,b13,z1,z2,z3,.agg ⟨c⟩],s')) ∧
      RvAt n1 n0 b bv bs p s0 w' l' s'∧l'.length=l.length+d∧ofBits l'=v * 2 ^ (min 8 t)+y / 2 ^ (8 - min 8 t)
  | 0,k,w,l,s,hk,hl,ho,h=>by
    have:k=min 8 t:=by omega
    subst this
    have k1:((8:Int)≤(t:Int))=(8≤t):=propext (by omega)
    by_cases h8:8≤t
    · have e1:bin .lss (.int .i64 ((min 8 t:Nat):Int)) (.int .i64 8)=some (.bool false):=by rw [bin_lss,decide_eq_false (by omega)]
      refine ⟨w,l,undef,undef,undef,s,fun e=>?_,h,rfl,ho⟩
      rw [iter_succ]
      unfold Q1y.l15
      simp only [std_bd,std_cnd,std_gd,List.getD_cons_zero,List.getD_cons_succ,e1,gdft,gdtf,pikf,bds,cndf,cellsA]
    · have e1:bin .lss (.int .i64 ((min 8 t:Nat):Int)) (.int .i64 8)=some (.bool true):=by rw [bin_lss,decide_eq_true (by omega)]
      have e2:bin .lss (.int .i64 ((min 8 t:Nat):Int)) (.int .i64 (t:Int))=some (.bool false):=by rw [bin_lss,decide_eq_false (by omega)]
      refine ⟨w,l,.int .i64 ((min 8 t:Nat):Int),.int .i64 (t:Int),.bool false,s,fun e=>?_,h,rfl,ho⟩
      rw [iter_succ]
      unfold Q1y.l15
      simp only [std_bd,std_cnd,std_gd,List.getD_cons_zero,List.getD_cons_succ,e1,e2,gdtt,pikt,bds,cndf,cellsA]
  | d+1,k,w,l,s,hk,hl,ho,h=>by
    have e1:bin .lss (.int .i64 (k:Int)) (.int .i64 8)=some (.bool true):=by rw [bin_lss,decide_eq_true (by omega)]
    have e2:bin .lss (.int .i64 (k:Int)) (.int .i64 (t:Int))=some (.bool true):=by rw [bin_lss,decide_eq_true (by omega)]
    have e3:bin .sub (.int .i64 7) (.int .i64 (k:Int))=some (.int .i64 ((7 - k:Nat):Int)):=by
      rw [bin_sub,wrap64 (by omega) (by omega),show (7:Int) - (k:Int)=((7 - k:Nat):Int) by omega]
    have e4:=power_r (7 - k) s (by omega)
    have pk:2 ^ (7 - k)≤128:=Nat.le_trans (Nat.pow_le_pow_right (by omega) (show 7 - k≤7 by omega)) (by decide)
    have p0:=Nat.two_pow_pos (7 - k)
    have e5:cvi .u8 (.int .u64 ((2 ^ (7 - k):Nat):Int))=some (.int .u8 ((2 ^ (7 - k):Nat):Int)):=by rw [cvi_int,wrapu8 (by omega) (by omega)]
    have hdiv:y / 2 ^ (7 - k)≤y:=Nat.div_le_self _ _
    have hq0:(0:Int)≤((y / 2 ^ (7 - k):Nat):Int):=Int.natCast_nonneg _
    have e6:bin .quo (.int .u8 (y:Int)) (.int .u8 ((2 ^ (7 - k):Nat):Int))=some (.int .u8 ((y / 2 ^ (7 - k):Nat):Int)):=by
      rw [bin_quo (by omega),show ((y:Int)).tdiv ((2 ^ (7 - k):Nat):Int)=((y / 2 ^ (7 - k):Nat):Int) from rfl,wrapu8 (by omega) (by omega)]
    have e7:cvi .i64 (.int .u8 ((y / 2 ^ (7 - k):Nat):Int))=some (.int .i64 ((y / 2 ^ (7 - k):Nat):Int)):=by rw [cvi_int,wrap64 (by omega) (by omega)]
    have e8:bin .rem (.int .i64 ((y / 2 ^ (7 - k):Nat):Int)) (.int .i64 2)=some (.int .i64 ((y / 2 ^ (7 - k) % 2:Nat):Int)):=by
      rw [bin_rem (by omega),Int.tmod_eq_emod_of_nonneg (by omega)]; rfl
    have e9:bin .add (.int .i64 (k:Int)) (.int .i64 1)=some (.int .i64 ((k+1:Nat):Int)):=by
      rw [bin_add,wrap64 (by omega) (by omega)]; rfl
    have hlen:(rowsI l).length=l.length:=rowsI_length l
    have hh:=h.st.n
    have mo:More ⟨s.h,n0⟩ s:=⟨by have:=h.le; simp only; omega,fun _ _=>rfl,fun _=>h.rd.fr⟩
    obtain ⟨w',s1,a1,a2,a3',a4,_⟩:=push (s0:=⟨s.h,n0⟩) h.rd.fr h.ful mo (by_:=8) [.int .i64 ((y / 2 ^ (7 - k) % 2:Nat):Int)] (by omega) (by omega)
    have h1:RvAt n1 n0 b bv bs p s0 w' (l++[y / 2 ^ (7 - k) % 2]) s1:=by
      have hle:=h.le
      refine ⟨h.rd.app h.lt a2 a4,⟨by have:=a2.n; simp only at this; omega,fun x hx hne=>(a2.old x (by simp only; omega)).trans (h.st.keep x hx hne)⟩,by rw [rowsI_snoc]; exact a3',h.lt,h.le,fun d hd=>?_⟩
      · rcases List.mem_append.1 hd with hd | hd
        · exact h.bit d hd
        · cases List.mem_singleton.1 hd; exact Nat.mod_lt _ (by omega)
    have ho1:ofBits (l++[y / 2 ^ (7 - k) % 2])=v * 2 ^ (k+1)+y / 2 ^ (8 - (k+1)):=by
      rw [ofBits_snoc,ho,show 8 - k=(7 - k)+1 by omega,show 8 - (k+1)=7 - k by omega,Nat.pow_succ,← Nat.div_div_eq_div_mul,Nat.pow_succ,← Nat.mul_assoc]
      omega
    obtain ⟨w2,l2,z1,z2,z3,s2,g1,g2,g3,g4⟩:=rbitloop (v:=v) (i:=i) (a3:=a3) (b7:=b7) (b8:=b8) (b9:=b9) (b10:=b10) (b11:=b11) (b12:=b12) (b13:=b13) (c:=c) (cc:=cc) (n:=n) hy ht ht0 d (k+1) (by omega) (by simp; omega) ho1 h1
    refine ⟨w2,l2,z1,z2,z3,s2,fun e=>?_,g2,by rw [g3]; simp; omega,g4⟩
    have g:=g1 e
    have als1:((bls 1 (List.replicate 1 [.int .i64 0]) [(0,.int .i64 ((y / 2 ^ (7 - k) % 2:Nat):Int))]).bind fun rows=>als s 1 1 rows)=some (.slice (some ⟨s.n,0,some 0⟩) 1 2,s.new (.row 1 [[.int .i64 ((y / 2 ^ (7 - k) % 2:Nat):Int)]] false)):=rfl
    rw [show e+(d+1)+1=(e+d+1)+1 by omega,iter_succ]
    revert g
    generalize iter (Q1y.l15 std) (e+d+1)=R
    generalize ((y / 2 ^ (7 - k) % 2:Nat):Int)=D at *
    generalize ((y / 2 ^ (7 - k):Nat):Int)=Q at *
    generalize ((2 ^ (7 - k):Nat):Int)=P at *
    intro g
    unfold Q1y.l15
    simp only [std_bd,std_cnd,std_gd,List.getD_cons_zero,List.getD_cons_succ,e1,e2,e3,e4,e5,e6,e7,e8,e9,als1,a1,gdtt,pikt,bds,cndt,cellsA]
    exact g
end
end Go.Proofs.Yteapmnolmfickaa
/-
  The reference's reader: a vector,a field.
-/
set_option linter.unusedSimpArgs false
set_option linter.unusedVariables false
set_option maxRecDepth 100000
set_option maxHeartbeats 4000000
namespace Go.Proofs.Yteapmnolmfickaa
open Go.Sim Go.Sim.Bt
attribute [local congr] bdc cndc itec gdc gdSc gdUc
theorem Ful.isI {n0:Nat} {s:St} {v:Value} {l:List Nat} (h:Ful n0 s 1 v (rowsI l)):IsI s v l:=by
  rcases h with ⟨rfl,e⟩ | ⟨b,e,_,rfl,hg,_⟩
  · have:l=[]:=by cases l with
      | nil=>rfl
      | cons a l=>simp [rowsI] at e
    exact .inl ⟨rfl,this⟩
  · refine .inr ⟨b,0,e,_,_,by rw [rowsI_length],hg,fun j d hj=>?_⟩
    rw [Nat.zero_add]; exact rowsI_get hj
section
variable {n1 b p:Nat} {bv:Value} {bs:List Int} {s:St}
def ZV:Value:=.agg ⟨z2⟩
def RWIs (n1 n0 b:Nat) (bv:Value) (bs:List Int) (s0:St) (n:Nat) (r:Nat→Option Cut):RdR Nat→Prop
  | .ok a q=>∃ w l s',(∀ e,r e=some (0,[w,ZV],s'))∧RvAt n1 n0 b bv bs q s0 w l s'∧l.length=n∧ofBits l=a
  | .bad er q=>∃ s',(∀ e,r e=some (1,[ZV],s'))∧RrAt n1 b bv bs q er s'∧RdS b s0 s'∧er≠0
theorem rvloop {n0 n:Nat} {s0:St} (hn:n≤32):∀ (d i:Nat) {p v:Nat} {w:Value} {l:List Nat} {s:St},n - i≤8 * d→l.length=min i n→i≤40→ofBits l=v→RvAt n1 n0 b bv bs p s0 w l s →
    RWIs n1 n0 b bv bs s0 n (fun e=>iter (Q1y.l4 std) (e+d+1) [rpt b,.int .i64 (n:Int),w,.int .i64 (i:Int),ZV] s) (vecL bs d (n - i) v p):=by
  intro d
  induction d with
  | zero =>
    intro i p v w l s hd hl hi ho h
    unfold vecL
    have k:bin .lss (.int .i64 (i:Int)) (.int .i64 (n:Int))=some (.bool false):=by rw [bin_lss,decide_eq_false (by omega)]
    refine ⟨w,l,s,fun e=>?_,h,by omega,ho⟩
    dsimp only
    rw [iter_succ]
    unfold Q1y.l4
    simp only [std_bd,std_cnd,List.getD_cons_zero,List.getD_cons_succ,k,bds,cndf,cellsA,ZV]
  | succ d ih =>
    intro i p v w l s hd hl hi ho h
    unfold vecL
    by_cases h0:n - i=0
    · rw [if_pos h0]
      have k:bin .lss (.int .i64 (i:Int)) (.int .i64 (n:Int))=some (.bool false):=by rw [bin_lss,decide_eq_false (by omega)]
      refine ⟨w,l,s,fun e=>?_,h,by omega,ho⟩
      dsimp only
      rw [iter_succ]
      unfold Q1y.l4
      simp only [std_bd,std_cnd,List.getD_cons_zero,List.getD_cons_succ,k,bds,cndf,cellsA,ZV]
    · rw [if_neg h0]
      have k:bin .lss (.int .i64 (i:Int)) (.int .i64 (n:Int))=some (.bool true):=by rw [bin_lss,decide_eq_true (by omega)]
      have ez:bld [.int .i64 0,.int .u64 0] []=some (.agg ⟨z2⟩):=rfl
      have es:stl z2 0 2 (.agg ⟨z2⟩)=some z2:=rfl
      have nk:nck (rpt b)=some (rpt b):=rfl
      have f1:fld 1 (rpt b)=some (.pointer (some ⟨b,0,some 1⟩)):=rfl
      have f2:fld 2 (rpt b)=some (.pointer (some ⟨b,0,some 2⟩)):=rfl
      have nt:un .not (.bool true)=some (.bool false):=rfl
      have nf:un .not (.bool false)=some (.bool true):=rfl
      have x0:∀ y o,xtr 0 (T2b y o)=some (.int .u8 y):=fun _ _=>rfl
      have x1:∀ y o,xtr 1 (T2b y o)=some (.bool o):=fun _ _=>rfl
      obtain ⟨t,ht⟩:∃ t,t=n - i:=⟨_,rfl⟩
      have e1:bin .sub (.int .i64 (n:Int)) (.int .i64 (i:Int))=some (.int .i64 (t:Int)):=by
        rw [bin_sub,wrap64 (by omega) (by omega),show (n:Int) - (i:Int)=(t:Int) by omega]
      rw [← ht]
      cases hp:bs[p]? with
      | none =>
        rw [byteP_none hp]
        obtain ⟨s',nx,g1,g2⟩:=rnext_no h.rd hp
        refine ⟨s',fun e=>?_,g1,h.st.trans g2,by omega⟩
        dsimp only
        rw [show e+(d+1)+1=(e+d+1)+1 by omega,iter_succ]
        unfold Q1y.l4 Q1y.l4.p1
        simp only [std_bd,std_cnd,std_gd,List.getD_cons_zero,List.getD_cons_succ,k,nx,x0,x1,nf,ez,cellsA,ZV,es,bds,cndt]
      | some y' =>
        obtain ⟨y,rfl,hy⟩:=h.rd.ok.at hp
        rw [byteP_some hp]
        have nx:=rnext_ok h.rd hp
        have hlt:p < bs.length:=(List.getElem?_eq_some_iff.1 hp).1
        have hsz:=h.rd.sz
        obtain ⟨o,hoo⟩:∃ o,o=8 - t:=⟨_,rfl⟩
        rw [← hoo]
        -- the check of what is left over
        obtain ⟨z1,z2',z3,z4,z5,z6,z7,hchk⟩:∃ z1 z2' z3 z4 z5 z6 z7:Value,∀ {R:Type} (K:Value→Value→Value→Value→Value→Value→Value→Value→Option R),
            ((bin .lss (.int .i64 (t:Int)) (.int .i64 8)).bind fun x77=>(gd x77 true (some (.int .u8 (y:Int)))).bind fun x78=>(gd x77 true (some (.int .i64 (t:Int)))).bind fun x79=>(gd x77 true (bin .sub (.int .i64 8) x79)).bind fun x80=>(gd x77 true (Q1k.r x80 s)).bind fun x81=>(gd x77 true (cvi .u8 x81)).bind fun x82=>(gd x77 true (bin .rem x78 x82)).bind fun x83=>(gd x77 true (eqb [1] false true x83 (.int .u8 0))).bind fun x84=>(pik x77 x84 (.bool false)).bind fun x85=>K x78 x79 x80 x81 x82 x83 x84 x85)
              = K z1 z2' z3 z4 z5 z6 z7 (.bool (decide (¬ (y % 2 ^ o=0)))):=by
          by_cases h8:t < 8
          · have c0:bin .lss (.int .i64 (t:Int)) (.int .i64 8)=some (.bool true):=by rw [bin_lss,decide_eq_true (by omega)]
            have c1:bin .sub (.int .i64 8) (.int .i64 (t:Int))=some (.int .i64 (o:Int)):=by
              rw [bin_sub,wrap64 (by omega) (by omega),show (8:Int) - (t:Int)=(o:Int) by omega]
            have c2:=power_r o s (by omega)
            have po:2 ^ o≤128:=Nat.le_trans (Nat.pow_le_pow_right (by omega) (show o≤7 by omega)) (by decide)
            have p0:=Nat.two_pow_pos o
            have c3:cvi .u8 (.int .u64 ((2 ^ o:Nat):Int))=some (.int .u8 ((2 ^ o:Nat):Int)):=by rw [cvi_int,wrapu8 (by omega) (by omega)]
            have c4:bin .rem (.int .u8 (y:Int)) (.int .u8 ((2 ^ o:Nat):Int))=some (.int .u8 ((y % 2 ^ o:Nat):Int)):=by
              rw [bin_rem (by omega),Int.tmod_eq_emod_of_nonneg (by omega)]; rfl
            have c5:eqb [1] false true (.int .u8 ((y % 2 ^ o:Nat):Int)) (.int .u8 0)=some (.bool (decide (y % 2 ^ o≠0))):=by
              rw [neb1]
              have:(((y % 2 ^ o:Nat):Int)≠0)=(y % 2 ^ o≠0):=propext (by omega)
              simp only [this]
            refine ⟨.int .u8 (y:Int),.int .i64 (t:Int),.int .i64 (o:Int),.int .u64 ((2 ^ o:Nat):Int),.int .u8 ((2 ^ o:Nat):Int),.int .u8 ((y % 2 ^ o:Nat):Int),.bool (decide (y % 2 ^ o≠0)),fun K=>?_⟩
            rw [c0,bds,gdtt,bds,gdtt,bds,gdtt,c1,bds,gdtt,c2,bds,gdtt,c3,bds,gdtt,c4,bds,gdtt,c5,bds,pikt,bds]
          · have c0:bin .lss (.int .i64 (t:Int)) (.int .i64 8)=some (.bool false):=by rw [bin_lss,decide_eq_false (by omega)]
            have o0:o=0:=by omega
            refine ⟨undef,undef,undef,undef,undef,undef,undef,fun K=>?_⟩
            rw [c0,bds,gdft,bds,gdft,bds,gdft,bds,gdft,bds,gdft,bds,gdft,bds,gdft,bds,pikf,bds,o0,Nat.pow_zero,Nat.mod_one]
            rfl
        by_cases hc:y % 2 ^ o=0
        · rw [if_pos (decide_eq_true hc)]
          have hput:=h.rd.put (q:=p+1) (by omega) 0
          have hbn0:=h.lt
          have h1:RvAt n1 n0 b bv bs (p+1) s0 w l (s.put b (.row 3 [[bv,.int .i64 ((p+1:Nat):Int),.int .i64 0]] false)) :=
            ⟨hput.1,h.st.trans hput.2,h.ful.putN hbn0,h.lt,h.le,h.bit⟩
          have w1:stv s 1 (.pointer (some ⟨b,0,some 1⟩)) (.int .i64 ((p+1:Nat):Int))=some (s.put b (.row 3 [[bv,.int .i64 ((p+1:Nat):Int),.int .i64 0]] false)):=by rw [stv_row h.rd.row]; rfl
          have d1:ldc s (.pointer (some ⟨b,0,some 1⟩))=some (.int .i64 (p:Int)):=by rw [ldc_row h.rd.row]; rfl
          have e2:bin .add (.int .i64 (p:Int)) (.int .i64 1)=some (.int .i64 ((p+1:Nat):Int)):=by
            rw [bin_add,wrap64 (by omega) (by omega)]; rfl
          generalize s.put b (.row 3 [[bv,.int .i64 ((p+1:Nat):Int),.int .i64 0]] false)=s1 at *
          obtain ⟨w',l',z8,z9,z10,s2,g1,g2,g3,g4⟩:=rbitloop (n:=n) (i:=i) (v:=v) (cc:=ZV) (c:=z2) (a3:=.int .i64 (n:Int)) (b7:=z1) (b8:=z2') (b9:=z3) (b10:=z4) (b11:=z5) (b12:=z6) (b13:=z7) hy (t:=t) (by omega) (by omega) (min 8 t) 0 (by omega) (by omega) (by
            rw [ho,Nat.pow_zero,Nat.mul_one,show 8 - 0=8 from rfl,Nat.div_eq_of_lt hy,Nat.add_zero]) h1
          have g:=g1 (BIG - min 8 t - 1)
          rw [show BIG - min 8 t - 1+min 8 t+1=BIG by unfold BIG; omega] at g
          have g:iter (Q1y.l15 std) BIG [rpt b,.int .i64 (n:Int),w,.int .i64 (i:Int),.int .u8 (y:Int),.int .i64 (t:Int),.int .i64 0,z1,z2',z3,z4,z5,z6,z7,.agg ⟨z2⟩] s1=_:=g
          have e3:bin .add (.int .i64 (i:Int)) (.int .i64 8)=some (.int .i64 ((i+8:Nat):Int)):=by
            rw [bin_add,wrap64 (by omega) (by omega)]; rfl
          have ih:=ih (i+8) (p:=p+1) (v:=v * 2 ^ (8 - o)+y / 2 ^ o) (w:=w') (l:=l') (s:=s2) (by omega) (by omega) (by omega) (by
            rw [g4,show min 8 t=8 - o by omega,show 8 - (8 - o)=o by omega]) g2
          rw [show n - (i+8)=t - 8 by omega] at ih
          simp only []
          have step:∀ e,iter (Q1y.l4 std) (e+(d+1)+1) [rpt b,.int .i64 (n:Int),w,.int .i64 (i:Int),ZV] s=iter (Q1y.l4 std) (e+d+1) [rpt b,.int .i64 (n:Int),w',.int .i64 ((i+8:Nat):Int),ZV] s2:=fun e=>by
            rw [show e+(d+1)+1=(e+d+1)+1 by omega,iter_succ]
            generalize iter (Q1y.l4 std) (e+d+1)=R
            unfold Q1y.l4 Q1y.l4.p1
            simp only [std_bd,std_cnd,std_gd,std_it,List.getD_cons_zero,List.getD_cons_succ,k,nx,x0,x1,nt,e1,hchk,hc,decide_true,decide_false,not_true_eq_false,cndt,cndf,nk,f1,f2,d1,e2,w1,g,e3,cellsA,ZV,bds]
          revert ih
          cases vecL bs d (t - 8) (v * 2 ^ (8 - o)+y / 2 ^ o) (p+1) with
          | ok a q =>
            rintro ⟨w3,l3,s',k1,k2⟩
            exact ⟨w3,l3,s',fun e=>(step e).trans (k1 e),k2⟩
          | bad er q =>
            rintro ⟨s',k1,k2⟩
            exact ⟨s',fun e=>(step e).trans (k1 e),k2⟩
        · rw [if_neg (by rw [decide_eq_false hc]; simp)]
          have hput:=h.rd.put h.rd.le 31
          have w1:stv s 1 (.pointer (some ⟨b,0,some 2⟩)) (.int .i64 31)=some (s.put b (.row 3 [[bv,.int .i64 (p:Int),.int .i64 31]] false)):=by rw [stv_row h.rd.row]; rfl
          refine ⟨_,fun e=>?_,hput.1,h.st.trans hput.2,by omega⟩
          dsimp only
          rw [show e+(d+1)+1=(e+d+1)+1 by omega,iter_succ]
          unfold Q1y.l4 Q1y.l4.p1
          simp only [std_bd,std_cnd,std_gd,List.getD_cons_zero,List.getD_cons_succ,k,nx,x0,x1,nt,e1,hchk,hc,decide_true,not_false_eq_true,cndt,cndf,nk,f2,w1,ez,cellsA,ZV,es,bds]
end
end Go.Proofs.Yteapmnolmfickaa
/-
  The reference's reader: a vector,a field,joined.
-/
set_option linter.unusedSimpArgs false
set_option linter.unusedVariables false
set_option maxRecDepth 100000
set_option maxHeartbeats 4000000
namespace Go.Proofs.Yteapmnolmfickaa
open Go.Sim Go.Sim.Bt
attribute [local congr] bdc cndc itec gdc gdSc gdUc
section
variable {n1 b p:Nat} {bv:Value} {bs:List Int} {s:St}
theorem rvec_zero {a0:Value} {s s1:St} (k:Q1s.v a0 (.int .u8 0) (.int .u8 32) s=some (.int .u8 0,s1)):Q1y.v a0 s=some (fK (0,0),s1):=by
  have hl:iter (Q1y.l4 std) BIG [a0,.int .i64 0,.slice none 0 0,.int .i64 0,.agg ⟨[.int .i64 0,.int .u64 0]⟩] s1=some ((0,[.slice none 0 0,.agg ⟨[.int .i64 0,.int .u64 0]⟩],s1):Cut):=by
    rw [show BIG=4611686018427387903+1 from rfl,iter_succ]
    simp only [Q1y.l4,sy,reduceIte,Nat.reduceAdd,Nat.reduceLeDiff,Nat.reduceLT,Nat.reduceEqDiff,Int.reduceEq,Int.reduceLT,Int.reduceLE,Int.reduceNe,ly]
  have ho:=of_r (s:=s1) (v:=.slice none 0 0) (l:=[]) (.inl ⟨rfl,rfl⟩) (by simp) (by simp)
  have ho:Q1j.r (.slice none 0 0) s1=some (.agg ⟨[.int .i64 0,.int .u64 0]⟩):=ho
  have hz:bx (.agg #[.int .i64 0,.int .u64 0])=some [.int .i64 0,.int .u64 0]:=rfl
  have cv:IntKind.i64.wrap 0=0:=rfl
  simp only [Q1y.v,Q1y.t,hz,k,sy,reduceIte,Nat.reduceAdd,Nat.reduceLeDiff,Nat.reduceLT,Nat.reduceEqDiff,Int.reduceEq,Int.reduceLT,Int.reduceLE,Int.reduceNe,ly,cv,hl,ho]
  rfl
theorem rvector_e {e:Int} (he:e≠0) (h:RrAt n1 b bv bs p e s):Q1y.v (rpt b) s=some (fK (0,0),s):=rvec_zero (rbyte_e he h)
theorem byteP_le {bs:List Int} (p:Nat):byteP bs (fun y=>decide (0≤y∧y≤32)) p=byteP bs (fun y=>decide (y≤32)) p:=by
  have:(fun y:Nat=>decide (0≤y∧y≤32))=fun y=>decide (y≤32):=by
    funext y; simp
  rw [this]
theorem byteP_1 {bs:List Int} (p:Nat):byteP bs (fun y=>decide (0≤y∧y≤1)) p=byteP bs (fun y=>decide (y≤1)) p:=by
  have:(fun y:Nat=>decide (0≤y∧y≤1))=fun y=>decide (y≤1):=by
    funext y; simp
  rw [this]
theorem rvector_rd (h:RrAt n1 b bv bs p 0 s):RrIs n1 b bv bs s fK (Q1y.v (rpt b) s) (vecP bs p):=by
  unfold vecP
  have hq:=rbyte_v 0 32 h
  rw [byteP_le] at hq
  cases hb:byteP bs (fun y=>decide (y≤32)) p with
  | bad er q =>
    rw [hb] at hq
    obtain ⟨s',nx,k1,k2,k3⟩:=hq
    exact ⟨(0,0),s',rvec_zero nx,k1,k2,k3⟩
  | ok n q =>
    rw [hb] at hq
    obtain ⟨s1,nx,hy,k1,k2⟩:=hq
    have nx:Q1s.v (rpt b) (.int .u8 0) (.int .u8 32) s=some (.int .u8 (n:Int),s1):=nx
    have hn:n≤32:=of_decide_eq_true (byteP_ok hb).1
    simp only []
    have hbn:=h.n
    have h1:RvAt n1 s1.n b bv bs q s1 (.slice none 0 0) [] s1:=⟨k1,.refl _ _,.inl ⟨rfl,rfl⟩,k1.n,rfl,fun d hd=>absurd hd List.not_mem_nil⟩
    have hl:=rvloop (v:=0) hn 5 0 (by omega) (by simp) (by omega) (rfl:ofBits []=0) h1
    rw [Nat.sub_zero] at hl
    have hz:bx (.agg #[.int .i64 0,.int .u64 0])=some [.int .i64 0,.int .u64 0]:=rfl
    have cv:IntKind.i64.wrap (n:Int)=(n:Int):=wrap64 (by omega) (by omega)
    have zz:ZV=.agg ⟨[.int .i64 0,.int .u64 0]⟩:=rfl
    revert hl
    cases vecL bs 5 n 0 q with
    | ok a q =>
      rintro ⟨w,l,s',g1,g2,g3,g4⟩
      refine ⟨s',?_,g2.rd,k2.trans g2.st⟩
      have g:=g1 (BIG - 6)
      dsimp only at g
      rw [show BIG - 6+5+1=BIG from rfl] at g
      have g:iter (Q1y.l4 std) BIG [rpt b,.int .i64 (n:Int),.slice none 0 0,.int .i64 0,.agg ⟨[.int .i64 0,.int .u64 0]⟩] s1=some (0,[w,.agg ⟨[.int .i64 0,.int .u64 0]⟩],s'):=g
      have ho:=of_r g2.ful.isI g2.bit (by omega)
      rw [g3,g4] at ho
      have ho:Q1j.r w s'=some (.agg ⟨[.int .i64 (n:Int),.int .u64 (a:Int)]⟩):=ho
      simp only [Q1y.v,Q1y.t,hz,nx,sy,reduceIte,Nat.reduceAdd,Nat.reduceLeDiff,Nat.reduceLT,Nat.reduceEqDiff,Int.reduceEq,Int.reduceLT,Int.reduceLE,Int.reduceNe,ly,cv,g,ho]
      rfl
    | bad er q =>
      rintro ⟨s',g1,g2,g3,g4⟩
      refine ⟨(0,0),s',?_,g2,k2.trans g3,g4⟩
      have g:=g1 (BIG - 6)
      dsimp only at g
      rw [show BIG - 6+5+1=BIG from rfl] at g
      have g:iter (Q1y.l4 std) BIG [rpt b,.int .i64 (n:Int),.slice none 0 0,.int .i64 0,.agg ⟨[.int .i64 0,.int .u64 0]⟩] s1=some (1,[.agg ⟨[.int .i64 0,.int .u64 0]⟩],s'):=g
      simp only [Q1y.v,Q1y.t,hz,nx,sy,reduceIte,Nat.reduceAdd,Nat.reduceLeDiff,Nat.reduceLT,Nat.reduceEqDiff,Int.reduceEq,Int.reduceLT,Int.reduceLE,Int.reduceNe,ly,cv,g]
      rfl
def RFIs (n1 b:Nat) (bv:Value) (bs:List Int) (s:St) (r:Option (Value×St)):RdR FB→Prop
  | .ok a q=>∃ w s',r=some (({ a.1 with b:=w }:Fd).v,s')∧Ful s.n s' 1 w (br a.2)∧RrAt n1 b bv bs q 0 s'∧RdS b s s'
  | .bad e q=>∃ f s',r=some (Fd.v f,s')∧RrAt n1 b bv bs q e s'∧RdS b s s'∧e≠0
def RBLIs (n1 b:Nat) (bv:Value) (bs:List Int) (s:St) (z:Value) (fd:Fd) (r:Nat→Option Cut):RdR (List Int)→Prop
  | .ok a q=>∃ w s',(∀ e,r e=some (0,[z,({ fd with b:=w }:Fd).v],s'))∧Ful s.n s' 1 w (br a)∧RrAt n1 b bv bs q 0 s'∧RdS b s s'
  | .bad er q=>∃ w s',(∀ e,r e=some (0,[z,({ fd with b:=w }:Fd).v],s'))∧bx w=some [w]∧RrAt n1 b bv bs q er s'∧RdS b s s'∧er≠0
theorem rbytloop {fd:Fd} {c0:List Value} {n:Nat} (hn:n≤65536) {s0:St} (hb0:b < s0.n):∀ (d i:Nat) {l:List Int} {p:Nat} {s:St} {w:Value},i+d=n→l.length=i→RrAt n1 b bv bs p 0 s→RdS b s0 s→Ful s0.n s 1 w (br l) →
    RBLIs n1 b bv bs s0 (.agg ⟨c0⟩) fd (fun e=>iter (Q1t.l12 std) (e+d+2) [rpt b,.int .u64 (n:Int),.int .u64 (i:Int),.agg ⟨c0⟩,({ fd with b:=w }:Fd).v] s) (bytesL bs d l p)
  | 0,i,l,p,s,w,hi,hl,h,h0,hw=>by
    unfold bytesL
    refine ⟨w,s,fun e=>?_,hw,h,h0⟩
    have k:bin .lss (.int .u64 (i:Int)) (.int .u64 (n:Int))=some (.bool false):=by rw [bin_lss,decide_eq_false (by omega)]
    dsimp only
    rw [iter_succ]
    unfold Q1t.l12
    simp only [std_bd,std_cnd,std_gd,List.getD_cons_zero,List.getD_cons_succ,k,gdft,pikf,cndf,bds,cellsA,Fd.v]
  | d+1,i,l,p,s,w,hi,hl,h,h0,hw=>by
    unfold bytesL
    have k:bin .lss (.int .u64 (i:Int)) (.int .u64 (n:Int))=some (.bool true):=by rw [bin_lss,decide_eq_true (by omega)]
    have nk:nck (rpt b)=some (rpt b):=rfl
    have f2:fld 2 (rpt b)=some (.pointer (some ⟨b,0,some 2⟩)):=rfl
    have d2:ldc s (.pointer (some ⟨b,0,some 2⟩))=some (.int .i64 0):=by rw [ldc_row h.row]; rfl
    have eq0:eqb [1] false false (.int .i64 0) (.int .i64 0)=some (.bool true):=rfl
    have e1:lcl ({ fd with b:=w }:Fd).cs 4=some w:=rfl
    have e6:bin .add (.int .u64 (i:Int)) (.int .u64 1)=some (.int .u64 ((i+1:Nat):Int)):=by
      rw [bin_add,wrapu64 (by omega) (by omega)]; rfl
    have hq:=rbyte_v 0 255 h
    rw [byteP_all h.ok] at hq
    -- a byte is appended, whichever
    have key:∀ (y:Int) {q:Nat} {er:Int} {s1:St},Q1s.v (rpt b) (.int .u8 0) (.int .u8 255) s=some (.int .u8 y,s1)→RrAt n1 b bv bs q er s1→RdS b s s1 →
        ∃ w' s2,RrAt n1 b bv bs q er s2∧RdS b s0 s2∧Ful s0.n s2 1 w' (br (l++[y]))∧∀ e,iter (Q1t.l12 std) (e+1) [rpt b,.int .u64 (n:Int),.int .u64 (i:Int),.agg ⟨c0⟩,({ fd with b:=w }:Fd).v] s=iter (Q1t.l12 std) e [rpt b,.int .u64 (n:Int),.int .u64 ((i+1:Nat):Int),.agg ⟨c0⟩,({ fd with b:=w' }:Fd).v] s2:=by
      intro y q er s1 nx k1 k2
      have hw1:Ful s0.n s1 1 w (br l):=hw.rdS (N:=0) h.fr k2 hb0
      have mo:More ⟨s1.h,s0.n⟩ s1:=⟨(h0.trans k2).n,fun _ _=>rfl,fun _=>k1.fr⟩
      obtain ⟨w',s2,a1,a2,a3,a4,_⟩:=push (s0:=⟨s1.h,s0.n⟩) k1.fr hw1 mo (by_:=1) [.int .u8 y] (by rw [br_length]; omega) (by rw [br_length]; omega)
      have e5:stl ({ fd with b:=w }:Fd).cs 4 1 w'=some ({ fd with b:=w' }:Fd).cs:=by
        rw [stl_eq,a3.isR.bx]; rfl
      refine ⟨w',s2,k1.app hb0 a2 a4,⟨a2.n,fun x hx hne=>(a2.old x hx).trans ((h0.trans k2).keep x hx hne)⟩,by rw [br_append]; exact a3,fun e=>?_⟩
      rw [iter_succ]
      generalize iter (Q1t.l12 std) e=R
      unfold Q1t.l12
      simp only [std_bd,std_cnd,std_gd,List.getD_cons_zero,List.getD_cons_succ,k,gdtt,nk,f2,d2,eq0,pikt,cndt,Fd.v,cellsA,e1,nx,bls1,a1,e5,e6,bds]
    cases hb:byteP bs (fun _=>true) p with
    | bad er q =>
      rw [hb] at hq
      obtain ⟨s1,nx,k1,k2,k3⟩:=hq
      obtain ⟨w',s2,r1,r2,r3,r4⟩:=key 0 nx k1 k2
      refine ⟨w',s2,fun e=>?_,r3.isR.bx,r1,r2,k3⟩
      dsimp only
      rw [show e+(d+1)+2=(e+d+1)+1+1 by omega,r4,iter_succ]
      have d2:ldc s2 (.pointer (some ⟨b,0,some 2⟩))=some (.int .i64 er):=by rw [ldc_row r1.row]; rfl
      have eq0:eqb [1] false false (.int .i64 er) (.int .i64 0)=some (.bool false):=by rw [eqb1,decide_eq_false k3]
      generalize iter (Q1t.l12 std) (e+d+1)=R
      unfold Q1t.l12
      by_cases hin:i+1 < n
      · have k:bin .lss (.int .u64 ((i+1:Nat):Int)) (.int .u64 (n:Int))=some (.bool true):=by rw [bin_lss,decide_eq_true (by omega)]
        simp only [std_bd,std_cnd,std_gd,List.getD_cons_zero,List.getD_cons_succ,k,gdtt,nk,f2,d2,eq0,pikt,cndf,Fd.v,cellsA,bds]
      · have k:bin .lss (.int .u64 ((i+1:Nat):Int)) (.int .u64 (n:Int))=some (.bool false):=by rw [bin_lss,decide_eq_false (by omega)]
        simp only [std_bd,std_cnd,std_gd,List.getD_cons_zero,List.getD_cons_succ,k,gdft,pikf,cndf,Fd.v,cellsA,bds]
    | ok y q =>
      rw [hb] at hq
      obtain ⟨s1,nx,hy,k1,k2⟩:=hq
      obtain ⟨w',s2,r1,r2,r3,r4⟩:=key (y:Int) nx k1 k2
      have ih:=rbytloop (fd:=fd) (c0:=c0) hn hb0 d (i+1) (by omega) (by simp [hl]) r1 r2 r3
      simp only []
      have step:∀ e,iter (Q1t.l12 std) (e+(d+1)+2) [rpt b,.int .u64 (n:Int),.int .u64 (i:Int),.agg ⟨c0⟩,({ fd with b:=w }:Fd).v] s=iter (Q1t.l12 std) (e+d+2) [rpt b,.int .u64 (n:Int),.int .u64 ((i+1:Nat):Int),.agg ⟨c0⟩,({ fd with b:=w' }:Fd).v] s2:=fun e=>by
        rw [show e+(d+1)+2=(e+d+2)+1 by omega,r4]
      revert ih
      cases bytesL bs d (l++[(y:Int)]) q with
      | ok a q =>
        rintro ⟨w,s',g1,g2⟩
        exact ⟨w,s',fun e=>(step e).trans (g1 e),g2⟩
      | bad er q =>
        rintro ⟨w,s',g1,g2⟩
        exact ⟨w,s',fun e=>(step e).trans (g1 e),g2⟩
theorem rfield_v (h:RrAt n1 b bv bs p 0 s) (k:Int):RFIs n1 b bv bs s (Q1t.v (rpt b) (.int .i64 k) s) (fieldP bs k p):=by
  have nilF:∀ {s':St},Ful s.n s' 1 nilB (br []):=.inl ⟨rfl,rfl⟩
  unfold fieldP
  by_cases h1:k=1
  · rw [if_pos h1]
    have hq:=rnumber_rd (most:=maxU) (.inl rfl) h
    rw [show ((maxU:Nat):Int)=18446744073709551615 from rfl] at hq
    revert hq
    cases numP bs maxU p with
    | ok x q =>
      rintro ⟨s',g1,g2,g3⟩
      refine ⟨nilB,s',?_,nilF,g2,g3⟩
      simp only [Q1t.v,Q1t.t,sy,reduceIte,Nat.reduceAdd,Nat.reduceLeDiff,Nat.reduceLT,Nat.reduceEqDiff,Int.reduceEq,Int.reduceLT,Int.reduceLE,Int.reduceNe,ly,h1,g1,fU,Fd.v,Fd.cs,fd0,nilB]
    | bad e q =>
      rintro ⟨s',g1,g2,g3⟩
      refine ⟨{ fd0 k with n:=0 },s',?_,g2,g3⟩
      simp only [Q1t.v,Q1t.t,sy,reduceIte,Nat.reduceAdd,Nat.reduceLeDiff,Nat.reduceLT,Nat.reduceEqDiff,Int.reduceEq,Int.reduceLT,Int.reduceLE,Int.reduceNe,ly,h1,g1,fU,Fd.v,Fd.cs,fd0,nilB]
      rfl
  rw [if_neg h1]
  by_cases h2:k=2
  · rw [if_pos h2]
    have hq:=rint_v h
    revert hq
    cases intP bs p with
    | ok x q =>
      rintro ⟨s',g1,g2,g3⟩
      refine ⟨nilB,s',?_,nilF,g2,g3⟩
      simp only [Q1t.v,Q1t.t,sy,reduceIte,Nat.reduceAdd,Nat.reduceLeDiff,Nat.reduceLT,Nat.reduceEqDiff,Int.reduceEq,Int.reduceLT,Int.reduceLE,Int.reduceNe,ly,h2,g1,fI,Fd.v,Fd.cs,fd0,nilB]
    | bad e q =>
      rintro ⟨x,s',g1,g2,g3⟩
      refine ⟨{ fd0 k with i:=x },s',?_,g2,g3⟩
      simp only [Q1t.v,Q1t.t,sy,reduceIte,Nat.reduceAdd,Nat.reduceLeDiff,Nat.reduceLT,Nat.reduceEqDiff,Int.reduceEq,Int.reduceLT,Int.reduceLE,Int.reduceNe,ly,h2,g1,fI,Fd.v,Fd.cs,fd0,nilB]
  rw [if_neg h2]
  by_cases h3:k=3
  · rw [if_pos h3]
    have hq:=rbyte_v 0 1 h
    rw [byteP_1] at hq
    have eq1:∀ y:Nat,((y:Int)=1)=(y=1):=fun y=>propext (by omega)
    revert hq
    cases byteP bs (fun y=>decide (y≤1)) p with
    | ok y q =>
      rintro ⟨s',nx,hy,g2,g3⟩
      have nx:Q1s.v (rpt b) (.int .u8 0) (.int .u8 1) s=some (.int .u8 (y:Int),s'):=nx
      refine ⟨nilB,s',?_,nilF,g2,g3⟩
      simp only [Q1t.v,Q1t.t,Q1t.t.p1,sy,reduceIte,Nat.reduceAdd,Nat.reduceLeDiff,Nat.reduceLT,Nat.reduceEqDiff,Int.reduceEq,Int.reduceLT,Int.reduceLE,Int.reduceNe,ly,h3,nx,eq1,Fd.v,Fd.cs,fd0,nilB]
    | bad e q =>
      rintro ⟨s',nx,g2,g3⟩
      have nx:Q1s.v (rpt b) (.int .u8 0) (.int .u8 1) s=some (.int .u8 0,s'):=nx
      refine ⟨fd0 k,s',?_,g2,g3⟩
      simp only [Q1t.v,Q1t.t,Q1t.t.p1,sy,reduceIte,Nat.reduceAdd,Nat.reduceLeDiff,Nat.reduceLT,Nat.reduceEqDiff,Int.reduceEq,Int.reduceLT,Int.reduceLE,Int.reduceNe,ly,h3,nx,eq1,Fd.v,Fd.cs,fd0,nilB]
  rw [if_neg h3]
  by_cases h4:k=4
  · rw [if_pos h4]
    have hq:=rnumber_rd (most:=65536) (.inr rfl) h
    rw [show ((65536:Nat):Int)=65536 from rfl] at hq
    have hle:∀ n q,numP bs 65536 p=.ok n q→n≤65536:=fun _ _ h=>numP_le h
    revert hq hle
    cases numP bs 65536 p with
    | ok n q =>
      rintro ⟨s1,g1,g2,g3⟩ hle
      have hl:=rbytloop (fd:=fd0 k) (c0:=(fd0 0).cs) (hle n q rfl) g2.n n 0 (w:=nilB) (by omega) (rfl:([]:List Int).length=0) g2 (.refl _ _) (.inl ⟨rfl,rfl⟩)
      simp only []
      have:=hle n _ rfl
      revert hl
      cases bytesL bs n [] q with
      | ok l q =>
        rintro ⟨w,s',i1,i2,i3,i4⟩
        refine ⟨w,s',?_,i2.le g3.n,i3,g3.trans i4⟩
        have i:=i1 (BIG - n - 2)
        dsimp only at i
        rw [show BIG - n - 2+n+2=BIG by unfold BIG; omega] at i
        have i:iter (Q1t.l12 std) BIG [rpt b,.int .u64 (n:Int),.int .u64 0,.agg ⟨(fd0 0).cs⟩,(fd0 k).v] s1=_:=i
        simp only [Fd.v,Fd.cs,fd0,nilB,h4] at i
        simp only [Q1t.v,Q1t.t,Q1t.t.p1,sy,reduceIte,Nat.reduceAdd,Nat.reduceLeDiff,Nat.reduceLT,Nat.reduceEqDiff,Int.reduceEq,Int.reduceLT,Int.reduceLE,Int.reduceNe,ly,h4,g1,fU,i,Fd.v,Fd.cs,fd0,nilB]
      | bad e q =>
        rintro ⟨w,s',i1,i2,i3,i4,i5⟩
        refine ⟨{ fd0 k with b:=w },s',?_,i3,g3.trans i4,i5⟩
        have i:=i1 (BIG - n - 2)
        dsimp only at i
        rw [show BIG - n - 2+n+2=BIG by unfold BIG; omega] at i
        have i:iter (Q1t.l12 std) BIG [rpt b,.int .u64 (n:Int),.int .u64 0,.agg ⟨(fd0 0).cs⟩,(fd0 k).v] s1=_:=i
        simp only [Fd.v,Fd.cs,fd0,nilB,h4] at i
        simp only [Q1t.v,Q1t.t,Q1t.t.p1,sy,reduceIte,Nat.reduceAdd,Nat.reduceLeDiff,Nat.reduceLT,Nat.reduceEqDiff,Int.reduceEq,Int.reduceLT,Int.reduceLE,Int.reduceNe,ly,h4,g1,fU,i,Fd.v,Fd.cs,fd0,nilB]
    | bad e q =>
      rintro ⟨s',g1,g2,g3,g4⟩ _
      have i:iter (Q1t.l12 std) BIG [rpt b,.int .u64 0,.int .u64 0,.agg ⟨(fd0 0).cs⟩,(fd0 k).v] s'=some (0,[.agg ⟨(fd0 0).cs⟩,(fd0 k).v],s'):=by
        rw [show BIG=4611686018427387903+1 from rfl,iter_succ]
        simp only [Q1t.l12,sy,reduceIte,Nat.reduceAdd,Nat.reduceLeDiff,Nat.reduceLT,Nat.reduceEqDiff,Int.reduceEq,Int.reduceLT,Int.reduceLE,Int.reduceNe,ly,Int.lt_irrefl,Fd.v]
      simp only [Fd.v,Fd.cs,fd0,nilB,h4] at i
      refine ⟨fd0 k,s',?_,g2,g3,g4⟩
      simp only [Q1t.v,Q1t.t,Q1t.t.p1,sy,reduceIte,Nat.reduceAdd,Nat.reduceLeDiff,Nat.reduceLT,Nat.reduceEqDiff,Int.reduceEq,Int.reduceLT,Int.reduceLE,Int.reduceNe,ly,h4,g1,fU,Int.natCast_zero,i,Fd.v,Fd.cs,fd0,nilB]
  rw [if_neg h4]
  by_cases h5:k=5
  · rw [if_pos h5]
    have hq:=rvector_rd h
    revert hq
    cases vecP bs p with
    | ok x q =>
      rintro ⟨s',g1,g2,g3⟩
      refine ⟨nilB,s',?_,nilF,g2,g3⟩
      simp only [Q1t.v,Q1t.t,Q1t.t.p1,sy,reduceIte,Nat.reduceAdd,Nat.reduceLeDiff,Nat.reduceLT,Nat.reduceEqDiff,Int.reduceEq,Int.reduceLT,Int.reduceLE,Int.reduceNe,ly,h5,g1,fK,Fd.v,Fd.cs,fd0,nilB]
    | bad e q =>
      rintro ⟨x,s',g1,g2,g3⟩
      refine ⟨{ fd0 k with vl:=x.1,vb:=x.2 },s',?_,g2,g3⟩
      simp only [Q1t.v,Q1t.t,Q1t.t.p1,sy,reduceIte,Nat.reduceAdd,Nat.reduceLeDiff,Nat.reduceLT,Nat.reduceEqDiff,Int.reduceEq,Int.reduceLT,Int.reduceLE,Int.reduceNe,ly,h5,g1,fK,Fd.v,Fd.cs,fd0,nilB]
  rw [if_neg h5]
  by_cases h6:k=6
  · rw [if_pos h6]
    have hq:=rkey_rd h
    revert hq
    cases keyP bs p with
    | ok x q =>
      rintro ⟨s',g1,g2,g3⟩
      refine ⟨nilB,s',?_,nilF,g2,g3⟩
      simp only [Q1t.v,Q1t.t,Q1t.t.p1,sy,reduceIte,Nat.reduceAdd,Nat.reduceLeDiff,Nat.reduceLT,Nat.reduceEqDiff,Int.reduceEq,Int.reduceLT,Int.reduceLE,Int.reduceNe,ly,h6,g1,fK,Fd.v,Fd.cs,fd0,nilB]
    | bad e q =>
      rintro ⟨x,s',g1,g2,g3⟩
      refine ⟨{ fd0 k with kr:=x.1,kn:=x.2 },s',?_,g2,g3⟩
      simp only [Q1t.v,Q1t.t,Q1t.t.p1,sy,reduceIte,Nat.reduceAdd,Nat.reduceLeDiff,Nat.reduceLT,Nat.reduceEqDiff,Int.reduceEq,Int.reduceLT,Int.reduceLE,Int.reduceNe,ly,h6,g1,fK,Fd.v,Fd.cs,fd0,nilB]
  rw [if_neg h6]
  by_cases h7:k=7
  · rw [if_pos h7]
    have hq:=rint_v h
    revert hq
    cases intP bs p with
    | ok i q =>
      rintro ⟨s1,g1,g2,g3⟩
      simp only []
      have hq2:=rkey_rd g2
      revert hq2
      cases keyP bs q with
      | ok u q =>
        rintro ⟨s2,i1,i2,i3⟩
        simp only []
        have hq3:=rvector_rd i2
        revert hq3
        cases vecP bs q with
        | ok v q =>
          rintro ⟨s3,j1,j2,j3⟩
          refine ⟨nilB,s3,?_,nilF,j2,(g3.trans i3).trans j3⟩
          simp only [Q1t.v,Q1t.t,Q1t.t.p1,sy,reduceIte,Nat.reduceAdd,Nat.reduceLeDiff,Nat.reduceLT,Nat.reduceEqDiff,Int.reduceEq,Int.reduceLT,Int.reduceLE,Int.reduceNe,ly,h7,g1,i1,j1,fI,fK,Fd.v,Fd.cs,fd0,nilB]
        | bad e q =>
          rintro ⟨v,s3,j1,j2,j3,j4⟩
          refine ⟨{ fd0 k with id:=i,rr:=u.1,rn:=u.2,rl:=v.1,rb:=v.2 },s3,?_,j2,(g3.trans i3).trans j3,j4⟩
          simp only [Q1t.v,Q1t.t,Q1t.t.p1,sy,reduceIte,Nat.reduceAdd,Nat.reduceLeDiff,Nat.reduceLT,Nat.reduceEqDiff,Int.reduceEq,Int.reduceLT,Int.reduceLE,Int.reduceNe,ly,h7,g1,i1,j1,fI,fK,Fd.v,Fd.cs,fd0,nilB]
      | bad e q =>
        rintro ⟨u,s2,i1,i2,i3,i4⟩
        have j1:=rvector_e i4 i2
        refine ⟨{ fd0 k with id:=i,rr:=u.1,rn:=u.2,rl:=((0:Nat):Int),rb:=((0:Nat):Int) },s2,?_,i2,g3.trans i3,i4⟩
        simp only [Q1t.v,Q1t.t,Q1t.t.p1,sy,reduceIte,Nat.reduceAdd,Nat.reduceLeDiff,Nat.reduceLT,Nat.reduceEqDiff,Int.reduceEq,Int.reduceLT,Int.reduceLE,Int.reduceNe,ly,h7,g1,i1,j1,fI,fK,Fd.v,Fd.cs,fd0,nilB]
    | bad e q =>
      rintro ⟨i,s1,g1,g2,g3,g4⟩
      have i1:=rkey_e g4 g2
      have j1:=rvector_e g4 g2
      refine ⟨{ fd0 k with id:=i,rr:=((0:Nat):Int),rn:=((0:Nat):Int),rl:=((0:Nat):Int),rb:=((0:Nat):Int) },s1,?_,g2,g3,g4⟩
      simp only [Q1t.v,Q1t.t,Q1t.t.p1,sy,reduceIte,Nat.reduceAdd,Nat.reduceLeDiff,Nat.reduceLT,Nat.reduceEqDiff,Int.reduceEq,Int.reduceLT,Int.reduceLE,Int.reduceNe,ly,h7,g1,i1,j1,fI,fK,Fd.v,Fd.cs,fd0,nilB]
  rw [if_neg h7]
  refine ⟨nilB,s,?_,nilF,h,.refl _ _⟩
  simp only [Q1t.v,Q1t.t,Q1t.t.p1,sy,reduceIte,Nat.reduceAdd,Nat.reduceLeDiff,Nat.reduceLT,Nat.reduceEqDiff,Int.reduceEq,Int.reduceLT,Int.reduceLE,Int.reduceNe,ly,h1,h2,h3,h4,h5,h6,h7,Fd.v,Fd.cs,fd0,nilB]
end
end Go.Proofs.Yteapmnolmfickaa
/-
  The reference's First; the fields that bytes are; two rows of fields that are the same.
-/
set_option linter.unusedSimpArgs false
set_option linter.unusedVariables false
set_option maxRecDepth 100000
set_option maxHeartbeats 4000000
namespace Go.Proofs.Yteapmnolmfickaa
open Go.Sim Go.Sim.Bt
attribute [local congr] bdc cndc itec gdc gdSc gdUc
open Classical in
theorem rkindloop {n:Nat} {s:St} {a0 v:Value} {ks:List Int} (h:KL n s v ks) (hb:ks.length≤1000000):∀ (d j:Nat),j+d=ks.length→∀ e,iter (Q1n.l2 std) (e+d+1) [a0,v,.int .i64 (j:Int)] s
    = if ∀ k ∈ ks.drop j,isKd k then some (0,[a0,v],s) else some (1,[nilB,.int .i64 0,.int .i64 30],s)
  | 0,j,hj,e=>by
    have:j=ks.length:=by omega
    subst this
    have hl:=h.len
    have lt1:bin .lss (.int .i64 (ks.length:Int)) (.int .i64 (ks.length:Int))=some (.bool false):=by
      rw [bin_lss,decide_eq_false (by omega)]
    rw [iter_succ,if_pos (by intro p hp; simp at hp)]
    unfold Q1n.l2
    simp only [std_bd,std_cnd,List.getD_cons_zero,List.getD_cons_succ,hl,lt1,bds,cnd]
  | d+1,j,hj,e=>by
    have ih:=rkindloop (a0:=a0) h hb d (j+1) (by omega) e
    have hl:=h.len
    obtain ⟨k,hk⟩:=get_some (l:=ks) (j:=j) (by omega)
    obtain ⟨q,q1,q2⟩:=KL.at h hk
    have hi:=rkind_r k s
    have lt0:bin .lss (.int .i64 (j:Int)) (.int .i64 (ks.length:Int))=some (.bool true):=by
      rw [bin_lss,decide_eq_true (by omega)]
    have add0:bin .add (.int .i64 (j:Int)) (.int .i64 1)=some (.int .i64 ((j+1:Nat):Int)):=by
      rw [bin_add,wrap64 (by omega) (by omega)]; rfl
    have nt:un .not (.bool true)=some (.bool false):=rfl
    have nf:un .not (.bool false)=some (.bool true):=rfl
    rw [show e+(d+1)+1=(e+d+1)+1 by omega,iter_succ,drop_get hk]
    revert ih
    generalize iter (Q1n.l2 std) (e+d+1)=R
    intro ih
    unfold Q1n.l2
    by_cases ok:isKd k
    · rw [decide_eq_true ok] at hi
      simp only [std_bd,std_cnd,List.getD_cons_zero,List.getD_cons_succ,hl,lt0,q1,q2,hi,nt,add0,bds,cnd]
      simp only [List.mem_cons,forall_eq_or_imp,ok,true_and]
      exact ih
    · rw [decide_eq_false ok] at hi
      simp only [std_bd,std_cnd,List.getD_cons_zero,List.getD_cons_succ,hl,lt0,q1,q2,hi,nf,bds,cnd]
      simp only [List.mem_cons,forall_eq_or_imp,ok,false_and,if_false]
      rfl
structure RsAt (N n1:Nat) (s0:St) (bv lv:Value) (bs:List Int) (fs:List FB) (p:Nat) (s:St):Prop where
  rd:RrAt n1 N bv bs p 0 s
  lst:Ful (N+1) s 14 lv (fs.map fun p=>p.1.cs)
  byt:∀ p ∈ fs,FdA p.1∧Ful (N+1) s 1 p.1.b (br p.2)
  le:N+1≤s.n
  old:∀ x,x < N→s.get x=s0.get x
def RLIs (N n1:Nat) (s0:St) (bv:Value) (bs:List Int) (r:Nat→Option Cut):RdR (List FB)→Prop
  | .ok gs q=>∃ s' lv fs,(∀ e,r e=some (0,[rpt N,lv],s'))∧RsAt N n1 s0 bv lv bs fs q s'∧fs.map clr=gs
  | .bad er q=>∃ s',(∀ e,r e=some (1,[nilB,.int .i64 (q:Int),.int .i64 er],s'))∧Fresh s'∧N+1≤s'.n∧(∀ x,x < N→s'.get x=s0.get x)
theorem rfieldsloop {N n1 n:Nat} {s0:St} {bv v:Value} {bs ks:List Int} (hn:n≤N) (hn1:n1≤N) (hk:KL n s0 v ks) (hks:ks.length≤1000000):∀ (d j:Nat),j+d=ks.length→∀ {p:Nat} {fs:List FB} {lv:Value} {s:St},fs.length=j→RsAt N n1 s0 bv lv bs fs p s →
    RLIs N n1 s0 bv bs (fun e=>iter (Q1n.l9 std) (e+d+1) [v,rpt N,lv,.int .i64 (j:Int)] s) (firstL bs (ks.drop j) p (fs.map clr))
  | 0,j,hj,p,fs,lv,s,hfs,h=>by
    have:j=ks.length:=by omega
    subst this
    rw [List.drop_length]
    unfold firstL
    refine ⟨s,lv,fs,fun e=>?_,h,rfl⟩
    have hl:=KL.len (hk.to fun x hx=>h.old x (by omega))
    have lt1:bin .lss (.int .i64 (ks.length:Int)) (.int .i64 (ks.length:Int))=some (.bool false):=by
      rw [bin_lss,decide_eq_false (by omega)]
    dsimp only
    rw [iter_succ]
    unfold Q1n.l9
    simp only [std_bd,std_cnd,List.getD_cons_zero,List.getD_cons_succ,hl,lt1,bds,cnd]
  | d+1,j,hj,p,fs,lv,s,hfs,h=>by
    obtain ⟨k,hkj⟩:=get_some (l:=ks) (j:=j) (by omega)
    have hk':KL n s v ks:=hk.to fun x hx=>h.old x (by omega)
    have hl:=KL.len hk'
    obtain ⟨q0,q1,q2⟩:=KL.at hk' hkj
    have lt0:bin .lss (.int .i64 (j:Int)) (.int .i64 (ks.length:Int))=some (.bool true):=by
      rw [bin_lss,decide_eq_true (by omega)]
    have add0:bin .add (.int .i64 (j:Int)) (.int .i64 1)=some (.int .i64 ((j+1:Nat):Int)):=by
      rw [bin_add,wrap64 (by omega) (by omega)]; rfl
    have hq:=rfield_v h.rd k
    have hle:=h.le
    have nk:nck (rpt N)=some (rpt N):=rfl
    have f1:fld 1 (rpt N)=some (.pointer (some ⟨N,0,some 1⟩)):=rfl
    have f2:fld 2 (rpt N)=some (.pointer (some ⟨N,0,some 2⟩)):=rfl
    rw [drop_get hkj]
    unfold firstL
    -- whichever field is appended
    have key:∀ (f:Fd) {q:Nat} {er:Int} {s1:St},Q1t.v (rpt N) (.int .i64 k) s=some (f.v,s1)→RrAt n1 N bv bs q er s1→RdS N s s1 →
        ∃ lv' s2,RrAt n1 N bv bs q er s2∧StpK [14] s1 s2∧N+1≤s2.n∧(∀ x,x < N→s2.get x=s0.get x)∧Ful (N+1) s2 14 lv' (fs.map (fun p=>p.1.cs)++[f.cs]) ∧
          (er=0→∀ e,iter (Q1n.l9 std) (e+1) [v,rpt N,lv,.int .i64 (j:Int)] s=iter (Q1n.l9 std) e [v,rpt N,lv',.int .i64 ((j+1:Nat):Int)] s2) ∧
          (er≠0→∀ e,iter (Q1n.l9 std) (e+1) [v,rpt N,lv,.int .i64 (j:Int)] s=some (1,[nilB,.int .i64 (q:Int),.int .i64 er],s2)):=by
      intro f q er s1 g1 k1 k2
      have hl1:Ful (N+1) s1 14 lv (fs.map fun p=>p.1.cs):=h.lst.rdS (N:=N) h.rd.fr k2 (by omega)
      have hn1':=k2.n
      have mo:More ⟨s1.h,N+1⟩ s1:=⟨by simp only; omega,fun _ _=>rfl,fun _=>k1.fr⟩
      obtain ⟨lv',s2,a1,a2,a3,a4,a5⟩:=push (s0:=⟨s1.h,N+1⟩) k1.fr hl1 mo (by_:=128) f.cs (by simp; omega) (by simp; omega)
      have r2:=k1.app (n0:=N+1) (by omega) a2 a4
      have e9:((bls 14 (List.replicate 1 [(.int .i64 0),(.int .u64 0),(.int .i64 0),(.bool false),(.slice none 0 0),(.int .i64 0),(.int .u64 0),(.int .i64 0),(.int .u64 0),(.int .i64 0),(.int .i64 0),(.int .u64 0),(.int .i64 0),(.int .u64 0)]) [(0,f.v)]).bind fun rows=>als s1 14 1 rows)=some (.slice (some ⟨s1.n,0,some 0⟩) 1 2,s1.new (.row 14 [f.cs] false)):=rfl
      have d1:ldc s2 (.pointer (some ⟨N,0,some 1⟩))=some (.int .i64 (q:Int)):=by rw [ldc_row r2.row]; rfl
      have d2:ldc s2 (.pointer (some ⟨N,0,some 2⟩))=some (.int .i64 er):=by rw [ldc_row r2.row]; rfl
      refine ⟨lv',s2,r2,a5,a2.n,fun x hx=>(a2.old x (by simp only; omega)).trans ((k2.keep x (by omega) (by omega)).trans (h.old x hx)),a3,fun he e=>?_,fun he e=>?_⟩
      · have eq0:eqb [1] false true (.int .i64 er) (.int .i64 0)=some (.bool false):=by rw [neb1,decide_eq_false (by simp [he])]
        rw [iter_succ]
        generalize iter (Q1n.l9 std) e=R
        unfold Q1n.l9
        simp only [std_bd,std_cnd,List.getD_cons_zero,List.getD_cons_succ,hl,lt0,q1,q2,g1,e9,a1,nk,f2,d2,eq0,add0,bds,cnd]
      · have eq0:eqb [1] false true (.int .i64 er) (.int .i64 0)=some (.bool true):=by rw [neb1,decide_eq_true he]
        rw [iter_succ]
        unfold Q1n.l9
        simp only [std_bd,std_cnd,List.getD_cons_zero,List.getD_cons_succ,hl,lt0,q1,q2,g1,e9,a1,nk,f1,f2,d1,d2,eq0,bds,cnd]
        rfl
    cases hf:fieldP bs k p with
    | bad er q =>
      rw [hf] at hq
      obtain ⟨f,s1,g1,g2,g3,g4⟩:=hq
      obtain ⟨lv',s2,r1,r2,r3,r4,r5,r6,r7⟩:=key f g1 g2 g3
      refine ⟨s2,fun e=>?_,r1.fr,r3,r4⟩
      dsimp only
      rw [show e+(d+1)+1=(e+d+1)+1 by omega,r7 g4]
    | ok a q =>
      rw [hf] at hq
      obtain ⟨w,s1,g1,gw,g2,g3⟩:=hq
      obtain ⟨f,hfd⟩:∃ f:Fd,f=({ a.1 with b:=w }:Fd):=⟨_,rfl⟩
      rw [← hfd] at g1
      have hfa:=fieldP_a h.rd.ok hf
      obtain ⟨lv',s2,r1,r2,r3,r4,r5,r6,r7⟩:=key f g1 g2 g3
      have h3:RsAt N n1 s0 bv lv' bs (fs++[(f,a.2)]) q s2:=by
        refine ⟨r1,by simpa using r5,fun p hp=>?_,r3,r4⟩
        rcases List.mem_append.1 hp with hp | hp
        · exact ⟨(h.byt p hp).1,(((h.byt p hp).2.rdS (N:=N) h.rd.fr g3 (by omega)).stp r2 (by simp))⟩
        · cases List.mem_singleton.1 hp
          refine ⟨?_,((gw.le hle).stp r2 (by simp):Ful (N+1) s2 1 w (br a.2)) |> fun z=>by rw [hfd]; exact z⟩
          rw [hfd]
          exact ⟨hfa.n0,hfa.n1,hfa.i0,hfa.i1,hfa.vb,hfa.kn0,hfa.kn1,hfa.d0,hfa.d1,hfa.rn0,hfa.rn1,hfa.rb⟩
      have hclr:(fs++[(f,a.2)]).map clr=fs.map clr++[a]:=by
        rw [List.map_append]
        have:clr (f,a.2)=a:=by
          rw [hfd]; unfold clr
          have:=fieldP_b hf
          cases a with
          | mk a1 a2=>cases a1; simp only at this ⊢; rw [← this]
        simp [this]
      have ih:=rfieldsloop hn hn1 hk hks d (j+1) (by omega) (by simp [hfs]) h3
      rw [hclr] at ih
      simp only []
      have step:∀ e,iter (Q1n.l9 std) (e+(d+1)+1) [v,rpt N,lv,.int .i64 (j:Int)] s=iter (Q1n.l9 std) (e+d+1) [v,rpt N,lv',.int .i64 ((j+1:Nat):Int)] s2:=fun e=>by
        rw [show e+(d+1)+1=(e+d+1)+1 by omega,r6 rfl]
      revert ih
      cases firstL bs (ks.drop (j+1)) q (fs.map clr++[a]) with
      | ok gs q =>
        rintro ⟨s',l',fs',g1,g2⟩
        exact ⟨s',l',fs',fun e=>(step e).trans (g1 e),g2⟩
      | bad er q =>
        rintro ⟨s',g1,g2⟩
        exact ⟨s',fun e=>(step e).trans (g1 e),g2⟩
theorem rfirst_v {n1 n:Nat} {s:St} {bv kv:Value} {bs ks:List Int} (hf:Fresh s) (hb:Pers n1 s fun s=>Byt s bv (br bs)) (hok:okY bs) (hsz:bs.length≤1000000000) (hk:KL n s kv ks) (hks:ks.length≤1000000) (hn:n≤s.n) (hn1:n1≤s.n) :
    FirstIs s (firstP bs ks) (Q1n.v bv kv s):=by
  have kl:=rkindloop (a0:=bv) hk hks ks.length 0 (by omega) (BIG - ks.length - 1)
  have hB:BIG - ks.length - 1+ks.length+1=BIG:=by unfold BIG; omega
  rw [hB,List.drop_zero] at kl
  have kl:iter (Q1n.l2 std) BIG [bv,kv,.int .i64 0] s=_:=kl
  unfold firstP
  by_cases hkk:∀ k ∈ ks,isKd k
  · rw [if_pos hkk] at kl ⊢
    have hbx:=hb.here.bx
    have B1:bld [.slice none 0 0,.int .i64 0,.int .i64 0] [(0,1,bv)]=some (.agg ⟨[bv,.int .i64 0,.int .i64 0]⟩):=by simp only [sy,reduceIte,Nat.reduceAdd,Nat.reduceLeDiff,Nat.reduceLT,Nat.reduceEqDiff,Int.reduceEq,Int.reduceLT,Int.reduceLE,Int.reduceNe,ly,hbx]
    have A1:alv s (.agg ⟨[bv,.int .i64 0,.int .i64 0]⟩)=some (rpt s.n,s.new (.row 3 [[bv,.int .i64 0,.int .i64 0]] false)):=rfl
    have q1:(s.new (.row 3 [[bv,.int .i64 0,.int .i64 0]] false)).get s.n=some (.row 3 [[bv,.int .i64 0,.int .i64 0]] false):=get_new_same
    have m1:More s (s.new (.row 3 [[bv,.int .i64 0,.int .i64 0]] false)):=.new
    have c1:(s.new (.row 3 [[bv,.int .i64 0,.int .i64 0]] false)).n=s.n+1:=rfl
    generalize s.new (.row 3 [[bv,.int .i64 0,.int .i64 0]] false)=s1 at *
    have hR:RsAt s.n n1 s bv nilB bs [] 0 s1:=⟨⟨m1.fresh hf,q1,hb.to fun x hx=>m1.old x (by omega),hn1,Nat.zero_le _,hsz,hok⟩,.inl ⟨rfl,rfl⟩,fun p hp=>absurd hp List.not_mem_nil,by omega,fun x hx=>m1.old x hx⟩
    have hl:=rfieldsloop hn hn1 hk hks ks.length 0 (by omega) (rfl:([]:List FB).length=0) hR
    rw [List.drop_zero,List.map_nil] at hl
    revert hl
    cases firstL bs ks 0 [] with
    | ok gs p =>
      rintro ⟨s7,lv,fs,g1,g2,g3⟩
      have g:=g1 (BIG - ks.length - 1)
      dsimp only at g
      rw [hB] at g
      have g:iter (Q1n.l9 std) BIG [kv,rpt s.n,.slice none 0 0,.int .i64 0] s1=_:=g
      have nk:nck (rpt s.n)=some (rpt s.n):=rfl
      have f1:fld 1 (rpt s.n)=some (.pointer (some ⟨s.n,0,some 1⟩)):=rfl
      have d1:ldc s7 (.pointer (some ⟨s.n,0,some 1⟩))=some (.int .i64 (p:Int)):=by rw [ldc_row g2.rd.row]; rfl
      have F:=g2.rd.fr
      refine ⟨lv,s7,fs,?_,⟨by have:=g2.le; omega,g2.old,fun _=>F⟩,F,⟨g2.lst.isR.pers F,fun p hp=>⟨(g2.byt p hp).1,(g2.byt p hp).2.byt.pers F⟩⟩,g3,g2.lst.le (by omega),fun p hp=>(g2.byt p hp).2.le (by omega)⟩
      unfold Q1n.v Q1n.t
      simp only [std_bd,std_cnd,std_it,kl,bds,if_true,List.getD_cons_zero,List.getD_cons_succ,B1,A1,g,nk,f1,d1]
    | bad e p =>
      rintro ⟨s7,g1,g2,g3,g4⟩
      have g:=g1 (BIG - ks.length - 1)
      dsimp only at g
      rw [hB] at g
      have g:iter (Q1n.l9 std) BIG [kv,rpt s.n,.slice none 0 0,.int .i64 0] s1=_:=g
      refine ⟨nilB,s7,[],?_,⟨by omega,g4,fun _=>g2⟩,g2,fl_nil s7,rfl,.inl ⟨rfl,rfl⟩,fun p hp=>absurd hp List.not_mem_nil⟩
      unfold Q1n.v Q1n.t
      simp only [std_bd,std_cnd,std_it,kl,bds,if_true,List.getD_cons_zero,List.getD_cons_succ,B1,A1,g]
      rfl
  · rw [if_neg hkk] at kl ⊢
    refine ⟨nilB,s,[],?_,.refl _,hf,fl_nil s,rfl,.inl ⟨rfl,rfl⟩,fun p hp=>absurd hp List.not_mem_nil⟩
    unfold Q1n.v Q1n.t
    simp only [std_bd,std_cnd,std_it,kl,bds,List.getD_cons_zero,List.getD_cons_succ]
    rfl
end Go.Proofs.Yteapmnolmfickaa
