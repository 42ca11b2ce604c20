/-
  Bytes and kinds that are handed in, cut off.
-/
import Derived.Test.YteapmnolmfickaaPakZ
set_option linter.unusedSimpArgs false
set_option linter.unusedVariables false
set_option maxRecDepth 100000
set_option maxHeartbeats 4000000
namespace Go.Proofs.Yteapmnolmfickaa
open Go.Sim Go.Sim.Bt
attribute [local congr] bdc cndc itec gdc gdSc gdUc
end Go.Proofs.Yteapmnolmfickaa
/-
  There and back,plainly: what is written is read,and what is read has just these bytes.
-/
set_option linter.unusedSimpArgs false
set_option linter.unusedVariables false
set_option maxRecDepth 100000
set_option maxHeartbeats 4000000
namespace Go.Proofs.Yteapmnolmfickaa
open Go.Sim Go.Sim.Bt
def Has (bs:List Int):Nat→List Int→Prop
  | _,[]=>True
  | p,y :: l=>bs[p]?=some y∧Has bs (p+1) l
theorem has_append {bs:List Int}:∀ {p:Nat} {l m:List Int},Has bs p (l++m)↔Has bs p l∧Has bs (p+l.length) m
  | p,[],m=>by simp [Has]
  | p,y :: l,m=>by
    simp only [List.cons_append,Has,has_append,List.length_cons,and_assoc]
    rw [show p+1+l.length=p+(l.length+1) by omega]
theorem Has.take {bs:List Int}:∀ {p:Nat} {l:List Int},Has bs p l→(bs.drop p).take l.length=l
  | p,[],h=>rfl
  | p,y :: l,h=>by
    obtain ⟨hp,he⟩:=List.getElem?_eq_some_iff.1 h.1
    rw [List.drop_eq_getElem_cons hp,he,List.length_cons,List.take_succ_cons,h.2.take]
theorem Has.le {bs:List Int}:∀ {p:Nat} {l:List Int},p≤bs.length→Has bs p l→p+l.length≤bs.length
  | p,[],hp,h=>hp
  | p,y :: l,hp,h=>by
    have:=(List.getElem?_eq_some_iff.1 h.1).1
    have:=Has.le (p:=p+1) (by omega) h.2
    simp; omega
theorem numA {bs:List Int} {most:Nat}:∀ (d i x y:Nat) {p:Nat},i+d=9→(0 < i→0 < y)→x+y * 128 ^ i≤most→most≤maxU→Has bs p (numB y)→numL bs most (d+1) i x p=.ok (x+y * 128 ^ i) (p+(numB y).length)
  | d,i,x,y,p,hi,h0,hm,hU,h=>by
    have h9:128 ^ 9=9223372036854775808:=by decide
    unfold numL
    by_cases hy:y < 128
    · rw [numB,dif_pos hy] at h ⊢
      have hb:y % 128=y:=Nat.mod_eq_of_lt hy
      have hc:condN most i x y=true:=by
        refine decide_eq_true ⟨fun e=>by have:=h0 e.1; omega,fun e=>?_,.inr ?_⟩
        · obtain ⟨rfl,e2⟩:=e
          have:=h0 (by omega)
          unfold maxU at hU
          omega
        · rw [if_neg (by omega),hb]; exact hm
      rw [byteP_some h.1,if_pos hc]
      simp only []
      rw [if_pos hy,hb]
      rfl
    · rw [numB,dif_neg hy] at h ⊢
      have hb:(y % 128+128) % 128=y % 128:=by omega
      have hpow:128 ^ (i+1)=128 ^ i * 128:=Nat.pow_succ ..
      have e1:y * 128 ^ i=y % 128 * 128 ^ i+y / 128 * 128 ^ (i+1):=by
        have e0:=Nat.mod_add_div y 128
        calc y * 128 ^ i=(y % 128+128 * (y / 128)) * 128 ^ i:=by rw [e0]
          _=_:=by rw [Nat.add_mul,hpow,Nat.mul_comm 128 (y / 128),Nat.mul_assoc,Nat.mul_comm 128 (128 ^ i)]
      have hq:1≤y / 128:=by omega
      have hge:128 ^ (i+1)≤y / 128 * 128 ^ (i+1):=Nat.le_mul_of_pos_left _ hq
      have i9:i≠9:=fun e=>by
        subst e
        have:128 ^ 10=9223372036854775808 * 128:=by decide
        unfold maxU at hU
        simp only [show 9+1=10 from rfl] at hge e1
        omega
      have hc:condN most i x (y % 128+128)=true:=by
        refine decide_eq_true ⟨fun e=>by omega,fun e=>i9 e.1,.inr ?_⟩
        rw [if_pos (by omega),hb]; omega
      rw [byteP_some h.1,if_pos hc]
      simp only []
      rw [if_neg (by omega),hb]
      obtain ⟨d',rfl⟩:∃ d',d=d'+1:=⟨d - 1,by omega⟩
      rw [numA d' (i+1) (x+y % 128 * 128 ^ i) (y / 128) (by omega) (by omega) (by omega) hU h.2,e1]
      congr 1
      · omega
      · simp; omega
theorem numP_w {bs:List Int} {most y p:Nat} (hm:y≤most) (hU:most≤maxU) (h:Has bs p (numB y)):numP bs most p=.ok y (p+(numB y).length):=by
  unfold numP
  rw [numA 9 0 0 y (by omega) (by omega) (by simpa using hm) hU h]
  simp
theorem numBk {bs:List Int} (hb:okY bs) {most:Nat}:∀ (d i x:Nat) {p a q:Nat},numL bs most d i x p=.ok a q→∃ y,a=x+y * 128 ^ i∧(0 < i→0 < y)∧Has bs p (numB y)∧q=p+(numB y).length
  | 0,i,x,p,a,q,h=>by simp [numL] at h
  | d+1,i,x,p,a,q,h=>by
    unfold numL at h
    split at h
    · cases h
    · rename_i y q' hy
      obtain ⟨hc,rfl,z,hz,hyz⟩:=byteP_ok hy
      obtain ⟨w,rfl,hw⟩:=hb.at hz
      have hyw:y=w:=by rw [hyz]; rfl
      subst hyw
      obtain ⟨c1,c2,c3⟩:=of_decide_eq_true hc
      split at h
      · rename_i h128
        cases h
        refine ⟨y,by rw [Nat.mod_eq_of_lt h128],fun e=>?_,?_,?_⟩
        · exact Nat.pos_of_ne_zero fun e2=>c1 ⟨e,e2⟩
        · rw [numB,dif_pos h128]; exact ⟨hz,trivial⟩
        · rw [numB,dif_pos h128]; rfl
      · rename_i h128
        obtain ⟨y',e1,e2,e3,e4⟩:=numBk hb d (i+1) _ h
        have hp:=e2 (by omega)
        have hn:numB (y % 128+128 * y')=(y:Int) :: numB y':=by
          rw [numB,dif_neg (by omega),show (y % 128+128 * y') / 128=y' by omega,show (y % 128+128 * y') % 128+128=y by omega]
        refine ⟨y % 128+128 * y',?_,fun _=>by omega,?_,?_⟩
        · rw [e1,Nat.pow_succ,Nat.add_mul,Nat.mul_comm (128 ^ i) 128,← Nat.mul_assoc,Nat.mul_comm y' 128,Nat.add_assoc]
        · rw [hn]; exact ⟨hz,e3⟩
        · rw [e4,hn]; simp; omega
theorem numP_r {bs:List Int} (hb:okY bs) {most p a q:Nat} (h:numP bs most p=.ok a q):Has bs p (numB a)∧q=p+(numB a).length:=by
  obtain ⟨y,e1,_,e3,e4⟩:=numBk hb 10 0 0 h
  have:a=y:=by rw [e1]; simp
  subst this
  exact ⟨e3,e4⟩
theorem unzz_zz (i:Int):unzz (zz i)=i:=by
  unfold unzz zz
  split <;> split <;> omega
theorem zz_unzz (x:Nat):zz (unzz x)=x:=by
  unfold unzz zz
  split <;> split <;> omega
theorem intP_w {bs:List Int} {i:Int} {p:Nat} (hi:zz i < 2 ^ 64) (h:Has bs p (numB (zz i))):intP bs p=.ok i (p+(numB (zz i)).length):=by
  unfold intP
  rw [numP_w (by unfold maxU; omega) (Nat.le_refl _) h]
  simp only [unzz_zz]
theorem intP_r {bs:List Int} (hb:okY bs) {p q:Nat} {i:Int} (h:intP bs p=.ok i q):Has bs p (numB (zz i))∧q=p+(numB (zz i)).length:=by
  unfold intP at h
  split at h
  · cases h
  · rename_i x q' hx
    cases h
    rw [zz_unzz]
    exact numP_r hb hx
theorem kb_mod (n:Nat):∀ k m,k≤m→kb (n % 2 ^ (8 * m)) k=kb n k
  | 0,m,_=>rfl
  | k+1,m,h=>by
    unfold kb
    rw [kb_mod n k m (by omega)]
    congr 2
    have e:2 ^ (8 * m)=2 ^ (8 * k) * (256 * 2 ^ (8 * (m - k - 1))):=by
      rw [show 256=2 ^ 8 from rfl,← Nat.pow_add,← Nat.pow_add]; congr 1; omega
    rw [e,Nat.mod_mul_right_div_self,Nat.mod_mul_right_mod]
theorem kb_vp_step {m B:Nat} (h:8≤m):kb (vp m B) ((m+7) / 8)=((B / 2 ^ (m - 8) % 256:Nat):Int) :: kb (vp (m - 8) (B % 2 ^ (m - 8))) ((m - 8+7) / 8):=by
  have ht:(m+7) / 8=(m - 8+7) / 8+1:=by omega
  have hk:∀ n m,kb n (m+1)=((n / 2 ^ (8 * m) % 256:Nat):Int) :: kb n m:=fun _ _=>rfl
  rw [ht,hk]
  have he:8 * ((m+7) / 8) - m=8 * ((m - 8+7) / 8) - (m - 8):=by omega
  have hs:8 * ((m - 8+7) / 8)=(8 * ((m - 8+7) / 8) - (m - 8))+(m - 8):=by omega
  congr 1
  · congr 2
    unfold vp
    rw [he]
    generalize 8 * ((m - 8+7) / 8) - (m - 8)=E at *
    rw [hs,Nat.pow_add,← Nat.div_div_eq_div_mul,Nat.mul_div_cancel _ (Nat.two_pow_pos _)]
  · rw [← kb_mod (vp m B) _ _ (Nat.le_refl _)]
    congr 1
    unfold vp
    rw [he]
    generalize 8 * ((m - 8+7) / 8) - (m - 8)=E at *
    rw [hs,Nat.pow_add,Nat.mul_comm (2 ^ E),Nat.mul_mod_mul_right]
theorem kb_vp_last {m B:Nat} (h0:0 < m) (h:m < 8):kb (vp m B) ((m+7) / 8)=[((B * 2 ^ (8 - m) % 256:Nat):Int)]:=by
  have ht:(m+7) / 8=1:=by omega
  rw [ht]
  unfold kb kb vp
  rw [ht]
  simp
theorem vecA {bs:List Int}:∀ (d m v B:Nat) {p:Nat},m≤8 * d→B < 2 ^ m→Has bs p (kb (vp m B) ((m+7) / 8))→vecL bs d m v p=.ok (v * 2 ^ m+B) (p+(m+7) / 8)
  | 0,m,v,B,p,hd,hB,h=>by
    have:m=0:=by omega
    subst this
    simp at hB
    subst hB
    unfold vecL; simp
  | d+1,m,v,B,p,hd,hB,h=>by
    unfold vecL
    by_cases h0:m=0
    · subst h0
      simp at hB
      subst hB
      simp
    · rw [if_neg h0]
      by_cases h8:8≤m
      · rw [kb_vp_step h8] at h
        have hq:B / 2 ^ (m - 8) < 256:=by
          apply Nat.div_lt_of_lt_mul
          rw [show 256=2 ^ 8 from rfl,← Nat.pow_add,show m - 8+8=m by omega]; exact hB
        have hh:=h.1
        rw [Nat.mod_eq_of_lt hq] at hh
        rw [byteP_some hh,show 8 - m=0 by omega,if_pos (by simp [Nat.mod_one])]
        simp only [Nat.sub_zero,Nat.pow_zero,Nat.div_one]
        rw [vecA d (m - 8) _ _ (by omega) (Nat.mod_lt _ (Nat.two_pow_pos _)) h.2]
        have e:(v * 2 ^ 8+B / 2 ^ (m - 8)) * 2 ^ (m - 8)+B % 2 ^ (m - 8)=v * 2 ^ m+B:=by
          have e1:2 ^ m=2 ^ 8 * 2 ^ (m - 8):=by rw [← Nat.pow_add]; congr 1; omega
          have e2:=Nat.div_add_mod B (2 ^ (m - 8))
          rw [Nat.mul_comm] at e2
          rw [Nat.add_mul,Nat.mul_assoc,← e1,Nat.add_assoc,e2]
        rw [e]
        congr 1
        omega
      · rw [kb_vp_last (by omega) (by omega)] at h
        have hB8:B * 2 ^ (8 - m) < 256:=by
          rw [show 256=2 ^ m * 2 ^ (8 - m) by rw [← Nat.pow_add,show m+(8 - m)=8 by omega]]
          exact Nat.mul_lt_mul_of_pos_right hB (Nat.two_pow_pos _)
        have hh:=h.1
        rw [Nat.mod_eq_of_lt hB8] at hh
        rw [byteP_some hh,if_pos (by simp)]
        simp only []
        rw [Nat.mul_div_cancel _ (Nat.two_pow_pos _),show m - 8=0 by omega,show 8 - (8 - m)=m by omega,show (m+7) / 8=1 by omega]
        cases d with
        | zero=>rfl
        | succ d=>unfold vecL; rw [if_pos rfl]
theorem vecBk {bs:List Int} (hb:okY bs):∀ (d m v:Nat) {p a q:Nat},m≤8 * d→vecL bs d m v p=.ok a q→∃ B,B < 2 ^ m∧a=v * 2 ^ m+B∧Has bs p (kb (vp m B) ((m+7) / 8))∧q=p+(m+7) / 8
  | 0,m,v,p,a,q,hd,h=>by
    have:m=0:=by omega
    subst this
    unfold vecL at h
    cases h
    exact ⟨0,by simp,by simp,trivial,rfl⟩
  | d+1,m,v,p,a,q,hd,h=>by
    unfold vecL at h
    by_cases h0:m=0
    · subst h0
      rw [if_pos rfl] at h
      cases h
      exact ⟨0,by simp,by simp,trivial,rfl⟩
    · rw [if_neg h0] at h
      split at h
      · cases h
      · rename_i y q' hy
        obtain ⟨hc,rfl,z,hz,hyz⟩:=byteP_ok hy
        obtain ⟨w,rfl,hw⟩:=hb.at hz
        have hyw:y=w:=by rw [hyz]; rfl
        subst hyw
        have hc:=of_decide_eq_true hc
        obtain ⟨B',e1,e2,e3,e4⟩:=vecBk hb d (m - 8) _ (by omega) h
        by_cases h8:8≤m
        · rw [show 8 - m=0 by omega] at e2
          simp only [Nat.sub_zero,Nat.pow_zero,Nat.div_one] at e2
          have em:2 ^ m=2 ^ 8 * 2 ^ (m - 8):=by rw [← Nat.pow_add]; congr 1; omega
          have hd1:(y * 2 ^ (m - 8)+B') / 2 ^ (m - 8)=y:=by
            rw [Nat.mul_comm,Nat.mul_add_div (Nat.two_pow_pos _),Nat.div_eq_of_lt e1,Nat.add_zero]
          have hm1:(y * 2 ^ (m - 8)+B') % 2 ^ (m - 8)=B':=by
            rw [Nat.mul_comm,Nat.mul_add_mod,Nat.mod_eq_of_lt e1]
          refine ⟨y * 2 ^ (m - 8)+B',?_,?_,?_,by rw [e4]; omega⟩
          · have:=Nat.mul_le_mul_right (2 ^ (m - 8)) (show y≤255 by omega)
            rw [em]; omega
          · rw [e2,em,Nat.add_mul,Nat.mul_assoc]; omega
          · rw [kb_vp_step h8,hd1,hm1,Nat.mod_eq_of_lt (by omega)]
            exact ⟨hz,e3⟩
        · have em:m - 8=0:=by omega
          rw [em] at e1 e2
          simp at e1
          subst e1
          rw [show 8 - (8 - m)=m by omega] at e2
          have hyd:y / 2 ^ (8 - m) * 2 ^ (8 - m)=y:=Nat.div_mul_cancel (Nat.dvd_of_mod_eq_zero hc)
          refine ⟨y / 2 ^ (8 - m),?_,by rw [e2]; simp,?_,by rw [e4]; omega⟩
          · apply Nat.div_lt_of_lt_mul
            rw [← Nat.pow_add,show 8 - m+m=8 by omega]; exact hw
          · rw [kb_vp_last (by omega) (by omega),hyd,Nat.mod_eq_of_lt hw]
            exact ⟨hz,trivial⟩
theorem vecP_w {bs:List Int} {L B p:Nat} (h1:L≤32) (h2:B < 2 ^ L) (h:Has bs p (vecB L B)):vecP bs p=.ok (L,B) (p+(vecB L B).length):=by
  unfold vecB at h ⊢
  unfold vecP
  rw [byteP_some h.1,if_pos (decide_eq_true h1)]
  simp only []
  rw [vecA 5 L 0 B (by omega) h2 h.2]
  simp [kb_length]; omega
theorem vecP_r {bs:List Int} (hb:okY bs) {p q:Nat} {a:Nat×Nat} (h:vecP bs p=.ok a q):a.1≤32∧a.2 < 2 ^ a.1∧Has bs p (vecB a.1 a.2)∧q=p+(vecB a.1 a.2).length:=by
  unfold vecP at h
  split at h
  · cases h
  · rename_i n q' hy
    obtain ⟨hc,rfl,z,hz,hyz⟩:=byteP_ok hy
    obtain ⟨w,rfl,hw⟩:=hb.at hz
    have hyw:n=w:=by rw [hyz]; rfl
    subst hyw
    have hc:=of_decide_eq_true hc
    split at h
    · cases h
    · rename_i v q'' hv
      cases h
      obtain ⟨B,e1,e2,e3,e4⟩:=vecBk hb 5 n 0 (by omega) hv
      have:v=B:=by rw [e2]; simp
      subst this
      refine ⟨hc,e1,⟨hz,e3⟩,?_⟩
      simp only [vecB,List.length_cons,kb_length]; omega
theorem keyA {bs:List Int}:∀ (d x n:Nat) {p:Nat},n < 2 ^ (8 * d)→Has bs p (kb n d)→keyL bs d x p=.ok (x * 2 ^ (8 * d)+n) (p+d)
  | 0,x,n,p,hn,h=>by
    simp at hn
    subst hn
    unfold keyL; simp
  | d+1,x,n,p,hn,h=>by
    have hq:n / 2 ^ (8 * d) < 256:=by
      apply Nat.div_lt_of_lt_mul
      rw [show 256=2 ^ 8 from rfl,← Nat.pow_add]; exact hn
    unfold kb at h
    have hh:=h.1
    rw [Nat.mod_eq_of_lt hq] at hh
    unfold keyL
    rw [byteP_some hh,if_pos rfl]
    simp only []
    have h2:=h.2
    rw [← kb_mod n d d (Nat.le_refl _)] at h2
    rw [keyA d _ (n % 2 ^ (8 * d)) (Nat.mod_lt _ (Nat.two_pow_pos _)) h2]
    have e:(x * 256+n / 2 ^ (8 * d)) * 2 ^ (8 * d)+n % 2 ^ (8 * d)=x * 2 ^ (8 * (d+1))+n:=by
      have e1:2 ^ (8 * (d+1))=256 * 2 ^ (8 * d):=by rw [show 256=2 ^ 8 from rfl,← Nat.pow_add]; congr 1; omega
      have e2:=Nat.div_add_mod n (2 ^ (8 * d))
      rw [Nat.mul_comm] at e2
      rw [Nat.add_mul,Nat.mul_assoc,← e1,Nat.add_assoc,e2]
    rw [e]
    congr 1
    omega
theorem keyBk {bs:List Int} (hb:okY bs):∀ (d x:Nat) {p a q:Nat},keyL bs d x p=.ok a q→∃ n,n < 2 ^ (8 * d)∧a=x * 2 ^ (8 * d)+n∧Has bs p (kb n d)∧q=p+d
  | 0,x,p,a,q,h=>by
    unfold keyL at h
    cases h
    exact ⟨0,by simp,by simp,trivial,rfl⟩
  | d+1,x,p,a,q,h=>by
    unfold keyL at h
    split at h
    · cases h
    · rename_i y q' hy
      obtain ⟨hc,rfl,z,hz,hyz⟩:=byteP_ok hy
      obtain ⟨w,rfl,hw⟩:=hb.at hz
      have hyw:y=w:=by rw [hyz]; rfl
      subst hyw
      obtain ⟨n',e1,e2,e3,e4⟩:=keyBk hb d _ h
      have em:2 ^ (8 * (d+1))=256 * 2 ^ (8 * d):=by rw [show 256=2 ^ 8 from rfl,← Nat.pow_add]; congr 1; omega
      have hd1:(y * 2 ^ (8 * d)+n') / 2 ^ (8 * d)=y:=by
        rw [Nat.mul_comm,Nat.mul_add_div (Nat.two_pow_pos _),Nat.div_eq_of_lt e1,Nat.add_zero]
      have hm1:(y * 2 ^ (8 * d)+n') % 2 ^ (8 * d)=n':=by
        rw [Nat.mul_comm,Nat.mul_add_mod,Nat.mod_eq_of_lt e1]
      refine ⟨y * 2 ^ (8 * d)+n',?_,?_,?_,by omega⟩
      · have:=Nat.mul_le_mul_right (2 ^ (8 * d)) (show y≤255 by omega)
        rw [em]; omega
      · rw [e2,em,Nat.add_mul,Nat.mul_assoc]; omega
      · unfold kb
        rw [hd1,Nat.mod_eq_of_lt hw,← kb_mod _ d d (Nat.le_refl _),hm1]
        exact ⟨hz,e3⟩
theorem bytesA {bs:List Int}:∀ (l acc:List Int) {p:Nat},okY l→Has bs p l→bytesL bs l.length acc p=.ok (acc++l) (p+l.length)
  | [],acc,p,hl,h=>by simp [bytesL]
  | y :: l,acc,p,hl,h=>by
    obtain ⟨z,rfl,hz⟩:∃ z:Nat,y=z∧z < 256:=by
      have:=hl y (by simp)
      exact ⟨y.toNat,by omega,by omega⟩
    rw [List.length_cons]
    unfold bytesL
    rw [byteP_some h.1,if_pos rfl]
    simp only []
    rw [bytesA l _ (fun y hy=>hl y (by simp [hy])) h.2]
    simp; omega
theorem bytesBk {bs:List Int} (hb:okY bs):∀ (n:Nat) {acc r:List Int} {p q:Nat},bytesL bs n acc p=.ok r q→∃ l,r=acc++l∧l.length=n∧okY l∧Has bs p l∧q=p+n
  | 0,acc,r,p,q,h=>by
    unfold bytesL at h
    cases h
    exact ⟨[],by simp,rfl,fun y hy=>absurd hy List.not_mem_nil,trivial,rfl⟩
  | n+1,acc,r,p,q,h=>by
    unfold bytesL at h
    split at h
    · cases h
    · rename_i y q' hy
      obtain ⟨hc,rfl,z,hz,hyz⟩:=byteP_ok hy
      obtain ⟨w,rfl,hw⟩:=hb.at hz
      have hyw:y=w:=by rw [hyz]; rfl
      subst hyw
      obtain ⟨l,e1,e2,e3,e4,e5⟩:=bytesBk hb n h
      refine ⟨(y:Int) :: l,by rw [e1]; simp,by simp [e2],fun x hx=>?_,⟨hz,e4⟩,by omega⟩
      rcases List.mem_cons.1 hx with rfl | hx
      · omega
      · exact e3 x hx
theorem keyP_w {bs:List Int} {r:Int} {n p:Nat} (ok:okK r n) (hn:n < 18446744073709551616) (h:Has bs p (keyB r n)):∃ m:Nat,r=(m:Int)∧keyP bs p=.ok (m,n) (p+(keyB r n).length):=by
  have hr:r=1∨r=2∨r=3:=by unfold okK at ok; omega
  have hw:IntKind.u8.wrap r=r:=wrapu8 (by omega) (by omega)
  unfold keyB at h ⊢
  rw [hw] at h ⊢
  obtain ⟨m,rfl⟩:∃ m:Nat,r=m:=⟨r.toNat,by omega⟩
  refine ⟨m,rfl,?_⟩
  unfold keyP
  rw [byteP_some h.1,if_pos (decide_eq_true (by omega))]
  simp only []
  by_cases h2:m=2
  · subst h2
    have h3:=h.2
    have h3:Has bs (p+1) (kb n 8):=h3
    have hk:=keyA 8 0 n (by omega) h3
    simp [hk,kb_length]
  · have hn0:n=0:=by unfold okK at ok; omega
    subst hn0
    rw [if_neg h2,if_neg (by omega)]
    rfl
theorem keyP_r {bs:List Int} (hb:okY bs) {p q:Nat} {a:Nat×Nat} (h:keyP bs p=.ok a q):okK a.1 a.2∧a.2 < 2 ^ 64∧Has bs p (keyB a.1 a.2)∧q=p+(keyB a.1 a.2).length:=by
  unfold keyP at h
  split at h
  · cases h
  · rename_i r q' hy
    obtain ⟨hc,rfl,z,hz,hyz⟩:=byteP_ok hy
    obtain ⟨w,rfl,hw⟩:=hb.at hz
    have hyw:r=w:=by rw [hyz]; rfl
    subst hyw
    obtain ⟨c1,c2⟩:=of_decide_eq_true hc
    have hwr:IntKind.u8.wrap (r:Int)=(r:Int):=wrapu8 (by omega) (by omega)
    split at h
    · rename_i h2
      subst h2
      split at h
      · cases h
      · rename_i v q'' hv
        cases h
        obtain ⟨n,e1,e2,e3,e4⟩:=keyBk hb 8 0 hv
        have:v=n:=by rw [e2]; simp
        subst this
        refine ⟨.inl rfl,by simpa using e1,?_,?_⟩
        · have e:keyB ((2:Nat):Int) v=((2:Nat):Int) :: kb v 8:=rfl
          show Has bs p (keyB ((2:Nat):Int) v)
          rw [e]
          exact ⟨hz,e3⟩
        · have e:keyB ((2:Nat):Int) v=((2:Nat):Int) :: kb v 8:=rfl
          show q=p+(keyB ((2:Nat):Int) v).length
          rw [e]
          simp [kb_length]; omega
    · rename_i h2
      cases h
      refine ⟨?_,Nat.two_pow_pos _,?_,?_⟩
      · unfold okK; simp only; omega
      · unfold keyB
        rw [if_neg (by simp only; omega),hwr]
        exact ⟨hz,trivial⟩
      · unfold keyB
        rw [if_neg (by simp only; omega)]
        rfl
theorem bts_nil {l:List Int} (h:(⟨⟨bts l⟩⟩:ByteArray)=noB):l=[]:=by
  cases l with
  | nil=>rfl
  | cons a l =>
    unfold noB at h
    injection h with h
    injection h with h
    simp [bts] at h
theorem fieldP_w {bs:List Int} {f:Fd} {l:List Int} {p:Nat} (a:FdA f) (ok:okP (f,l)) (hl:okY l) (h:Has bs p (wB f l)):fieldP bs f.k p=.ok (clr (f,l)) (p+(wB f l).length):=by
  obtain ⟨k,n,i,t,b,vl,vb,kr,kn,id,rr,rn,rl,rb⟩:=f
  obtain ⟨f1,f2,f3,f4,f5,f6,f7,f8,f9,f10,f11,f12⟩:=a
  obtain ⟨⟨k1,k2⟩,sm,o4,o5,o6,o7⟩:=ok
  simp only at *
  have c:k=1∨k=2∨k=3∨k=4∨k=5∨k=6∨k=7:=by omega
  rcases c with rfl | rfl | rfl | rfl | rfl | rfl | rfl
  · simp [sameP,onlyF,ownB] at sm
    obtain ⟨rfl,rfl,hb,⟨rfl,rfl⟩,⟨rfl,rfl⟩,rfl,rfl,rfl,rfl,rfl⟩:=sm
    have hl:=bts_nil hb.symm
    subst hl
    obtain ⟨m,rfl⟩:∃ m:Nat,n=m:=⟨n.toNat,by omega⟩
    simp only [wB,if_true,Int.toNat_natCast] at h ⊢
    unfold fieldP
    rw [if_pos rfl,numP_w (by unfold maxU; omega) (Nat.le_refl _) h]
    rfl
  · simp [sameP,onlyF,ownB] at sm
    obtain ⟨rfl,rfl,hb,⟨rfl,rfl⟩,⟨rfl,rfl⟩,rfl,rfl,rfl,rfl,rfl⟩:=sm
    have hl:=bts_nil hb.symm
    subst hl
    have e:wB ⟨2,0,i,false,b,0,0,0,0,0,0,0,0,0⟩ []=numB (zz i):=rfl
    rw [e] at h ⊢
    unfold fieldP
    rw [if_neg (by omega),if_pos rfl,intP_w (zz_lt f3 f4) h]
    rfl
  · simp [sameP,onlyF,ownB] at sm
    obtain ⟨rfl,rfl,hb,⟨rfl,rfl⟩,⟨rfl,rfl⟩,rfl,rfl,rfl,rfl,rfl⟩:=sm
    have hl:=bts_nil hb.symm
    subst hl
    have e:wB ⟨3,0,0,t,b,0,0,0,0,0,0,0,0,0⟩ []=[((if t=true then 1 else 0:Nat):Int)]:=by cases t <;> rfl
    rw [e] at h ⊢
    unfold fieldP
    rw [if_neg (by omega),if_neg (by omega),if_pos rfl,byteP_some h.1]
    cases t <;> rfl
  · simp [sameP,onlyF,ownB] at sm
    obtain ⟨rfl,rfl,rfl,⟨rfl,rfl⟩,⟨rfl,rfl⟩,rfl,rfl,rfl,rfl,rfl⟩:=sm
    have hn:=o4 rfl
    have e:wB ⟨4,0,0,false,b,0,0,0,0,0,0,0,0,0⟩ l=numB l.length++l:=rfl
    rw [e] at h ⊢
    obtain ⟨h1,h2⟩:=has_append.1 h
    unfold fieldP
    rw [if_neg (by omega),if_neg (by omega),if_neg (by omega),if_pos rfl,numP_w hn (by unfold maxU; omega) h1]
    simp only []
    rw [bytesA l [] hl h2]
    simp only [List.nil_append,List.length_append,Nat.add_assoc]
    rfl
  · simp [sameP,onlyF,ownB] at sm
    obtain ⟨rfl,rfl,rfl,hb,⟨rfl,rfl⟩,rfl,rfl,rfl,rfl,rfl⟩:=sm
    have hl:=bts_nil hb.symm
    subst hl
    obtain ⟨L,B,rfl,rfl,g1,g2⟩:=o5 rfl
    have e:wB ⟨5,0,0,false,b,(L:Int),(B:Int),0,0,0,0,0,0,0⟩ []=vecB L B:=rfl
    rw [e] at h ⊢
    unfold fieldP
    rw [if_neg (by omega),if_neg (by omega),if_neg (by omega),if_neg (by omega),if_pos rfl,vecP_w g1 g2 h]
    rfl
  · simp [sameP,onlyF,ownB] at sm
    obtain ⟨rfl,rfl,rfl,hb,⟨rfl,rfl⟩,rfl,rfl,rfl,rfl,rfl⟩:=sm
    have hl:=bts_nil hb.symm
    subst hl
    obtain ⟨m,rfl⟩:∃ m:Nat,kn=m:=⟨kn.toNat,by omega⟩
    have e:wB ⟨6,0,0,false,b,0,0,kr,(m:Int),0,0,0,0,0⟩ []=keyB kr m:=rfl
    rw [e] at h ⊢
    unfold fieldP
    obtain ⟨r,rfl,hk⟩:=keyP_w (o6 rfl) (by omega) h
    rw [if_neg (by omega),if_neg (by omega),if_neg (by omega),if_neg (by omega),if_neg (by omega),if_pos rfl,hk]
    rfl
  · simp [sameP,onlyF,ownB] at sm
    obtain ⟨rfl,rfl,rfl,hb,⟨rfl,rfl⟩,rfl,rfl⟩:=sm
    have hl:=bts_nil hb.symm
    subst hl
    obtain ⟨ok,L,B,rfl,rfl,g1,g2⟩:=o7 rfl
    obtain ⟨m,rfl⟩:∃ m:Nat,rn=m:=⟨rn.toNat,by omega⟩
    have e:wB ⟨7,0,0,false,b,0,0,0,0,id,rr,(m:Int),(L:Int),(B:Int)⟩ []=(numB (zz id)++keyB rr m)++vecB L B:=rfl
    rw [e] at h ⊢
    obtain ⟨h12,h3⟩:=has_append.1 h
    obtain ⟨h1,h2⟩:=has_append.1 h12
    rw [List.length_append,← Nat.add_assoc] at h3
    obtain ⟨r,rfl,hk⟩:=keyP_w ok (by omega) h2
    unfold fieldP
    rw [if_neg (by omega),if_neg (by omega),if_neg (by omega),if_neg (by omega),if_neg (by omega),if_neg (by omega),if_pos rfl,intP_w (zz_lt f8 f9) h1]
    simp only []
    rw [hk]
    simp only []
    rw [vecP_w g1 g2 h3]
    simp only [List.length_append,Nat.add_assoc]
    rfl
end Go.Proofs.Yteapmnolmfickaa
/-
  There and back,plainly: a field that is read; rows of fields.
-/
set_option linter.unusedSimpArgs false
set_option linter.unusedVariables false
set_option maxRecDepth 100000
set_option maxHeartbeats 4000000
namespace Go.Proofs.Yteapmnolmfickaa
open Go.Sim Go.Sim.Bt
theorem okP_mk {f:Fd} {l:List Int} (k1:isKd f.k) (sm:sameP (onlyF f) f (ownB f ⟨⟨bts l⟩⟩) ⟨⟨bts l⟩⟩) (h4:f.k=4→l.length≤65536) (h5:f.k=5→okV f.vl f.vb) (h6:f.k=6→okK f.kr f.kn) (h7:f.k=7→okK f.rr f.rn∧okV f.rl f.rb):okP (f,l):=⟨k1,sm,h4,h5,h6,h7⟩
def Got (bs:List Int) (k:Int) (p q:Nat) (a:FB):Prop:=okP a∧okY a.2∧a.1.k=k∧Has bs p (wB a.1 a.2)∧q=p+(wB a.1 a.2).length
theorem fieldP_r {bs:List Int} (hb:okY bs) {k:Int} {p q:Nat} {a:FB} (hk:isKd k) (h:fieldP bs k p=.ok a q):Got bs k p q a:=by
  have no:okY ([]:List Int):=fun y hy=>absurd hy List.not_mem_nil
  have c:k=1∨k=2∨k=3∨k=4∨k=5∨k=6∨k=7:=by
    have:=hk.1; have:=hk.2; omega
  rcases c with rfl | rfl | rfl | rfl | rfl | rfl | rfl
  · unfold fieldP at h
    rw [if_pos rfl] at h
    split at h
    · cases h
    · rename_i x q' hx
      cases h
      obtain ⟨e1,e2⟩:=numP_r hb hx
      have e:wB { fd0 1 with n:=(x:Int) } []=numB x:=by simp [wB,fd0]
      refine ⟨okP_mk hk (by simp [sameP,onlyF,ownB,fd0,bts,noB]) (by simp [fd0]) (by simp [fd0]) (by simp [fd0]) (by simp [fd0]),no,rfl,?_,?_⟩
      · rw [e]; exact e1
      · rw [e]; exact e2
  · unfold fieldP at h
    rw [if_neg (by omega),if_pos rfl] at h
    split at h
    · cases h
    · rename_i x q' hx
      cases h
      obtain ⟨e1,e2⟩:=intP_r hb hx
      have e:wB { fd0 2 with i:=x } []=numB (zz x):=by simp [wB,fd0]
      refine ⟨okP_mk hk (by simp [sameP,onlyF,ownB,fd0,bts,noB]) (by simp [fd0]) (by simp [fd0]) (by simp [fd0]) (by simp [fd0]),no,rfl,?_,?_⟩
      · rw [e]; exact e1
      · rw [e]; exact e2
  · unfold fieldP at h
    rw [if_neg (by omega),if_neg (by omega),if_pos rfl] at h
    split at h
    · cases h
    · rename_i y q' hy
      cases h
      obtain ⟨hc,rfl,z,hz,hyz⟩:=byteP_ok hy
      obtain ⟨w,rfl,hw⟩:=hb.at hz
      have hyw:y=w:=by rw [hyz]; rfl
      subst hyw
      have hc:=of_decide_eq_true hc
      have e:wB { fd0 3 with t:=decide (y=1) } []=[(y:Int)]:=by
        have:y=0∨y=1:=by omega
        rcases this with rfl | rfl <;> simp [wB,fd0]
      refine ⟨okP_mk hk (by simp [sameP,onlyF,ownB,fd0,bts,noB]) (by simp [fd0]) (by simp [fd0]) (by simp [fd0]) (by simp [fd0]),no,rfl,?_,?_⟩
      · rw [e]; exact ⟨hz,trivial⟩
      · rw [e]; rfl
  · unfold fieldP at h
    rw [if_neg (by omega),if_neg (by omega),if_neg (by omega),if_pos rfl] at h
    split at h
    · cases h
    · rename_i n q' hn
      split at h
      · cases h
      · rename_i l q'' hl
        cases h
        obtain ⟨e1,e2⟩:=numP_r hb hn
        obtain ⟨l',g1,g2,g3,g4,g5⟩:=bytesBk hb n hl
        rw [List.nil_append] at g1
        subst g1
        have e:wB (fd0 4) l=numB l.length++l:=by simp [wB,fd0]
        refine ⟨okP_mk hk (by simp [sameP,onlyF,ownB,fd0]) (fun _=>by rw [g2]; exact numP_le hn) (by simp [fd0]) (by simp [fd0]) (by simp [fd0]),g3,rfl,?_,?_⟩
        · rw [e,g2]
          exact has_append.2 ⟨e1,by rw [← e2]; exact g4⟩
        · rw [e,g2,List.length_append,g2]; omega
  · unfold fieldP at h
    rw [if_neg (by omega),if_neg (by omega),if_neg (by omega),if_neg (by omega),if_pos rfl] at h
    split at h
    · cases h
    · rename_i v q' hv
      cases h
      obtain ⟨e1,e2,e3,e4⟩:=vecP_r hb hv
      have e:wB { fd0 5 with vl:=(v.1:Int),vb:=(v.2:Int) } []=vecB v.1 v.2:=by simp [wB,fd0]
      refine ⟨okP_mk hk (by simp [sameP,onlyF,ownB,fd0,bts,noB]) (by simp [fd0]) (fun _=>⟨v.1,v.2,rfl,rfl,e1,e2⟩) (by simp [fd0]) (by simp [fd0]),no,rfl,?_,?_⟩
      · rw [e]; exact e3
      · rw [e]; exact e4
  · unfold fieldP at h
    rw [if_neg (by omega),if_neg (by omega),if_neg (by omega),if_neg (by omega),if_neg (by omega),if_pos rfl] at h
    split at h
    · cases h
    · rename_i v q' hv
      cases h
      obtain ⟨e1,e2,e3,e4⟩:=keyP_r hb hv
      have e:wB { fd0 6 with kr:=(v.1:Int),kn:=(v.2:Int) } []=keyB v.1 v.2:=by simp [wB,fd0]
      refine ⟨okP_mk hk (by simp [sameP,onlyF,ownB,fd0,bts,noB]) (by simp [fd0]) (by simp [fd0]) (fun _=>e1) (by simp [fd0]),no,rfl,?_,?_⟩
      · rw [e]; exact e3
      · rw [e]; exact e4
  · unfold fieldP at h
    rw [if_neg (by omega),if_neg (by omega),if_neg (by omega),if_neg (by omega),if_neg (by omega),if_neg (by omega),if_pos rfl] at h
    split at h
    · cases h
    · rename_i i q1 hi
      split at h
      · cases h
      · rename_i u q2 hu
        split at h
        · cases h
        · rename_i v q3 hv
          cases h
          obtain ⟨i1,i2⟩:=intP_r hb hi
          obtain ⟨e1,e2,e3,e4⟩:=keyP_r hb hu
          obtain ⟨g1,g2,g3,g4⟩:=vecP_r hb hv
          have e:wB { fd0 7 with id:=i,rr:=(u.1:Int),rn:=(u.2:Int),rl:=(v.1:Int),rb:=(v.2:Int) } []=(numB (zz i)++keyB u.1 u.2)++vecB v.1 v.2:=by simp [wB,fd0]
          refine ⟨okP_mk hk (by simp [sameP,onlyF,ownB,fd0,bts,noB]) (by simp [fd0]) (by simp [fd0]) (by simp [fd0]) (fun _=>⟨e1,v.1,v.2,rfl,rfl,g1,g2⟩),no,rfl,?_,?_⟩
          · rw [e]
            refine has_append.2 ⟨has_append.2 ⟨i1,by rw [← i2]; exact e3⟩,?_⟩
            rw [List.length_append,← Nat.add_assoc,← i2,← e4]
            exact g3
          · rw [e,g4,e4,i2,List.length_append,List.length_append]; omega
theorem firstL_w {bs:List Int}:∀ (fs:List FB) {p:Nat} {gs:List FB},(∀ f ∈ fs,FdA f.1∧okP f∧okY f.2)→Has bs p (wBs fs)→firstL bs (fs.map fun f=>f.1.k) p gs=.ok (gs++fs.map clr) (p+(wBs fs).length)
  | [],p,gs,hf,h=>by simp [firstL,wBs]
  | f :: fs,p,gs,hf,h=>by
    obtain ⟨a1,a2,a3⟩:=hf f (by simp)
    obtain ⟨h1,h2⟩:=has_append.1 (show Has bs p (wB f.1 f.2++wBs fs) from h)
    rw [List.map_cons]
    unfold firstL
    rw [fieldP_w a1 a2 a3 h1]
    simp only []
    rw [firstL_w fs (fun x hx=>hf x (by simp [hx])) h2]
    simp [wBs,Nat.add_assoc]
theorem byteP_ne {bs:List Int} {c:Nat→Bool} {p:Nat} {e:Int} {q:Nat} (h:byteP bs c p=.bad e q):e≠0:=by
  unfold byteP at h
  split at h
  · cases h; decide
  · split at h
    · cases h
    · cases h; decide
theorem numL_ne {bs:List Int} {most:Nat}:∀ {d i x p:Nat} {e:Int} {q:Nat},i+d=9→numL bs most (d+1) i x p=.bad e q→e≠0
  | d,i,x,p,e,q,hi,h=>by
    unfold numL at h
    split at h
    · rename_i hb; cases h; exact byteP_ne hb
    · rename_i y q' hy
      split at h
      · cases h
      · rename_i h128
        cases d with
        | zero =>
          have:=(of_decide_eq_true (byteP_ok hy).1).2.1
          exact absurd ⟨by omega,by omega⟩ this
        | succ d=>exact numL_ne (by omega) h
theorem numP_ne {bs:List Int} {most p:Nat} {e:Int} {q:Nat} (h:numP bs most p=.bad e q):e≠0:=numL_ne (by omega) h
theorem intP_ne {bs:List Int} {p:Nat} {e:Int} {q:Nat} (h:intP bs p=.bad e q):e≠0:=by
  unfold intP at h
  split at h
  · rename_i hb; cases h; exact numP_ne hb
  · cases h
theorem vecL_ne {bs:List Int}:∀ {d m v p:Nat} {e:Int} {q:Nat},vecL bs d m v p=.bad e q→e≠0
  | 0,m,v,p,e,q,h=>by unfold vecL at h; cases h
  | d+1,m,v,p,e,q,h=>by
    unfold vecL at h
    split at h
    · cases h
    · split at h
      · rename_i hb; cases h; exact byteP_ne hb
      · exact vecL_ne h
theorem vecP_ne {bs:List Int} {p:Nat} {e:Int} {q:Nat} (h:vecP bs p=.bad e q):e≠0:=by
  unfold vecP at h
  split at h
  · rename_i hb; cases h; exact byteP_ne hb
  · split at h
    · rename_i hb; cases h; exact vecL_ne hb
    · cases h
theorem keyL_ne {bs:List Int}:∀ {d x p:Nat} {e:Int} {q:Nat},keyL bs d x p=.bad e q→e≠0
  | 0,x,p,e,q,h=>by unfold keyL at h; cases h
  | d+1,x,p,e,q,h=>by
    unfold keyL at h
    split at h
    · rename_i hb; cases h; exact byteP_ne hb
    · exact keyL_ne h
theorem keyP_ne {bs:List Int} {p:Nat} {e:Int} {q:Nat} (h:keyP bs p=.bad e q):e≠0:=by
  unfold keyP at h
  split at h
  · rename_i hb; cases h; exact byteP_ne hb
  · split at h
    · split at h
      · rename_i hb; cases h; exact keyL_ne hb
      · cases h
    · cases h
theorem bytesL_ne {bs:List Int}:∀ {n:Nat} {l:List Int} {p:Nat} {e:Int} {q:Nat},bytesL bs n l p=.bad e q→e≠0
  | 0,l,p,e,q,h=>by unfold bytesL at h; cases h
  | n+1,l,p,e,q,h=>by
    unfold bytesL at h
    split at h
    · rename_i hb; cases h; exact byteP_ne hb
    · exact bytesL_ne h
theorem fieldP_ne {bs:List Int} {k:Int} {p:Nat} {e:Int} {q:Nat} (h:fieldP bs k p=.bad e q):e≠0:=by
  unfold fieldP at h
  repeat' (split at h)
  all_goals first | (cases h; done) | (cases h; first | exact numP_ne (by assumption) | exact intP_ne (by assumption) | exact byteP_ne (by assumption) | exact bytesL_ne (by assumption) | exact vecP_ne (by assumption) | exact keyP_ne (by assumption))
end Go.Proofs.Yteapmnolmfickaa
/-
  Bytes cut at any place; kinds of fields; what is written is bytes.
-/
set_option linter.unusedSimpArgs false
set_option linter.unusedVariables false
set_option maxRecDepth 100000
set_option maxHeartbeats 4000000
namespace Go.Proofs.Yteapmnolmfickaa
open Go.Sim Go.Sim.Bt
attribute [local congr] bdc cndc itec gdc gdSc gdUc
theorem okY_nil:okY []:=fun y hy=>absurd hy List.not_mem_nil
theorem okY_cons {y:Int} {l:List Int} (h:0≤y∧y < 256) (k:okY l):okY (y :: l):=fun z hz=>by
  rcases List.mem_cons.1 hz with rfl | hz
  · exact h
  · exact k z hz
theorem okY_app {l m:List Int} (h:okY l) (k:okY m):okY (l++m):=fun z hz=>by
  rcases List.mem_append.1 hz with hz | hz
  · exact h z hz
  · exact k z hz
theorem okY_numB:∀ (n x:Nat),x≤n→okY (numB x)
  | n,x,h=>by
    rw [numB]
    split
    · exact okY_cons (by omega) okY_nil
    · cases n with
      | zero=>omega
      | succ n=>exact okY_cons (by omega) (okY_numB n (x / 128) (by omega))
theorem okY_kb (n:Nat):∀ m,okY (kb n m)
  | 0=>okY_nil
  | m+1=>okY_cons (by omega) (okY_kb n m)
theorem okY_keyB (r:Int) (n:Nat):okY (keyB r n):=by
  unfold keyB
  refine okY_cons (by rw [wrapu8_eq]; omega) ?_
  split
  · exact okY_kb n 8
  · exact okY_nil
theorem okY_vecB {L B:Int} (h:okV L B):okY (vecB L.toNat B.toNat):=by
  obtain ⟨n,b,rfl,rfl,h1,h2⟩:=h
  exact okY_cons (by simp only [Int.toNat_natCast]; omega) (okY_kb _ _)
theorem okY_wB {f:Fd} {l:List Int} (ok:okP (f,l)) (hl:okY l):okY (wB f l):=by
  unfold wB
  split
  · exact okY_numB _ _ (Nat.le_refl _)
  · split
    · exact okY_numB _ _ (Nat.le_refl _)
    · split
      · refine okY_cons ?_ okY_nil
        split <;> omega
      · split
        · exact okY_app (okY_numB _ _ (Nat.le_refl _)) hl
        · split
          · rename_i h5; exact okY_vecB (ok.2.2.2.1 h5)
          · split
            · exact okY_keyB _ _
            · rename_i h1 h2 h3 h4 h5 h6
              have h7:f.k=7:=by have:=ok.1.1; have:=ok.1.2; simp only at *; omega
              exact okY_app (okY_app (okY_numB _ _ (Nat.le_refl _)) (okY_keyB _ _)) (okY_vecB (ok.2.2.2.2.2 h7).2)
theorem okY_wBs:∀ {fs:List FB},(∀ f ∈ fs,FdA f.1∧okP f∧okY f.2)→okY (wBs fs)∧(wBs fs).length≤65600 * fs.length
  | [],h=>⟨okY_nil,by simp [wBs]⟩
  | f :: fs,h=>by
    obtain ⟨h1,h2⟩:=okY_wBs (fs:=fs) fun x hx=>h x (by simp [hx])
    obtain ⟨a1,a2,a3⟩:=h f (by simp)
    have:=wB_len a1 a2
    refine ⟨okY_app (okY_wB a2 a3) h1,?_⟩
    rw [wBs,List.length_append,List.length_cons]
    have e:65600 * (fs.length+1)=65600 * fs.length+65600:=by rw [Nat.mul_succ]
    omega
end Go.Proofs.Yteapmnolmfickaa
