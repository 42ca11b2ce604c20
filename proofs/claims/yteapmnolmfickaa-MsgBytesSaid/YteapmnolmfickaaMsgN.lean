/-
  Two packets that begin the same bytes are the same.
-/
import Derived.Test.YteapmnolmfickaaMsgM
set_option linter.unusedSimpArgs false
set_option linter.unusedVariables false
set_option maxRecDepth 100000
set_option maxHeartbeats 4000000
namespace Go.Proofs.Yteapmnolmfickaa
open Go.Sim Go.Sim.Bt
theorem side_peel {bs:List Int} {p:Nat} {l l':Rf} {B B':List FB} (hl:∀ f ∈ sideB l,good f) (hl':∀ f ∈ sideB l',good f) (h:Has bs p (wBs (sideB l++B))) (h':Has bs p (wBs (sideB l'++B'))):l=l'∧∃ q,Has bs q (wBs B)∧Has bs q (wBs B'):=by
  have s1:l=zR→sideB l=[(mT false,[])]:=fun e=>by unfold sideB sideF; rw [if_pos e]; rfl
  have s2:l≠zR→sideB l=[(mT true,[]),(mR l,[])]:=fun e=>by unfold sideB sideF; rw [if_neg e]; rfl
  have t1:l'=zR→sideB l'=[(mT false,[])]:=fun e=>by unfold sideB sideF; rw [if_pos e]; rfl
  have t2:l'≠zR→sideB l'=[(mT true,[]),(mR l',[])]:=fun e=>by unfold sideB sideF; rw [if_neg e]; rfl
  by_cases c:l=zR
  · by_cases c':l'=zR
    · rw [s1 c] at hl h
      rw [t1 c'] at hl' h'
      obtain ⟨_,q⟩:=peel hl hl' rfl h h'
      exact ⟨c.trans c'.symm,q⟩
    · rw [s1 c] at hl h
      rw [t2 c'] at hl' h'
      have:=peel (A:=[(mT false,[])]) (A':=[(mT true,[])]) (B':=(mR l',[]) :: B') hl (fun f hf=>hl' f (by simp at hf ⊢; exact .inl hf)) rfl h h'
      have e:=this.1
      simp [clr,mT] at e
  · by_cases c':l'=zR
    · rw [s2 c] at hl h
      rw [t1 c'] at hl' h'
      have:=peel (A:=[(mT true,[])]) (A':=[(mT false,[])]) (B:=(mR l,[]) :: B) (fun f hf=>hl f (by simp at hf ⊢; exact .inl hf)) hl' rfl h h'
      have e:=this.1
      simp [clr,mT] at e
    · rw [s2 c] at hl h
      rw [t2 c'] at hl' h'
      obtain ⟨e,q⟩:=peel hl hl' rfl h h'
      refine ⟨?_,q⟩
      simp [clr,mT,mR] at e
      exact Rf.ext' e.1 e.2.1 e.2.2.1 e.2.2.2.1 e.2.2.2.2
theorem bts_inj:∀ {l m:List Int},okY l→okY m→bts l=bts m→l=m
  | [],[],_,_,_=>rfl
  | [],b :: m,_,_,h=>by simp [bts] at h
  | a :: l,[],_,_,h=>by simp [bts] at h
  | a :: l,b :: m,h1,h2,h=>by
    simp only [bts,List.map_cons,List.cons.injEq] at h
    obtain ⟨x1,x2⟩:=h1 a (by simp)
    obtain ⟨y1,y2⟩:=h2 b (by simp)
    have e:a.toNat=b.toNat:=by
      have:=congrArg UInt8.toNat h.1
      simp at this
      omega
    rw [bts_inj (fun y hy=>h1 y (by simp [hy])) (fun y hy=>h2 y (by simp [hy])) h.2,show a=b by omega]
theorem apart {p q:Pk} {lb lb':List Int} {bs:List Int} (hA:PkA p) (hR:PkR p) (hA':PkA q) (hR':PkR q) (hy:okY lb) (hy':okY lb') (hl:lb.length≤65536) (hl':lb'.length≤65536)
    (ok:okPk p ⟨⟨bts lb⟩⟩ lb.length) (ok':okPk q ⟨⟨bts lb'⟩⟩ lb'.length) (h:Has bs 0 (wBs ((encF p).map (fb lb)))) (h':Has bs 0 (wBs ((encF q).map (fb lb')))):sameK p q ⟨⟨bts lb⟩⟩ ⟨⟨bts lb'⟩⟩:=by
  have gA:∀ f ∈ f7 p++r7 p lb,good f:=by
    rw [← enc_parts ok]
    intro f hf
    obtain ⟨g,hg,rfl⟩:=List.mem_map.1 hf
    exact good_of hy hl (encF_plain hA hR ok g hg)
  have gA':∀ f ∈ f7 q++r7 q lb',good f:=by
    rw [← enc_parts ok']
    intro f hf
    obtain ⟨g,hg,rfl⟩:=List.mem_map.1 hf
    exact good_of hy' hl' (encF_plain hA' hR' ok' g hg)
  rw [enc_parts ok] at h
  rw [enc_parts ok'] at h'
  obtain ⟨e,n1,b1,b1'⟩:=peel (fun f hf=>gA f (List.mem_append_left _ hf)) (fun f hf=>gA' f (List.mem_append_left _ hf)) rfl h h'
  have gr:∀ f ∈ r7 p lb,good f:=fun f hf=>gA f (List.mem_append_right _ hf)
  have gr':∀ f ∈ r7 q lb',good f:=fun f hf=>gA' f (List.mem_append_right _ hf)
  simp [f7,clr,mT,mI,mN] at e
  obtain ⟨e1,e2,e3,e4,e5,e6,e7⟩:=e
  by_cases hr:p.rep=true
  · have hr':q.rep=true:=by rw [← e1]; exact hr
    rw [if_pos hr,if_pos hr'] at e7
    have okn:p.ask=a0K 0∧okN p.ans ⟨⟨bts lb⟩⟩ lb.length:=by
      rcases ok.2 with ⟨_,h1,h2⟩ | ⟨h1,_⟩
      · exact ⟨h1,h2⟩
      · rw [hr] at h1; cases h1
    have okn':q.ask=a0K 0∧okN q.ans ⟨⟨bts lb'⟩⟩ lb'.length:=by
      rcases ok'.2 with ⟨_,h1,h2⟩ | ⟨h1,_⟩
      · exact ⟨h1,h2⟩
      · rw [hr'] at h1; cases h1
    refine ⟨e1,⟨e2,e3⟩,⟨e4,e5⟩,e6,okn.1.trans okn'.1.symm,e7,?_⟩
    unfold r7 at b1 b1' gr gr'
    rw [if_pos hr] at b1 gr
    rw [if_pos hr'] at b1' gr'
    by_cases k:p.ans.k=1∨p.ans.k=3
    · have k':q.ans.k=1∨q.ans.k=3:=by rw [← e7]; exact k
      rw [if_pos k] at b1 gr
      rw [if_pos k'] at b1' gr'
      obtain ⟨f1,n2,b2,b2'⟩:=peel (A:=[(mT p.ans.f,[])]) (A':=[(mT q.ans.f,[])]) (fun f hf=>gr f (by rw [List.mem_singleton.1 hf]; simp)) (fun f hf=>gr' f (by rw [List.mem_singleton.1 hf]; simp)) rfl (by simpa using b1) (by simpa using b1')
      simp [clr,mT] at f1
      obtain ⟨f2,n3,b3,b3'⟩:=side_peel (l:=p.ans.l) (l':=q.ans.l) (fun f hf=>gr f (by simp [hf])) (fun f hf=>gr' f (by simp [hf])) (by simpa [List.append_assoc] using b2) (by simpa [List.append_assoc] using b2')
      obtain ⟨f3,n4,b4,b4'⟩:=side_peel (l:=p.ans.r) (l':=q.ans.r) (fun f hf=>gr f (by simp [hf])) (fun f hf=>gr' f (by simp [hf])) b3 b3'
      refine ⟨f1,f2,f3,?_⟩
      by_cases k1:p.ans.k=1
      · have k1':q.ans.k=1:=by rw [← e7]; exact k1
        rw [if_pos k1] at b4 gr
        rw [if_pos k1'] at b4' gr'
        obtain ⟨f4,_⟩:=peel (A:=[(mB p.ans.v,lb)]) (A':=[(mB q.ans.v,lb')]) (B:=[]) (B':=[]) (fun f hf=>gr f (by simp at hf; simp [hf])) (fun f hf=>gr' f (by simp at hf; simp [hf])) rfl (by simpa using b4) (by simpa using b4')
        simp [clr,mB] at f4
        rw [f4]
      · have k3:p.ans.k=3:=k.resolve_left k1
        have k3':q.ans.k=3:=by rw [← e7]; exact k3
        have z1:=((okN3 k3).1 okn.2).2.2
        have z2:=((okN3 k3').1 okn'.2).2.2
        have z1:lb=[]:=List.eq_nil_of_length_eq_zero (by omega)
        have z2:lb'=[]:=List.eq_nil_of_length_eq_zero (by omega)
        rw [z1,z2]
    · have k':¬ (q.ans.k=1∨q.ans.k=3):=by rw [← e7]; exact k
      have s1:sameN p.ans (zN p.ans.k) ⟨⟨bts lb⟩⟩ noB:=by
        rcases okn.2 with h | h | h
        · exact absurd (.inl h.1) k
        · exact absurd (.inr h.1) k
        · exact h.2
      have s2:sameN q.ans (zN q.ans.k) ⟨⟨bts lb'⟩⟩ noB:=by
        rcases okn'.2 with h | h | h
        · exact absurd (.inl h.1) k'
        · exact absurd (.inr h.1) k'
        · exact h.2
      exact ⟨s1.2.1.trans s2.2.1.symm,s1.2.2.1.trans s2.2.2.1.symm,s1.2.2.2.1.trans s2.2.2.2.1.symm,s1.2.2.2.2.trans s2.2.2.2.2.symm⟩
  · have hr0:p.rep=false:=by simpa using hr
    have hr':¬ q.rep=true:=by rw [← e1]; exact hr
    rw [if_neg hr,if_neg hr'] at e7
    have oka:sameN p.ans (zN 0) ⟨⟨bts lb⟩⟩ noB∧okA p.ask:=by
      rcases ok.2 with ⟨h1,_⟩ | ⟨_,h1,h2⟩
      · exact absurd h1 hr
      · exact ⟨h1,h2⟩
    have oka':sameN q.ans (zN 0) ⟨⟨bts lb'⟩⟩ noB∧okA q.ask:=by
      rcases ok'.2 with ⟨h1,_⟩ | ⟨_,h1,h2⟩
      · exact absurd h1 hr'
      · exact ⟨h1,h2⟩
    unfold r7 at b1 b1' gr gr'
    rw [if_neg hr] at b1 gr
    rw [if_neg hr'] at b1' gr'
    obtain ⟨f1,_⟩:=peel (B:=[]) (B':=[]) gr gr' (hasF_k e7) (by rw [List.append_nil]; exact b1) (by rw [List.append_nil]; exact b1')
    have ea:=ask_inj e7 oka.2.2.1 oka'.2.2.1 f1
    obtain ⟨s1,s1'⟩:=oka
    obtain ⟨s2,s2'⟩:=oka'
    exact ⟨e1,⟨e2,e3⟩,⟨e4,e5⟩,e6,ea,s1.1.trans s2.1.symm,s1.2.1.trans s2.2.1.symm,s1.2.2.1.trans s2.2.2.1.symm,s1.2.2.2.1.trans s2.2.2.2.1.symm,s1.2.2.2.2.trans s2.2.2.2.2.symm⟩
end Go.Proofs.Yteapmnolmfickaa
