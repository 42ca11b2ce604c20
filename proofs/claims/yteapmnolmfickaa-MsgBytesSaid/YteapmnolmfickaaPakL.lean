/-
  Fields that are handed in; few of them.
-/
import Derived.Test.YteapmnolmfickaaPakK
set_option linter.unusedSimpArgs false
set_option linter.unusedVariables false
set_option maxRecDepth 100000
set_option maxHeartbeats 4000000
namespace Go.Proofs.Yteapmnolmfickaa
open Go.Sim Go.Sim.Bt
attribute [local congr] bdc cndc itec gdc gdSc gdUc
theorem IsR.pers {sz:Nat} {s:St} {v:Value} {rows:List (List Value)} (h:IsR s sz v rows) (f:Fresh s):Pers s.n s fun s=>IsR s sz v rows :=
  fun s' k=>h.keep fun b all ro hg=>(k b (f.lt hg)).trans hg
theorem Byt.pers {s:St} {v:Value} {l:List (List Value)} (h:Byt s v l) (f:Fresh s):Pers s.n s fun s=>Byt s v l:=by
  intro s' k
  refine ⟨h.sl,h.len,?_,h.ok⟩
  obtain ⟨a,n,c,rfl⟩:=h.sl
  have hr:=h.rows
  unfold rowsOf at hr ⊢
  split at hr
  · split at hr
    · rename_i hg
      rw [k _ (f.lt hg),hg]; exact hr
    · cases hr
  · exact hr
  · rename_i e; cases e
  · cases hr
def okY (l:List Int):Prop:=∀ y ∈ l,0≤y∧y < 256
theorem are_br {s:St}:∀ {rows:List (List Value)},(∀ r ∈ rows,Leaf.Are s [.i .u8] r)→∃ l,rows=br l∧okY l
  | [],_=>⟨[],rfl,fun _ h=>by cases h⟩
  | r :: rows,h=>by
    have h1:=h r (by simp)
    unfold Leaf.Are Leaf.Are Leaf.Is at h1
    obtain ⟨_,_,rfl,⟨n,rfl,hn⟩,rfl⟩:=h1
    obtain ⟨b1,b2⟩:=wf_u8 hn
    obtain ⟨l,rfl,hl⟩:=are_br (rows:=rows) fun x hx=>h x (by simp [hx])
    refine ⟨n :: l,rfl,fun y hy=>?_⟩
    rcases List.mem_cons.1 hy with rfl | hy
    · omega
    · exact hl y hy
theorem val_br {s:St} {v:Value} (h:ValIs s v):∃ l,Byt s v (br l)∧okY l:=by
  have h':=h
  unfold ValIs Leaf.Is at h'
  obtain ⟨rows,hb⟩:=byt_val h
  suffices hs:∀ r ∈ rows,Leaf.Are s [.i .u8] r by
    obtain ⟨l,rfl,hl⟩:=are_br hs
    exact ⟨l,hb,hl⟩
  have hr:=hb.rows
  rcases h' with rfl | ⟨b,len,cap,all,rfl,h1,h2,h3,h4,h5⟩
  · have:=hb.len
    simp only [lenV,Option.some.injEq] at this
    intro r hr
    rw [List.eq_nil_of_length_eq_zero this.symm] at hr
    cases hr
  · have h3:s.get b=some (.row 1 all true):=h3
    have hl:=hb.len
    simp only [lenV,Option.some.injEq] at hl
    rw [rowsOf_row (i:=0) h3 (by omega) (by omega)] at hr
    simp only [Option.some.injEq,List.drop_zero] at hr
    intro r hm
    rw [← hr] at hm
    exact h5 r (List.mem_of_mem_take hm)
theorem val_cut {s:St} {v:Value} (h:ValIs s v) {len:Int} (hl:lenL v=some (.int .i64 len)) {k:Nat} (hk:(k:Int) < len):∃ w l,slc s 1 v none (some (.int .i64 (k:Int))) none=some w∧Byt s w (br l)∧l.length=k∧okY l:=by
  obtain ⟨w,rows,h1,h2,h3⟩:=byt_cut h hl hk
  suffices hs:∀ r ∈ rows,Leaf.Are s [.i .u8] r by
    obtain ⟨l,rfl,hl⟩:=are_br hs
    exact ⟨w,l,h1,h2,by rwa [br_length] at h3,hl⟩
  have hr:=h2.rows
  unfold ValIs Leaf.Is at h
  rcases h with rfl | ⟨b,n,cap,all,rfl,g1,g2,g3,g4,g5⟩
  · simp only [lenL,Option.some.injEq,Value.int.injEq] at hl
    have:=hl.2; omega
  · have g3:s.get b=some (.row 1 all true):=g3
    simp only [lenL,Option.some.injEq,Value.int.injEq] at hl
    have hkn:k < n:=by have:=hl.2; omega
    have ew:w=.slice (some ⟨b,0,some 0⟩) k (2 * cap):=by
      have e1:optN (some (Value.int .i64 (k:Int))) n=some k:=by simp [optN,isNat]
      have e2:optN none 0=some 0:=rfl
      have:slc s 1 (.slice (some ⟨b,0,some 0⟩) n (2 * cap)) none (some (.int .i64 (k:Int))) none=some (.slice (some ⟨b,0,some 0⟩) k (2 * cap)):=by
        unfold slc
        rw [e2,bds]
        show ((optN (some (Value.int .i64 (k:Int))) n).bind _)=_
        rw [e1,bds,g3]
        show (if 1=1∧0≤k then (if 2 * cap=1 then _ else if k≤2 * cap / 2 then some (Value.slice (some ⟨b,0+0,some 0⟩) (k - 0) (2 * (2 * cap / 2 - 0))) else none) else none)=_
        rw [if_pos ⟨rfl,Nat.zero_le _⟩,if_neg (by omega),if_pos (by omega),show 2 * (2 * cap / 2 - 0)=2 * cap by omega]
        rfl
      rw [this] at h1
      exact (Option.some.inj h1).symm
    subst ew
    rw [h3,rowsOf_row (i:=0) g3 (Nat.le_refl _) (by omega)] at hr
    simp only [Option.some.injEq,List.drop_zero] at hr
    intro r hm
    rw [← hr] at hm
    exact g5 r (List.mem_of_mem_take hm)
theorem ValIs.more {s s':St} {v:Value} (h:ValIs s v) (f:Fresh s) (m:More s s'):ValIs s' v:=by
  unfold ValIs Leaf.Is at h ⊢
  rcases h with h | ⟨b,n,cap,all,rfl,g1,g2,g3,g4,g5⟩
  · exact .inl h
  · refine .inr ⟨b,n,cap,all,rfl,g1,g2,m.get f g3,g4,fun r hr=>?_⟩
    have:=g5 r hr
    unfold Leaf.Are Leaf.Are Leaf.Is at this ⊢
    exact this
structure FA (s:St) (v:Value) (fs:List Fd):Prop where
  rows:IsR s 14 v (fs.map Fd.cs)
  els:∀ f ∈ fs,FdA f∧ValIs s f.b
end Go.Proofs.Yteapmnolmfickaa
