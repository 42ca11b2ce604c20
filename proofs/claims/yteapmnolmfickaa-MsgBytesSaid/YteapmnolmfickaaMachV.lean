/-
  Values as rows of bytes; two of the same bytes; steps that bear values.
-/
import Derived.Test.YteapmnolmfickaaMachE
set_option linter.unusedSimpArgs false
set_option linter.unusedVariables false
set_option maxRecDepth 100000
set_option maxHeartbeats 2000000
namespace Go.Proofs.Yteapmnolmfickaa
open Go.Sim Go.Sim.Bt
attribute [local congr] bdc cndc itec gdc gdSc gdUc
structure Byt (s:St) (v:Value) (l:List (List Value)):Prop where
  sl:∃ a n c,v=.slice a n c
  len:lenV v=some l.length
  rows:rowsOf s 1 l.length v=some l
  ok:∃ bs,bytesOf l=some bs
theorem Byt.bx {s:St} {v:Value} {l:List (List Value)} (h:Byt s v l):bx v=some [v]:=by
  obtain ⟨a,n,c,rfl⟩:=h.sl; rfl
theorem Byt.same {s:St} {v:Value} {l:List (List Value)} (h:Byt s v l):sameV v v=true:=by
  obtain ⟨a,n,c,rfl⟩:=h.sl
  rcases a with _ | ⟨b,i,j⟩ <;> simp [sameV]
theorem Byt.lenL {s:St} {v:Value} {l:List (List Value)} (h:Byt s v l):lenL v=some (.int .i64 l.length):=by
  obtain ⟨a,n,c,rfl⟩:=h.sl
  have:=h.len
  simp only [lenV,Option.some.injEq] at this
  simp only [Sim.lenL,this]
theorem Byt.b2s {s:St} {v:Value} {l:List (List Value)} (h:Byt s v l):∀ bs,bytesOf l=some bs→b2s s v=some (.string ⟨⟨bs⟩⟩):=by
  intro bs hb
  obtain ⟨a,n,c,rfl⟩:=h.sl
  unfold Sim.b2s
  rw [h.len]
  simp only [Option.bind_some,h.rows,hb,Option.map_some]
theorem rowsOf_stp {ks:List Nat} {s s':St} {n:Nat} {v:Value} {l:List (List Value)} (hv:∃ a n c,v=.slice a n c) (h:rowsOf s 1 n v=some l) (k:StpK ks s s') (hn:1 ∉ ks):rowsOf s' 1 n v=some l:=by
  obtain ⟨a,m,c,rfl⟩:=hv
  unfold rowsOf at h ⊢
  split at h
  · split at h
    · rename_i _ sz' rows ro hg
      split at h
      · rename_i hc
        have:=hc.1
        subst this
        rw [k.row hg hn]
        simp only []
        rw [if_pos ⟨trivial,hc.2⟩]
        exact h
      · cases h
    · cases h
  · exact h
  · rename_i e; cases e
  · cases h
theorem Byt.stp {ks:List Nat} {s s':St} {v:Value} {l:List (List Value)} (h:Byt s v l) (k:StpK ks s s') (hn:1 ∉ ks):Byt s' v l :=
  ⟨h.sl,h.len,rowsOf_stp h.sl h.rows k hn,h.ok⟩
theorem byt_nil (s:St):Byt s (.slice none 0 0) []:=⟨⟨_,_,_,rfl⟩,rfl,rfl,⟨[],rfl⟩⟩
theorem bytesOf_ok {s:St}:∀ {rows:List (List Value)},(∀ r ∈ rows,Leaf.Are s [.i .u8] r)→∃ bs,bytesOf rows=some bs
  | [],_=>⟨[],rfl⟩
  | r :: rows,h=>by
    have h1:=h r (by simp)
    unfold Leaf.Are Leaf.Are Leaf.Is at h1
    obtain ⟨_,_,rfl,⟨n,rfl,_⟩,rfl⟩:=h1
    obtain ⟨bs,hb⟩:=bytesOf_ok (rows:=rows) fun x hx=>h x (by simp [hx])
    exact ⟨UInt8.ofNat n.toNat :: bs,by simp only [bytesOf,hb,Option.map_some]⟩
theorem byt_val {s:St} {v:Value} (h:ValIs s v):∃ l,Byt s v l:=by
  unfold ValIs Leaf.Is at h
  rcases h with rfl | ⟨b,len,cap,rows,rfl,h1,h2,h3,h4,h5⟩
  · exact ⟨[],byt_nil s⟩
  · have h3:s.get b=some (.row 1 rows true):=h3
    have hl:(rows.take len).length=len:=by rw [List.length_take]; omega
    refine ⟨rows.take len,⟨_,_,_,rfl⟩,by rw [hl]; rfl,?_,bytesOf_ok fun r hr=>h5 r (List.mem_of_mem_take hr)⟩
    rw [hl,rowsOf_row (i:=0) (n:=len) (len:=len) (e:=2 * cap) h3 (Nat.le_refl _) (by omega)]
    rfl
theorem byt_cut {s:St} {v:Value} (h:ValIs s v) {len:Int} (hl:lenL v=some (.int .i64 len)) {k:Nat} (hk:(k:Int) < len):∃ w l,slc s 1 v none (some (.int .i64 (k:Int))) none=some w∧Byt s w l∧l.length=k:=by
  unfold ValIs Leaf.Is at h
  rcases h with rfl | ⟨b,n,cap,rows,rfl,h1,h2,h3,h4,h5⟩
  · simp only [lenL,Option.some.injEq,Value.int.injEq] at hl
    have:=hl.2; omega
  · simp only [lenL,Option.some.injEq,Value.int.injEq] at hl
    have hkn:k < n:=by have:=hl.2; omega
    have h3:s.get b=some (.row 1 rows true):=h3
    have hl:(rows.take k).length=k:=by rw [List.length_take]; omega
    refine ⟨.slice (some ⟨b,0,some 0⟩) k (2 * cap),rows.take k,?_,⟨⟨_,_,_,rfl⟩,by rw [hl]; rfl,?_,bytesOf_ok fun r hr=>h5 r (List.mem_of_mem_take hr)⟩,hl⟩
    · have e1:optN (some (Value.int .i64 (k:Int))) n=some k:=by simp [optN,isNat]
      have e2:optN none 0=some 0:=rfl
      unfold slc
      rw [e2,bds]
      show ((optN (some (Value.int .i64 (k:Int))) n).bind _)=_
      rw [e1,bds,h3]
      show (if 1=1∧0≤k then (if 2 * cap=1 then _ else if k≤2 * cap / 2 then some (Value.slice (some ⟨b,0+0,some 0⟩) (k - 0) (2 * (2 * cap / 2 - 0))) else none) else none)=_
      rw [if_pos ⟨rfl,Nat.zero_le _⟩,if_neg (by omega),if_pos (by omega),show 2 * (2 * cap / 2 - 0)=2 * cap by omega]
      rfl
    · rw [hl,rowsOf_row (i:=0) (n:=k) (len:=k) (e:=2 * cap) h3 (Nat.le_refl _) (by omega)]
      rfl
def SameB (s:St) (v w:Value):Prop:=∃ l,Byt s v l∧Byt s w l
theorem SameB.stp {ks:List Nat} {s s':St} {v w:Value} (h:SameB s v w) (k:StpK ks s s') (hn:1 ∉ ks):SameB s' v w:=by
  obtain ⟨l,h1,h2⟩:=h
  exact ⟨l,h1.stp k hn,h2.stp k hn⟩
structure RV where
  e:Int
  key:Int
  v:Value
  l:Rf
  r:Rf
  found:Bool
end Go.Proofs.Yteapmnolmfickaa
