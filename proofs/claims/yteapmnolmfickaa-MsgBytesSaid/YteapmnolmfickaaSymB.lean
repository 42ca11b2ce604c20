/-
  Readings as functions of the heap; a closed call known as a reading.
-/
import Derived.Test.YteapmnolmfickaaSymA
set_option linter.unusedSimpArgs false
set_option linter.unusedVariables false
namespace Go.Sim
open Go.RowKit (Below)
def Own (n0:Nat) (s:St) (sz:Nat) (v:Value) (rows:List (List Value)):Prop :=
  (v=.slice none 0 0∧rows=[])∨∃ b,n0≤b∧v=.slice (some ⟨b,0,some 0⟩) rows.length 1∧s.get b=some (.row sz rows false)
theorem Own.nil {n0:Nat} {s:St} {sz:Nat}:Own n0 s sz (.slice none 0 0) []:=.inl ⟨rfl,rfl⟩
theorem Own.len {n0:Nat} {s:St} {sz:Nat} {v:Value} {rows:List (List Value)} (h:Own n0 s sz v rows):lenL v=some (.int .i64 rows.length):=by
  rcases h with ⟨rfl,rfl⟩ | ⟨b,_,rfl,_⟩ <;> rfl
theorem Own.app {s0 s:St} {sz by_:Nat} {v x:Value} {rows news:List (List Value)} (h:Own s0.n s sz v rows) (hm:More s0 s) (hn:lenV x=some news.length) (hr:rowsOf s sz news.length x=some news)
    (hb:(rows.length+news.length) * by_≤140737488355328) (hle:rows.length+news.length≤9223372036854775807) :
    ∃ v' s',Sim.app s sz by_ v x=some (v',s')∧More s0 s'∧Own s0.n s' sz v' (rows++news)∧(∀ c,c < s.n→(∀ len e,v≠.slice (some ⟨c,0,some 0⟩) len e)→s'.get c=s.get c):=by
  rcases h with ⟨rfl,rfl⟩ | ⟨b,hb0,rfl,hg⟩
  · by_cases h0:news.length=0
    · have:news=[]:=List.eq_nil_of_length_eq_zero h0
      subst this
      exact ⟨_,s,app_nil0 hn hr,hm,.inl ⟨rfl,rfl⟩,fun c hc _=>rfl⟩
    · refine ⟨_,_,app_nil hn hr (by omega) (by simpa using hb) (by simpa using hle),hm.trans .new,.inr ⟨s.n,hm.n,rfl,?_⟩,fun c hc _=>get_new_ne (by omega)⟩
      exact get_new_same
  · by_cases h0:news.length=0
    · have:news=[]:=List.eq_nil_of_length_eq_zero h0
      subst this
      refine ⟨.slice (some ⟨b,0,some 0⟩) rows.length 1,s,?_,hm,.inr ⟨b,hb0,by simp,by simpa using hg⟩,fun c hc _=>rfl⟩
      simp only [List.length_nil] at hn hr hb hle
      simp only [Sim.app,hn,hr,hg]
      rw [if_pos ⟨trivial,by omega⟩,if_pos ⟨hb,hle⟩]
      simp
    · refine ⟨_,_,app_own hn hr hg (Nat.le_refl _) (by omega) hb hle,(hm.del hb0).trans .new,.inr ⟨s.n,hm.n,by simp,?_⟩,fun c hc hne=>?_⟩
      · rw [List.take_length]; exact get_new_same (s:=s.del b)
      · rw [get_new_ne (by rw [del_n]; omega),get_del_ne]
        rintro rfl
        exact hne _ _ rfl
theorem rowsOf_one {s:St} {sz:Nat} {r:List Value} {e:Nat}:rowsOf (s.new (.row sz [r] false)) sz 1 (.slice (some ⟨s.n,0,some 0⟩) 1 e)=some [r]:=by
  rw [rowsOf_row get_new_same (Nat.le_refl _) (by simp)]; rfl
def But (b:Nat) (s s':St):Prop:=(∀ x,x≠b→s'.get x=s.get x)∧s'.n=s.n∧(Fresh s→Fresh s')
theorem But.refl (b:Nat) (s:St):But b s s:=⟨fun _ _=>rfl,rfl,id⟩
theorem But.trans {b:Nat} {s t u:St} (h:But b s t) (k:But b t u):But b s u :=
  ⟨fun x hx=>(k.1 x hx).trans (h.1 x hx),k.2.1.trans h.2.1,fun f=>k.2.2 (h.2.2 f)⟩
theorem But.put {b:Nat} {s:St} {x:Blk}:But b s (s.put b x):=⟨fun _ hx=>get_put_ne hx,rfl,fun f=>f.put⟩
structure Keep (n0:Nat) (s s':St):Prop where
  n:s.n≤s'.n
  old:∀ b,b < n0→s'.get b=s.get b
  fresh:Fresh s→Fresh s'
theorem Keep.refl (n0:Nat) (s:St):Keep n0 s s:=⟨Nat.le_refl _,fun _ _=>rfl,id⟩
theorem Keep.trans {n0:Nat} {a b c:St} (h:Keep n0 a b) (k:Keep n0 b c):Keep n0 a c :=
  ⟨Nat.le_trans h.n k.n,fun i hi=>(k.old i hi).trans (h.old i hi),fun f=>k.fresh (h.fresh f)⟩
theorem More.keep {s s':St} (h:More s s') {n0:Nat} (hn:n0≤s.n):Keep n0 s s':=⟨h.n,fun b hb=>h.old b (by omega),h.fresh⟩
theorem Keep.new {n0:Nat} {s:St} (hn:n0≤s.n) {x:Blk}:Keep n0 s (s.new x):=More.new.keep hn
theorem Own.new {n0:Nat} {s:St} {sz:Nat} {v:Value} {rows:List (List Value)} {x:Blk} (h:Own n0 s sz v rows) (f:Fresh s):Own n0 (s.new x) sz v rows:=by
  rcases h with ⟨rfl,h0⟩ | ⟨q,hq,rfl,hg⟩
  · exact .inl ⟨rfl,h0⟩
  · exact .inr ⟨q,hq,rfl,by rw [get_new_ne (by have:=f.lt hg; omega)]; exact hg⟩
end Go.Sim
