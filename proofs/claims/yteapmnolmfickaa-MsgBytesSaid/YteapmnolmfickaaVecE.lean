/-
  Rows of bits: plain law, no program in sight.
-/
import Derived.Test.YteapmnolmfickaaSymA
import Derived.Test.YteapmnolmfickaaGW1
set_option linter.unusedSimpArgs false
set_option linter.unusedVariables false
namespace Go.Sim.Bt
def bl (n b:Nat):List Nat:=(List.range n).map fun j=>b / 2 ^ (n - 1 - j) % 2
def ofBits (l:List Nat):Nat:=l.foldl (fun a d=>a * 2+d) 0
theorem bl_length (n b:Nat):(bl n b).length=n:=by simp [bl]
theorem bl_get {n b j:Nat} (h:j < n):(bl n b)[j]?=some (b / 2 ^ (n - 1 - j) % 2):=by
  simp [bl,h]
theorem ofBits_snoc (l:List Nat) (d:Nat):ofBits (l++[d])=ofBits l * 2+d:=by simp [ofBits]
theorem ofBits_lt:∀ {n:Nat} {l:List Nat},l.length=n→(∀ d ∈ l,d < 2)→ofBits l < 2 ^ n
  | 0,l,h,_=>by simp at h; subst h; simp [ofBits]
  | n+1,l,h,hd=>by
    obtain ⟨l',d,rfl⟩:∃ l' d,l=l'++[d]:=⟨l.dropLast,l.getLast (by intro e; simp [e] at h),(List.dropLast_concat_getLast _).symm⟩
    have:=ofBits_lt (n:=n) (l:=l') (by simpa using h) fun x hx=>hd x (by simp only [List.mem_append]; exact .inl hx)
    have hd':=hd d (by simp only [List.mem_append,List.mem_singleton]; exact .inr trivial)
    rw [ofBits_snoc,Nat.pow_succ]; omega
end Go.Sim.Bt
/-
  The functions of package vec over unknown numbers.
-/
set_option linter.unusedSimpArgs false
set_option linter.unusedVariables false
set_option maxRecDepth 100000
namespace Go.Proofs.Yteapmnolmfickaa
open Go.Sim Go.Sim.Bt
attribute [local congr] bdc cndc itec gdc gdSc gdUc
abbrev VV (n b:Nat):Value:=.agg ⟨[.int .i64 n,.int .u64 b]⟩
abbrev VI (L B:Int):Value:=.agg ⟨[.int .i64 L,.int .u64 B]⟩
def okV (L B:Int):Prop:=∃ n b:Nat,L=n∧B=b∧n≤32∧b < 2 ^ n
theorem pow32 {n:Nat} (h:n≤32):2 ^ n≤4294967296:=by
  have:=Nat.pow_le_pow_right (n:=2) (by omega) h
  simpa using this
theorem low_r (n:Nat) (s:St) (h1:n≤32):Q2x.r (.int .i64 n) s=some (.int .u64 ((2 ^ n - 1:Nat):Int)):=by
  have e1:IntKind.u64.wrap (n:Int)=n:=wrapu64 (by omega) (by omega)
  have e2:=pow32 h1
  have e3:=Nat.two_pow_pos n
  have e4:=@shl_u64 1 n .u64 (by omega) (by omega)
  simp only [Nat.one_mul] at e4
  simp only [Q2x.r,Q2x.t,sy,reduceIte,Nat.reduceAdd,Nat.reduceLeDiff,Nat.reduceLT,Nat.reduceEqDiff,Int.reduceEq,Int.reduceLT,Int.reduceLE,Int.reduceNe,ly,e1]
  rw [show (1:Int)=((1:Nat):Int) from rfl,e4]
  simp only [sy,reduceIte,Nat.reduceAdd,Nat.reduceLeDiff,Nat.reduceLT,Nat.reduceEqDiff,Int.reduceEq,Int.reduceLT,Int.reduceLE,Int.reduceNe]
  generalize 2 ^ n=P at *
  rw [wrapu64 (by omega) (by omega)]
  omega
theorem right_ok {n b:Nat} (s:St) (h1:n≤32) (h2:b < 2 ^ n):Q2w.r (VV n b) s=some (.int .i64 0):=by
  have h3:¬ ((n:Int) < 0):=by omega
  have h4:¬ ((32:Int) < n):=by omega
  have h5:¬ (((2 ^ n - 1:Nat):Int) < b):=by omega
  simp only [Q2w.r,Q2w.t,sy,reduceIte,Nat.reduceAdd,Nat.reduceLeDiff,Nat.reduceLT,Nat.reduceEqDiff,Int.reduceEq,Int.reduceLT,Int.reduceLE,Int.reduceNe,ly,h3,h4,low_r n s h1,h5]
theorem right_no {L B:Int} (s:St) (h:¬ okV L B) (hB:0≤B):Q2w.r (VI L B) s=some (.int .i64 10):=by
  by_cases h0:L < 0
  · simp only [Q2w.r,Q2w.t,sy,reduceIte,Nat.reduceAdd,Nat.reduceLeDiff,Nat.reduceLT,Nat.reduceEqDiff,Int.reduceEq,Int.reduceLT,Int.reduceLE,Int.reduceNe,ly,h0]
  · by_cases h1:32 < L
    · simp only [Q2w.r,Q2w.t,sy,reduceIte,Nat.reduceAdd,Nat.reduceLeDiff,Nat.reduceLT,Nat.reduceEqDiff,Int.reduceEq,Int.reduceLT,Int.reduceLE,Int.reduceNe,ly,h0,h1]
    · obtain ⟨n,rfl⟩:∃ n:Nat,L=n:=⟨L.toNat,by omega⟩
      obtain ⟨b,rfl⟩:∃ b:Nat,B=b:=⟨B.toNat,by omega⟩
      have h5:((2 ^ n - 1:Nat):Int) < b:=by
        have:¬ b < 2 ^ n:=fun hb=>h ⟨n,b,rfl,rfl,by omega,hb⟩
        have e3:=Nat.two_pow_pos n
        generalize 2 ^ n=P at *
        omega
      simp only [Q2w.r,Q2w.t,sy,reduceIte,Nat.reduceAdd,Nat.reduceLeDiff,Nat.reduceLT,Nat.reduceEqDiff,Int.reduceEq,Int.reduceLT,Int.reduceLE,Int.reduceNe,ly,h0,h1,low_r n s (by omega),h5]
end Go.Proofs.Yteapmnolmfickaa
/-
  The reference's functions on vectors over unknown numbers.
-/
set_option linter.unusedSimpArgs false
set_option linter.unusedVariables false
set_option maxRecDepth 100000
namespace Go.Proofs.Yteapmnolmfickaa
open Go.Sim Go.Sim.Bt
attribute [local congr] bdc cndc itec gdc gdSc gdUc
theorem power_r (n:Nat) (s:St) (h:n≤63):Q1k.r (.int .i64 n) s=some (.int .u64 ((2 ^ n:Nat):Int)):=by
  have hl:iter (Q1k.l2 std) BIG [Value.int .i64 n,Value.int .u64 ((1:Nat):Int)] s=some (0,[Value.int .u64 ((2 ^ n:Nat):Int)],s):=by
    refine iter_rel (fun d xs s'=>s'=s∧d≤63∧∃ x:Nat,xs=[Value.int .i64 d,Value.int .u64 (x:Int)]∧x * 2 ^ d=2 ^ n) (fun r:Option Cut=>r=some (0,[Value.int .u64 ((2 ^ n:Nat):Int)],s)) ?_ BIG n _ s (by unfold BIG; omega) ⟨rfl,h,1,rfl,by omega⟩
    rintro d xs s' rec ⟨rfl,hd,x,rfl,hx⟩ ih
    cases d with
    | zero =>
      simp only [Q1k.l2,sy,reduceIte,Nat.reduceAdd,Nat.reduceLeDiff,Nat.reduceLT,Nat.reduceEqDiff,Int.reduceEq,Int.reduceLT,Int.reduceLE,Int.reduceNe,ly,Int.natCast_zero,Int.lt_irrefl] at hx ⊢
      simp at hx
      rw [hx]
    | succ d =>
      have e1:(0:Int) < ((d+1:Nat):Int):=by omega
      have e2:IntKind.i64.wrap (((d+1:Nat):Int) - 1)=d:=by rw [wrap64 (by omega) (by omega)]; omega
      have e3:x * 2≤2 ^ 63:=by
        have:x * 2 ^ (d+1)=x * 2 * 2 ^ d:=by rw [Nat.pow_succ]; ac_rfl
        have h2:2 ^ n≤2 ^ 63:=Nat.pow_le_pow_right (by omega) h
        have h3:=Nat.le_mul_of_pos_right (x * 2) (Nat.two_pow_pos d)
        omega
      have e4:IntKind.u64.wrap ((x:Int) * 2)=((x * 2:Nat):Int):=by rw [wrapu64 (by omega) (by omega)]; omega
      simp only [Q1k.l2,sy,reduceIte,Nat.reduceAdd,Nat.reduceLeDiff,Nat.reduceLT,Nat.reduceEqDiff,Int.reduceEq,Int.reduceLT,Int.reduceLE,Int.reduceNe,ly,e1,e2,e4]
      refine ih d _ _ (by omega) ⟨rfl,by omega,x * 2,rfl,?_⟩
      rw [← hx,Nat.pow_succ]; ac_rfl
  simp only [Q1k.r,Q1k.t]
  change ((iter (Q1k.l2 std) BIG [Value.int .i64 n,Value.int .u64 ((1:Nat):Int)] s).bind fun r=>some (r.2.1.getD 0 undef))=_
  rw [hl]; rfl
theorem rright_ok {n b:Nat} (s:St) (h1:n≤32) (h2:b < 2 ^ n):Q1l.r (VV n b) s=some (.bool true):=by
  have h3:(0:Int)≤n:=by omega
  have h4:(n:Int)≤32:=by omega
  have h5:(b:Int) < ((2 ^ n:Nat):Int):=by omega
  simp only [Q1l.r,Q1l.t,sy,reduceIte,Nat.reduceAdd,Nat.reduceLeDiff,Nat.reduceLT,Nat.reduceEqDiff,Int.reduceEq,Int.reduceLT,Int.reduceLE,Int.reduceNe,ly,h3,h4,power_r n s (by omega),h5]
theorem rright_no {L B:Int} (s:St) (h:¬ okV L B) (hB:0≤B):Q1l.r (VI L B) s=some (.bool false):=by
  by_cases h0:0≤L
  · by_cases h1:L≤32
    · obtain ⟨n,rfl⟩:∃ n:Nat,L=n:=⟨L.toNat,by omega⟩
      obtain ⟨b,rfl⟩:∃ b:Nat,B=b:=⟨B.toNat,by omega⟩
      have h5:¬ ((b:Int) < ((2 ^ n:Nat):Int)):=by
        have:¬ b < 2 ^ n:=fun hb=>h ⟨n,b,rfl,rfl,by omega,hb⟩
        generalize 2 ^ n=P at *
        omega
      simp only [Q1l.r,Q1l.t,sy,reduceIte,Nat.reduceAdd,Nat.reduceLeDiff,Nat.reduceLT,Nat.reduceEqDiff,Int.reduceEq,Int.reduceLT,Int.reduceLE,Int.reduceNe,ly,h0,h1,power_r n s (by omega),h5]
    · simp only [Q1l.r,Q1l.t,sy,reduceIte,Nat.reduceAdd,Nat.reduceLeDiff,Nat.reduceLT,Nat.reduceEqDiff,Int.reduceEq,Int.reduceLT,Int.reduceLE,Int.reduceNe,ly,h0,h1]
  · simp only [Q1l.r,Q1l.t,sy,reduceIte,Nat.reduceAdd,Nat.reduceLeDiff,Nat.reduceLT,Nat.reduceEqDiff,Int.reduceEq,Int.reduceLT,Int.reduceLE,Int.reduceNe,ly,h0]
def rowsI (l:List Nat):List (List Value):=l.map fun d:Nat=>[Value.int .i64 (d:Int)]
theorem rowsI_length (l:List Nat):(rowsI l).length=l.length:=by simp [rowsI]
theorem rowsI_get {l:List Nat} {j d:Nat} (h:l[j]?=some d):(rowsI l)[j]?=some [Value.int .i64 (d:Int)]:=by simp [rowsI,h]
theorem bits_v {n b:Nat} (s:St) (h1:n≤32) (hb:b < 2 ^ n):Q1i.v (VV n b) s=some (.slice (some ⟨s.n,0,some 0⟩) n (2 * n),s.new (.row 1 (rowsI (bl n b)) false)):=by
  have e1:IntKind.i64.wrap ((n:Int) - 1)=(n:Int) - 1:=wrap64 (by omega) (by omega)
  have hm:mks s 1 8 [Value.int .i64 0] (.int .i64 n) (.int .i64 n)=some (.slice (some ⟨s.n,0,some 0⟩) n (2 * n),s.new (.row 1 (List.replicate n [Value.int .i64 0]) false)):=by
    simp only [mks]
    rw [if_pos (by omega)]
    simp [als]
  have hl:iter (Q1i.l4 std) BIG [Value.slice (some ⟨s.n,0,some 0⟩) n (2 * n),Value.int .u64 b,Value.int .i64 ((n:Int) - 1)] (s.new (.row 1 (List.replicate n [Value.int .i64 0]) false))=some (0,[Value.slice (some ⟨s.n,0,some 0⟩) n (2 * n)],s.new (.row 1 (rowsI (bl n b)) false)):=by
    refine iter_rel (fun d xs s'=>d≤n∧xs=[Value.slice (some ⟨s.n,0,some 0⟩) n (2 * n),Value.int .u64 ((b / 2 ^ (n - d):Nat):Int),Value.int .i64 ((d:Int) - 1)] ∧
      s'=s.new (.row 1 (List.replicate d [Value.int .i64 0]++(rowsI (bl n b)).drop d) false)) (fun r:Option Cut=>r=some (0,[Value.slice (some ⟨s.n,0,some 0⟩) n (2 * n)],s.new (.row 1 (rowsI (bl n b)) false))) ?_ BIG n _ _ (by unfold BIG; omega) ⟨Nat.le_refl _,by simp,by rw [List.drop_of_length_le (by simp [rowsI_length,bl_length])]; simp⟩
    rintro d xs s' rec ⟨hd,rfl,rfl⟩ ih
    cases d with
    | zero =>
      have:¬ ((0:Int)≤((0:Nat):Int) - 1):=by omega
      simp only [Q1i.l4,sy,reduceIte,Nat.reduceAdd,Nat.reduceLeDiff,Nat.reduceLT,Nat.reduceEqDiff,Int.reduceEq,Int.reduceLT,Int.reduceLE,Int.reduceNe,ly,this]
      rfl
    | succ d =>
      have g1:(0:Int)≤((d+1:Nat):Int) - 1:=by omega
      have hg:(s.new (.row 1 (List.replicate (d+1) [Value.int .i64 0]++(rowsI (bl n b)).drop (d+1)) false)).get s.n=some (.row 1 (List.replicate (d+1) [Value.int .i64 0]++(rowsI (bl n b)).drop (d+1)) false):=get_new_same
      have g2:(((d+1:Nat):Int) - 1).toNat=d:=by omega
      have hi:idx (s.new (.row 1 (List.replicate (d+1) [Value.int .i64 0]++(rowsI (bl n b)).drop (d+1)) false)) 1 (.slice (some ⟨s.n,0,some 0⟩) n (2 * n)) (.int .i64 (((d+1:Nat):Int) - 1))=some (.pointer (some ⟨s.n,d,some 0⟩)):=by
        have:=idx_row (k:=.i64) (i:=0) (len:=n) (e:=2 * n) hg g1 (by omega)
        rwa [g2,Nat.zero_add] at this
      have hr:((List.replicate (d+1) [Value.int .i64 0]++(rowsI (bl n b)).drop (d+1)))[d]?=some [Value.int .i64 0]:=by
        rw [List.getElem?_append_left (by simp)]; simp
      have g3:IntKind.i64.wrap ((((d+1:Nat):Int) - 1) - 1)=(d:Int) - 1:=by rw [wrap64 (by omega) (by omega)]; omega
      have g4:IntKind.i64.wrap (((b / 2 ^ (n - (d+1)) % 2:Nat):Int))=((b / 2 ^ (n - (d+1)) % 2:Nat):Int):=by
        have:=Nat.mod_lt (b / 2 ^ (n - (d+1))) (show 2 > 0 by omega)
        exact wrap64 (by omega) (by omega)
      have g5:bin .rem (.int .u64 ((b / 2 ^ (n - (d+1)):Nat):Int)) (.int .u64 2)=some (.int .u64 ((b / 2 ^ (n - (d+1)) % 2:Nat):Int)):=by
        rw [bin_rem (by omega)]; rfl
      have g6:bin .quo (.int .u64 ((b / 2 ^ (n - (d+1)):Nat):Int)) (.int .u64 2)=some (.int .u64 ((b / 2 ^ (n - d):Nat):Int)):=by
        have e7:=pow32 h1
        have e5:b / 2 ^ (n - (d+1))≤b:=Nat.div_le_self _ _
        rw [bin_quo (by omega),show n - d=(n - (d+1))+1 by omega,Nat.pow_succ,← Nat.div_div_eq_div_mul]
        generalize b / 2 ^ (n - (d+1))=q at *
        rw [show ((q:Int)).tdiv 2=((q / 2:Nat):Int) by rfl,wrapu64 (by omega) (by omega)]
      have hst:stv (s.new (.row 1 (List.replicate (d+1) [Value.int .i64 0]++(rowsI (bl n b)).drop (d+1)) false)) 1 (.pointer (some ⟨s.n,d,some 0⟩)) (.int .i64 ((b / 2 ^ (n - (d+1)) % 2:Nat):Int))=some (s.new (.row 1 (List.replicate d [Value.int .i64 0]++(rowsI (bl n b)).drop d) false)):=by
        rw [stv_row hg]
        simp only [sy,reduceIte,Nat.reduceAdd,Nat.reduceLeDiff,Nat.reduceLT,Nat.reduceEqDiff,Int.reduceEq,Int.reduceLT,Int.reduceLE,Int.reduceNe,ly,hr]
        congr 1
        have:List.set (List.replicate (d+1) [Value.int .i64 0]++(rowsI (bl n b)).drop (d+1)) d [Value.int .i64 ((b / 2 ^ (n - (d+1)) % 2:Nat):Int)]=List.replicate d [Value.int .i64 0]++(rowsI (bl n b)).drop d:=by
          have hdl:d < (rowsI (bl n b)).length:=by rw [rowsI_length,bl_length]; omega
          have hx:(rowsI (bl n b))[d]?=some [Value.int .i64 ((b / 2 ^ (n - 1 - d) % 2:Nat):Int)]:=rowsI_get (bl_get (by omega))
          rw [List.drop_eq_getElem_cons hdl,List.replicate_succ',List.append_assoc,List.set_append_right _ _ (by simp)]
          rw [List.getElem?_eq_getElem hdl] at hx
          simp only [Option.some.injEq] at hx
          rw [hx,show n - (d+1)=n - 1 - d by omega]
          simp
        rw [this]
        simp [St.new,St.put,putH]
      simp only [Q1i.l4,sy,reduceIte,Nat.reduceAdd,Nat.reduceLeDiff,Nat.reduceLT,Nat.reduceEqDiff,Int.reduceEq,Int.reduceLT,Int.reduceLE,Int.reduceNe,ly,g1,hi,g5,g4,hst,g6,g3]
      exact ih d _ _ (by omega) ⟨by omega,rfl,rfl⟩
  simp only [Q1i.v,Q1i.t,sy,reduceIte,Nat.reduceAdd,Nat.reduceLeDiff,Nat.reduceLT,Nat.reduceEqDiff,Int.reduceEq,Int.reduceLT,Int.reduceLE,Int.reduceNe,ly,e1,hm,hl]
end Go.Proofs.Yteapmnolmfickaa
/-
  Rows of bits read: Of,common,Begins.
-/
set_option linter.unusedSimpArgs false
set_option linter.unusedVariables false
set_option maxRecDepth 100000
namespace Go.Proofs.Yteapmnolmfickaa
open Go.Sim Go.Sim.Bt
attribute [local congr] bdc cndc itec gdc gdSc gdUc
def IsI (s:St) (v:Value) (l:List Nat):Prop :=
  (v=.slice none 0 0∧l=[])∨∃ b i e rows ro,v=.slice (some ⟨b,i,some 0⟩) l.length e∧s.get b=some (.row 1 rows ro)∧∀ (j d:Nat),l[j]?=some d→rows[i+j]?=some [.int .i64 (d:Int)]
theorem IsI.len {s:St} {v:Value} {l:List Nat} (h:IsI s v l):lenL v=some (.int .i64 l.length):=by
  rcases h with ⟨rfl,rfl⟩ | ⟨b,i,e,rows,ro,rfl,_,_⟩ <;> rfl
theorem IsI.at {s:St} {v:Value} {l:List Nat} (h:IsI s v l) {j d:Nat} (hj:l[j]?=some d):∃ p,idx s 1 v (.int .i64 (j:Int))=some p∧ldc s p=some (.int .i64 (d:Int)):=by
  rcases h with ⟨rfl,rfl⟩ | ⟨b,i,e,rows,ro,rfl,hg,hr⟩
  · simp at hj
  · have hlt:j < l.length:=by
      rcases Nat.lt_or_ge j l.length with h | h
      · exact h
      · rw [List.getElem?_eq_none h] at hj; cases hj
    refine ⟨_,idx_row hg (by omega) (by omega),?_⟩
    rw [ldc_row hg,show i+(j:Int).toNat=i+j by omega,hr j d hj]
    rfl
theorem IsI.new {s:St} {l:List Nat} {e:Nat}:IsI (s.new (.row 1 (rowsI l) false)) (.slice (some ⟨s.n,0,some 0⟩) l.length e) l :=
  .inr ⟨s.n,0,e,_,_,rfl,get_new_same,fun j d h=>by rw [Nat.zero_add]; exact rowsI_get h⟩
theorem IsI.more {s s':St} {v:Value} {l:List Nat} (h:IsI s v l) (hm:More s s') (hf:Fresh s):IsI s' v l:=by
  rcases h with ⟨rfl,rfl⟩ | ⟨b,i,e,rows,ro,rfl,hg,hr⟩
  · exact .inl ⟨rfl,rfl⟩
  · exact .inr ⟨b,i,e,rows,ro,rfl,hm.get hf hg,hr⟩
theorem bits_is {n b:Nat} (s:St) (h1:n≤32) (hb:b < 2 ^ n):∃ v s',Q1i.v (VV n b) s=some (v,s')∧More s s'∧IsI s' v (bl n b):=by
  refine ⟨_,_,bits_v s h1 hb,.new,?_⟩
  have:=@IsI.new s (bl n b) (2 * n)
  rwa [bl_length] at this
theorem of_r {s:St} {v:Value} {l:List Nat} (h:IsI s v l) (hd:∀ d ∈ l,d < 2) (hl:l.length≤40):Q1j.r v s=some (VV l.length (ofBits l)):=by
  have hloop:iter (Q1j.l3 std) BIG [v,Value.int .i64 ((0:Nat):Int),.agg ⟨[.int .i64 0,.int .u64 0]⟩,.agg ⟨[.int .i64 l.length,.int .u64 ((0:Nat):Int)]⟩] s=some (0,[Value.agg ⟨[.int .i64 0,.int .u64 0]⟩,.agg ⟨[.int .i64 l.length,.int .u64 (ofBits l:Int)]⟩],s):=by
    refine iter_rel (fun d xs s'=>s'=s∧∃ j,j+d=l.length∧xs=[v,Value.int .i64 (j:Int),.agg ⟨[.int .i64 0,.int .u64 0]⟩,.agg ⟨[.int .i64 l.length,.int .u64 (ofBits (l.take j):Int)]⟩]) (fun r:Option Cut=>r=some (0,[Value.agg ⟨[.int .i64 0,.int .u64 0]⟩,.agg ⟨[.int .i64 l.length,.int .u64 (ofBits l:Int)]⟩],s)) ?_ BIG l.length _ s (by unfold BIG; omega) ⟨rfl,0,by omega,by simp [ofBits]⟩
    rintro d xs s' rec ⟨rfl,j,hj,rfl⟩ ih
    cases d with
    | zero =>
      have e1:¬ ((j:Int) < l.length):=by omega
      simp only [Q1j.l3,sy,reduceIte,Nat.reduceAdd,Nat.reduceLeDiff,Nat.reduceLT,Nat.reduceEqDiff,Int.reduceEq,Int.reduceLT,Int.reduceLE,Int.reduceNe,ly,h.len,e1]
      rw [List.take_of_length_le (by omega)]
    | succ d =>
      have e1:(j:Int) < l.length:=by omega
      obtain ⟨x,hx⟩:∃ x,l[j]?=some x:=⟨_,List.getElem?_eq_getElem (by omega)⟩
      obtain ⟨p,hp1,hp2⟩:=h.at hx
      have hx2:x < 2:=hd x (List.mem_of_getElem? hx)
      have htk:l.take (j+1)=l.take j++[x]:=by rw [List.take_add_one,hx]; rfl
      have hb:ofBits (l.take j) < 2 ^ 40:=Nat.lt_of_lt_of_le (ofBits_lt rfl fun y hy=>hd y (List.mem_of_mem_take hy)) (Nat.pow_le_pow_right (by omega) (by rw [List.length_take]; omega))
      have e2:IntKind.u64.wrap ((ofBits (l.take j):Int) * 2)=((ofBits (l.take j) * 2:Nat):Int):=by rw [wrapu64 (by omega) (by omega)]; omega
      have e3:IntKind.u64.wrap (x:Int)=x:=wrapu64 (by omega) (by omega)
      have e4:IntKind.u64.wrap (((ofBits (l.take j) * 2:Nat):Int)+x)=(ofBits (l.take (j+1)):Int):=by rw [wrapu64 (by omega) (by omega),htk,ofBits_snoc]; omega
      have e5:IntKind.i64.wrap ((j:Int)+1)=((j+1:Nat):Int):=by rw [wrap64 (by omega) (by omega)]; omega
      simp only [Q1j.l3,sy,reduceIte,Nat.reduceAdd,Nat.reduceLeDiff,Nat.reduceLT,Nat.reduceEqDiff,Int.reduceEq,Int.reduceLT,Int.reduceLE,Int.reduceNe,ly,h.len,e1,hp1,hp2,e2,e3,e4,e5]
      exact ih d _ _ (by omega) ⟨rfl,j+1,by omega,rfl⟩
  simp only [Q1j.r,Q1j.t,sy,reduceIte,Nat.reduceAdd,Nat.reduceLeDiff,Nat.reduceLT,Nat.reduceEqDiff,Int.reduceEq,Int.reduceLT,Int.reduceLE,Int.reduceNe,ly,h.len]
  rw [show (Value.int .i64 0)=Value.int .i64 ((0:Nat):Int) from rfl,show (Value.int .u64 0)=Value.int .u64 ((0:Nat):Int) from rfl]
  erw [hloop]
  simp only [sy,reduceIte,Nat.reduceAdd,Nat.reduceLeDiff,Nat.reduceLT,Nat.reduceEqDiff,Int.reduceEq,Int.reduceLT,Int.reduceLE,Int.reduceNe,ly]
end Go.Proofs.Yteapmnolmfickaa
/-
  Bit,Prefix,Rest,Flip: the program's and the reference's.
-/
set_option linter.unusedSimpArgs false
set_option linter.unusedVariables false
set_option maxRecDepth 100000
namespace Go.Proofs.Yteapmnolmfickaa
open Go.Sim Go.Sim.Bt
attribute [local congr] bdc cndc itec gdc gdSc gdUc
theorem i5:¬ ((5:Int)=0):=by omega
end Go.Proofs.Yteapmnolmfickaa
/-
  Common,Compare,Begins: the program's and the reference's.
-/
set_option linter.unusedSimpArgs false
set_option linter.unusedVariables false
set_option maxRecDepth 100000
namespace Go.Proofs.Yteapmnolmfickaa
open Go.Sim Go.Sim.Bt
attribute [local congr] bdc cndc itec gdc gdSc gdUc
def nb (x:Nat):Nat:=((List.range 9).find? fun k=>decide (x < 2 ^ k)).getD 9
end Go.Proofs.Yteapmnolmfickaa
