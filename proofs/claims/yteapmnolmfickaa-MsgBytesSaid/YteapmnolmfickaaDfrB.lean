/-
  The closure that recovers, entered as a deferred call.
-/
import Derived.Test.YteapmnolmfickaaDfrA
set_option linter.unusedSimpArgs false
set_option linter.unusedVariables false
namespace Go.Sim
open Go.RowKit (Below)
section
variable {P:Program} {C:Ctx} {an:An} {φ0 φ:Phi} {ψ:Nat→Option Nat} {s0 s s':St} {w0 w:World} {fr fr':Fr} {a g:Act} {ops:Array Oper}
theorem frV_range:∀ {args:List Value} {k t:Nat} {x:Ent},lookE (frV (List.range' k args.length) args) t=some x→∃ j v,t=k+j∧args[j]?=some v∧x=.val v
  | [],k,t,x,h=>by simp [frV,lookE] at h
  | v :: vs,k,t,x,h=>by
    simp only [List.length_cons,List.range'_succ,frV,lookE] at h
    split at h
    · rename_i ht
      simp only [Option.some.injEq] at h
      exact ⟨0,v,by omega,rfl,h.symm⟩
    · obtain ⟨j,u,h1,h2,h3⟩:=frV_range h
      exact ⟨j+1,u,by omega,by simpa using h2,h3⟩
def cloB (S:Sig) (P:Program) (C:Ctx) (an:An) (B:Code) (t:Nat) (args:List Value) (x:Value) (s:St):Option St :=
  evC S P C an B St ⟨(t,.val x) :: frV (List.range' 0 args.length) args,[],[]⟩ s fun e fr s=>match e with
    | .exit _=>none
    | .pan _=>none
    | _=>some s
theorem clo_ok (hC:CtxOk P C) (hm:P.follows .mixedOrders=true) {f:FuncId} {fn:Func} {B:Code} {id t1 t2:Nat} {ty1 ty2:TypeId} {p1 p2:String} {ed1 ed2:Array Edge} {c:List Value→Value→St→Option St}
    (hf:P.funcs[f]?=some fn)
    (hb:fn.body=some (.seq (.region id #[⟨some t1,.call { callee:=.builtin .recover,args:=#[],argTypes:=#[] },ty1,p1,ed1,none⟩,⟨some t2,.assign (.tmp t1),ty2,p2,ed2,none⟩] false) B))
    (hn:fn.ntmps=an.N) (ht1:t1 < an.N) (ht2:t2 < an.N) (hD:an.D=[]) (hres:fn.results = #[]) (hd:drawsOk an B=true)
    (hc:∀ args x s r,c args x s=some r→args.length≤t1∧args.length≤t2∧cloB std P C an B t2 args x s=some r):CloOk P f c:=by
  have main:∀ (φ:Phi) (s:St) (w:World) (args args':List Value) (x x':Value) (s':St) (u u2:FrameMode),Rel φ s w→VsRel φ args args'→VRel φ x x'→c args x s=some s' →
      (∀ (c₀:Frame) (cs:List Frame),c₀.mode=u→(∃ v cs',recoverD (c₀ :: cs)=some (v,cs')∧v=x'∧cs' = { c₀ with mode:=u2 } :: cs)∨(recoverD (c₀ :: cs)=none∧x'=.nilIface∧u2=u)) →
      CallsD P f ⟨args'⟩ u w fun e u w'=>(∃ v,e=.returned v)∧u=u2∧∃ φ',Step φ s w φ' s' w':=by
    intro φ s w args args' x x' s' u u2 hr ha hx he hrec
    obtain ⟨hl1,hl2,he⟩:=hc _ _ _ _ he
    have hlen:=ha.length
    refine callsD_of_wpS hf hb fun c₀ cs hu=>?_
    apply wpS_seq
    apply wpS_region
    generalize ha0:({ tmps:=⟨args'⟩++Array.replicate (fn.ntmps - (⟨args'⟩:Array Value).size) undef,defers:=[] }:Act)=a0
    have hs0:a0.tmps.size=an.N:=by rw [← ha0]; simp; omega
    have hd0:a0.defers=[]:=by rw [← ha0]
    have hg0:∀ j v,args'[j]?=some v→a0.tmps.getD j undef=v:=fun j v hj=>by
      have hjl:j < args'.length:=(List.getElem?_eq_some_iff.1 hj).1
      rw [← ha0,Array.getD_eq_getD_getElem?,Array.getElem?_append_left (by simpa using hjl)]
      simp [hj]
    have h1:(execOp a0.eval ⟨some t1,.call { callee:=.builtin .recover,args:=#[],argTypes:=#[] },ty1,p1,ed1,none⟩).run P w=.ok .recover w:=by
      simp only [execOp,resolve,invoke,builtin,Sem.run_bind,Sem.run_pure,Result.andThen_ok]
    have h2:∀ v:Value,(execOp (a0.put (some t1) v).eval ⟨some t2,.assign (.tmp t1),ty2,p2,ed2,none⟩).run P w=.ok (.value v) w:=fun v=>by
      simp only [execOp,Act.eval,getD_put_same (by rw [hs0]; exact ht1),Sem.run_pure]
    have key:∀ cs',cs' = { c₀ with mode:=u2 } :: cs→B.wpS P (bodyPostS P fn c₀ cs fun e u w'=>(∃ v,e=.returned v)∧u=u2∧∃ φ',Step φ s w φ' s' w') ((a0.put (some t1) x').put (some t2) x') cs' w:=by
      intro cs' hcs
      have i1:InvA an φ s w φ (fun _=>none) s ⟨(t2,.val x) :: frV (List.range' 0 args.length) args,[],[]⟩ ((a0.put (some t1) x').put (some t2) x') w:=by
        refine inv_fresh hr (by simpa using hs0) (by rw [defers_put,defers_put,hd0,hD]) fun t y hy=>?_
        simp only [lookE] at hy
        split at hy
        · rename_i ht
          simp only [Option.some.injEq] at hy
          refine ⟨_,hy.symm,by simp [ht,hs0,ht2],?_⟩
          rw [ht,getD_put_same (by simp [hs0,ht2])]
          exact hx
        · obtain ⟨j,v,h3,h4,h5⟩:=frV_range hy
          obtain ⟨v',h6,h7⟩:=ha.get h4
          have hj:j < args.length:=(List.getElem?_eq_some_iff.1 h4).1
          refine ⟨v,h5,by simp [hs0]; omega,?_⟩
          rw [getD_put_other (by omega),getD_put_other (by omega),h3,Nat.zero_add,hg0 j v' h6]
          exact h7
      refine wpS_of_wp (evC_sound hC hm B hd i1 he (fun φ' ψ' s' fr' a' w' x u _ _ hk=>by simp at hk) fun e φ' ψ' s2 fr' a' w' hpe i2 hk=>?_)
      have fin:some s2=some s'→a'.defers=[]∧∃ u',cs' = { c₀ with mode:=u' } :: cs∧∃ v,(results fn a'.tmps).run P w'=.ok v w'∧(∃ v',Ending.returned v=.returned v')∧u'=u2∧∃ φ',Step φ s w φ' s' w':=fun hk=>by
        simp only [Option.some.injEq] at hk
        subst hk
        exact ⟨i2.defers.trans hD,u2,hcs,.tuple #[],by simp [results,hres],⟨_,rfl⟩,rfl,φ',i2.step⟩
      cases e with
      | exit i=>simp at hk
      | pan v=>simp [Ex.pans] at hpe
      | normal=>exact fin hk
      | ret=>exact fin hk
    show wpOpsS P _ _ [0,1] a0 (c₀ :: cs) w
    unfold wpOpsS
    simp only [List.getElem?_toArray,List.getElem?_cons_zero,Region.wanted,if_true,h1]
    rcases hrec c₀ cs hu with ⟨v,cs',h3,h4,h5⟩ | ⟨h3,h4,h5⟩
    · subst h4
      simp only [h3]
      unfold wpOpsS
      simp only [List.getElem?_toArray,List.getElem?_cons_succ,List.getElem?_cons_zero,Region.wanted,if_true,h2,Oper.upon]
      unfold wpOpsS
      exact key _ h5
    · subst h4
      simp only [h3]
      unfold wpOpsS
      simp only [List.getElem?_toArray,List.getElem?_cons_succ,List.getElem?_cons_zero,Region.wanted,if_true,h2,Oper.upon]
      unfold wpOpsS
      refine key _ ?_
      rw [h5,← hu]
  refine ⟨fun φ s w args args' s' hr ha he=>main φ s w args args' .nilIface .nilIface s' .returning .returning hr ha (VRel.of_plain φ rfl) he fun c₀ cs hu=>.inr ⟨?_,rfl,rfl⟩,fun φ s w args args' x x' s' hr ha hx he=>main φ s w args args' x x' s' _ _ hr ha hx he fun c₀ cs hu=>.inl ⟨x',_,?_,rfl,rfl⟩⟩
  · simp [recoverD,hu]
  · simp [recoverD,hu]
end
end Go.Sim
