/-
  A function that defers one closure, which may recover.
-/
import Derived.Test.YtogcfnhbacglfaaSimZ
import Derived.Defers
import Derived.Recover
set_option linter.unusedSimpArgs false
set_option linter.unusedVariables false
namespace Go.Sim
open Go.RowKit (Below)

def dfP1 (f : Func) : Code := match f.body with
  | some (.seq a _) => a
  | _ => .skip
def dfP2 (f : Func) : Code := match f.body with
  | some (.seq _ (.seq a _)) => a
  | _ => .skip
def dfP3 (f : Func) : Code := match f.body with
  | some (.seq _ (.seq _ (.seq a _))) => a
  | _ => .skip
def dfP4 (f : Func) : Code := match f.body with
  | some (.seq _ (.seq _ (.seq _ (.seq _ a)))) => a
  | _ => .skip
def clP (f : Func) : Code := match f.body with
  | some (.seq _ a) => a
  | _ => .skip

/-- Temporaries that hold values. -/
def frV : List Nat → List Value → List (Nat × Ent)
  | t :: ts, v :: vs => (t, .val v) :: frV ts vs
  | _, _ => []

def getV (fr : Fr) : List Nat → Option (List Value)
  | [] => some []
  | t :: ts => match evE fr none (.tmp t) with
    | some (.val v) => match getV fr ts with
      | some vs => some (v :: vs)
      | none => none
    | _ => none

/-- What comes ahead of the deferred call: true: what is handed on; false: the results. -/
def dfHead (S : Sig) (P : Program) (C : Ctx) (an : An) (H1 H2 H3 : Code) (ts : List Nat) (rs : List ResultVar) (args : List Value) (s : St) : Option (Bool × List Value × St) :=
  argsK args 0 fun e => evC S P C an H1 (Bool × List Value × St) ⟨e, [], []⟩ s fun e fr s => match e with
    | .normal => evC S P C an H2 (Bool × List Value × St) fr s fun e fr s => match e with
      | .normal => evC S P C an H3 (Bool × List Value × St) fr s fun e fr s => match e with
        | .normal => match getV fr ts with
          | some ys => some (true, ys, s)
          | none => none
        | _ => none
      | .ret => resK S P fr s rs fun l => some (false, l, s)
      | _ => none
    | _ => none

/-- What comes behind it: did it return?, the value of the panic, what is kept. -/
def dfBody (S : Sig) (P : Program) (C : Ctx) (an : An) (B : Code) (t : Nat) (f : Value) (ts zs : List Nat) (ys : List Value) (s : St) : Option (Bool × Value × List Value × St) :=
  evC S P C an B (Bool × Value × List Value × St) ⟨(t, .val f) :: frV ts ys, [], []⟩ s fun e fr s => match e with
    | .exit _ => none
    | .pan x => match getV fr zs with
      | some q => some (false, x, q, s)
      | none => none
    | _ => match getV fr zs with
      | some q => some (true, undef, q, s)
      | none => none

/-- The results, read when the closure has run. -/
def dfEnd (P : Program) (rs : List ResultVar) (zs : List Nat) (q : List Value) (s : St) : Option (Value × St) :=
  resK std P ⟨frV zs q, [], []⟩ s rs fun l => some (oneV l, s)

/-- The closure, entered as a deferred call: it is handed `nil` or the value of a panic. -/
structure CloOk (P : Program) (g : FuncId) (c : List Value → Value → St → Option St) : Prop where
  idle : ∀ (φ : Phi) (s : St) (w : World) (args args' : List Value) (s' : St), Rel φ s w → VsRel φ args args' → c args .nilIface s = some s' → CallsD P g ⟨args'⟩ .returning w fun e u w' => (∃ v, e = .returned v) ∧ u = .returning ∧ ∃ φ', Step φ s w φ' s' w'
  caught : ∀ (φ : Phi) (s : St) (w : World) (args args' : List Value) (x x' : Value) (s' : St), Rel φ s w → VsRel φ args args' → VRel φ x x' → c args x s = some s' →
    CallsD P g ⟨args'⟩ (.panicking [{ v := x', recovered := false }]) w fun e u w' => (∃ v, e = .returned v) ∧ u = .panicking [{ v := x', recovered := true }] ∧ ∃ φ', Step φ s w φ' s' w'

/-- The whole function. -/
def dfW (P : Program) (h : List Value → St → Option (Bool × List Value × St)) (b : Value → List Value → St → Option (Bool × Value × List Value × St)) (f2 : Nat) (ts : List Nat) (caps : List Operand) (c : List Value → Value → St → Option St) (rs : List ResultVar) (zs : List Nat) (args : List Value) (s : St) : Option (Value × St) :=
  (h args s).bind fun r => match r with
    | (false, l, s1) => some (oneV l, s1)
    | (true, ys, s1) => (evVs ⟨frV ts ys, [], []⟩ caps).bind fun cs => (b (.func (.func f2) ⟨[]⟩ ⟨cs⟩) ys s1).bind fun q => (c cs (if q.1 then .nilIface else q.2.1) q.2.2.2).bind fun s3 => dfEnd P rs zs q.2.2.1 s3

section
variable {P : Program} {C : Ctx} {an : An} {φ0 φ : Phi} {ψ : Nat → Option Nat} {s0 s s' : St} {w0 w : World} {fr fr' : Fr} {a g : Act} {ops : Array Oper}

theorem getV_frV {φ : Phi} {ψ : Nat → Option Nat} {fr : Fr} {a : Act} (h : EnvRel φ ψ fr a) : ∀ {ts : List Nat} {ys : List Value}, getV fr ts = some ys → ∀ t x, lookE (frV ts ys) t = some x → ∃ v, x = .val v ∧ t < a.tmps.size ∧ VRel φ v (a.tmps.getD t undef)
  | [], ys, hg, t, x, hx => by
    simp only [getV, Option.some.injEq] at hg
    subst hg
    simp [frV, lookE] at hx
  | t0 :: ts, ys, hg, t, x, hx => by
    simp only [getV] at hg
    split at hg
    · rename_i v hv
      split at hg
      · rename_i vs hvs
        simp only [Option.some.injEq] at hg
        subst hg
        simp only [frV, lookE] at hx
        split at hx
        · rename_i ht
          simp only [Option.some.injEq] at hx
          obtain ⟨h1, h2⟩ := evE_tmp hv
          obtain ⟨h3, h4⟩ := h.env t0 _ h2
          exact ⟨v, hx.symm, by rw [ht]; exact h3, by rw [ht]; exact h4⟩
        · exact getV_frV h hvs t x hx
      · simp at hg
    · simp at hg

/-- A frame of mere values, taken as a beginning. -/
theorem inv_fresh {e : List (Nat × Ent)} (hr : Rel φ s w) (hs : a.tmps.size = an.N) (hd : a.defers = an.D) (he : ∀ t x, lookE e t = some x → ∃ v, x = .val v ∧ t < a.tmps.size ∧ VRel φ v (a.tmps.getD t undef)) : InvA an φ s w φ (fun _ => none) s ⟨e, [], []⟩ a w := by
  refine ⟨.refl hr, ⟨⟨fun t x hx => ?_, fun t t' j gt b hl => by simp [lookG] at hl⟩, fun t cs hl => by simp [lookL] at hl⟩, ⟨fun t cs c hl => by simp [lookL] at hl, fun t cs c b k l hl => by simp [lookL] at hl, fun t t' cs cs' c _ hl => by simp [lookL] at hl⟩, hd, hs, fun _ => ⟨rfl, rfl, .refl _ _⟩⟩
  obtain ⟨v, rfl, h1, h2⟩ := he t x hx
  exact ⟨h1, h2⟩

/-- A function's call begins. -/
theorem inv_enter {fn : Func} {args args' : List Value} {e : List (Nat × Ent)} (hr : Rel φ s w) (ha : VsRel φ args args') (hn : fn.ntmps = an.N) (hl : args.length ≤ an.N) (hD : an.D = [])
    (h2 : ∀ t x, lookE e t = some x → ∃ j v, t = 0 + j ∧ args[j]? = some v ∧ x = .val v) : InvA an φ s w φ (fun _ => none) s ⟨e, [], []⟩ ⟨⟨args'⟩ ++ Array.replicate (fn.ntmps - args'.length) undef, []⟩ w := by
  have hlen := ha.length
  refine ⟨.refl hr, ⟨⟨fun t x hx => ?_, fun t t' j gt b hl => by simp [lookG] at hl⟩, fun t cs hl => by simp [lookL] at hl⟩, ⟨fun t cs c hl => by simp [lookL] at hl, fun t cs c b k l hl => by simp [lookL] at hl, fun t t' cs cs' c _ hl => by simp [lookL] at hl⟩, hD.symm, ?_, fun _ => ⟨rfl, rfl, .refl _ _⟩⟩
  · obtain ⟨j, v, rfl, h3, rfl⟩ := h2 t x hx
    obtain ⟨u, h4, h5⟩ := ha.get h3
    have hj : j < args'.length := (List.getElem?_eq_some_iff.1 h4).1
    refine ⟨by simp; omega, ?_⟩
    rw [Nat.zero_add]
    have : (⟨args'⟩ ++ Array.replicate (fn.ntmps - args'.length) undef : Array Value).getD j undef = u := by
      rw [Array.getD_eq_getD_getElem?, Array.getElem?_append_left (by simpa using hj)]
      simp [h4]
    rw [this]
    exact h5
  · simp; omega

theorem defer_ok {C2 : Ctx} {an2 : List Deferred → An} (hC : CtxOk P C) (hC2 : CtxOk P C2) (hm : P.follows .mixedOrders = true) {f f2 : FuncId} {fn : Func} {H1 H2 H3 B : Code} {id : Nat} {t : Nat} {caps : List Operand} {ts zs : List Nat}
    {ty1 ty2 : TypeId} {p1 p2 : String} {ed1 ed2 : Array Edge} {c : List Value → Value → St → Option St} {h : List Value → St → Option (Bool × List Value × St)} {b : Value → List Value → St → Option (Bool × Value × List Value × St)}
    (hf : P.funcs[f]? = some fn)
    (hb : fn.body = some (.seq H1 (.seq H2 (.seq H3 (.seq (.region id #[⟨some t, .makeFunc (.func f2) #[] ⟨caps⟩, ty1, p1, ed1, none⟩, ⟨none, .defer { callee := .value (.tmp t), args := #[], argTypes := #[] }, ty2, p2, ed2, none⟩] false) B)))))
    (hn : fn.ntmps = an.N) (ht : t < an.N) (hD : an.D = []) (hn2 : ∀ D, (an2 D).N = an.N ∧ (an2 D).D = D)
    (hd1 : drawsOk an H1 = true) (hd2 : drawsOk an H2 = true) (hd3 : drawsOk an H3 = true) (hd4 : ∀ D, drawsOk (an2 D) B = true)
    (hcan : callOk P f2 = true) (hc : CloOk P f2 c)
    (hh : ∀ args s r, h args s = some r → args.length ≤ an.N ∧ dfHead std P C an H1 H2 H3 ts fn.results.toList args s = some r)
    (hbd : ∀ D v ys s r, b v ys s = some r → dfBody std P C2 (an2 D) B t v ts zs ys s = some r) :
    FnOk P f (.st (dfW P h b f2 ts caps c fn.results.toList zs)) := by
  intro φ s w args args' r s' hr ha he
  simp only [dfW, Option.bind_eq_some_iff] at he
  obtain ⟨r1, he1, he⟩ := he
  obtain ⟨hlen, he1⟩ := hh _ _ _ he1
  unfold dfHead at he1
  obtain ⟨e, he1, h2⟩ := argsK_use he1
  have hinv := inv_enter hr ha hn hlen hD h2
  refine calls_of_wp_defers hf hb ?_
  have hsz : (⟨args'⟩ : Array Value).size = args'.length := by simp
  rw [hsz]
  refine wp_seq (evC_sound hC hm H1 hd1 hinv he1 (fun φ' ψ' s' fr' a' w' x u _ _ hk => by simp at hk) fun e1 φ1 ψ1 s1 fr1 a1 w1 hpe i1 hk => ?_)
  cases e1 with
  | exit i => simp at hk
  | ret => simp at hk
  | pan v => simp [Ex.pans] at hpe
  | normal =>
  refine wp_seq (evC_sound hC hm H2 hd2 i1 hk (fun φ' ψ' s' fr' a' w' x u _ _ hk => by simp at hk) fun e2 φ2 ψ2 s2 fr2 a2 w2 hpe i2 hk => ?_)
  cases e2 with
  | exit i => simp at hk
  | pan v => simp [Ex.pans] at hpe
  | ret =>
    obtain ⟨vs, us, h3, h4, h5⟩ := resK_spec i2 _ _ hk
    simp only [Option.some.injEq] at h3
    subst h3
    simp only [Option.some.injEq, Prod.mk.injEq] at he
    obtain ⟨rfl, rfl⟩ := he
    show Leaves P fn a2.tmps _ a2.defers .returning w2
    rw [i2.defers, hD]
    exact ⟨_, results_run h5, φ2, i2.step, oneV_rel h4⟩
  | normal =>
  refine wp_seq (evC_sound hC hm H3 hd3 i2 hk (fun φ' ψ' s' fr' a' w' x u _ _ hk => by simp at hk) fun e3 φ3 ψ3 s3 fr3 a3 w3 hpe i3 hk => ?_)
  cases e3 with
  | exit i => simp at hk
  | pan v => simp [Ex.pans] at hpe
  | ret => simp at hk
  | normal =>
  simp only at hk
  split at hk
  rotate_left
  · simp at hk
  rename_i ys hys
  simp only [Option.some.injEq] at hk
  subst hk
  simp only [Option.bind_eq_some_iff] at he
  obtain ⟨cs, hcs, q, hq, s5, hcl, hend⟩ := he
  have henv := getV_frV i3.frel.toEnvRel hys
  have i3' : InvA { an with D := a3.defers } φ3 s3 w3 φ3 (fun _ => none) s3 ⟨frV ts ys, [], []⟩ a3 w3 := inv_fresh i3.step.rel i3.size rfl henv
  have hcap := evVs_sound i3'.frel.toEnvRel hcs
  refine wp_seq (wp_region_list ?_)
  have hrun1 : ∀ o : Oper, o.op = .makeFunc (.func f2) #[] ⟨caps⟩ → (execOp a3.eval o).run P w3 = .ok (.value (.func (.func f2) #[] ⟨caps.map a3.eval⟩)) w3 := fun o ho => by
    simp only [execOp, ho, Sem.run_bind]
    simp [Instr.makeFunc]
  unfold wpList
  rw [if_pos (by simp [Region.wanted])]
  refine .inl ?_
  unfold Oper.wp
  rw [hrun1 _ rfl]
  simp only [Oper.upon]
  unfold wpList
  rw [if_pos (by simp [Region.wanted])]
  refine .inl ?_
  have hts : t < a3.tmps.size := by rw [i3.size]; exact ht
  have hrun2 : ∀ o : Oper, o.op = .defer { callee := .value (.tmp t), args := #[], argTypes := #[] } → (execOp (a3.put (some t) (.func (.func f2) #[] ⟨caps.map a3.eval⟩)).eval o).run P w3 = .ok (.defer ⟨.fn (.func f2) ⟨caps.map a3.eval⟩, #[]⟩) w3 := fun o ho => by
    simp only [execOp, ho, resolve, Act.eval, getD_put_same hts, Deferred.ofValue]
    simp
  unfold Oper.wp
  rw [hrun2 _ rfl]
  simp only [Oper.upon]
  unfold wpList
  generalize hdd : (⟨.fn (.func f2) ⟨caps.map a3.eval⟩, #[]⟩ : Deferred) = d
  have hfv : VRel φ3 (.func (.func f2) ⟨[]⟩ ⟨cs⟩) (.func (.func f2) #[] ⟨caps.map a3.eval⟩) := VRel.func _ .nil hcap
  have i4 : InvA (an2 [d]) φ3 s3 w3 φ3 (fun _ => none) s3 ⟨(t, .val (.func (.func f2) ⟨[]⟩ ⟨cs⟩)) :: frV ts ys, [], []⟩ { tmps := (a3.put (some t) (.func (.func f2) #[] ⟨caps.map a3.eval⟩)).tmps, defers := [d] } w3 := by
    refine inv_fresh i3.step.rel (by rw [(hn2 _).1]; simpa using i3.size) (by rw [(hn2 _).2]) fun t' x hx => ?_
    simp only [lookE] at hx
    split at hx
    · rename_i htt
      simp only [Option.some.injEq] at hx
      refine ⟨_, hx.symm, by simpa [htt] using hts, ?_⟩
      rw [htt, getD_put_same hts]
      exact hfv
    · rename_i htt
      obtain ⟨v, h3, h4, h5⟩ := henv t' x hx
      exact ⟨v, h3, by simpa using h4, by rw [getD_put_other htt]; exact h5⟩
  have hact : ({ a3.put (some t) (.func (.func f2) #[] ⟨caps.map a3.eval⟩) with defers := d :: (a3.put (some t) (.func (.func f2) #[] ⟨caps.map a3.eval⟩)).defers } : Act).put none undef = { tmps := (a3.put (some t) (.func (.func f2) #[] ⟨caps.map a3.eval⟩)).tmps, defers := [d] } := by
    rw [defers_put, i3.defers, hD]
    rfl
  rw [hact]
  have hi : ∀ w, (invoke (.fn (.func f2) ⟨caps.map a3.eval⟩) #[]).run P w = .ok (.enter f2 ⟨caps.map a3.eval⟩) w := fun w => by
    simp [invoke, run_callFunc hcan]
  have fin : ∀ {φ5 : Phi} {ψ5 : Nat → Option Nat} {s4 : St} {fr5 : Fr} {a5 : Act} {w5 w6 : World} {φ6 : Phi} {zv : List Value}, InvA (an2 [d]) φ3 s3 w3 φ5 ψ5 s4 fr5 a5 w5 → getV fr5 zs = some zv → Step φ5 s4 w5 φ6 s5 w6 → dfEnd P fn.results.toList zs zv s5 = some (r, s') →
      ∃ v, (results fn a5.tmps).run P w6 = .ok v w6 ∧ ∃ φ', Step φ s w φ' s' w6 ∧ VRel φ' r v := by
    intro φ5 ψ5 s4 fr5 a5 w5 w6 φ6 zv i5 hz hst he
    have i6 : InvA { an with D := a5.defers } φ6 s5 w6 φ6 (fun _ => none) s5 ⟨frV zs zv, [], []⟩ a5 w6 := inv_fresh hst.rel (by rw [i5.size, (hn2 _).1]) rfl fun t x hx => by
      obtain ⟨v, h3, h4, h5⟩ := getV_frV i5.frel.toEnvRel hz t x hx
      exact ⟨v, h3, h4, VRel.mono hst.ext h5⟩
    unfold dfEnd at he
    obtain ⟨vs, us, h3, h4, h5⟩ := resK_spec i6 _ _ he
    simp only [Option.some.injEq, Prod.mk.injEq] at h3
    obtain ⟨rfl, rfl⟩ := h3
    exact ⟨_, results_run h5, φ6, (i3.step.trans i5.step).trans hst, oneV_rel h4⟩
  refine evC_sound hC2 hm B (hd4 [d]) i4 (hbd [d] _ _ _ _ hq) (fun φ5 ψ5 s4 fr5 a5 w5 x u i5 hx hk => ?_) fun e5 φ5 ψ5 s4 fr5 a5 w5 hpe i5 hk => ?_
  · simp only at hk
    split at hk
    rotate_left
    · simp at hk
    rename_i zv hz
    simp only [Option.some.injEq] at hk
    subst hk
    simp only [Bool.false_eq_true, if_false] at hcl hend
    show Leaves P fn a5.tmps _ a5.defers (.panicking _) w5
    rw [i5.defers, (hn2 _).2, ← hdd]
    refine leaves_cons (by simp) (hi _) ((hc.caught φ5 s4 w5 cs _ x u s5 i5.step.rel (hcap.mono i5.step.ext) hx hcl).mono fun e u' w6 ⟨⟨v, hv⟩, hu, φ6, hst⟩ => ?_)
    subst hv; subst hu
    exact fin i5 hz hst hend
  · have key : (match getV fr5 zs with
        | some q => some (true, undef, q, s4)
        | none => none) = some q → Leaves P fn a5.tmps (fun | .returned u, w' => ∃ φ', Step φ s w φ' s' w' ∧ VRel φ' r u | _, _ => False) a5.defers .returning w5 := by
      intro hk
      split at hk
      rotate_left
      · simp at hk
      rename_i zv hz
      simp only [Option.some.injEq] at hk
      subst hk
      simp only [if_true] at hcl hend
      rw [i5.defers, (hn2 _).2, ← hdd]
      refine leaves_cons (by simp) (hi _) ((hc.idle φ5 s4 w5 cs _ s5 i5.step.rel (hcap.mono i5.step.ext) hcl).mono fun e u' w6 ⟨⟨v, hv⟩, hu, φ6, hst⟩ => ?_)
      subst hv; subst hu
      exact fin i5 hz hst hend
    cases e5 with
    | exit i => simp at hk
    | pan v => simp [Ex.pans] at hpe
    | normal => exact key hk
    | ret => exact key hk

end
end Go.Sim
