/-
  Functions of the evaluator against the model's.
-/
import Derived.Test.YtkkgegocliobpaaSimU
set_option linter.unusedSimpArgs false
set_option linter.unusedVariables false
namespace Go.Sim
open Go.RowKit (Below)

section
variable {P : Program} {C : Ctx} {an : An} {φ0 φ : Phi} {ψ : Nat → Option Nat} {s0 s s' : St} {w0 w : World} {fr fr' : Fr} {a g : Act} {ops : Array Oper}

theorem argsK_spec {α : Type} : ∀ (args : List Value) (i : Nat) (K : List (Nat × Ent) → α), ∃ e, argsK args i K = K e ∧ ∀ t x, lookE e t = some x → ∃ j v, t = i + j ∧ args[j]? = some v ∧ x = .val v
  | [], i, K => ⟨[], rfl, fun t x h => by simp [lookE] at h⟩
  | v :: r, i, K => by
    obtain ⟨e, h1, h2⟩ := argsK_spec r (i + 1) fun e => K ((i, .val v) :: e)
    refine ⟨_, h1, fun t x h => ?_⟩
    simp only [lookE] at h
    split at h
    · rename_i ht
      simp only [Option.some.injEq] at h
      exact ⟨0, v, by omega, rfl, h.symm⟩
    · obtain ⟨j, u, h3, h4, h5⟩ := h2 t x h
      exact ⟨j + 1, u, by omega, by simpa using h4, h5⟩

theorem argsK_use {R : Type} {r : R} {args : List Value} {K : List (Nat × Ent) → Option R} (h : argsK args 0 K = some r) : ∃ e, K e = some r ∧ ∀ t x, lookE e t = some x → ∃ j v, t = 0 + j ∧ args[j]? = some v ∧ x = .val v := by
  obtain ⟨e, h1, h2⟩ := argsK_spec args 0 K
  exact ⟨e, h1 ▸ h, h2⟩

def resOne (tmps : Array Value) : ResultVar → Sem Value
  | .tmp t => pure (tmps.getD t undef)
  | .cell a t => do loadVar t (← asAddr (tmps.getD a undef))

theorem load_addr {t : TypeId} {x y : Value} (h : (Instr.loadAt t x).run P w = .ok y w) (hx : ∃ b, x = .pointer (some b)) : (do loadVar t (← asAddr x) : Sem Value).run P w = .ok y w := by
  obtain ⟨b, rfl⟩ := hx
  simp only [Instr.loadAt, Instr.sureAddr, Sem.run_bind, Sem.run_pure, Result.andThen_ok] at h
  simp only [asAddr, Sem.run_bind, Sem.run_pure, Result.andThen_ok]
  exact h

theorem loadAt_addr {t : TypeId} {x y : Value} (h : (Instr.loadAt t x).run P w = .ok y w) : ∃ b, x = .pointer (some b) := by
  cases x with
  | pointer b =>
    cases b with
    | some b => exact ⟨b, rfl⟩
    | none => simp [Instr.loadAt, Instr.sureAddr] at h
  | _ => simp [Instr.loadAt, Instr.sureAddr] at h

theorem resK_spec {R : Type} {r : R} (h : InvA an φ0 s0 w0 φ ψ s fr a w) : ∀ (l : List ResultVar) (K : List Value → Option R), resK std P fr s l K = some r →
    ∃ vs us, K vs = some r ∧ VsRel φ vs us ∧ (l.mapM (resOne a.tmps)).run P w = .ok us w
  | [], K, he => ⟨[], [], he, .nil, by simp⟩
  | .tmp t :: l, K, he => by
    simp only [resK] at he
    split at he
    · rename_i v hv
      obtain ⟨vs, us, h1, h2, h3⟩ := resK_spec h l _ he
      have hr : VRel φ v (a.tmps.getD t undef) := evE_sound h.frel.toEnvRel (og := none) (fun _ _ e => by simp at e) hv
      refine ⟨v :: vs, _ :: us, h1, .cons hr h2, ?_⟩
      simp only [List.mapM_cons, resOne, Sem.run_bind, Sem.run_pure, Result.andThen_ok, h3]
    · simp at he
  | .cell c t :: l, K, he => by
    have fin : ∀ {x x' : Value}, (Instr.loadAt t (a.tmps.getD c undef)).run P w = .ok x' w → VRel φ x x' → resK std P fr s l (fun vs => K (x :: vs)) = some r →
        ∃ vs us, K vs = some r ∧ VsRel φ vs us ∧ ((ResultVar.cell c t :: l).mapM (resOne a.tmps)).run P w = .ok us w := by
      intro x x' h1 h2 h3
      obtain ⟨vs, us, h4, h5, h6⟩ := resK_spec h l _ h3
      refine ⟨x :: vs, x' :: us, h4, .cons h2 h5, ?_⟩
      have h7 := load_addr h1 (loadAt_addr h1)
      simp only [List.mapM_cons, resOne]
      rw [Sem.run_bind, h7]
      simp only [Result.andThen_ok, Sem.run_bind, h6, Sem.run_pure]
    simp only [resK] at he
    split at he
    · rename_i n v h1 h2 h3
      simp only [std_bd, Option.bind_eq_some_iff] at he
      obtain ⟨x, h4, he⟩ := he
      have hr : VRel φ v (a.tmps.getD c undef) := evE_sound h.frel.toEnvRel (og := none) (fun _ _ e => by simp at e) h3
      obtain ⟨x', h5, h6⟩ := load_agg w h.step.rel h1 h2 hr h4
      exact fin h5 h6 he
    · rename_i n v h1 h2 h3
      simp only [std_bd, Option.bind_eq_some_iff] at he
      obtain ⟨x, h4, he⟩ := he
      have hr : VRel φ v (a.tmps.getD c undef) := evE_sound h.frel.toEnvRel (og := none) (fun _ _ e => by simp at e) h3
      obtain ⟨x', h5, h6⟩ := load_one w h.step.rel h1 hr h4
      exact fin h5 h6 he
    · rename_i agg n t' j h1 h2 h3
      obtain ⟨b, g1, g2⟩ : ∃ b, ψ t' = some b ∧ a.tmps.getD c undef = .pointer (some ⟨b, j, none⟩) := evE_sound h.frel.toEnvRel (og := none) (fun _ _ e => by simp at e) h3
      split at he
      · rename_i cs hcs
        obtain ⟨b', f1, f2⟩ := h.frel.loc t' cs hcs
        rw [g1] at f1
        simp only [Option.some.injEq] at f1
        subst f1
        cases agg with
        | true =>
          simp only [std_bd, Option.bind_eq_some_iff] at he
          obtain ⟨x, h4, he⟩ := he
          obtain ⟨x', h5, h6⟩ := load_agg_l w f2 h1 h2 h4
          exact fin (by rw [g2]; exact h5) h6 he
        | false =>
          simp only [std_bd, Option.bind_eq_some_iff] at he
          obtain ⟨x, h4, he⟩ := he
          obtain ⟨x', h5, h6⟩ := load_one_l w f2 h1 h4
          exact fin (by rw [g2]; exact h5) h6 he
      · simp at he
    · simp at he

theorem results_run {fn : Func} {tmps : Array Value} {us : List Value} (h : (fn.results.toList.mapM (resOne tmps)).run P w = .ok us w) : (results fn tmps).run P w = .ok (oneV us) w := by
  have key : ∀ g : ResultVar → Sem Value, (∀ x, g x = resOne tmps x) → (do let vs ← fn.results.mapM g; pure (if h : vs.size = 1 then vs[0] else .tuple vs) : Sem Value).run P w = .ok (oneV us) w := by
    intro g hg
    have : g = resOne tmps := funext hg
    rw [this, Array.mapM_eq_mapM_toList]
    simp only [Sem.run_bind, Sem.run_map, h, Result.andThen_ok, Sem.run_pure]
    cases us with
    | nil => rfl
    | cons u us => cases us <;> rfl
  exact key _ fun x => by cases x <;> rfl

theorem oneV_rel {vs us : List Value} (h : VsRel φ vs us) : VRel φ (oneV vs) (oneV us) := by
  cases h with
  | nil => exact .tuple .nil
  | cons h t =>
    cases t with
    | nil => exact h
    | cons h' t' => exact .tuple (.cons h (.cons h' t'))

/-- A function carried out. -/
theorem evFR_sound (hC : CtxOk P C) (hm : P.follows .mixedOrders = true) {f : FuncId} {fn : Func} {c : Code} (hf : P.funcs[f]? = some fn) (hb : fn.body = some c) (hd : drawsOk an c = true)
    {R : Type} {r : R} {K : Value → St → Option R} {args args' : List Value} {E : Ending → World → Prop} (hr : Rel φ s w) (ha : VsRel φ args args') (he : evFR R std P C an fn args s K = some r)
    (hK : ∀ v u φ' ψ' s' fr' a' w', InvA an φ s w φ' ψ' s' fr' a' w' → VRel φ' v u → K v s' = some r → E (.returned u) w') : Calls P f ⟨args'⟩ w E := by
  simp only [evFR, hb] at he
  split at he
  · rename_i hn
    obtain ⟨hn1, hn2⟩ := hn
    obtain ⟨e, he, h2⟩ := argsK_use he
    have hlen := ha.length
    have hinv : InvA an φ s w φ (fun _ => none) s ⟨e, [], []⟩ ⟨⟨args'⟩ ++ Array.replicate (fn.ntmps - args'.length) undef, []⟩ w := by
      refine ⟨.refl hr, ⟨⟨fun t x hx => ?_, fun t t' j gt b hl => by simp [lookG] at hl⟩, fun t cs hl => by simp [lookL] at hl⟩, ⟨fun t cs c hl => by simp [lookL] at hl, fun t cs c b k l hl => by simp [lookL] at hl, fun t t' cs cs' c _ hl => by simp [lookL] at hl⟩, rfl, ?_, fun _ => ⟨rfl, rfl, .refl _ _⟩⟩
      · obtain ⟨j, v, rfl, h3, rfl⟩ := h2 t x hx
        obtain ⟨u, h4, h5⟩ := ha.get h3
        have hj : j < args'.length := (List.getElem?_eq_some_iff.1 h4).1
        refine ⟨by simp; omega, ?_⟩
        rw [Nat.zero_add]
        have : (⟨args'⟩ ++ Array.replicate (fn.ntmps - args'.length) undef : Array Value).getD j undef = u := by
          rw [Array.getD_eq_getD_getElem?, Array.getElem?_append_left (by simpa using hj)]
          simp [h4]
        rw [this]
        exact h5
      · simp; omega
    refine calls_of_wp hf hb ?_
    have hsz : (⟨args'⟩ : Array Value).size = args'.length := by simp
    rw [hsz]
    refine evC_sound hC hm c hd hinv he fun e φ' ψ' s' fr' a' w' h' hk => ?_
    have fin : resK std P fr' s' fn.results.toList (fun l => K (oneV l) s') = some r → a'.defers = [] ∧ ∃ v, (results fn a'.tmps).run P w' = .ok v w' ∧ E (.returned v) w' := by
      intro hk
      obtain ⟨vs, us, h3, h4, h5⟩ := resK_spec h' _ _ hk
      exact ⟨h'.defers, _, results_run h5, hK _ _ _ _ _ _ _ _ h' (oneV_rel h4) h3⟩
    cases e with
    | normal => exact fin hk
    | ret => exact fin hk
    | exit i => simp at hk
  · simp at he

/-- Are the regions that draw their order in order? -/
def fnDraws (an : An) (fn : Func) : Bool :=
  match fn.body with
  | some c => drawsOk an c
  | none => false

theorem evF_ok (hC : CtxOk P C) (hm : P.follows .mixedOrders = true) {f : FuncId} {fn : Func} (hf : P.funcs[f]? = some fn) (hd : fnDraws an fn = true) : FnOk P f (.st fun args s => evF std P C an fn args s) := by
  unfold fnDraws at hd
  split at hd
  · rename_i c hb
    intro φ s w args args' r s' hr ha he
    exact evFR_sound hC hm hf hb hd hr ha he fun v u φ' ψ' s'' fr' a' w' h' hv hk => by
      simp only [Option.some.injEq, Prod.mk.injEq] at hk
      obtain ⟨rfl, rfl⟩ := hk
      exact ⟨φ', h'.step, hv⟩
  · simp at hd

theorem evG_ok (hC : CtxOk P C) (hm : P.follows .mixedOrders = true) {f : FuncId} {fn : Func} (hf : P.funcs[f]? = some fn) (hd : fnDraws an fn = true) : FnOk P f (.rd fun args s => evG std P C an fn args s) := by
  unfold fnDraws at hd
  split at hd
  · rename_i c hb
    intro φ s w args args' r hr ha he
    simp only [evG] at he
    split at he
    · rename_i hp
      exact evFR_sound hC hm hf hb hd hr ha he fun v u φ' ψ' s'' fr' a' w' h' hv hk => by
        simp only [Option.some.injEq] at hk
        subst hk
        obtain ⟨e1, e2, e3⟩ := h'.pure hp
        exact ⟨⟨e3, Froz.of_below e3⟩, e2 ▸ hv⟩
    · simp at he
  · simp at hd

theorem FnOk.st_of {f : FuncId} {v v' : List Value → St → Option (Value × St)} (h : FnOk P f (.st v)) (he : ∀ args s r, v' args s = some r → v args s = some r) : FnOk P f (.st v') :=
  fun φ s w args args' r s' hr ha hx => h φ s w args args' r s' hr ha (he _ _ _ hx)

theorem FnOk.rd_of {f : FuncId} {v v' : List Value → St → Option Value} (h : FnOk P f (.rd v)) (he : ∀ args s r, v' args s = some r → v args s = some r) : FnOk P f (.rd v') :=
  fun φ s w args args' r hr ha hx => h φ s w args args' r hr ha (he _ _ _ hx)

theorem CtxOk.nil : CtxOk P [] := ⟨fun f x h => by simp [lookC] at h, fun f x h => by simp [lookC] at h⟩

theorem CtxOk.cons {f : FuncId} {x : Fn'} (h : FnOk P f x) (hc : callOk P f = true) (hC : CtxOk P C) : CtxOk P ((f, x) :: C) := by
  constructor
  · intro g y hl
    simp only [lookC] at hl
    split at hl
    · rename_i e
      simp only [Option.some.injEq] at hl
      subst hl; subst e
      exact h
    · exact hC.ok g y hl
  · intro g y hl
    simp only [lookC] at hl
    split at hl
    · rename_i e
      subst e
      exact hc
    · exact hC.run g y hl

end
end Go.Sim
