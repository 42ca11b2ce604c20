/-
  An operation of the evaluator against the model's.
-/
import Derived.Test.YtkkgegocliobpaaSimL
set_option linter.unusedSimpArgs false
namespace Go.Sim
open Go.RowKit (Below)

/-! ### What is known of the functions called -/

def FnOk (P : Program) (f : FuncId) : Fn' → Prop
  | .st v => ∀ (φ : Phi) (s : St) (w : World) (args args' : List Value) (r : Value) (s' : St), Rel φ s w → VsRel φ args args' → v args s = some (r, s') → Calls P f ⟨args'⟩ w fun
      | .returned u, w' => ∃ φ', Step φ s w φ' s' w' ∧ VRel φ' r u
      | _, _ => False
  | .rd g => ∀ (φ : Phi) (s : St) (w : World) (args args' : List Value) (r : Value), Rel φ s w → VsRel φ args args' → g args s = some r → Calls P f ⟨args'⟩ w fun
      | .returned u, w' => (Below w.heap.size w w' ∧ Froz w w') ∧ VRel φ r u
      | _, _ => False

/-- May the function be entered? -/
def callOk (P : Program) (f : FuncId) : Bool :=
  match P.funcs[f]? with
  | some fn => fn.name != "runtime.NumGoroutine" && fn.body.isSome
  | none => false

theorem run_callFunc {P : Program} {f : FuncId} (h : callOk P f = true) (args : Array Value) (w : World) : (callFunc f args).run P w = .ok (.enter f args) w := by
  unfold callOk at h
  cases hf : P.funcs[f]? with
  | none => simp [hf] at h
  | some fn =>
    simp only [hf, Bool.and_eq_true, bne_iff_ne, ne_eq] at h
    cases hb : fn.body with
    | none => simp [hb] at h
    | some c => simp [callFunc, hf, h.1, hb]

structure CtxOk (P : Program) (C : Ctx) : Prop where
  ok : ∀ f x, lookC C f = some x → FnOk P f x
  run : ∀ f x, lookC C f = some x → callOk P f = true

/-! ### What an operation does -/

/-- What a computation brings, of an operation: a value and the world behind it. -/
def DoesE (P : Program) (e : Sem Next) (w : World) (R : Value → World → Prop) : Prop :=
  match e.run P w with
  | .ok (.value v) w' => R v w'
  | .ok .skip w' => R undef w'
  | .ok (.enter f args) w' => Calls P f args w' fun
    | .returned v, w'' => R v w''
    | _, _ => False
  | _ => False

def Does (P : Program) (o : Oper) (a : Act) (w : World) (R : Value → World → Prop) : Prop := DoesE P (execOp a.eval o) w R

theorem DoesE.wp {P : Program} {o : Oper} {a : Act} {w : World} {R : Value → World → Prop} (h : DoesE P (execOp a.eval o) w R) {next : Act → World → Prop} {Q : Exit → Act → World → Prop}
    (hn : ∀ u w', R u w' → next (a.put o.dst u) w') : o.wp P a w next Q := by
  unfold Oper.wp
  unfold DoesE at h
  generalize (execOp a.eval o).run P w = x at h
  cases x with
  | ok n w' =>
    cases n <;> simp only at h <;> simp only [Oper.upon] <;> first
      | exact hn _ _ h
      | exact Calls.mono h fun e w'' he => by cases e <;> first | exact hn _ _ he | exact he.elim
  | halt x w' => exact h.elim

def Gives (P : Program) (o : Oper) (a : Act) (w : World) (u : Value) : Prop := (execOp a.eval o).run P w = .ok (.value u) w

theorem DoesE.mono {P : Program} {e : Sem Next} {w : World} {R R' : Value → World → Prop} (h : DoesE P e w R) (hr : ∀ u w', R u w' → R' u w') : DoesE P e w R' := by
  unfold DoesE at *
  generalize e.run P w = x at *
  cases x with
  | ok n w' =>
    cases n <;> simp only at h ⊢ <;> first
      | exact hr _ _ h
      | exact Calls.mono h fun e w'' he => by cases e <;> first | exact hr _ _ he | exact he.elim
  | halt x w' => exact h.elim

theorem does_value {P : Program} {o : Oper} {a : Act} {w w' : World} {u : Value} {R : Value → World → Prop} (h : (execOp a.eval o).run P w = .ok (.value u) w') (hr : R u w') : Does P o a w R := by
  unfold Does DoesE
  rw [h]
  exact hr

theorem does_skip {P : Program} {o : Oper} {a : Act} {w w' : World} {R : Value → World → Prop} (h : (execOp a.eval o).run P w = .ok .skip w') (hr : R undef w') : Does P o a w R := by
  unfold Does DoesE
  rw [h]
  exact hr

theorem does_enter {P : Program} {o : Oper} {a : Act} {w w' : World} {f : FuncId} {args : Array Value} {R : Value → World → Prop} (h : (execOp a.eval o).run P w = .ok (.enter f args) w')
    (hc : Calls P f args w' fun | .returned u, w'' => R u w'' | _, _ => False) : Does P o a w R := by
  unfold Does DoesE
  rw [h]
  exact hc

def OpSpec (P : Program) (φ : Phi) (ψ : Nat → Option Nat) (fr : Fr) (s : St) (o : Oper) (a : Act) (w : World) : OpR → Prop
  | .k v => ∃ u, Gives P o a w u ∧ VRel φ v u
  | .v m => ∀ v, m = some v → (∃ u, Gives P o a w u ∧ VRel φ v u) ∨ ((∃ c f, o.op = .call c ∧ c.callee = .value (.func f)) ∧ Does P o a w fun u w' => (Below w.heap.size w w' ∧ Froz w w') ∧ VRel φ v u)
  | .s m => ∀ r s', m = some (r, s') → Does P o a w fun u w' => ∃ φ', Step φ s w φ' s' w' ∧ VRel φ' r u
  | .u m => ∀ s', m = some s' → Does P o a w fun u w' => u = undef ∧ Step φ s w φ s' w'
  | .p t j => ∃ c, ψ t = some c ∧ Gives P o a w (.pointer (some ⟨c, j, none⟩))
  | .box t m => ∀ cs, m = some cs → o.dst = some t ∧ ∃ cs' e, VsRel φ cs cs' ∧ oneCs cs = true ∧ (execOp a.eval o).run P w = .ok (.value (.pointer (some ⟨w.heap.size, 0, none⟩))) (w.alloc (.cells ⟨cs'⟩ e))
  | .set t m => ∀ cs, m = some cs → ∃ old c w' cs' e, lookL fr.l t = some old ∧ ψ t = some c ∧ (execOp a.eval o).run P w = .ok .skip w' ∧ w'.heap[c]? = some (.cells cs' e (0, 0)) ∧ VsRel φ cs cs'.toList ∧ oneCs cs = true ∧
      (∀ i, i ≠ c → w'.heap[i]? = w.heap[i]?) ∧ w'.heap.size = w.heap.size ∧ w'.os = w.os ∧ w'.tape = w.tape ∧ w'.output = w.output
  | .bad => True

end Go.Sim
