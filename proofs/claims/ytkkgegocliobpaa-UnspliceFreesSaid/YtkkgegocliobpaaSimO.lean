/-
  Calls; and the law of an operation.
-/
import Derived.Test.YtkkgegocliobpaaSimN
set_option linter.unusedSimpArgs false
set_option linter.unusedVariables false
namespace Go.Sim
open Go.RowKit (Below)

section
variable {P : Program} {C : Ctx} {an : An} {φ : Phi} {ψ : Nat → Option Nat} {fr : Fr} {s : St} {a : Act} {w : World} {og : Option (Nat × Bool)} {ops : Array Oper}
  {dst : Option Tmp} {ty : TypeId} {pos : String} {after : Array Edge} {guard : Option (Nat × Bool)}

theorem run_call_func {c : Call} {f : FuncId} (h : c.callee = .value (.func f)) (hf : callOk P f = true) :
    (execOp a.eval ⟨dst, .call c, ty, pos, after, guard⟩).run P w = .ok (.enter f ⟨c.args.toList.map a.eval⟩) w := by
  simp only [execOp, resolve, h, Act.eval, Deferred.ofValue, invoke, Sem.run_bind, Sem.run_pure, Result.andThen_ok, run_callFunc hf, Array.empty_append, Array.append_empty, map_lists]

theorem run_call_value {c : Call} {f : FuncId} {x : Operand} {b d : List Value} (h : c.callee = .value x) (hx : a.eval x = .func (.func f) ⟨b⟩ ⟨d⟩) (hf : callOk P f = true) :
    (execOp a.eval ⟨dst, .call c, ty, pos, after, guard⟩).run P w = .ok (.enter f ⟨b ++ c.args.toList.map a.eval ++ d⟩) w := by
  simp only [execOp, resolve, h, hx, Deferred.ofValue, invoke, Sem.run_bind, Sem.run_pure, Result.andThen_ok, run_callFunc hf, map_lists]
  simp

theorem run_typeInfo {t : TypeId} {inf : TypeInfo} (w : World) (h : P.info? t = some inf) : (typeInfo t).run P w = .ok inf w := by
  simp [typeInfo, h]

theorem run_method {t : TypeId} {v : Value} {name : String} {f : FuncId} (n : Nat) (h : methOf P t name = some f) : (method (n + 1) t v name).run P w = .ok (f, v) w := by
  unfold methOf at h
  split at h
  · rename_i inf hi
    split at h
    · rename_i m hm
      split at h
      · rename_i g e hp hf hu
        simp only [Option.some.injEq] at h
        subst h
        have hpe : m.path.toList = [] := by
          have : m.path = #[] := by simpa using hp
          rw [this]
        simp [method, run_typeInfo w hi, hm, hpe, follow, hf, receiverAt, run_underlying hu, Place.get]
      · simp at h
    · simp at h
  · simp at h

theorem run_call_invoke {c : Call} {f : FuncId} {x : Operand} {name : String} {t : TypeId} {v : Value} (h : c.callee = .invoke x name) (hx : a.eval x = .iface t v) (hm : methOf P t name = some f) (hf : callOk P f = true) :
    (execOp a.eval ⟨dst, .call c, ty, pos, after, guard⟩).run P w = .ok (.enter f ⟨v :: c.args.toList.map a.eval⟩) w := by
  have hn : ∃ n, P.types.size + Made.depth = n + 1 := ⟨P.types.size + Made.depth - 1, by have : 0 < Made.depth := by decide
                                                                                         omega⟩
  obtain ⟨n, hn⟩ := hn
  simp only [execOp, resolve, h, hx, invoke, Sem.run_bind, Sem.run_pure, Result.andThen_ok, map_lists]
  simp [callMethod, hn, run_method n hm, run_callFunc hf]
  exact List.take_of_length_le (by simp)

theorem run_call_builtin {c : Call} {b : Builtin} {m : Sem Value} {u : Value} {w' : World} (h : c.callee = .builtin b)
    (hb : builtin b c.argTypes ty (c.args.map fun | .const _ => true | _ => false) ⟨c.args.toList.map a.eval⟩ = (do pure (Next.value (← m)))) (hm : m.run P w = .ok u w') :
    (execOp a.eval ⟨dst, .call c, ty, pos, after, guard⟩).run P w = .ok (.value u) w' := by
  have : (execOp a.eval ⟨dst, .call c, ty, pos, after, guard⟩).run P w = (builtin b c.argTypes ty (c.args.map fun | .const _ => true | _ => false) ⟨c.args.toList.map a.eval⟩).run P w := by
    simp only [execOp, resolve, h, invoke, Sem.run_bind, Sem.run_pure, Result.andThen_ok, map_lists]
    rfl
  rw [this, hb]
  exact run_v hm

theorem vs1 {x : Value} {l : List Value} (h : VsRel φ [x] l) : ∃ x', l = [x'] ∧ VRel φ x x' := by
  cases h with
  | cons h t => cases t; exact ⟨_, rfl, h⟩

theorem vs2 {x y : Value} {l : List Value} (h : VsRel φ [x, y] l) : ∃ x' y', l = [x', y'] ∧ VRel φ x x' ∧ VRel φ y y' := by
  cases h with
  | cons h t =>
    obtain ⟨y', rfl, h2⟩ := vs1 t
    exact ⟨_, _, rfl, h, h2⟩

theorem info_of {t : TypeId} {z : Value} {n b : Nat} (h4 : sizeT P t = some n) (h5 : bytesT P t = some b) (h6 : zeroT P t = some z) : ∃ inf, P.info? t = some inf ∧ inf.zero = some z ∧ inf.size = n ∧ inf.bytes = b := by
  unfold sizeT at h4; unfold bytesT at h5; unfold zeroT at h6
  cases hinf : P.info? t with
  | none => simp [hinf] at h4
  | some inf => simp [hinf] at h4 h5 h6; exact ⟨inf, rfl, h6, h4, h5⟩

theorem op_builtin (he : EnvRel φ ψ fr a) {c : Call} {b : Builtin} {args : List Value} (hcal : c.callee = .builtin b) (hv : evVs fr c.args.toList = some args) (hr : b ≠ .min → b ≠ .max → Rel φ s w) :
    OpSpec P φ ψ fr s ⟨dst, .call c, ty, pos, after, guard⟩ a w (builtinR P b c.argTypes.toList args s) := by
  have hvs := evVs_sound he hv
  unfold builtinR
  split
  · rename_i t x ht
    obtain ⟨x', e1, e2⟩ := vs1 hvs
    have hat : c.argTypes = ⟨[t]⟩ := toArray_of_toList ht
    have hrl := hr (by simp) (by simp)
    split
    · rename_i hu
      refine spec_plain fun r hx => ?_
      obtain ⟨q1, q2⟩ := lenS_sound w hu e2 hx
      exact ⟨q1, run_call_builtin hcal rfl (by rw [e1, hat]; exact q2)⟩
    · rename_i hu
      refine spec_plain fun r hx => ?_
      obtain ⟨q1, q2⟩ := lenL_sound w hu e2 hx
      exact ⟨q1, run_call_builtin hcal rfl (by rw [e1, hat]; exact q2)⟩
    · rename_i hu
      refine spec_plain fun r hx => ?_
      obtain ⟨q1, q2⟩ := lenM_sound w hrl hu e2 hx
      exact ⟨q1, run_call_builtin hcal rfl (by rw [e1, hat]; exact q2)⟩
    · exact trivial
  · rename_i ts x y
    obtain ⟨x', y', e1, e2, e3⟩ := vs2 hvs
    refine spec_plain fun r hx => ?_
    obtain ⟨q1, q2⟩ := mn2_sound (P := P) w c.argTypes ty e2 e3 hx
    exact ⟨q1, run_call_builtin hcal rfl (by rw [e1]; exact q2)⟩
  · rename_i ts x y
    obtain ⟨x', y', e1, e2, e3⟩ := vs2 hvs
    refine spec_plain fun r hx => ?_
    obtain ⟨q1, q2⟩ := mx2_sound (P := P) w c.argTypes ty e2 e3 hx
    exact ⟨q1, run_call_builtin hcal rfl (by rw [e1]; exact q2)⟩
  · rename_i t u v x ht
    obtain ⟨x', y', e1, e2, e3⟩ := vs2 hvs
    have hat : c.argTypes = ⟨[t, u]⟩ := toArray_of_toList ht
    have hrl := hr (by simp) (by simp)
    have key : ∀ {e : TypeId} {d : TypeDesc}, P.underlying t = some (.slice e) → P.underlying u = some d → notInt d = true →
        OpSpec P φ ψ fr s ⟨dst, .call c, ty, pos, after, guard⟩ a w (match sizeT P e, bytesT P e, zeroT P e with
          | some sz, some by_, some z => if (cellsL z).length = sz then .s (app s sz by_ v x) else .bad
          | _, _, _ => .bad) := by
      intro e d h1 h2 h3
      split
      · rename_i sz b z h4 h5 h6
        split
        · rename_i hz
          obtain ⟨inf, i1, i2, i3, i4⟩ := info_of h4 h5 h6
          intro r s' hx
          obtain ⟨φ', r', w', q1, q2, q3⟩ := app_sound (ty := ty) h1 h2 h3 i1 i2 i3 i4 hz hrl e2 e3 hx
          exact does_value (run_call_builtin hcal rfl (by rw [e1, hat]; exact q1)) ⟨φ', q3, q2⟩
        · exact trivial
      · exact trivial
    split
    · rename_i h1 h2; exact key h1 h2 rfl
    · rename_i h1 h2; exact key h1 h2 rfl
    · exact trivial
  · rename_i t u v x ht
    obtain ⟨x', y', e1, e2, e3⟩ := vs2 hvs
    have hat : c.argTypes = ⟨[t, u]⟩ := toArray_of_toList ht
    have hrl := hr (by simp) (by simp)
    have key : ∀ {e : TypeId}, P.underlying t = some (.slice e) →
        OpSpec P φ ψ fr s ⟨dst, .call c, ty, pos, after, guard⟩ a w (match sizeT P e with
          | some sz => .s (cpy s sz v x)
          | _ => .bad) := by
      intro e h1
      split
      · rename_i sz h4
        intro r s' hx
        obtain ⟨w', q1, q2, q3⟩ := cpy_sound w (ty := ty) (u := u) h1 h4 hrl e2 e3 hx
        exact does_value (run_call_builtin hcal rfl (by rw [e1, hat]; exact q1)) ⟨φ, q3, VRel.of_plain φ q2⟩
      · exact trivial
    split
    · rename_i h1 h2; exact key h1
    · rename_i h1 h2; exact key h1
    · exact trivial
  · exact trivial

theorem op_callC (hC : CtxOk P C) {o : Oper} {f : FuncId} {args args' : List Value} (hr : Rel φ s w) (hvs : VsRel φ args args')
    (hrun : callOk P f = true → (execOp a.eval o).run P w = .ok (.enter f ⟨args'⟩) w) (hk : ∃ c f, o.op = .call c ∧ c.callee = .value (.func f)) : OpSpec P φ ψ fr s o a w (callC C f args s) := by
  unfold callC
  cases hl : lookC C f with
  | none => exact trivial
  | some x =>
    have h1 := hC.ok f x hl
    have h2 := hC.run f x hl
    cases x with
    | st v =>
      intro r s' hx
      exact does_enter (hrun h2) (Calls.mono (h1 φ s w args args' r s' hr hvs hx) fun e w' h => by cases e <;> first | exact h | exact h.elim)
    | rd g =>
      intro r hx
      exact .inr ⟨hk, does_enter (hrun h2) (Calls.mono (h1 φ s w args args' r hr hvs hx) fun e w' h => by cases e <;> first | exact h | exact h.elim)⟩

theorem op_callV (hC : CtxOk P C) {o : Oper} {v v' : Value} {args args' : List Value} (hr : Rel φ s w) (hvs : VsRel φ args args') (hv : VRel φ v v')
    (hrun : ∀ f b d, v' = .func (.func f) ⟨b⟩ ⟨d⟩ → callOk P f = true → (execOp a.eval o).run P w = .ok (.enter f ⟨b ++ args' ++ d⟩) w) : OpSpec P φ ψ fr s o a w (.s (callV C v args s)) := by
  intro r s' hx
  unfold callV at hx
  split at hx
  · rename_i f b d
    cases hv with
    | func _ hb hd =>
      cases hl : lookC C f with
      | none => simp [hl] at hx
      | some x =>
        have h1 := hC.ok f x hl
        have h2 := hC.run f x hl
        have hall := (hb.append hvs).append hd
        rw [hl] at hx
        cases x with
        | st v =>
          simp only at hx
          exact does_enter (hrun f _ _ rfl h2) (Calls.mono (h1 φ s w _ _ r s' hr hall hx) fun e w' h => by cases e <;> first | exact h | exact h.elim)
        | rd g =>
          simp only [Option.map_eq_some_iff, Prod.mk.injEq] at hx
          obtain ⟨r0, hx, rfl, rfl⟩ := hx
          exact does_enter (hrun f _ _ rfl h2) (Calls.mono (h1 φ s w _ _ _ hr hall hx) fun e w' h => by
            cases e with
            | returned u => exact ⟨φ, Step.of_below hr h.1.1 h.1.2, h.2⟩
            | panicked c => exact h.elim
            | outgrown => exact h.elim)
  · simp at hx

theorem op_callI (hC : CtxOk P C) {o : Oper} {name : String} {v v' : Value} {args args' : List Value} (hr : Rel φ s w) (hvs : VsRel φ args args') (hv : VRel φ v v')
    (hrun : ∀ t u f, v' = .iface t u → methOf P t name = some f → callOk P f = true → (execOp a.eval o).run P w = .ok (.enter f ⟨u :: args'⟩) w) : OpSpec P φ ψ fr s o a w (.s (callI P C name v args s)) := by
  intro r s' hx
  unfold callI at hx
  split at hx
  · rename_i t v0
    cases hv with
    | iface _ hu =>
      split at hx
      · rename_i f hm
        cases hl : lookC C f with
        | none => simp [hl] at hx
        | some x =>
          have h1 := hC.ok f x hl
          have h2 := hC.run f x hl
          have hall := VsRel.cons hu hvs
          rw [hl] at hx
          cases x with
          | st g =>
            simp only at hx
            exact does_enter (hrun t _ f rfl hm h2) (Calls.mono (h1 φ s w _ _ r s' hr hall hx) fun e w' h => by cases e <;> first | exact h | exact h.elim)
          | rd g =>
            simp only [Option.map_eq_some_iff, Prod.mk.injEq] at hx
            obtain ⟨r0, hx, rfl, rfl⟩ := hx
            exact does_enter (hrun t _ f rfl hm h2) (Calls.mono (h1 φ s w _ _ _ hr hall hx) fun e w' h => by
              cases e with
              | returned u => exact ⟨φ, Step.of_below hr h.1.1 h.1.2, h.2⟩
              | panicked c => exact h.elim
              | outgrown => exact h.elim)
      · simp at hx
  · simp at hx

theorem op_call (hC : CtxOk P C) (he : EnvRel φ ψ fr a) (c : Call) (hr : (c.callee ≠ .builtin .min → c.callee ≠ .builtin .max → Rel φ s w)) :
    OpSpec P φ ψ fr s ⟨dst, .call c, ty, pos, after, guard⟩ a w (opR std P C an fr s og ⟨dst, .call c, ty, pos, after, guard⟩) := by
  simp only [opR]
  split
  · exact trivial
  · rename_i args hv
    have hvs := evVs_sound he hv
    split
    · rename_i f hcal
      exact op_callC hC (hr (by simp [hcal]) (by simp [hcal])) hvs (fun hf => run_call_func hcal hf) ⟨c, f, rfl, hcal⟩
    · rename_i x hn hcal
      split
      · rename_i v hx
        exact op_callV hC (hr (by simp [hcal]) (by simp [hcal])) hvs (evV_sound he hx) fun f b d e hf => run_call_value hcal e hf
      · exact trivial
    · rename_i b hcal
      exact op_builtin he hcal hv fun h1 h2 => hr (by simp [hcal, h1]) (by simp [hcal, h2])
    · rename_i x name hcal
      split
      · rename_i v hx
        exact op_callI hC (hr (by simp [hcal]) (by simp [hcal])) hvs (evV_sound he hx) fun t u f e hm hf => run_call_invoke hcal e hm hf
      · exact trivial

/-- **The law of an operation.** -/
theorem opR_sound (hC : CtxOk P C) (he : EnvRel φ ψ fr a) (hg : GOk a og) (o : Oper) (hog : og = ogOf ops o)
    (hl : clsOf P C an ops fr o ≠ 0 → clsOf P C an ops fr o ≠ 2 → LocRel φ ψ fr w) (hr : 2 ≤ clsOf P C an ops fr o → Rel φ s w) : OpSpec P φ ψ fr s o a w (opR std P C an fr s og o) := by
  obtain ⟨dst, op, ty, pos, after, guard⟩ := o
  cases op
  case move x => exact op_move he hg x _ (.inl rfl)
  case assign x => exact op_move he hg x _ (.inr rfl)
  case pick c x y => exact op_pick he c x y
  case alloc t => exact op_alloc (hr (by simp only [clsOf]; split <;> (try split) <;> decide)) t
  case box t x => exact op_box he (hr (by simp only [clsOf]; split <;> (try split) <;> decide)) t x
  case load t x =>
    refine op_load he hg t x (fun t' j h => hl ?_ ?_) (fun v h => hr ?_) <;> (simp only [clsOf, ← hog, h]; decide)
  case store t x y =>
    exact op_store he hg t x y (hl (by simp only [clsOf]; split <;> (try split) <;> decide) (by simp only [clsOf]; split <;> (try split) <;> decide)) (hr (by simp only [clsOf]; split <;> (try split) <;> decide))
  case nilCheck x => exact op_nilCheck he hg x
  case binOp b t x y yt => exact op_binOp he b t x y yt
  case unOp b t x => exact op_unOp he b t x
  case convert src dt x => exact op_convert he src dt x fun e h => hr (by simp only [clsOf, h]; split <;> decide)
  case makeInterface t x => exact op_iface he t x
  case makeFunc fn f c => exact op_func he fn f c
  case build t ps => exact op_build he t ps
  case buildSlice t n ps => exact op_buildSlice he (hr (by simp only [clsOf]; decide)) t n ps
  case makeSlice t l c => exact op_makeSlice he (hr (by simp only [clsOf]; decide)) t l c
  case slice t x lo hi mx => exact op_slice he (hr (by simp only [clsOf]; decide)) t x lo hi mx
  case fieldAddr t x j => exact op_fieldAddr he hg t x j
  case field t x j => exact op_field he t x j
  case indexAddr t x i => exact op_indexAddr he hg t x i fun e h => hr (by simp only [clsOf, h]; decide)
  case index t x i => exact op_index he t x i
  case lookup t x k ok => exact op_lookup he (hr (by simp only [clsOf]; decide)) t x k ok
  case mapUpdate t x k y => exact op_upm he (hr (by simp only [clsOf]; decide)) t x k y _ (.inl rfl)
  case insert t x k y => exact op_upm he (hr (by simp only [clsOf]; decide)) t x k y _ (.inr rfl)
  case makeMap t o => exact op_makeMap (hr (by simp only [clsOf]; decide)) t o
  case extract x i => exact op_extract he x i
  case typeAssert x xt t ok => exact op_typeAssert he x xt t ok
  case call c =>
    refine op_call hC he c fun h1 h2 => hr ?_
    obtain ⟨callee, args, ats⟩ := c
    cases callee with
    | value x =>
      cases x <;> simp only [clsOf] <;> first | decide | (split <;> (try split) <;> decide)
    | invoke _ _ => simp only [clsOf]; decide
    | builtin b => cases b <;> first | (simp only [clsOf]; decide) | exact absurd rfl h1 | exact absurd rfl h2
  all_goals exact trivial

end
end Go.Sim
