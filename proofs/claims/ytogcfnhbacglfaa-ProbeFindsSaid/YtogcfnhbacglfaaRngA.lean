/-
  A function that ranges over a function of its own: its parts.
-/
import Derived.Test.YtogcfnhbacglfaaDfrA
import Derived.RangeFuncIn
import Derived.RangeFuncLeaves
import Derived.RangeFuncRecord
set_option linter.unusedSimpArgs false
set_option linter.unusedVariables false
namespace Go.Sim
open Go.RowKit (Below)

section
variable {P : Program} {C : Ctx} {an : An} {φ0 φ φ' : Phi} {ψ : Nat → Option Nat} {s0 s s' : St} {w0 w w' : World} {fr fr' : Fr} {a g : Act} {ops : Array Oper}

/-- What is no row of mine. -/
def oth (o : Obj) : Bool := match o with
  | .loop _ => true
  | .deferred _ => true
  | _ => false
theorem BRel.oth {l : Loc} {k : Blk} {o : Obj} (h : BRel φ l k w) (ho : w.heap[l.blk]? = some o) : Sim.oth o = false := by
  cases k with
  | row sz rows ro => obtain ⟨_, _, cs, e, fz, hh, _⟩ := h; rw [hh] at ho; cases ho; rfl
  | map es ro => obtain ⟨es', clk, hh, _⟩ := h; rw [hh] at ho; cases ho; rfl
theorem Rel.oth {c : Nat} {o : Obj} (h : Rel φ s w) (ho : w.heap[c]? = some o) (hn : Sim.oth o = true) (o' : Obj) : Rel φ s (w.putObj c o') := by
  refine ⟨h.fresh, fun b k hk => ?_, h.inj⟩
  obtain ⟨l, hl, hr⟩ := h.blk b k hk
  refine ⟨l, hl, hr.of_same (.refl _) (World.putObj_heap_other ?_)⟩
  intro e
  have := hr.oth (e ▸ ho)
  rw [hn] at this
  cases this
theorem Step.oth {c : Nat} {o : Obj} (h : Step φ s w φ' s' w') (hc : w.heap.size ≤ c) (ho : w'.heap[c]? = some o) (hn : Sim.oth o = true) (o' : Obj) : Step φ s w φ' s' (w'.putObj c o') :=
  ⟨h.rel.oth ho hn o', h.ext, ⟨h.frm.os, h.frm.tape, h.frm.output, by rw [World.putObj_size]; exact h.frm.size, fun x hx hk => by
    rw [World.putObj_heap_other (by omega)]; exact h.frm.old x hx hk⟩, h.own⟩
theorem Step.kept {c : Nat} {o : Obj} (hr : Rel φ s w) (h : Step φ s w φ' s' w') (ho : w.heap[c]? = some o) (hn : Sim.oth o = true) : w'.heap[c]? = some o := by
  have hc : c < w.heap.size := (Array.getElem?_eq_some_iff.1 ho).1
  rw [h.frm.old c hc fun b k l hb _ hl e => ?_]
  · exact ho
  · have := (hr.at hb hl).oth (e ▸ ho)
    rw [hn] at this
    cases this

/-- A frame of mere values, here. -/
def Here (an : An) (φ : Phi) (s : St) (w : World) (e : List (Nat × Ent)) (a : Act) : Prop := InvA an φ s w φ (fun _ => none) s ⟨e, [], []⟩ a w
theorem Here.of {ts : List Nat} {ys : List Value} (h : InvA an φ0 s0 w0 φ ψ s fr a w) (hg : getV fr ts = some ys) : Here an φ s w (frV ts ys) a :=
  inv_fresh h.step.rel h.size h.defers (getV_frV h.frel.toEnvRel hg)
theorem Here.env {e : List (Nat × Ent)} (h : Here an φ s w e a) {t : Nat} {v : Value} (hl : lookE e t = some (.val v)) : t < a.tmps.size ∧ VRel φ v (a.tmps.getD t undef) := h.frel.env t _ hl
/-- A temporary that is known is written. -/
theorem Here.put {e : List (Nat × Ent)} {t : Nat} {v u : Value} (h : Here an φ s w e a) (ht : t < an.N) (hv : VRel φ v u) : Here an φ s w ((t, .val v) :: e) (a.put (some t) u) := by
  have hs : t < a.tmps.size := by rw [h.size]; exact ht
  refine ⟨.refl h.step.rel, ⟨⟨fun t' x hx => ?_, fun t t' j gt b hl => by simp [lookG] at hl⟩, fun t cs hl => by simp [lookL] at hl⟩, ⟨fun t cs c hl => by simp [lookL] at hl, fun t cs c b k l hl => by simp [lookL] at hl, fun t t' cs cs' c _ hl => by simp [lookL] at hl⟩, by simpa using h.defers, by simpa using h.size, fun _ => ⟨rfl, rfl, .refl _ _⟩⟩
  simp only [lookE] at hx
  split at hx
  · rename_i htt
    simp only [Option.some.injEq] at hx
    subst hx
    refine ⟨by simpa [htt] using hs, ?_⟩
    rw [htt, getD_put_same hs]
    exact hv
  · rename_i htt
    obtain ⟨h1, h2⟩ := h.frel.env t' x hx
    refine ⟨by simpa using h1, ?_⟩
    rw [getD_put_other htt]
    exact h2
/-- One that is not spoken of. -/
theorem Here.skip {e : List (Nat × Ent)} {t : Nat} {u : Value} (h : Here an φ s w e a) (ht : lookE e t = none) : Here an φ s w e (a.put (some t) u) := by
  refine ⟨.refl h.step.rel, ⟨⟨fun t' x hx => ?_, fun t t' j gt b hl => by simp [lookG] at hl⟩, fun t cs hl => by simp [lookL] at hl⟩, ⟨fun t cs c hl => by simp [lookL] at hl, fun t cs c b k l hl => by simp [lookL] at hl, fun t t' cs cs' c _ hl => by simp [lookL] at hl⟩, by simpa using h.defers, by simpa using h.size, fun _ => ⟨rfl, rfl, .refl _ _⟩⟩
  obtain ⟨h1, h2⟩ := h.frel.env t' x hx
  have : t' ≠ t := by rintro rfl; rw [ht] at hx; cases hx
  refine ⟨by simpa using h1, ?_⟩
  rw [getD_put_other this]
  exact h2
/-- Elsewhere, later. -/
theorem Here.move {e : List (Nat × Ent)} {φ' : Phi} {s' : St} {w' : World} (h : Here an φ s w e a) (hr : Rel φ' s' w') (hle : φ.le φ') : Here an φ' s' w' e a := by
  refine ⟨.refl hr, ⟨⟨fun t' x hx => ?_, fun t t' j gt b hl => by simp [lookG] at hl⟩, fun t cs hl => by simp [lookL] at hl⟩, ⟨fun t cs c hl => by simp [lookL] at hl, fun t cs c b k l hl => by simp [lookL] at hl, fun t t' cs cs' c _ hl => by simp [lookL] at hl⟩, h.defers, h.size, fun _ => ⟨rfl, rfl, .refl _ _⟩⟩
  obtain ⟨h1, h2⟩ := h.frel.env t' x hx
  exact ⟨h1, h2.mono hle⟩

/-! ### A region walked in two pieces -/

theorem rows_in {n : Nat} {row : String} {args : Array Value} {R : Value → World → Prop} (h : Rows P row args w R) : RowsIn Fence.wide n P row args w R :=
  fun c cs _ => let ⟨v, w', r, s⟩ := h c cs; ⟨v, w', r, stepsIn_wide.2 s⟩
theorem wide_depth {n : Nat} : Fence.wide.depth.isSome = true → 1 ≤ n := fun h => by simp [Fence.wide] at h
/-- The first operations by the plain walk, the others by the fenced one. -/
theorem list_in {n : Nat} {Q Q' : Exit → Act → World → Prop} (hQ : ∀ e a w, Q' e a w → e = .normal) : ∀ (A B : List Oper) {a : Act} {w : World}, wpList P ops Q' A a w → (∀ a w, Q' .normal a w → wpListIn Fence.wide n P ops Q B a w) → wpListIn Fence.wide n P ops Q (A ++ B) a w
  | [], B, a, w, h, k => k a w h
  | o :: A, B, a, w, h, k => by
    have ih := fun {a w} h => list_in (n := n) (Q := Q) hQ A B (a := a) (w := w) h k
    have hno : ¬ LetsOut Q' := fun ⟨a, w, h⟩ => by cases hQ _ _ _ h
    unfold wpList at h
    show wpListIn Fence.wide n P ops Q (o :: (A ++ B)) a w
    unfold wpListIn
    split
    · rename_i hw
      rw [if_pos hw] at h
      have h := h.resolve_right fun e => hno e.2
      refine ⟨fun _ _ => trivial, ?_⟩
      unfold Oper.wp at h
      show o.uponIn Fence.wide n P a (wpListIn Fence.wide n P ops Q (A ++ B)) Q ((execOp a.eval o).run P w)
      generalize (execOp a.eval o).run P w = r at h ⊢
      cases r with
      | ok x w' =>
        cases x <;> simp only [Oper.upon] at h <;> first
          | exact ih h
          | exact h.elim
          | (refine ⟨wide_depth, callsIn_wide.2 (Calls.mono h fun e w'' he => ?_)⟩
             cases e with
             | returned v => exact ih he
             | panicked c => cases hQ _ _ _ he
             | outgrown => exact (hno he).elim)
          | exact ⟨wide_depth, rows_in (Rows.mono h fun v w'' he => ih he)⟩
      | halt x w' =>
        cases x <;> simp only [Oper.upon] at h <;> first
          | exact h.elim
          | cases hQ _ _ _ h
    · rename_i hw
      rw [if_neg hw] at h
      exact ⟨fun _ _ => trivial, ih h⟩
/-- An operation that gives a value. -/
theorem op_in {F : Fence} {n : Nat} {o : Oper} {u : Value} {next : Act → World → Prop} {Q : Exit → Act → World → Prop} (hd : ∀ c, o.op ≠ .defer c) (ha : ∀ f, o.about P w a.eval = some f → F.fn f) (h : Gives P o a w u) (k : next (a.put o.dst u) w) : o.wpIn F n P a w next Q := by
  refine ⟨ha, ?_⟩
  rw [Oper.semAt_eq _ _ _ hd]
  unfold Gives at h
  rw [h]
  exact k
/-- One that turns the heap. -/
theorem op_in_u {F : Fence} {n : Nat} {o : Oper} {R : Value → World → Prop} {next : Act → World → Prop} {Q : Exit → Act → World → Prop} (hd : ∀ c, o.op ≠ .defer c) (hc : ∀ c, o.op ≠ .call c) (ha : ∀ f, o.about P w a.eval = some f → F.fn f) (h : Does P o a w R) (hne : ∀ f args w', (execOp a.eval o).run P w ≠ .ok (.enter f args) w') (k : ∀ u w', R u w' → next (a.put o.dst u) w') : o.wpIn F n P a w next Q := by
  refine ⟨ha, ?_⟩
  rw [Oper.semAt_eq _ _ _ hd]
  unfold Does DoesE at h
  generalize (execOp a.eval o).run P w = r at h hne ⊢
  cases r with
  | ok x w' =>
    cases x <;> simp only at h <;> first
      | exact k _ _ h
      | exact absurd rfl (hne _ _ _)
      | exact h.elim
  | halt x w' => exact h.elim
end
end Go.Sim
