/-
  An operation carried out: the frame behind it.
-/
import Derived.Test.YtkkgegocliobpaaSimO
set_option linter.unusedSimpArgs false
set_option linter.unusedVariables false
namespace Go.Sim
open Go.RowKit (Below)

def StepE (P : Program) (ops : Array Oper) (o : Oper) (a : Act) (w : World) (R : Value → World → Prop) : Prop :=
  if Region.wanted o (yielded ops a.tmps) = true then Does P o a w R else R undef w

theorem StepE.wpOp {P : Program} {ops : Array Oper} {o : Oper} {a : Act} {w : World} {R : Value → World → Prop} {next : Act → World → Prop} {Q : Exit → Act → World → Prop}
    (h : StepE P ops o a w R) (hn : ∀ u w', R u w' → next (a.put o.dst u) w') :
    if Region.wanted o (yielded ops a.tmps) then o.wp P a w next Q ∨ (o.asks P a w ∧ LetsOut Q) else next (a.put o.dst undef) w := by
  unfold StepE at h
  split
  · rename_i hw
    rw [if_pos hw] at h
    exact .inl (DoesE.wp h hn)
  · rename_i hw
    rw [if_neg hw] at h
    exact hn _ _ h

def Ext (s s' : St) : Prop := ∀ b k, s.get b = some k → s'.get b = some k

theorem Ext.refl (s : St) : Ext s s := fun _ _ h => h
theorem Ext.trans {a b c : St} (h : Ext a b) (k : Ext b c) : Ext a c := fun i x e => k i x (h i x e)

section
variable {P : Program} {C : Ctx} {an : An} {φ0 φ : Phi} {ψ : Nat → Option Nat} {s0 s : St} {w0 w : World} {fr : Fr} {a : Act} {ops : Array Oper} {R : Type} {K : Fr → St → Option R} {r : R}

abbrev InvA (an : An) := Inv an.pure an.N

/-- Where an operation leads. -/
def After (an : An) (φ0 : Phi) (s0 : St) (w0 : World) (K : Fr → St → Option R) (r : R) (o : Oper) (a : Act) (fr : Fr) (s : St) (c : Cls) (q : Nat) (φ : Phi) (ψ : Nat → Option Nat) (w : World) : Value → World → Prop := fun u w' =>
  ∃ φ' ψ' s' fr', K fr' s' = some r ∧ InvA an φ0 s0 w0 φ' ψ' s' fr' (a.put o.dst u) w' ∧ Keeps fr fr' o.dst ∧ (c ≤ 4 ∨ c = 6 → LocSame fr fr') ∧ (c = 5 → ∀ t, t ≠ q → LocAt t fr fr') ∧ (c ≤ 3 ∨ c = 5 ∨ c = 6 → Ext s s') ∧
    (∀ x, x < w.heap.size → Away φ ψ s fr x → Away φ' ψ' s' fr' x ∧ w'.heap[x]? = w.heap[x]?) ∧ φ.le φ'

theorem undef_rel (φ : Phi) : VRel φ undef undef := VRel.of_plain φ rfl

theorem after_put {o : Oper} {c : Cls} {q : Nat} {x : Ent} {u : Value} (h : InvA an φ0 s0 w0 φ ψ s fr a w) (hx : EntRel φ ψ x u) (hk : putK an.N fr o.dst x (fun fr => K fr s) = some r) :
    After an φ0 s0 w0 K r o a fr s c q φ ψ w u w := by
  obtain ⟨fr', h1, ⟨h2, h3, _⟩, h4⟩ := h.put hx hk
  exact ⟨φ, ψ, s, fr', h1, h4, h2, fun _ => .of_eq h3, fun _ t _ => LocSame.at (.of_eq h3) t, fun _ => .refl s, fun x _ ha => ⟨⟨ha.row, by rw [h3]; exact ha.loc⟩, rfl⟩, .refl _⟩

theorem after_step {o : Oper} {c : Cls} {q : Nat} {v u : Value} {φ' : Phi} {s' : St} {w' : World} (h : InvA an φ0 s0 w0 φ ψ s fr a w) (hp : an.pure ≠ true) (hs : Step φ s w φ' s' w') (hx : VRel φ' v u)
    (hc : c ≤ 3 ∨ c = 5 ∨ c = 6 → Ext s s') (hk : putK an.N fr o.dst (.val v) (fun fr => K fr s') = some r) : After an φ0 s0 w0 K r o a fr s c q φ ψ w u w' := by
  have h' := h.world hs fun e => absurd e hp
  obtain ⟨fr', h1, ⟨h2, h3, _⟩, h4⟩ := h'.put (x := .val v) (d := o.dst) (u := u) hx hk
  refine ⟨φ', ψ, s', fr', h1, h4, h2, fun _ => .of_eq h3, fun _ t _ => LocSame.at (.of_eq h3) t, hc, fun x hx ha => ⟨⟨fun b k l g1 g2 e => ?_, by rw [h3]; exact ha.loc⟩, hs.frm.old x hx fun b k l g1 _ g3 => ha.row b k l g1 g3⟩, hs.ext⟩
  rcases hs.own b k l g1 g2 with g3 | ⟨b0, k0, l0, f1, _, f3, f4⟩
  · omega
  · exact ha.row b0 k0 l0 f1 f3 (f4.trans e)

theorem after_below {o : Oper} {c : Cls} {q : Nat} {v u : Value} {w' : World} (h : InvA an φ0 s0 w0 φ ψ s fr a w) (hb : Below w.heap.size w w' ∧ Froz w w') (hx : VRel φ v u)
    (hk : putK an.N fr o.dst (.val v) (fun fr => K fr s) = some r) : After an φ0 s0 w0 K r o a fr s c q φ ψ w u w' := by
  obtain ⟨φ', ψ', s', fr', h1, h2, h3, h4, h5, h6, h7, h8⟩ := after_put (c := c) (q := q) (h.below hb.1 hb.2) (x := .val v) hx hk
  exact ⟨φ', ψ', s', fr', h1, h2, h3, h4, h5, h6, fun x hx ha => ⟨(h7 x (Nat.lt_of_lt_of_le hx hb.1.size) ha).1, hb.1.block x hx⟩, h8⟩

/-- An operation of small class turns nothing that was there, and none of the call's own variables. -/
def SmallR (s : St) : OpR → Prop
  | .s m => ∀ r s', m = some (r, s') → Ext s s'
  | .u _ => False
  | _ => True

theorem ext_new (s : St) (h : ∀ b k, s.get b = some k → b < s.n) (k : Blk) : Ext s (s.new k) := by
  intro b x hb
  rw [St.get_new, if_neg (by have := h b x hb; omega)]
  exact hb

theorem small_als {s s' : St} {n m : Nat} {rows : List (List Value)} {r : Value} (h : ∀ b k, s.get b = some k → b < s.n) (hx : als s n m rows = some (r, s')) : Ext s s' := by
  simp only [als, Option.some.injEq, Prod.mk.injEq] at hx
  rw [← hx.2]
  exact ext_new s h _

theorem small_alv {s s' : St} {v r : Value} (h : ∀ b k, s.get b = some k → b < s.n) (hx : alv s v = some (r, s')) : Ext s s' := by
  simp only [alv, alc, Option.bind_eq_some_iff, Option.some.injEq, Prod.mk.injEq] at hx
  obtain ⟨cs, _, _, h2⟩ := hx
  rw [← h2]
  exact ext_new s h _

theorem small_builtin {b : Builtin} {ts : List TypeId} {vs : List Value} (hb : b = .len ∨ b = .min ∨ b = .max) : SmallR s (builtinR P b ts vs s) := by
  unfold builtinR
  split
  · split <;> exact trivial
  · exact trivial
  · exact trivial
  · simp at hb
  · simp at hb
  · exact trivial

theorem opR_small {og : Option (Nat × Bool)} (h : ∀ b k, s.get b = some k → b < s.n) (o : Oper) (hog : og = ogOf ops o) (hc : clsOf P C an ops fr o ≤ 3 ∨ clsOf P C an ops fr o = 5 ∨ clsOf P C an ops fr o = 6) : SmallR s (opR std P C an fr s og o) := by
  obtain ⟨dst, op, ty, pos, after, guard⟩ := o
  cases op
  case alloc t =>
    simp only [opR]
    split
    · split
      · cases dst with
        | none => exact trivial
        | some d =>
          simp only
          split
          · exact trivial
          · exact fun r s' hx => small_alv h hx
      · exact trivial
    · exact trivial
  case box t x =>
    simp only [opR]
    split
    · cases dst with
      | none => exact trivial
      | some d =>
        simp only
        split
        · exact trivial
        · exact fun r s' hx => small_alv h hx
    · exact trivial
  case store t x y =>
    simp only [clsOf, ← hog] at hc
    simp only [opR]
    cases hy : evE fr og x with
    | none => split <;> first | exact trivial | simp_all
    | some q =>
      rw [hy] at hc
      cases q with
      | val v => simp at hc
      | lp t' j => split <;> first | exact trivial | (split <;> exact trivial) | simp_all
  case convert src dt x =>
    simp only [opR]
    split
    · exact trivial
    · exact trivial
    · split <;> exact trivial
    · rename_i h1 h2 h3
      simp [clsOf, h1, h2] at hc
    · exact trivial
  case mapUpdate t x k y => simp [clsOf] at hc
  case insert t x k y => simp [clsOf] at hc
  case buildSlice t n ps =>
    simp only [opR]
    split
    · split
      · split
        · intro r s' hx
          simp only [std, Option.bind_eq_some_iff] at hx
          obtain ⟨rows, _, hx⟩ := hx
          exact small_als h hx
        · exact trivial
      · exact trivial
    · exact trivial
  case makeSlice t l c =>
    simp only [opR]
    split
    · split
      · split
        · intro r s' hx
          unfold mks at hx
          split at hx
          · split at hx
            · exact small_als h hx
            · simp at hx
          · simp at hx
        · exact trivial
      · exact trivial
    · exact trivial
  case makeMap t o =>
    cases o with
    | some _ => exact trivial
    | none =>
      intro r s' hx
      simp only [mkm, Option.some.injEq, Prod.mk.injEq] at hx
      rw [← hx.2]
      exact ext_new s h _
  case call c =>
    obtain ⟨callee, args, ats⟩ := c
    simp only [opR]
    split
    · exact trivial
    · cases callee with
      | value x =>
        cases x with
        | func f =>
          simp only [clsOf] at hc
          simp only [callC]
          cases hl : lookC C f with
          | none => exact trivial
          | some q =>
            cases q with
            | st v => simp [hl] at hc
            | rd g => exact trivial
        | _ => simp [clsOf] at hc
      | invoke _ _ => simp [clsOf] at hc
      | builtin b => cases b <;> first | (simp [clsOf] at hc; done) | exact small_builtin (.inl rfl) | exact small_builtin (.inr (.inl rfl)) | exact small_builtin (.inr (.inr rfl))
  all_goals (simp only [opR]; repeat (first | exact trivial | split))

/-- What turns a variable of the call's own tells which. -/
def SlotR (q : Nat) : OpR → Prop
  | .set t _ => t = q
  | _ => True

theorem slot_builtin {q : Nat} {b : Builtin} {ts : List TypeId} {vs : List Value} : SlotR q (builtinR P b ts vs s) := by
  unfold builtinR
  repeat (first | exact trivial | split)

theorem opR_slot {og : Option (Nat × Bool)} (o : Oper) (hog : og = ogOf ops o) : SlotR (slotOf ops fr o) (opR std P C an fr s og o) := by
  obtain ⟨dst, op, ty, pos, after, guard⟩ := o
  cases op
  case store t x y =>
    simp only [opR]
    split
    · exact trivial
    · rename_i h _
      split
      · simp only [SlotR, slotOf, ← hog, h]
      · exact trivial
    · exact trivial
  case call c =>
    obtain ⟨callee, args, ats⟩ := c
    simp only [opR]
    split
    · exact trivial
    · cases callee with
      | value x =>
        cases x <;> simp only [callC] <;> (repeat (first | exact trivial | split))
      | invoke _ _ => simp only; split <;> exact trivial
      | builtin b => exact slot_builtin
  case makeMap t o => cases o <;> exact trivial
  all_goals (simp only [opR]; repeat (first | exact trivial | split))

def LocR : OpR → Prop
  | .set _ _ => False
  | _ => True

theorem loc_builtin {b : Builtin} {ts : List TypeId} {vs : List Value} : LocR (builtinR P b ts vs s) := by
  unfold builtinR
  repeat (first | exact trivial | split)

theorem opR_loc {og : Option (Nat × Bool)} (o : Oper) (hog : og = ogOf ops o) (hc : clsOf P C an ops fr o ≤ 4 ∨ clsOf P C an ops fr o = 6) : LocR (opR std P C an fr s og o) := by
  obtain ⟨dst, op, ty, pos, after, guard⟩ := o
  cases op
  case store t x y =>
    simp only [opR]
    split
    · exact trivial
    · rename_i h _
      simp only [clsOf, ← hog, h] at hc
      simp at hc
    · exact trivial
  case call c =>
    obtain ⟨callee, args, ats⟩ := c
    simp only [opR]
    split
    · exact trivial
    · cases callee with
      | value x =>
        cases x <;> simp only [callC] <;> (repeat (first | exact trivial | split))
      | invoke _ _ => simp only; split <;> exact trivial
      | builtin b => exact loc_builtin
  case makeMap t o => cases o <;> exact trivial
  all_goals (simp only [opR]; repeat (first | exact trivial | split))

theorem Rel.lt {φ : Phi} {s : St} {w : World} (h : Rel φ s w) : ∀ b k, s.get b = some k → b < s.n := by
  intro b k hb
  obtain ⟨l, h1, _⟩ := h.blk b k hb
  exact h.fresh b l h1

theorem ofB {φ : Phi} {b : Bool} {v : Value} (h : VRel φ v (.bool b)) : v = .bool b := by cases h; rfl

theorem isB {φ : Phi} {b : Bool} {u : Value} (h : VRel φ (.bool b) u) : u = .bool b := by cases h; rfl

theorem get_of_getD {a : Array Value} {t : Nat} {b : Bool} (h : a.getD t undef = .bool b) : a[t]? = some (.bool b) := by
  rw [Array.getD_eq_getD_getElem?] at h
  cases ht : a[t]? with
  | none => rw [ht] at h; simp [undef] at h
  | some x => rw [ht] at h; simp only [Option.getD_some] at h; rw [h]

theorem getD_of_get {a : Array Value} {t : Nat} {b : Value} (h : a[t]? = some b) : a.getD t undef = b := by
  rw [Array.getD_eq_getD_getElem?, h]; rfl

/-- **An operation carried out.** -/
theorem evOp_eff (hC : CtxOk P C) (h : InvA an φ0 s0 w0 φ ψ s fr a w) (o : Oper) (he : evOp std P C an ops o fr s K = some r) :
    StepE P ops o a w (After an φ0 s0 w0 K r o a fr s (clsOf P C an ops fr o) (slotOf ops fr o) φ ψ w) := by
  have hlt := h.step.rel.lt
  obtain ⟨dst, op, ty, pos, after, guard⟩ := o
  cases guard with
  | none =>
    generalize hcl : clsOf P C an ops fr ⟨dst, op, ty, pos, after, none⟩ = cl
    have hsm := fun hc => opR_small (P := P) (C := C) (an := an) (ops := ops) (fr := fr) (og := none) hlt ⟨dst, op, ty, pos, after, none⟩ rfl hc
    have hlo := fun hc => opR_loc (P := P) (C := C) (an := an) (ops := ops) (fr := fr) (s := s) (og := none) ⟨dst, op, ty, pos, after, none⟩ rfl hc
    rw [hcl] at hsm hlo
    have hsl := opR_slot (P := P) (C := C) (an := an) (ops := ops) (fr := fr) (s := s) (og := none) ⟨dst, op, ty, pos, after, none⟩ rfl
    have spec := opR_sound (P := P) (C := C) (an := an) (ops := ops) (og := none) hC h.frel.toEnvRel (fun _ _ e => by simp at e) ⟨dst, op, ty, pos, after, none⟩ rfl (fun _ _ => h.frel.loc) (fun _ => h.step.rel)
    unfold StepE
    rw [if_pos (by simp [Region.wanted])]
    simp only [evOp] at he
    generalize opR std P C an fr s none ⟨dst, op, ty, pos, after, none⟩ = x at he spec hsm hlo hsl
    cases x with
    | k v =>
      obtain ⟨u, h1, h2⟩ := spec
      exact does_value h1 (after_put h (x := .val v) h2 he)
    | v m =>
      simp only [std, Option.bind_eq_some_iff] at he
      obtain ⟨v, hm, he⟩ := he
      rcases spec v hm with ⟨u, h1, h2⟩ | ⟨_, h1⟩
      · exact does_value h1 (after_put h (x := .val v) h2 he)
      · exact DoesE.mono h1 fun u w' ⟨h2, h3⟩ => after_below h h2 h3 he
    | s m =>
      simp only at he
      split at he
      · simp at he
      · rename_i hp
        simp only [std, Option.bind_eq_some_iff] at he
        obtain ⟨⟨v, s'⟩, hm, he⟩ := he
        exact DoesE.mono (spec v s' hm) fun u w' ⟨φ', h2, h3⟩ => after_step h hp h2 h3 (fun hc => hsm hc _ _ hm) he
    | u m =>
      simp only at he
      split at he
      · simp at he
      · rename_i hp
        simp only [std, Option.bind_eq_some_iff] at he
        obtain ⟨s', hm, he⟩ := he
        refine DoesE.mono (spec s' hm) fun u w' h2 => ?_
        obtain ⟨rfl, h2⟩ := h2
        exact after_step h hp h2 (undef_rel _) (fun hc => (hsm hc).elim) he
    | p t j =>
      obtain ⟨c, h1, h2⟩ := spec
      exact does_value h2 (after_put h (x := .lp t j) ⟨c, h1, rfl⟩ he)
    | box t m =>
      simp only [std, Option.bind_eq_some_iff] at he
      obtain ⟨cs, hm, he⟩ := he
      obtain ⟨hd, cs', e, h2, h3, h4⟩ := spec cs hm
      obtain ⟨fr', g1, ⟨g2, g5, g6⟩, g3, g4⟩ := Inv.newL e h h2 h3 he
      obtain ⟨fr'', f1, ⟨f2, f3, _⟩, f4⟩ := g4.put (x := .lp t 0) (d := dst) (u := .pointer (some ⟨w.heap.size, 0, none⟩)) ⟨_, g3, rfl⟩ g1
      refine does_value h4 ⟨φ, _, s, fr'', f1, f4, ⟨fun t ht => (f2.e t ht).trans (g2.e t (by simp)), fun t ht => (f2.g t ht).trans (g2.g t (by simp))⟩, fun hc t' ht => by rw [f3]; exact g5 t' ht, fun _ t' _ ht => by rw [f3]; exact g5 t' ht, fun _ => .refl s, fun x hx ha => ⟨⟨ha.row, fun t' cs2 hl => by
        rw [f3] at hl
        exact g6 x hx ha.loc t' cs2 hl⟩, heap_alloc_old w _ x hx⟩, .refl _⟩
    | set t m =>
      simp only [std, Option.bind_eq_some_iff] at he
      obtain ⟨cs, hm, he⟩ := he
      obtain ⟨old, c, w', cs', e, h1, h2, h3, h4, h5, h6, h7, h8, h9, h10, h11⟩ := spec cs hm
      obtain ⟨fr', g1, g2, g5, g4⟩ := Inv.setL h h1 h2 e h4 h5 h6 h7 h8 h9 h10 h11 he
      obtain ⟨fr'', f1, ⟨f2, f3, _⟩, f4⟩ := g4.put (x := .val undef) (d := dst) (u := undef) (undef_rel φ) g1
      refine does_skip h3 ⟨φ, _, s, fr'', f1, f4, ⟨fun t ht => (f2.e t ht).trans (g2.e t (by simp)), fun t ht => (f2.g t ht).trans (g2.g t (by simp))⟩, fun hc => (hlo hc).elim, fun _ t' ht _ => by rw [f3]; exact g5 t' (fun e => ht (e.trans hsl)), fun _ => .refl s, fun x hx ha => ⟨⟨ha.row, fun t' cs2 hl => ?_⟩, h7 x fun e => ha.loc t old h1 (by rw [e]; exact h2)⟩, .refl _⟩
      rw [f3] at hl
      by_cases hte : t' = t
      · rw [hte]; exact ha.loc t old h1
      · rw [g5 t' hte] at hl; exact ha.loc t' cs2 hl
    | bad => simp at he
  | some jw =>
    obtain ⟨j, want⟩ := jw
    simp only [evOp] at he
    cases hgt : (ops[j]?).bind (·.dst) with
    | none => simp [hgt] at he
    | some gt =>
      have hog : some (gt, want) = ogOf ops ⟨dst, op, ty, pos, after, some (j, want)⟩ := by simp [ogOf, hgt]
      simp only [hgt] at he
      cases hx : evE fr none (.tmp gt) with
      | none => simp [hx] at he
      | some q =>
        cases q with
        | lp _ _ => simp [hx] at he
        | val x =>
          simp only [hx] at he
          have hxr : VRel φ x (a.tmps.getD gt undef) := evE_sound h.frel.toEnvRel (og := none) (fun _ _ e => by simp at e) hx
          have hw : Region.wanted ⟨dst, op, ty, pos, after, some (j, want)⟩ (yielded ops a.tmps) = true ↔ a.tmps[gt]? = some (.bool want) := by
            simp only [Region.wanted, yielded, hgt, Option.bind_some]
            cases ha : a.tmps[gt]? with
            | none => simp
            | some y => cases y <;> simp
          have hyes : x = .bool want → Region.wanted ⟨dst, op, ty, pos, after, some (j, want)⟩ (yielded ops a.tmps) = true := fun e => by
            subst e
            exact hw.2 (get_of_getD (isB hxr))
          have hno : x ≠ .bool want → ¬ Region.wanted ⟨dst, op, ty, pos, after, some (j, want)⟩ (yielded ops a.tmps) = true := fun hb hq => by
            have h1 := getD_of_get (hw.1 hq)
            rw [h1] at hxr
            exact hb (ofB hxr)
          generalize hcl : clsOf P C an ops fr ⟨dst, op, ty, pos, after, some (j, want)⟩ = cl
          have hsm := fun hc => opR_small (P := P) (C := C) (an := an) (ops := ops) (fr := fr) hlt ⟨dst, op, ty, pos, after, some (j, want)⟩ hog hc
          have hlo := fun hc => opR_loc (P := P) (C := C) (an := an) (ops := ops) (fr := fr) (s := s) ⟨dst, op, ty, pos, after, some (j, want)⟩ hog hc
          rw [hcl] at hsm hlo
          have spec := fun hq : a.tmps[gt]? = some (.bool want) => opR_sound (P := P) (C := C) (an := an) (ops := ops) hC h.frel.toEnvRel (w := w) (s := s)
            (og := some (gt, want)) (fun g b e => by simp only [Option.some.injEq, Prod.mk.injEq] at e; obtain ⟨rfl, rfl⟩ := e; exact hq) ⟨dst, op, ty, pos, after, some (j, want)⟩ hog (fun _ _ => h.frel.loc) (fun _ => h.step.rel)
          unfold StepE
          generalize opR std P C an fr s (some (gt, want)) ⟨dst, op, ty, pos, after, some (j, want)⟩ = y at he spec hsm hlo
          have gdv : ∀ {m : Option Value} {v : Value}, gd x want m = some v → (x = .bool want ∧ m = some v) ∨ (x ≠ .bool want ∧ v = undef) := by
            intro m v hg
            unfold gd at hg
            split at hg
            · rename_i b
              split at hg
              · rename_i e; exact .inl ⟨by rw [e], hg⟩
              · rename_i e; simp only [Option.some.injEq] at hg; exact .inr ⟨fun e2 => e (by simpa using e2), hg.symm⟩
            · rename_i hnb
              simp only [Option.some.injEq] at hg
              exact .inr ⟨fun e2 => hnb _ e2, hg.symm⟩
          cases y with
          | k v =>
            simp only [std, Option.bind_eq_some_iff] at he
            obtain ⟨v', hm, he⟩ := he
            rcases gdv hm with ⟨e, hm⟩ | ⟨hb, rfl⟩
            · simp only [Option.some.injEq] at hm
              subst hm
              rw [if_pos (hyes e)]
              obtain ⟨u, h1, h2⟩ := spec (hw.1 (hyes e))
              exact does_value h1 (after_put h (x := .val v) h2 he)
            · rw [if_neg (hno hb)]
              exact after_put h (x := .val undef) (undef_rel φ) he
          | v m =>
            simp only [std, Option.bind_eq_some_iff] at he
            obtain ⟨v', hm, he⟩ := he
            rcases gdv hm with ⟨e, hm⟩ | ⟨hb, rfl⟩
            · rw [if_pos (hyes e)]
              rcases spec (hw.1 (hyes e)) v' hm with ⟨u, h1, h2⟩ | ⟨_, h1⟩
              · exact does_value h1 (after_put h (x := .val v') h2 he)
              · exact DoesE.mono h1 fun u w' ⟨h2, h3⟩ => after_below h h2 h3 he
            · rw [if_neg (hno hb)]
              exact after_put h (x := .val undef) (undef_rel φ) he
          | s m =>
            simp only at he
            split at he
            · simp at he
            · rename_i hp
              simp only [std, Option.bind_eq_some_iff] at he
              obtain ⟨⟨v, s'⟩, hm, he⟩ := he
              unfold gdS at hm
              split at hm
              · rename_i b
                split at hm
                · rename_i e
                  have e : Value.bool b = .bool want := by rw [e]
                  rw [if_pos (hyes e)]
                  exact DoesE.mono (spec (hw.1 (hyes e)) v s' hm) fun u w' ⟨φ', h2, h3⟩ => after_step h hp h2 h3 (fun hc => hsm hc _ _ hm) he
                · rename_i e
                  simp only [Option.some.injEq, Prod.mk.injEq] at hm
                  obtain ⟨rfl, rfl⟩ := hm
                  rw [if_neg (hno fun e2 => e (by simpa using e2))]
                  exact after_put h (x := .val undef) (undef_rel φ) he
              · rename_i hnb
                simp only [Option.some.injEq, Prod.mk.injEq] at hm
                obtain ⟨rfl, rfl⟩ := hm
                rw [if_neg (hno fun e2 => hnb _ e2)]
                exact after_put h (x := .val undef) (undef_rel φ) he
          | u m =>
            simp only at he
            split at he
            · simp at he
            · rename_i hp
              simp only [std, Option.bind_eq_some_iff] at he
              obtain ⟨s', hm, he⟩ := he
              unfold gdU at hm
              split at hm
              · rename_i b
                split at hm
                · rename_i e
                  have e : Value.bool b = .bool want := by rw [e]
                  rw [if_pos (hyes e)]
                  refine DoesE.mono (spec (hw.1 (hyes e)) s' hm) fun u w' h2 => ?_
                  obtain ⟨rfl, h2⟩ := h2
                  exact after_step h hp h2 (undef_rel _) (fun hc => (hsm hc).elim) he
                · rename_i e
                  simp only [Option.some.injEq] at hm
                  obtain rfl := hm
                  rw [if_neg (hno fun e2 => e (by simpa using e2))]
                  exact after_put h (x := .val undef) (undef_rel φ) he
              · rename_i hnb
                simp only [Option.some.injEq] at hm
                obtain rfl := hm
                rw [if_neg (hno fun e2 => hnb _ e2)]
                exact after_put h (x := .val undef) (undef_rel φ) he
          | p t i =>
            simp only at he
            split
            · rename_i hq
              obtain ⟨c, h1, h2⟩ := spec (hw.1 hq)
              obtain ⟨fr', f1, ⟨f2, f3, _⟩, f4⟩ := h.putG (u := .pointer (some ⟨c, i, none⟩)) (fun _ => ⟨c, h1, rfl⟩) he
              exact does_value h2 ⟨φ, ψ, s, fr', f1, f4, f2, fun _ => .of_eq f3, fun _ t _ => LocSame.at (.of_eq f3) t, fun _ => .refl s, fun x _ ha => ⟨⟨ha.row, by rw [f3]; exact ha.loc⟩, rfl⟩, .refl _⟩
            · rename_i hq
              obtain ⟨fr', f1, ⟨f2, f3, _⟩, f4⟩ := h.putG (u := undef) (fun e => absurd (hw.2 e) hq) he
              exact ⟨φ, ψ, s, fr', f1, f4, f2, fun _ => .of_eq f3, fun _ t _ => LocSame.at (.of_eq f3) t, fun _ => .refl s, fun x _ ha => ⟨⟨ha.row, by rw [f3]; exact ha.loc⟩, rfl⟩, .refl _⟩
          | box t m => simp at he
          | set t m => simp at he
          | bad => simp at he

/-- **A region whose operations come in their order.** -/
theorem evOps_sound (hC : CtxOk P C) {Q : Exit → Act → World → Prop} : ∀ (l : List Oper) {φ : Phi} {ψ : Nat → Option Nat} {s : St} {fr : Fr} {a : Act} {w : World}, InvA an φ0 s0 w0 φ ψ s fr a w →
    evOps std P C an ops l fr s K = some r → (∀ φ' ψ' s' fr' a' w', InvA an φ0 s0 w0 φ' ψ' s' fr' a' w' → K fr' s' = some r → Q .normal a' w') → wpList P ops Q l a w
  | [], φ, ψ, s, fr, a, w, h, he, hK => hK _ _ _ _ _ _ h he
  | o :: l, φ, ψ, s, fr, a, w, h, he, hK => by
    simp only [evOps] at he
    unfold wpList
    exact (evOp_eff hC h o he).wpOp fun u w' ⟨φ', ψ', s', fr', h1, h2, _⟩ => evOps_sound hC l h2 h1 hK

end
end Go.Sim
