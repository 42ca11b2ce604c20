/-
  A frame of the evaluator against a frame of the model.
-/
import Derived.Test.YtkkgegocliobpaaSimJ
set_option linter.unusedSimpArgs false
namespace Go.Sim
open Go.RowKit (Below)

def EntRel (φ : Phi) (ψ : Nat → Option Nat) : Ent → Value → Prop
  | .val v, u => VRel φ v u
  | .lp t j, u => ∃ c, ψ t = some c ∧ u = .pointer (some ⟨c, j, none⟩)

def LAt (φ : Phi) (cs : List Value) (c : Nat) (w : World) : Prop :=
  oneCs cs = true ∧ ∃ cs' e, w.heap[c]? = some (.cells cs' e (0, 0)) ∧ VsRel φ cs cs'.toList

/-- A frame's temporaries, whatever the world. -/
structure EnvRel (φ : Phi) (ψ : Nat → Option Nat) (fr : Fr) (a : Act) : Prop where
  env : ∀ t x, lookE fr.e t = some x → t < a.tmps.size ∧ EntRel φ ψ x (a.tmps.getD t undef)
  grd : ∀ t t' j gt b, lookG fr.g t = some (t', j, gt, b) → t < a.tmps.size ∧ (a.tmps[gt]? = some (.bool b) → ∃ c, ψ t' = some c ∧ a.tmps.getD t undef = .pointer (some ⟨c, j, none⟩))

def LocRel (φ : Phi) (ψ : Nat → Option Nat) (fr : Fr) (w : World) : Prop := ∀ t cs, lookL fr.l t = some cs → ∃ c, ψ t = some c ∧ LAt φ cs c w

structure FrRel (φ : Phi) (ψ : Nat → Option Nat) (fr : Fr) (a : Act) (w : World) : Prop extends EnvRel φ ψ fr a where
  loc : LocRel φ ψ fr w

/-- The call's own variables lie apart. -/
structure Apart (B : Nat) (φ : Phi) (ψ : Nat → Option Nat) (s : St) (fr : Fr) : Prop where
  new : ∀ t cs c, lookL fr.l t = some cs → ψ t = some c → B ≤ c
  row : ∀ t cs c b k l, lookL fr.l t = some cs → ψ t = some c → s.get b = some k → φ b = some l → l.blk ≠ c
  one : ∀ t t' cs cs' c, t ≠ t' → lookL fr.l t = some cs → lookL fr.l t' = some cs' → ψ t = some c → ψ t' ≠ some c

structure Inv (pure : Bool) (N : Nat) (φ0 : Phi) (s0 : St) (w0 : World) (φ : Phi) (ψ : Nat → Option Nat) (s : St) (fr : Fr) (a : Act) (w : World) : Prop where
  step : Step φ0 s0 w0 φ s w
  frel : FrRel φ ψ fr a w
  apart : Apart w0.heap.size φ ψ s fr
  defers : a.defers = []
  size : a.tmps.size = N
  pure : pure = true → s = s0 ∧ φ = φ0 ∧ Below w0.heap.size w0 w

theorem LAt.lt {φ : Phi} {cs : List Value} {c : Nat} {w : World} (h : LAt φ cs c w) : c < w.heap.size := by
  obtain ⟨_, cs', e, hh, _⟩ := h
  exact (Array.getElem?_eq_some_iff.1 hh).1

theorem LAt.of_same {φ φ' : Phi} {cs : List Value} {c : Nat} {w w' : World} (hle : φ.le φ') (h : LAt φ cs c w) (hw : w'.heap[c]? = w.heap[c]?) : LAt φ' cs c w' := by
  obtain ⟨h1, cs', e, hh, hr⟩ := h
  exact ⟨h1, cs', e, hw.trans hh, hr.mono hle⟩

theorem EntRel.mono {φ φ' : Phi} {ψ : Nat → Option Nat} (hle : φ.le φ') {x : Ent} {u : Value} (h : EntRel φ ψ x u) : EntRel φ' ψ x u := by
  cases x with
  | val v => exact VRel.mono hle h
  | lp t j => exact h

/-! ### Temporaries -/

theorem getD_put_same {a : Act} {d : Nat} {u : Value} (h : d < a.tmps.size) : (a.put (some d) u).tmps.getD d undef = u := by
  simp [Act.put, Array.getD, h]

theorem getD_put_other {a : Act} {d t : Nat} {u : Value} (h : t ≠ d) : (a.put (some d) u).tmps.getD t undef = a.tmps.getD t undef := by
  simp [Act.put, Array.getD_eq_getD_getElem?, Array.getElem?_setIfInBounds, Ne.symm h]

theorem get_put_other {a : Act} {d t : Nat} {u : Value} (h : t ≠ d) : (a.put (some d) u).tmps[t]? = a.tmps[t]? := by
  simp [Act.put, Array.getElem?_setIfInBounds, Ne.symm h]

@[simp] theorem size_put {a : Act} {d : Option Nat} {u : Value} : (a.put d u).tmps.size = a.tmps.size := by
  cases d <;> simp [Act.put]

@[simp] theorem defers_put {a : Act} {d : Option Nat} {u : Value} : (a.put d u).defers = a.defers := by
  cases d <;> simp [Act.put]

theorem freeG_spec : ∀ {g : List (Nat × Nat × Nat × Nat × Bool)} {d : Nat}, freeG g d = true → (lookG g d = none) ∧ ∀ t t' j gt b, lookG g t = some (t', j, gt, b) → t ≠ d ∧ gt ≠ d
  | [], d, _ => ⟨rfl, fun t t' j gt b h => by simp [lookG] at h⟩
  | (i, t1, j1, gt1, b1) :: r, d, h => by
    simp only [freeG] at h
    split at h
    · simp at h
    · split at h
      · simp at h
      · rename_i h1 h2
        obtain ⟨g1, g2⟩ := freeG_spec h
        refine ⟨by simp [lookG, h1, g1], fun t t' j gt b hl => ?_⟩
        simp only [lookG] at hl
        split at hl
        · rename_i ht
          simp only [Option.some.injEq, Prod.mk.injEq] at hl
          obtain ⟨rfl, rfl, rfl, rfl⟩ := hl
          exact ⟨fun e => h1 (by omega), fun e => h2 e.symm⟩
        · exact g2 t t' j gt b hl

/-- The temporaries other than `d` stand in the frame as they did. -/
structure Keeps (fr fr' : Fr) (d : Option Nat) : Prop where
  e : ∀ t, d ≠ some t → lookE fr'.e t = lookE fr.e t
  g : ∀ t, d ≠ some t → lookG fr'.g t = lookG fr.g t

theorem Keeps.refl (fr : Fr) (d : Option Nat) : Keeps fr fr d := ⟨fun _ _ => rfl, fun _ _ => rfl⟩

theorem Keeps.trans {fr fr' fr'' : Fr} {d : Option Nat} (h : Keeps fr fr' d) (k : Keeps fr' fr'' d) : Keeps fr fr'' d :=
  ⟨fun t ht => (k.e t ht).trans (h.e t ht), fun t ht => (k.g t ht).trans (h.g t ht)⟩

/-- A temporary written. -/
theorem Inv.put {p : Bool} {N : Nat} {φ0 φ : Phi} {s0 s : St} {w0 w : World} {ψ : Nat → Option Nat} {fr : Fr} {a : Act} {d : Option Nat} {x : Ent} {u : Value} {R : Type} {K : Fr → Option R} {r : R}
    (h : Inv p N φ0 s0 w0 φ ψ s fr a w) (hx : EntRel φ ψ x u) (hk : putK N fr d x K = some r) : ∃ fr', K fr' = some r ∧ (Keeps fr fr' d ∧ fr'.l = fr.l ∧ ∀ d', d = some d' → lookE fr'.e d' = some x ∧ lookG fr'.g d' = none) ∧ Inv p N φ0 s0 w0 φ ψ s fr' (a.put d u) w := by
  cases d with
  | none => exact ⟨fr, hk, ⟨.refl _ _, rfl, fun d' hd => by simp at hd⟩, h⟩
  | some d =>
    simp only [putK] at hk
    split at hk
    · rename_i hd
      obtain ⟨e, l, g⟩ := fr
      simp only at hk
      cases hg : freeG g d with
      | false => simp [hg] at hk
      | true =>
        rw [hg] at hk
        have hds : d < a.tmps.size := by rw [h.size]; exact hd
        obtain ⟨g1, g2⟩ := freeG_spec hg
        refine ⟨_, hk, ⟨⟨fun t ht => by simp only [lookE]; rw [if_neg (fun e => ht (by rw [e]))], fun t ht => rfl⟩, rfl, fun d' hd' => by simp only [Option.some.injEq] at hd'; subst hd'; exact ⟨by simp [lookE], g1⟩⟩, h.step, ⟨⟨fun t y hy => ?_, fun t t' j gt b hl => ?_⟩, h.frel.loc⟩, ⟨h.apart.new, h.apart.row, h.apart.one⟩, by simpa using h.defers, by simpa using h.size, h.pure⟩
        · simp only [lookE] at hy
          rw [size_put]
          split at hy
          · rename_i ht
            subst ht
            simp only [Option.some.injEq] at hy
            subst hy
            exact ⟨hds, by rw [getD_put_same hds]; exact hx⟩
          · rename_i ht
            obtain ⟨h1, h2⟩ := h.frel.env t y hy
            exact ⟨h1, by rw [getD_put_other ht]; exact h2⟩
        · obtain ⟨h1, h2⟩ := h.frel.grd t t' j gt b hl
          obtain ⟨h3, h4⟩ := g2 t t' j gt b hl
          rw [size_put, get_put_other h4, getD_put_other h3]
          exact ⟨h1, h2⟩
    · simp at hk

/-- An address under a guard written. -/
theorem Inv.putG {p : Bool} {N : Nat} {φ0 φ : Phi} {s0 s : St} {w0 w : World} {ψ : Nat → Option Nat} {fr : Fr} {a : Act} {d : Option Nat} {t j gt : Nat} {b : Bool} {u : Value} {R : Type} {K : Fr → Option R} {r : R}
    (h : Inv p N φ0 s0 w0 φ ψ s fr a w) (hx : a.tmps[gt]? = some (.bool b) → EntRel φ ψ (.lp t j) u) (hk : putGK N fr d t j gt b K = some r) : ∃ fr', K fr' = some r ∧ (Keeps fr fr' d ∧ fr'.l = fr.l ∧ ∀ d', d = some d' → lookG fr'.g d' = some (t, j, gt, b) ∧ lookE fr'.e d' = none) ∧ Inv p N φ0 s0 w0 φ ψ s fr' (a.put d u) w := by
  cases d with
  | none => exact ⟨fr, hk, ⟨.refl _ _, rfl, fun d' hd => by simp at hd⟩, h⟩
  | some d =>
    simp only [putGK] at hk
    split at hk
    · rename_i hd
      obtain ⟨e, l, g⟩ := fr
      simp only at hk
      cases hg : freeG g d with
      | false => simp [hg] at hk
      | true =>
        cases he : lookE e d with
        | some _ => simp [hg, he] at hk
        | none =>
          rw [hg, he] at hk
          simp only at hk
          split at hk
          · simp at hk
          · rename_i hdg
            have hds : d < a.tmps.size := by rw [h.size]; exact hd
            obtain ⟨g1, g2⟩ := freeG_spec hg
            refine ⟨_, hk, ⟨⟨fun t ht => rfl, fun t1 ht => by simp only [lookG]; rw [if_neg (fun e => ht (by rw [e]))]⟩, rfl, fun d' hd' => by simp only [Option.some.injEq] at hd'; subst hd'; exact ⟨by simp [lookG], he⟩⟩, h.step, ⟨⟨fun t y hy => ?_, fun t1 t' j1 gt1 b1 hl => ?_⟩, h.frel.loc⟩, ⟨h.apart.new, h.apart.row, h.apart.one⟩, by simpa using h.defers, by simpa using h.size, h.pure⟩
            · have ht : t ≠ d := fun e1 => by subst e1; simp only at hy; rw [he] at hy; simp at hy
              obtain ⟨h1, h2⟩ := h.frel.env t y hy
              rw [size_put, getD_put_other ht]
              exact ⟨h1, h2⟩
            · simp only [lookG] at hl
              split at hl
              · rename_i ht
                subst ht
                simp only [Option.some.injEq, Prod.mk.injEq] at hl
                obtain ⟨rfl, rfl, rfl, rfl⟩ := hl
                rw [size_put, get_put_other (Ne.symm hdg), getD_put_same hds]
                exact ⟨hds, hx⟩
              · obtain ⟨h1, h2⟩ := h.frel.grd t1 t' j1 gt1 b1 hl
                obtain ⟨h3, h4⟩ := g2 t1 t' j1 gt1 b1 hl
                rw [size_put, get_put_other h4, getD_put_other h3]
                exact ⟨h1, h2⟩
    · simp at hk

/-! ### The world goes on -/

theorem Inv.world {p : Bool} {N : Nat} {φ0 φ φ' : Phi} {s0 s s' : St} {w0 w w' : World} {ψ : Nat → Option Nat} {fr : Fr} {a : Act}
    (h : Inv p N φ0 s0 w0 φ ψ s fr a w) (hs : Step φ s w φ' s' w') (hp : p = true → s' = s ∧ φ' = φ ∧ Below w0.heap.size w w') : Inv p N φ0 s0 w0 φ' ψ s' fr a w' := by
  have hsame : ∀ t cs c, lookL fr.l t = some cs → ψ t = some c → c < w.heap.size → w'.heap[c]? = w.heap[c]? := fun t cs c h1 h2 h3 =>
    hs.frm.old c h3 fun b k l g1 _ g3 => h.apart.row t cs c b k l h1 h2 g1 g3
  refine ⟨h.step.trans hs, ⟨⟨fun t x hx => ⟨(h.frel.env t x hx).1, (h.frel.env t x hx).2.mono hs.ext⟩, h.frel.grd⟩, fun t cs hl => ?_⟩, ⟨h.apart.new, fun t cs c b k l h1 h2 h3 h4 => ?_, h.apart.one⟩, h.defers, h.size, fun hpt => ?_⟩
  · obtain ⟨c, h1, h2⟩ := h.frel.loc t cs hl
    exact ⟨c, h1, h2.of_same hs.ext (hsame t cs c hl h1 h2.lt)⟩
  · obtain ⟨c', g1, g2⟩ := h.frel.loc t cs h1
    rw [h2] at g1
    simp only [Option.some.injEq] at g1
    subst g1
    have := g2.lt
    rcases hs.own b k l h3 h4 with h5 | ⟨b0, k0, l0, f1, _, f3, f4⟩
    · omega
    · rw [← f4]; exact h.apart.row t cs c b0 k0 l0 h1 h2 f1 f3
  · obtain ⟨e1, e2, e3⟩ := h.pure hpt
    obtain ⟨f1, f2, f3⟩ := hp hpt
    exact ⟨f1.trans e1, f2.trans e2, e3.trans f3⟩

theorem Inv.below {p : Bool} {N : Nat} {φ0 φ : Phi} {s0 s : St} {w0 w w' : World} {ψ : Nat → Option Nat} {fr : Fr} {a : Act}
    (h : Inv p N φ0 s0 w0 φ ψ s fr a w) (hb : Below w.heap.size w w') (hz : Froz w w') : Inv p N φ0 s0 w0 φ ψ s fr a w' :=
  h.world (Step.of_below h.step.rel hb hz) fun _ => ⟨rfl, rfl, hb.mono h.step.frm.size⟩

/-! ### The call's own variables -/

theorem freeE_spec : ∀ {e : List (Nat × Ent)} {t : Nat}, freeE e t = true → ∀ i t' j, lookE e i = some (.lp t' j) → t' ≠ t
  | [], t, _, i, t', j, h => by simp [lookE] at h
  | (i0, x) :: r, t, hf, i, t', j, h => by
    simp only [freeE] at hf
    simp only [lookE] at h
    cases x with
    | val v =>
      simp only at hf
      split at h
      · simp at h
      · exact freeE_spec hf i t' j h
    | lp t1 j1 =>
      simp only at hf
      split at hf
      · simp at hf
      · rename_i ht
        split at h
        · simp only [Option.some.injEq, Ent.lp.injEq] at h
          obtain ⟨rfl, rfl⟩ := h
          exact fun e => ht e.symm
        · exact freeE_spec hf i t' j h

theorem freeGL_spec : ∀ {g : List (Nat × Nat × Nat × Nat × Bool)} {t : Nat}, freeGL g t = true → ∀ i t' j gt b, lookG g i = some (t', j, gt, b) → t' ≠ t
  | [], t, _, i, t', j, gt, b, h => by simp [lookG] at h
  | (i0, t1, j1, gt1, b1) :: r, t, hf, i, t', j, gt, b, h => by
    simp only [freeGL] at hf
    simp only [lookG] at h
    split at hf
    · simp at hf
    · rename_i ht
      split at h
      · simp only [Option.some.injEq, Prod.mk.injEq] at h
        obtain ⟨rfl, _⟩ := h
        exact fun e => ht e.symm
      · exact freeGL_spec hf i t' j gt b h

/-- The call's own variables that a frame's addresses name stand as they did. -/
def LocSame (fr fr' : Fr) : Prop := ∀ t', ((∃ i j, lookE fr.e i = some (.lp t' j)) ∨ ∃ i j gt b, lookG fr.g i = some (t', j, gt, b)) → lookL fr'.l t' = lookL fr.l t'

theorem LocSame.of_eq {fr fr' : Fr} (h : fr'.l = fr.l) : LocSame fr fr' := fun t' _ => by rw [h]

/-- A block that no row and no variable of the call's own stands in. -/
structure Away (φ : Phi) (ψ : Nat → Option Nat) (s : St) (fr : Fr) (c : Nat) : Prop where
  row : ∀ b k l, s.get b = some k → φ b = some l → l.blk ≠ c
  loc : ∀ t cs, lookL fr.l t = some cs → ψ t ≠ some c

/-- One of them. -/
def LocAt (t' : Nat) (fr fr' : Fr) : Prop := ((∃ i j, lookE fr.e i = some (.lp t' j)) ∨ ∃ i j gt b, lookG fr.g i = some (t', j, gt, b)) → lookL fr'.l t' = lookL fr.l t'

theorem LocSame.at {fr fr' : Fr} (h : LocSame fr fr') (t : Nat) : LocAt t fr fr' := h t

def putPsi (ψ : Nat → Option Nat) (t c : Nat) : Nat → Option Nat := fun i => if i = t then some c else ψ i

/-- A new one. -/
theorem Inv.newL {p : Bool} {N : Nat} {φ0 φ : Phi} {s0 s : St} {w0 w : World} {ψ : Nat → Option Nat} {fr : Fr} {a : Act} {t : Nat} {cs cs' : List Value} {R : Type} {K : Fr → Option R} {r : R} (e : TypeId)
    (h : Inv p N φ0 s0 w0 φ ψ s fr a w) (hv : VsRel φ cs cs') (h1 : oneCs cs = true) (hk : newLK fr t cs K = some r) :
    ∃ fr', K fr' = some r ∧ (Keeps fr fr' none ∧ LocSame fr fr' ∧ ∀ x, x < w.heap.size → (∀ t' cs2, lookL fr.l t' = some cs2 → ψ t' ≠ some x) → ∀ t' cs2, lookL fr'.l t' = some cs2 → putPsi ψ t w.heap.size t' ≠ some x) ∧ putPsi ψ t w.heap.size t = some w.heap.size ∧ Inv p N φ0 s0 w0 φ (putPsi ψ t w.heap.size) s fr' a (w.alloc (.cells ⟨cs'⟩ e)) := by
  obtain ⟨en, l, g⟩ := fr
  simp only [newLK] at hk
  cases hf : freeE en t with
  | false => simp [hf] at hk
  | true =>
    cases hg : freeGL g t with
    | false => simp [hf, hg] at hk
    | true =>
      rw [hf, hg] at hk
      have hb : Below w.heap.size w (w.alloc (.cells ⟨cs'⟩ e)) := (Below.refl _ _).alloc (Nat.le_refl _) _
      have h2 := h.below hb fun a _ => Go.RowKit.frozen?_alloc_cells w _ _ a
      refine ⟨_, hk, ⟨⟨fun _ _ => rfl, fun _ _ => rfl⟩, fun t' ht => by
        have hne : t' ≠ t := by
          rcases ht with ⟨i, j, h5⟩ | ⟨i, j, gt, b, h5⟩
          · exact freeE_spec hf i t' j h5
          · exact freeGL_spec hg i t' j gt b h5
        simp only [lookL]
        rw [if_neg hne], fun x hx ha t' cs2 hl => by
        unfold putPsi
        split
        · simp only [ne_eq, Option.some.injEq]; omega
        · rename_i hne
          simp only [lookL, if_neg hne] at hl
          exact ha t' cs2 hl⟩, by simp [putPsi], h2.step, ⟨⟨fun i x hx => ?_, fun i t' j gt b hl => ?_⟩, fun i cs2 hl => ?_⟩, ⟨fun i cs2 c hl hc => ?_, fun i cs2 c b k l2 hl hc hb2 hp => ?_, fun i i' cs2 cs3 c hne hl hl' hc => ?_⟩, h2.defers, h2.size, h2.pure⟩
      · obtain ⟨g1, g2⟩ := h2.frel.env i x hx
        refine ⟨g1, ?_⟩
        cases x with
        | val v => exact g2
        | lp t' j =>
          have := freeE_spec hf i t' j hx
          obtain ⟨c, e1, e2⟩ := g2
          exact ⟨c, by simp only [putPsi, if_neg this]; exact e1, e2⟩
      · obtain ⟨g1, g2⟩ := h2.frel.grd i t' j gt b hl
        refine ⟨g1, fun hb => ?_⟩
        have := freeGL_spec hg i t' j gt b hl
        obtain ⟨c, e1, e2⟩ := g2 hb
        exact ⟨c, by simp only [putPsi, if_neg this]; exact e1, e2⟩
      · simp only [lookL] at hl
        split at hl
        · rename_i hi
          subst hi
          simp only [Option.some.injEq] at hl
          subst hl
          exact ⟨w.heap.size, by simp [putPsi], h1, ⟨cs'⟩, e, heap_alloc_new w _, hv⟩
        · rename_i hi
          obtain ⟨c, e1, e2⟩ := h2.frel.loc i cs2 hl
          exact ⟨c, by simp only [putPsi, if_neg hi]; exact e1, e2⟩
      · simp only [lookL] at hl
        simp only [putPsi] at hc
        split at hl
        · rename_i hi
          rw [if_pos hi] at hc
          simp only [Option.some.injEq] at hc
          subst hc
          exact h.step.frm.size
        · rename_i hi
          rw [if_neg hi] at hc
          exact h2.apart.new i cs2 c hl hc
      · simp only [lookL] at hl
        simp only [putPsi] at hc
        split at hl
        · rename_i hi
          rw [if_pos hi] at hc
          simp only [Option.some.injEq] at hc
          subst hc
          obtain ⟨l3, g1, g2⟩ := h.step.rel.blk b k hb2
          rw [hp] at g1
          simp only [Option.some.injEq] at g1
          subst g1
          have := g2.lt
          omega
        · rename_i hi
          rw [if_neg hi] at hc
          exact h2.apart.row i cs2 c b k l2 hl hc hb2 hp
      · simp only [lookL] at hl hl'
        simp only [putPsi] at hc ⊢
        by_cases hi : i = t
        · rw [if_pos hi] at hc
          simp only [Option.some.injEq] at hc
          subst hc
          by_cases hi' : i' = t
          · exact absurd (hi.trans hi'.symm) hne
          · rw [if_neg hi'] at hl' ⊢
            obtain ⟨c', e1, e2⟩ := h.frel.loc i' cs3 hl'
            rw [e1]
            simp only [ne_eq, Option.some.injEq]
            have := e2.lt
            omega
        · rw [if_neg hi] at hc hl
          by_cases hi' : i' = t
          · rw [if_pos hi']
            obtain ⟨c', e1, e2⟩ := h.frel.loc i cs2 hl
            have e3 : c' = c := by
              have : ψ i = some c := hc
              rw [this] at e1
              exact (Option.some.inj e1).symm
            have := e2.lt
            simp only [ne_eq, Option.some.injEq]
            omega
          · rw [if_neg hi'] at hl' ⊢
            exact h.apart.one i i' cs2 cs3 c hne hl hl' hc

/-- One written. -/
theorem Inv.setL {p : Bool} {N : Nat} {φ0 φ : Phi} {s0 s : St} {w0 w : World} {ψ : Nat → Option Nat} {fr : Fr} {a : Act} {t c : Nat} {cs old : List Value} {cs' : Array Value} {R : Type} {K : Fr → Option R} {r : R}
    (h : Inv p N φ0 s0 w0 φ ψ s fr a w) (hold : lookL fr.l t = some old) (hc : ψ t = some c) {w' : World} (e : TypeId) (hw : w'.heap[c]? = some (.cells cs' e (0, 0))) (hv : VsRel φ cs cs'.toList) (h1 : oneCs cs = true)
    (hf : ∀ i, i ≠ c → w'.heap[i]? = w.heap[i]?) (hsz : w'.heap.size = w.heap.size) (ho : w'.os = w.os) (ht : w'.tape = w.tape) (hu : w'.output = w.output) (hk : putLK fr t cs K = some r) :
    ∃ fr', K fr' = some r ∧ Keeps fr fr' none ∧ (∀ t', t' ≠ t → lookL fr'.l t' = lookL fr.l t') ∧ Inv p N φ0 s0 w0 φ ψ s fr' a w' := by
  obtain ⟨en, l, g⟩ := fr
  simp only [putLK] at hk
  have hnew : w0.heap.size ≤ c := h.apart.new t old c hold hc
  have hrel : Rel φ s w' := by
    refine ⟨h.step.rel.fresh, fun b k hb => ?_, h.step.rel.inj⟩
    obtain ⟨l2, g1, g2⟩ := h.step.rel.blk b k hb
    exact ⟨l2, g1, g2.of_same (.refl _) (hf _ (h.apart.row t old c b k l2 hold hc hb g1))⟩
  have hstep : Step φ0 s0 w0 φ s w' := by
    refine ⟨hrel, h.step.ext, ⟨ho.trans h.step.frm.os, ht.trans h.step.frm.tape, hu.trans h.step.frm.output, by rw [hsz]; exact h.step.frm.size, fun i hi hn => ?_⟩, h.step.own⟩
    rw [hf i (by omega)]
    exact h.step.frm.old i hi hn
  refine ⟨_, hk, ⟨fun _ _ => rfl, fun _ _ => rfl⟩, fun t' ht' => by simp only [lookL, if_neg ht'], hstep, ⟨⟨h.frel.env, h.frel.grd⟩, fun i cs2 hl => ?_⟩, ⟨fun i cs2 c2 hl hc2 => ?_, fun i cs2 c2 b k l2 hl hc2 hb hp => ?_, fun i i' cs2 cs3 c2 hne hl hl' hc2 => ?_⟩, h.defers, h.size, fun hp => ?_⟩
  · simp only [lookL] at hl
    split at hl
    · rename_i hi
      subst hi
      simp only [Option.some.injEq] at hl
      subst hl
      exact ⟨c, hc, h1, cs', e, hw, hv⟩
    · rename_i hi
      obtain ⟨c2, e1, e2⟩ := h.frel.loc i cs2 hl
      refine ⟨c2, e1, e2.of_same (.refl _) (hf c2 fun e3 => ?_)⟩
      subst e3
      exact h.apart.one i t cs2 old c2 hi hl hold e1 hc
  · simp only [lookL] at hl
    split at hl
    · rename_i hi
      subst hi
      exact h.apart.new i old c2 hold hc2
    · exact h.apart.new i cs2 c2 hl hc2
  · simp only [lookL] at hl
    split at hl
    · rename_i hi
      subst hi
      exact h.apart.row i old c2 b k l2 hold hc2 hb hp
    · exact h.apart.row i cs2 c2 b k l2 hl hc2 hb hp
  · simp only [lookL] at hl hl'
    have q : ∀ j cs4, (if j = t then some cs else lookL l j) = some cs4 → ∃ cs5, lookL l j = some cs5 := by
      intro j cs4 hj
      split at hj
      · rename_i hjt; subst hjt; exact ⟨old, hold⟩
      · exact ⟨cs4, hj⟩
    obtain ⟨a1, b1⟩ := q i cs2 hl
    obtain ⟨a2, b2⟩ := q i' cs3 hl'
    exact h.apart.one i i' a1 a2 c2 hne b1 b2 hc2
  · obtain ⟨e1, e2, e3⟩ := h.pure hp
    exact ⟨e1, e2, ⟨ho.trans e3.os, ht.trans e3.tape, hu.trans e3.output, by rw [hsz]; exact e3.size, fun i hi => by rw [hf i (by omega)]; exact e3.block i hi⟩⟩

/-! ### Operands -/

section
variable {p : Bool} {N : Nat} {φ0 φ : Phi} {s0 s : St} {w0 w : World} {ψ : Nat → Option Nat} {fr : Fr} {a : Act}

/-- The guard under which an operation runs holds. -/
def GOk (a : Act) (og : Option (Nat × Bool)) : Prop := ∀ gt b, og = some (gt, b) → a.tmps[gt]? = some (.bool b)

theorem evE_sound (h : EnvRel φ ψ fr a) {og : Option (Nat × Bool)} (hg : GOk a og) {o : Operand} {x : Ent} (hx : evE fr og o = some x) : EntRel φ ψ x (a.eval o) := by
  cases o with
  | tmp t =>
    simp only [evE] at hx
    cases hl : lookG fr.g t with
    | none => rw [hl] at hx; exact (h.env t x hx).2
    | some q =>
      obtain ⟨t', j, gt, b⟩ := q
      rw [hl] at hx
      simp only at hx
      cases og with
      | none => simp at hx
      | some gb =>
        obtain ⟨gt', b'⟩ := gb
        simp only at hx
        split at hx
        · rename_i e1
          subst e1
          split at hx
          · rename_i e2
            subst e2
            simp only [Option.some.injEq] at hx
            subst hx
            exact (h.grd t t' j gt b hl).2 (hg gt b rfl)
          · simp at hx
        · simp at hx
  | const v =>
    simp only [evE] at hx
    split at hx
    · rename_i hp
      simp only [Option.some.injEq] at hx
      subst hx
      exact VRel.of_plain φ hp
    · simp at hx
  | global g => simp [evE] at hx
  | func f =>
    simp only [evE, Option.some.injEq] at hx
    subst hx
    exact VRel.func _ .nil .nil

theorem evV_sound (h : EnvRel φ ψ fr a) {o : Operand} {v : Value} (hx : evV fr o = some v) : VRel φ v (a.eval o) := by
  unfold evV at hx
  split at hx
  · rename_i u hu
    simp only [Option.some.injEq] at hx
    subst hx
    exact evE_sound h (og := none) (fun _ _ e => by simp at e) hu
  · simp at hx

theorem evVs_sound (h : EnvRel φ ψ fr a) : ∀ {os : List Operand} {vs : List Value}, evVs fr os = some vs → VsRel φ vs (os.map a.eval)
  | [], vs, hx => by simp only [evVs, Option.some.injEq] at hx; subst hx; exact .nil
  | o :: os, vs, hx => by
    simp only [evVs] at hx
    cases h1 : evV fr o with
    | none => simp [h1] at hx
    | some v =>
      cases h2 : evVs fr os with
      | none => simp [h1, h2] at hx
      | some vs' =>
        simp only [h1, h2, Option.some.injEq] at hx
        subst hx
        exact .cons (evV_sound h h1) (evVs_sound h h2)

theorem evO_sound (h : EnvRel φ ψ fr a) {o : Option Operand} {v : Option Value} (hx : evO fr o = some v) : ORel φ v (o.map a.eval) := by
  cases o with
  | none => simp only [evO, Option.some.injEq] at hx; subst hx; exact .none
  | some o =>
    simp only [evO] at hx
    cases h1 : evV fr o with
    | none => simp [h1] at hx
    | some u => simp only [h1, Option.some.injEq] at hx; subst hx; exact .some (evV_sound h h1)

theorem evPs_sound (h : EnvRel φ ψ fr a) : ∀ {os : List (Nat × Operand)} {vs : List (Nat × Value)}, evPs fr os = some vs →
    vs.length = (os.map fun q => (q.1, a.eval q.2)).length ∧ ∀ (k i : Nat) (v : Value), vs[k]? = some (i, v) → ∃ v', (os.map fun q => (q.1, a.eval q.2))[k]? = some (i, v') ∧ VRel φ v v'
  | [], vs, hx => by simp only [evPs, Option.some.injEq] at hx; subst hx; simp
  | (i, o) :: os, vs, hx => by
    simp only [evPs] at hx
    cases h1 : evV fr o with
    | none => simp [h1] at hx
    | some v =>
      cases h2 : evPs fr os with
      | none => simp [h1, h2] at hx
      | some vs' =>
        simp only [h1, h2, Option.some.injEq] at hx
        subst hx
        obtain ⟨e1, e2⟩ := evPs_sound h h2
        refine ⟨by simpa using e1, fun k i' v' hk => ?_⟩
        cases k with
        | zero =>
          simp only [List.getElem?_cons_zero, Option.some.injEq, Prod.mk.injEq] at hk
          obtain ⟨rfl, rfl⟩ := hk
          exact ⟨_, rfl, evV_sound h h1⟩
        | succ k => simpa using e2 k i' v' (by simpa using hk)

end

end Go.Sim
