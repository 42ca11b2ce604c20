/-
  A region that draws its order.
-/
import Derived.Test.YtkkgegocliobpaaSimQ
set_option linter.unusedSimpArgs false
set_option linter.unusedVariables false
namespace Go.Sim
open Go.RowKit (Below)

section
variable {P : Program} {C : Ctx} {an : An} {φ0 φ : Phi} {ψ : Nat → Option Nat} {s0 s s' : St} {w0 w : World} {fr fr' : Fr} {a g : Act} {ops : Array Oper} {R : Type} {K : Fr → St → Option R} {r : R}

/-! ### A reading, by itself -/

def PV (P : Program) (C : Ctx) (an : An) (ops : Array Oper) (fr : Fr) (s : St) (o : Oper) (x : Ent) : Prop :=
  (o.guard = none ∧ Val1 (opR std P C an fr s none o) x) ∨
  ∃ j want gt y, o.guard = some (j, want) ∧ (ops[j]?).bind (·.dst) = some gt ∧ evE fr none (.tmp gt) = some (.val y) ∧
    ((y = .bool want ∧ Val1 (opR std P C an fr s (some (gt, want)) o) x) ∨ (y ≠ .bool want ∧ x = .val undef))

def ReadR : OpR → Prop
  | .k _ => True
  | .v _ => True
  | .p _ _ => True
  | .bad => True
  | _ => False

theorem read_builtin {b : Builtin} {ts : List TypeId} {vs : List Value} (hb : b = .len ∨ b = .min ∨ b = .max) : ReadR (builtinR P b ts vs s) := by
  unfold builtinR
  split
  · split <;> exact trivial
  · exact trivial
  · exact trivial
  · simp at hb
  · simp at hb
  · exact trivial

theorem opR_read {og : Option (Nat × Bool)} (o : Oper) (hc : clsOf P C an ops fr o ≤ 2) : ReadR (opR std P C an fr s og o) := by
  obtain ⟨dst, op, ty, pos, after, guard⟩ := o
  cases op
  case alloc t => exfalso; simp only [clsOf] at hc; split at hc <;> (try split at hc) <;> simp at hc
  case box t y => exfalso; simp only [clsOf] at hc; split at hc <;> (try split at hc) <;> simp at hc
  case store t y z => exfalso; simp only [clsOf] at hc; split at hc <;> simp at hc
  case buildSlice t n ps => simp [clsOf] at hc
  case makeSlice t l c => simp [clsOf] at hc
  case makeMap t o => simp [clsOf] at hc
  case convert src dt x =>
    simp only [opR]
    split
    · exact trivial
    · exact trivial
    · split <;> exact trivial
    · rename_i h1 h2 h3
      simp [clsOf, h1, h2] at hc
    · exact trivial
  case mapUpdate t x k y => simp [clsOf] at hc
  case insert t x k y => simp [clsOf] at hc
  case call c =>
    obtain ⟨callee, args, ats⟩ := c
    simp only [opR]
    split
    · exact trivial
    · cases callee with
      | value x =>
        exfalso
        cases x <;> simp only [clsOf] at hc <;> (try split at hc) <;> simp at hc
      | invoke _ _ => simp [clsOf] at hc
      | builtin b => cases b <;> first | (simp [clsOf] at hc; done) | exact read_builtin (.inl rfl) | exact read_builtin (.inr (.inl rfl)) | exact read_builtin (.inr (.inr rfl))
  all_goals (simp only [opR]; repeat (first | exact trivial | split))

/-- Where a reading's value stands in the frame. -/
inductive Slot where
  | e (x : Ent)
  | g (t i gt : Nat) (want : Bool)

def PS (P : Program) (C : Ctx) (an : An) (ops : Array Oper) (fr : Fr) (s : St) (o : Oper) : Slot → Prop
  | .e x => PV P C an ops fr s o x
  | .g t i gt want => ∃ j, o.guard = some (j, want) ∧ (ops[j]?).bind (·.dst) = some gt ∧ (∃ y, evE fr none (.tmp gt) = some (.val y)) ∧ Val1 (opR std P C an fr s (some (gt, want)) o) (.lp t i)

def putS (N : Nat) (fr : Fr) (d : Option Nat) (sl : Slot) (K : Fr → Option R) : Option R :=
  match sl with
  | .e x => putK N fr d x K
  | .g t i gt want => putGK N fr d t i gt want K

def SlotIn (fr : Fr) (d : Nat) : Slot → Prop
  | .e x => lookE fr.e d = some x ∧ lookG fr.g d = none
  | .g t i gt want => lookG fr.g d = some (t, i, gt, want) ∧ lookE fr.e d = none

def SlotRel (φ : Phi) (ψ : Nat → Option Nat) (a : Act) (sl : Slot) (u : Value) : Prop :=
  match sl with
  | .e x => EntRel φ ψ x u
  | .g t i gt want => (∀ b, u ≠ .bool b) ∧ (a.tmps[gt]? = some (.bool want) → ∃ c, ψ t = some c ∧ u = .pointer (some ⟨c, i, none⟩))

theorem SlotIn.keep {d : Nat} {sl : Slot} {dd : Option Nat} (h : SlotIn fr d sl) (hk : Keeps fr fr' dd) (hd : dd ≠ some d) : SlotIn fr' d sl := by
  cases sl <;> simp only [SlotIn, hk.e d hd, hk.g d hd] at h ⊢ <;> exact h

theorem evOp_float {o : Oper} (hc : clsOf P C an ops fr o ≤ 2) (he : evOp std P C an ops o fr s K = some r) : ∃ sl, PS P C an ops fr s o sl ∧ putS an.N fr o.dst sl (fun fr => K fr s) = some r := by
  have hrd := fun og => opR_read (P := P) (C := C) (an := an) (s := s) (ops := ops) (fr := fr) (og := og) o hc
  obtain ⟨dst, op, ty, pos, after, guard⟩ := o
  cases guard with
  | none =>
    have hrd := hrd none
    simp only [evOp] at he
    cases hx : opR std P C an fr s none ⟨dst, op, ty, pos, after, none⟩ <;> rw [hx] at he hrd <;> simp only at he
    case k v => exact ⟨.e (.val v), .inl ⟨rfl, by rw [hx]; exact rfl⟩, he⟩
    case v m =>
      simp only [std, Option.bind_eq_some_iff] at he
      obtain ⟨v, hm, he⟩ := he
      exact ⟨.e (.val v), .inl ⟨rfl, by rw [hx]; exact ⟨v, hm, rfl⟩⟩, he⟩
    case p t j => exact ⟨.e (.lp t j), .inl ⟨rfl, by rw [hx]; exact rfl⟩, he⟩
    case bad => simp at he
    all_goals exact hrd.elim
  | some jw =>
    obtain ⟨j, want⟩ := jw
    simp only [evOp] at he
    cases hgt : (ops[j]?).bind (·.dst) with
    | none => simp [hgt] at he
    | some gt =>
      have hog : some (gt, want) = ogOf ops ⟨dst, op, ty, pos, after, some (j, want)⟩ := by simp [ogOf, hgt]
      have hrd := hrd (some (gt, want))
      simp only [hgt] at he
      cases hx : evE fr none (.tmp gt) with
      | none => simp [hx] at he
      | some q =>
        cases q with
        | lp _ _ => simp [hx] at he
        | val x =>
          simp only [hx] at he
          have gdv : ∀ {m : Option Value} {v : Value}, gd x want m = some v → (x = .bool want ∧ m = some v) ∨ (x ≠ .bool want ∧ v = undef) := by
            intro m v hg
            unfold gd at hg
            split at hg
            · rename_i b
              split at hg
              · rename_i e; exact .inl ⟨by rw [e], hg⟩
              · rename_i e; simp only [Option.some.injEq] at hg; exact .inr ⟨fun e2 => e (by simpa using e2), hg.symm⟩
            · rename_i hnb
              simp only [Option.some.injEq] at hg
              exact .inr ⟨fun e2 => hnb _ e2, hg.symm⟩
          cases hy : opR std P C an fr s (some (gt, want)) ⟨dst, op, ty, pos, after, some (j, want)⟩ <;> rw [hy] at he hrd <;> simp only at he
          case k v =>
            simp only [std, Option.bind_eq_some_iff] at he
            obtain ⟨v', hm, he⟩ := he
            rcases gdv hm with ⟨rfl, hm2⟩ | ⟨hb, rfl⟩
            · exact ⟨.e (.val v'), .inr ⟨j, want, gt, _, rfl, hgt, hx, .inl ⟨rfl, by rw [hy]; simp only [Option.some.injEq] at hm2; rw [hm2]; exact rfl⟩⟩, he⟩
            · exact ⟨.e (.val undef), .inr ⟨j, want, gt, _, rfl, hgt, hx, .inr ⟨hb, rfl⟩⟩, he⟩
          case v m =>
            simp only [std, Option.bind_eq_some_iff] at he
            obtain ⟨v', hm, he⟩ := he
            rcases gdv hm with ⟨rfl, hm2⟩ | ⟨hb, rfl⟩
            · exact ⟨.e (.val v'), .inr ⟨j, want, gt, _, rfl, hgt, hx, .inl ⟨rfl, by rw [hy]; exact ⟨v', hm2, rfl⟩⟩⟩, he⟩
            · exact ⟨.e (.val undef), .inr ⟨j, want, gt, _, rfl, hgt, hx, .inr ⟨hb, rfl⟩⟩, he⟩
          case p t i => exact ⟨.g t i gt want, ⟨j, rfl, hgt, ⟨x, hx⟩, by rw [hy]; exact rfl⟩, he⟩
          case bad => simp at he
          all_goals exact hrd.elim

/-- What a reading leaves, and nothing else. -/
def Yld (P : Program) (ops : Array Oper) (o : Oper) (a : Act) (w : World) (u : Value) : Prop :=
  (Region.wanted o (yielded ops a.tmps) = true ∧ Gives P o a w u) ∨ (Region.wanted o (yielded ops a.tmps) = false ∧ u = undef)

theorem val1_sound {o : Oper} {x : Ent} {y : OpR} (hnc : ¬ ∃ c f, o.op = .call c ∧ c.callee = .value (.func f)) (h : OpSpec P φ ψ fr s o a w y) (hv : Val1 y x) : ∃ u, Gives P o a w u ∧ EntRel φ ψ x u := by
  cases y with
  | k v => cases hv; exact h
  | v m =>
    obtain ⟨v, h1, rfl⟩ := hv
    rcases h v h1 with h2 | ⟨h2, _⟩
    · exact h2
    · exact absurd h2 hnc
  | p t j =>
    cases hv
    obtain ⟨c, h1, h2⟩ := h
    exact ⟨_, h2, c, h1, rfl⟩
  | _ => exact hv.elim

theorem PV_sound (hC : CtxOk P C) (h : InvA an φ0 s0 w0 φ ψ s fr a w) {o : Oper} {x : Ent} (hc : clsOf P C an ops fr o ≤ 2) (hv : PV P C an ops fr s o x) : ∃ u, Yld P ops o a w u ∧ EntRel φ ψ x u := by
  have hnc : ¬ ∃ c f, o.op = .call c ∧ c.callee = .value (.func f) := by
    rintro ⟨c, f, h1, h2⟩
    obtain ⟨callee, args, ats⟩ := c
    simp only at h2
    subst h2
    simp only [clsOf, h1] at hc
    split at hc <;> simp at hc
  rcases hv with ⟨hg, hv⟩ | ⟨j, want, gt, b, hg, hgt, hx, hv⟩
  · have spec := opR_sound (P := P) (C := C) (an := an) (ops := ops) (og := none) hC h.frel.toEnvRel (fun _ _ e => by simp at e) o (by simp [ogOf, hg]) (fun _ _ => h.frel.loc) (fun _ => h.step.rel)
    obtain ⟨u, h1, h2⟩ := val1_sound hnc spec hv
    exact ⟨u, .inl ⟨by simp [Region.wanted, hg], h1⟩, h2⟩
  · have hog : some (gt, want) = ogOf ops o := by simp [ogOf, hg, hgt]
    have hxr : VRel φ b (a.tmps.getD gt undef) := evE_sound h.frel.toEnvRel (og := none) (fun _ _ e => by simp at e) hx
    have hw : Region.wanted o (yielded ops a.tmps) = true ↔ a.tmps[gt]? = some (.bool want) := by
      simp only [Region.wanted, yielded, hg, hgt, Option.bind_some]
      cases ha : a.tmps[gt]? with
      | none => simp
      | some y => cases y <;> simp
    rcases hv with ⟨rfl, hv⟩ | ⟨hb, rfl⟩
    · have hget := get_of_getD (isB hxr)
      have spec := opR_sound (P := P) (C := C) (an := an) (ops := ops) hC h.frel.toEnvRel (w := w) (s := s)
        (og := some (gt, want)) (fun g b e => by simp only [Option.some.injEq, Prod.mk.injEq] at e; obtain ⟨rfl, rfl⟩ := e; exact hget) o hog (fun _ _ => h.frel.loc) (fun _ => h.step.rel)
      obtain ⟨u, h1, h2⟩ := val1_sound hnc spec hv
      exact ⟨u, .inl ⟨hw.2 hget, h1⟩, h2⟩
    · refine ⟨undef, .inr ⟨by
        rw [← Bool.not_eq_true]
        intro hq
        have h1 := getD_of_get (hw.1 hq)
        rw [h1] at hxr
        exact hb (ofB hxr), rfl⟩, undef_rel φ⟩

theorem PV_keep {o : Oper} {x : Ent} (hc : clsOf P C an ops fr o ≤ 2) (hs : SameOn (o.looksAt ops) fr fr') (hl : clsOf P C an ops fr o = 1 → LocAt (slotOf ops fr o) fr fr') (he : clsOf P C an ops fr o = 2 → Ext s s')
    (hv : PV P C an ops fr s o x) : PV P C an ops fr' s' o x := by
  rcases hv with ⟨hg, hv⟩ | ⟨j, want, gt, b, hg, hgt, hx, hv⟩
  · exact .inl ⟨hg, opR_congr (by simp [ogOf, hg]) hc hs hl he hv⟩
  · refine .inr ⟨j, want, gt, b, hg, hgt, by rw [hs.guard hg hgt]; exact hx, ?_⟩
    rcases hv with ⟨h1, hv⟩ | hv
    · exact .inl ⟨h1, opR_congr (by simp [ogOf, hg, hgt]) hc hs hl he hv⟩
    · exact .inr hv

theorem PS_sound (hC : CtxOk P C) (h : InvA an φ0 s0 w0 φ ψ s fr a w) {o : Oper} {sl : Slot} (hc : clsOf P C an ops fr o ≤ 2) (hv : PS P C an ops fr s o sl) : ∃ u, Yld P ops o a w u ∧ SlotRel φ ψ a sl u := by
  cases sl with
  | e x => exact PV_sound hC h hc hv
  | g t i gt want =>
    obtain ⟨j, hg, hgt, _, hv⟩ := hv
    have hnc : ¬ ∃ c f, o.op = .call c ∧ c.callee = .value (.func f) := by
      rintro ⟨c, f, h1, h2⟩
      obtain ⟨callee, args, ats⟩ := c
      simp only at h2
      subst h2
      simp only [clsOf, h1] at hc
      split at hc <;> simp at hc
    have hog : some (gt, want) = ogOf ops o := by simp [ogOf, hg, hgt]
    have hw : Region.wanted o (yielded ops a.tmps) = true ↔ a.tmps[gt]? = some (.bool want) := by
      simp only [Region.wanted, yielded, hg, hgt, Option.bind_some]
      cases ha : a.tmps[gt]? with
      | none => simp
      | some y => cases y <;> simp
    by_cases hq : a.tmps[gt]? = some (.bool want)
    · have spec := opR_sound (P := P) (C := C) (an := an) (ops := ops) hC h.frel.toEnvRel (w := w) (s := s)
        (og := some (gt, want)) (fun g b e => by simp only [Option.some.injEq, Prod.mk.injEq] at e; obtain ⟨rfl, rfl⟩ := e; exact hq) o hog (fun _ _ => h.frel.loc) (fun _ => h.step.rel)
      obtain ⟨u, h1, c, h2, rfl⟩ := val1_sound hnc spec hv
      exact ⟨_, .inl ⟨hw.2 hq, h1⟩, fun b e => by simp at e, fun _ => ⟨c, h2, rfl⟩⟩
    · refine ⟨undef, .inr ⟨by simpa using fun e => hq (hw.1 e), rfl⟩, fun b e => by simp [undef] at e, fun e => absurd e hq⟩

theorem PS_keep {o : Oper} {sl : Slot} (hc : clsOf P C an ops fr o ≤ 2) (hs : SameOn (o.looksAt ops) fr fr') (hl : clsOf P C an ops fr o = 1 → LocAt (slotOf ops fr o) fr fr') (he : clsOf P C an ops fr o = 2 → Ext s s')
    (hv : PS P C an ops fr s o sl) : PS P C an ops fr' s' o sl := by
  cases sl with
  | e x => exact PV_keep hc hs hl he hv
  | g t i gt want =>
    obtain ⟨j, hg, hgt, hy, hv⟩ := hv
    exact ⟨j, hg, hgt, by rw [hs.guard hg hgt]; exact hy, opR_congr (by simp [ogOf, hg, hgt]) hc hs hl he hv⟩

theorem Inv.putS {p : Bool} {N : Nat} (h : Inv p N φ0 s0 w0 φ ψ s fr g w) {d : Option Nat} {sl : Slot} {u : Value} {KK : Fr → Option R} (hx : SlotRel φ ψ g sl u) (hk : Sim.putS N fr d sl KK = some r) :
    ∃ fr', KK fr' = some r ∧ (Keeps fr fr' d ∧ fr'.l = fr.l ∧ ∀ d', d = some d' → SlotIn fr' d' sl) ∧ Inv p N φ0 s0 w0 φ ψ s fr' (g.put d u) w := by
  cases sl with
  | e x => exact h.put hx hk
  | g t i gt want => exact h.putG hx.2 hk

/-! ### States that differ in what is not looked at -/

theorem eval_of_get {x : Operand} (h : ∀ t, x = .tmp t → a.tmps[t]? = g.tmps[t]?) : a.eval x = g.eval x := by
  cases x with
  | tmp t => simp only [Act.eval, Array.getD_eq_getD_getElem?, h t rfl]
  | _ => rfl

theorem exec_same {o : Oper} (hs : ∀ cs b, o.op ≠ .select cs b) (h : ∀ t ∈ o.looksAt ops, a.tmps[t]? = g.tmps[t]?) :
    execOp a.eval o = execOp g.eval o ∧ Region.wanted o (yielded ops a.tmps) = Region.wanted o (yielded ops g.tmps) := by
  constructor
  · exact execOp_congr o hs fun x hx => eval_of_get fun t ht => h t (List.mem_append_left _ (List.mem_filterMap.2 ⟨.tmp t, by rw [← ht]; simpa using hx, rfl⟩))
  · unfold Region.wanted
    cases hg : o.guard with
    | none => rfl
    | some q =>
      obtain ⟨j, want⟩ := q
      simp only [yielded]
      cases hd : (ops[j]?).bind (·.dst) with
      | none => rfl
      | some d =>
        simp only [Option.bind_some]
        rw [h d (List.mem_append_right _ (by simp [hg, hd]))]

theorem StepE.same {o : Oper} {X : Value → World → Prop} (hs : ∀ cs b, o.op ≠ .select cs b) (h : ∀ t ∈ o.looksAt ops, a.tmps[t]? = g.tmps[t]?) (hx : StepE P ops o g w X) : StepE P ops o a w X := by
  obtain ⟨h1, h2⟩ := exec_same hs h
  unfold StepE Does at *
  rw [h1, h2]
  exact hx

theorem Yld.step {o : Oper} {u : Value} {X : Value → World → Prop} (h : Yld P ops o g w u) (hx : X u w) : StepE P ops o g w X := by
  unfold StepE
  rcases h with ⟨h1, h2⟩ | ⟨h1, rfl⟩
  · rw [if_pos h1]
    exact does_value h2 hx
  · rw [if_neg (by simp [h1])]
    exact hx

/-- A temporary written anew with what stands for the same. -/
theorem Inv.reputE {p : Bool} {N : Nat} (h : Inv p N φ0 s0 w0 φ ψ s fr g w) {d : Option Nat} {x : Ent} {u : Value} (hd : ∀ d', d = some d' → lookE fr.e d' = some x ∧ lookG fr.g d' = none) (hx : EntRel φ ψ x u) :
    Inv p N φ0 s0 w0 φ ψ s fr (g.put d u) w := by
  cases d with
  | none => exact h
  | some d =>
    obtain ⟨h1, h2⟩ := hd d rfl
    obtain ⟨hlt, hold⟩ := h.frel.env d x h1
    refine ⟨h.step, ⟨⟨fun t y hy => ?_, fun t t' j gt b hl => ?_⟩, h.frel.loc⟩, h.apart, by simpa using h.defers, by simpa using h.size, h.pure⟩
    · rw [size_put]
      by_cases ht : t = d
      · subst ht
        rw [h1] at hy
        simp only [Option.some.injEq] at hy
        subst hy
        exact ⟨hlt, by rw [getD_put_same hlt]; exact hx⟩
      · obtain ⟨g1, g2⟩ := h.frel.env t y hy
        exact ⟨g1, by rw [getD_put_other ht]; exact g2⟩
    · obtain ⟨g1, g2⟩ := h.frel.grd t t' j gt b hl
      have ht : t ≠ d := fun e => by subst e; rw [h2] at hl; simp at hl
      rw [size_put, getD_put_other ht]
      refine ⟨g1, fun hb => g2 ?_⟩
      by_cases hgt : gt = d
      · subst hgt
        have hu : u = .bool b := by
          have := getD_of_get hb
          rwa [getD_put_same hlt] at this
        subst hu
        cases x with
        | lp t j => obtain ⟨c, _, e⟩ := hx; simp at e
        | val v =>
          have hv : v = .bool b := by
            cases hx; rfl
          subst hv
          exact get_of_getD (isB hold)
      · rwa [get_put_other hgt] at hb

theorem Inv.reput {p : Bool} {N : Nat} (h : Inv p N φ0 s0 w0 φ ψ s fr g w) {d : Option Nat} {sl : Slot} {u : Value} (hd : ∀ d', d = some d' → SlotIn fr d' sl) (hx : SlotRel φ ψ g sl u) :
    Inv p N φ0 s0 w0 φ ψ s fr (g.put d u) w := by
  cases sl with
  | e x => exact h.reputE hd hx
  | g tt i gg want =>
    cases d with
    | none => exact h
    | some d =>
      obtain ⟨h1, h2⟩ := hd d rfl
      obtain ⟨hb, hx⟩ := hx
      obtain ⟨hlt, _⟩ := h.frel.grd d _ _ _ _ h1
      have hnb : ∀ b, (g.put (some d) u).tmps[d]? ≠ some (.bool b) := fun b e => by
        have := getD_of_get e
        rw [getD_put_same hlt] at this
        exact hb b this
      refine ⟨h.step, ⟨⟨fun t y hy => ?_, fun t t' j gt b hl => ?_⟩, h.frel.loc⟩, h.apart, by simpa using h.defers, by simpa using h.size, h.pure⟩
      · rw [size_put]
        have ht : t ≠ d := fun e => by subst e; rw [h2] at hy; simp at hy
        obtain ⟨g1, g2⟩ := h.frel.env t y hy
        exact ⟨g1, by rw [getD_put_other ht]; exact g2⟩
      · obtain ⟨g1, g2⟩ := h.frel.grd t t' j gt b hl
        rw [size_put]
        refine ⟨g1, fun hbb => ?_⟩
        have hgt : gt ≠ d := fun e => by subst e; exact hnb b hbb
        rw [get_put_other hgt] at hbb
        by_cases ht : t = d
        · subst ht
          rw [h1] at hl
          simp only [Option.some.injEq, Prod.mk.injEq] at hl
          obtain ⟨rfl, rfl, rfl, rfl⟩ := hl
          rw [getD_put_same hlt]
          exact hx hbb
        · rw [getD_put_other ht]
          exact g2 hbb

end
end Go.Sim
