/-
  A call that turns nothing that was there, seen as a reading.
-/
import Derived.Test.YtkkgegocliobpaaSimV
set_option linter.unusedSimpArgs false
set_option linter.unusedVariables false
namespace Go.Sim
open Go.RowKit (Below)

def Blk.frz : Blk → Blk
  | .row n rows _ => .row n rows true
  | .map es _ => .map es true

def frzH : List (Nat × Blk) → List (Nat × Blk)
  | [] => []
  | (i, k) :: r => (i, k.frz) :: frzH r

/-- Nothing that stands there may be turned. -/
def St.frz (s : St) : St := ⟨frzH s.h, s.n⟩

theorem getH_frz : ∀ (h : List (Nat × Blk)) (b : Nat), getH (frzH h) b = (getH h b).map Blk.frz
  | [], _ => rfl
  | (i, k) :: r, b => by
    simp only [frzH, getH]
    split
    · rfl
    · exact getH_frz r b

theorem St.get_frz (s : St) (b : Nat) : s.frz.get b = (s.get b).map Blk.frz := getH_frz s.h b

theorem Rel.frz {φ : Phi} {s : St} {w : World} (h : Rel φ s w) : Rel φ s.frz w := by
  refine ⟨h.fresh, fun b k hk => ?_, fun b c k k' l l' h1 h2 hne hro => ?_⟩
  · rw [St.get_frz, Option.map_eq_some_iff] at hk
    obtain ⟨k0, h0, rfl⟩ := hk
    obtain ⟨l, h1, h2⟩ := h.blk b k0 h0
    refine ⟨l, h1, ?_⟩
    cases k0 with
    | row sz rows ro =>
      obtain ⟨g1, g2, cs, e, fz, g3, g4, g5, _⟩ := h2
      exact ⟨g1, g2, cs, e, fz, g3, g4, g5, fun e => by cases e⟩
    | map es ro => exact h2
  · rw [St.get_frz, Option.map_eq_some_iff] at h1
    obtain ⟨k0, _, rfl⟩ := h1
    cases k0 <;> simp [Blk.frz, Blk.ro] at hro

mutual
/-- Does a value name nothing but what stands there? -/
def oldV (s : St) : Value → Bool
  | .pointer (some ⟨b, _, _⟩) => (s.get b).isSome
  | .slice (some ⟨b, _, _⟩) _ _ => (s.get b).isSome
  | .map (some b) => (s.get b).isSome
  | .agg ⟨l⟩ => oldVs s l
  | .tuple ⟨l⟩ => oldVs s l
  | .iface _ v => oldV s v
  | .func _ ⟨a⟩ ⟨c⟩ => oldVs s a && oldVs s c
  | _ => true
def oldVs (s : St) : List Value → Bool
  | [] => true
  | v :: r => oldV s v && oldVs s r
end

mutual
theorem VRel.old {φ φ' : Phi} {s : St} (hb : ∀ b, (s.get b).isSome = true → φ b = φ' b) : ∀ {v u : Value}, VRel φ' v u → oldV s v = true → VRel φ v u
  | _, _, .bool b, _ => .bool b
  | _, _, .int k n, _ => .int k n
  | _, _, .str x, _ => .str x
  | _, _, .pnil, _ => .pnil
  | _, _, .ptr h, ho => .ptr (by rw [hb _ (by simpa only [oldV] using ho)]; exact h)
  | _, _, .snil, _ => .snil
  | _, _, .slice h h1 h2 h3 h4, ho => .slice (by rw [hb _ (by simpa only [oldV] using ho)]; exact h) h1 h2 h3 h4
  | _, _, .mnil, _ => .mnil
  | _, _, .map h, ho => .map (by rw [hb _ (by simpa only [oldV] using ho)]; exact h)
  | _, _, .nilF, _ => .nilF
  | _, _, .func fn h1 h2, ho => by
    simp only [oldV, Bool.and_eq_true] at ho
    exact .func fn (VsRel.old hb h1 ho.1) (VsRel.old hb h2 ho.2)
  | _, _, .nilI, _ => .nilI
  | _, _, .iface t h, ho => .iface t (VRel.old hb h (by simpa only [oldV] using ho))
  | _, _, .agg h h1, ho => .agg (VsRel.old hb h (by simpa only [oldV] using ho)) h1
  | _, _, .tuple h, ho => .tuple (VsRel.old hb h (by simpa only [oldV] using ho))
theorem VsRel.old {φ φ' : Phi} {s : St} (hb : ∀ b, (s.get b).isSome = true → φ b = φ' b) : ∀ {l l' : List Value}, VsRel φ' l l' → oldVs s l = true → VsRel φ l l'
  | _, _, .nil, _ => .nil
  | _, _, .cons h t, ho => by
    simp only [oldVs, Bool.and_eq_true] at ho
    exact .cons (VRel.old hb h ho.1) (VsRel.old hb t ho.2)
end

/-- What it answers, as a reading. -/
def frzR (m : St → Option (Value × St)) (s : St) : Option Value :=
  (m s.frz).bind fun r => if oldV s r.1 then some r.1 else none

theorem FnOk.frozen {P : Program} {f : FuncId} {F : List Value → St → Option (Value × St)} (h : FnOk P f (.st F)) : FnOk P f (.rd fun args s => frzR (F args) s) := by
  intro φ s w args args' r hr ha hg
  unfold frzR at hg
  rw [Option.bind_eq_some_iff] at hg
  obtain ⟨⟨v, s'⟩, h1, h2⟩ := hg
  simp only at h2
  split at h2
  · rename_i ho
    cases h2
    refine (h φ s.frz w args args' _ s' hr.frz ha h1).mono fun e w' he => ?_
    cases e with
    | returned u =>
      obtain ⟨φ', hst, hv⟩ := he
      have hb : Below w.heap.size w w' := ⟨hst.frm.os, hst.frm.tape, hst.frm.output, hst.frm.size, fun c hc => hst.frm.old c hc fun b k l g1 g2 _ => by
        rw [St.get_frz, Option.map_eq_some_iff] at g1
        obtain ⟨k0, _, rfl⟩ := g1
        cases k0 <;> simp [Blk.frz, Blk.ro] at g2⟩
      refine ⟨⟨hb, Froz.of_below hb⟩, VRel.old (s := s) (fun b hsome => ?_) hv ho⟩
      cases hg : s.get b with
      | none => rw [hg] at hsome; simp at hsome
      | some k =>
        obtain ⟨l, g1, _⟩ := hr.blk b k hg
        rw [g1, hst.ext b l g1]
    | _ => exact he.elim
  · simp at h2

/-- A reading known by what it answers. -/
theorem FnOk.rd_of' {P : Program} {f : FuncId} {g g' : List Value → St → Option Value} (h : FnOk P f (.rd g)) (he : ∀ args s r, g' args s = some r → g args s = some r) : FnOk P f (.rd g') :=
  fun φ s w args args' r hr ha hg => h φ s w args args' r hr ha (he args s r hg)

/-- What it answers; its garbage is dropped where the answer names nothing new. -/
def dropR (m : St → Option (Value × St)) (s : St) : Option (Value × St) :=
  match m s.frz with
  | some (v, _) => if oldV s v then some (v, s) else m s
  | none => m s

theorem FnOk.dropped {P : Program} {f : FuncId} {F : List Value → St → Option (Value × St)} (h : FnOk P f (.st F)) : FnOk P f (.st fun args s => dropR (F args) s) := by
  intro φ s w args args' r s' hr ha hg
  change dropR (F args) s = some (r, s') at hg
  unfold dropR at hg
  split at hg
  · rename_i v s2 h1
    split at hg
    · rename_i ho
      simp only [Option.some.injEq, Prod.mk.injEq] at hg
      obtain ⟨rfl, rfl⟩ := hg
      refine (FnOk.frozen h φ s w args args' v hr ha (by simp [frzR, h1, ho])).mono fun e w' he => ?_
      cases e with
      | returned u => exact ⟨φ, Step.of_below hr he.1.1 he.1.2, he.2⟩
      | _ => exact he.elim
    · exact h φ s w args args' r s' hr ha hg
  · exact h φ s w args args' r s' hr ha hg

theorem FnOk.st_of' {P : Program} {f : FuncId} {F F' : List Value → St → Option (Value × St)} (h : FnOk P f (.st F)) (he : ∀ args s r, F' args s = some r → F args s = some r) : FnOk P f (.st F') :=
  fun φ s w args args' r s' hr ha hg => h φ s w args args' r s' hr ha (he args s _ hg)

def sameRows : List (List Value) → List (List Value) → Bool
  | [], [] => true
  | a :: r, b :: q => sameVs a b && sameRows r q
  | _, _ => false

theorem sameRows_eq : ∀ {a b : List (List Value)}, sameRows a b = true → a = b
  | [], [], _ => rfl
  | [], _ :: _, h => by simp [sameRows] at h
  | _ :: _, [], h => by simp [sameRows] at h
  | a :: r, b :: q, h => by
    simp only [sameRows, Bool.and_eq_true] at h
    rw [sameVs_eq h.1, sameRows_eq h.2]

def sameH : List (Nat × Blk) → List (Nat × Blk) → Bool
  | [], [] => true
  | (i, .row n r o) :: a, (j, .row m q p) :: b => decide (i = j) && decide (n = m) && sameRows r q && (o == p) && sameH a b
  | _, _ => false

theorem sameH_eq : ∀ {a b : List (Nat × Blk)}, sameH a b = true → a = b
  | [], [], _ => rfl
  | [], _ :: _, h => by simp [sameH] at h
  | (i, .row n r o) :: a, [], h => by simp [sameH] at h
  | (i, .map e o) :: a, b, h => by cases b <;> simp [sameH] at h
  | (i, .row n r o) :: a, (j, .map e p) :: b, h => by simp [sameH] at h
  | (i, .row n r o) :: a, (j, .row m q p) :: b, h => by
    simp only [sameH, Bool.and_eq_true, decide_eq_true_eq, beq_iff_eq] at h
    obtain ⟨⟨⟨⟨rfl, rfl⟩, h3⟩, rfl⟩, h5⟩ := h
    rw [sameRows_eq h3, sameH_eq h5]

def sameSt (s t : St) : Bool := sameH s.h t.h && decide (s.n = t.n)

theorem sameSt_eq {s t : St} (h : sameSt s t = true) : s = t := by
  simp only [sameSt, Bool.and_eq_true, decide_eq_true_eq] at h
  cases s; cases t
  simp only at h
  rw [sameH_eq h.1, h.2]

/-- At one input another way of reckoning. -/
def atOne (A : List Value) (S0 : St) (F G : List Value → St → Option (Value × St)) (args : List Value) (s : St) : Option (Value × St) :=
  match sameVs args A && sameSt s S0 with
  | true => G args s
  | false => F args s

theorem atOne_ne {A args : List Value} {S0 s : St} {F G : List Value → St → Option (Value × St)} (h : (sameVs args A && sameSt s S0) = false) : Sim.atOne A S0 F G args s = F args s := by
  unfold Sim.atOne
  rw [h]

theorem FnOk.atOne {P : Program} {f : FuncId} {F G : List Value → St → Option (Value × St)} {A : List Value} {S0 : St} (h : FnOk P f (.st F)) (hl : F A S0 = G A S0) : FnOk P f (.st (Sim.atOne A S0 F G)) :=
  h.st_of' fun args s r hr => by
    unfold Sim.atOne at hr
    split at hr
    · rename_i hs
      simp only [Bool.and_eq_true] at hs
      have h1 := sameVs_eq hs.1
      have h2 := sameSt_eq hs.2
      subst h1; subst h2
      rw [hl]; exact hr
    · exact hr

/-- The means, with loops left open. -/
def stdIt (it : {R : Type} → ((List Value → St → Option R) → List Value → St → Option R) → List Value → St → Option R) : Sig := ⟨Option.bind, gd, gdS, gdU, cnd, it⟩

theorem iter_succ {X R : Type} (f : (X → St → Option R) → X → St → Option R) (k : Nat) (x : X) (s : St) : iter f (k + 1) x s = f (iter f k) x s := rfl

/-- A loop that counts up to a bound and changes nothing else. -/
theorem iter_count {R : Type} {f : (List Value → St → Option R) → List Value → St → Option R} {xs : Nat → List Value} {s : St} {r : Option R} {N : Nat} (hs : ∀ rec j, j < N → f rec (xs j) s = rec (xs (j + 1)) s) (hl : ∀ rec, f rec (xs N) s = r) :
    ∀ (d j m : Nat), j + d = N → iter f (m + d + 1) (xs j) s = r
  | 0, j, m, h => by
    rw [iter_succ, show j = N by omega, hl]
  | d + 1, j, m, h => by
    rw [iter_succ, hs _ j (by omega), show m + (d + 1) = m + d + 1 by omega]
    exact iter_count hs hl d (j + 1) m (by omega)

theorem lss_i64 {a b : Int} (h : a < b) : bin .lss (.int .i64 a) (.int .i64 b) = some (.bool true) := by
  simp [bin, binOp, run0, Op.intCmp, h]
  rfl

theorem iter8 {X R : Type} (f : (X → St → Option R) → X → St → Option R) (k : Nat) (x : X) (s : St) : iter f (k + 8) x s = f (f (f (f (f (f (f (f (iter f k)))))))) x s := rfl

theorem wrap_i64 {n : Int} (h1 : -9223372036854775808 ≤ n) (h2 : n < 9223372036854775808) : IntKind.i64.wrap n = n := by
  simp [IntKind.wrap, IntKind.signed, IntKind.bits]
  omega

theorem add_i64 {a b : Int} (h1 : -9223372036854775808 ≤ a + b) (h2 : a + b < 9223372036854775808) : bin .add (.int .i64 a) (.int .i64 b) = some (.int .i64 (a + b)) := by
  have := wrap_i64 h1 h2
  show some (Value.int .i64 (IntKind.i64.wrap (a + b))) = _
  rw [this]

end Go.Sim
