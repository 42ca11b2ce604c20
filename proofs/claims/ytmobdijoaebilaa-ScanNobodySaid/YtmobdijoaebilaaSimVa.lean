/-
  A call that turns nothing that was there, seen as a reading.
-/
import Derived.Test.YtmobdijoaebilaaSimV
set_option linter.unusedSimpArgs false
set_option linter.unusedVariables false
namespace Go.Sim
open Go.RowKit (Below)

def Blk.frz : Blk → Blk
  | .row n rows _ => .row n rows true
  | .map es _ => .map es true

def frzH : List (Nat × Blk) → List (Nat × Blk)
  | [] => []
  | (i, k) :: r => (i, k.frz) :: frzH r

/-- Nothing that stands there may be turned. -/
def St.frz (s : St) : St := ⟨frzH s.h, s.n⟩

theorem getH_frz : ∀ (h : List (Nat × Blk)) (b : Nat), getH (frzH h) b = (getH h b).map Blk.frz
  | [], _ => rfl
  | (i, k) :: r, b => by
    simp only [frzH, getH]
    split
    · rfl
    · exact getH_frz r b

theorem St.get_frz (s : St) (b : Nat) : s.frz.get b = (s.get b).map Blk.frz := getH_frz s.h b

theorem Rel.frz {φ : Phi} {s : St} {w : World} (h : Rel φ s w) : Rel φ s.frz w := by
  refine ⟨h.fresh, fun b k hk => ?_, fun b c k k' l l' h1 h2 hne hro => ?_⟩
  · rw [St.get_frz, Option.map_eq_some_iff] at hk
    obtain ⟨k0, h0, rfl⟩ := hk
    obtain ⟨l, h1, h2⟩ := h.blk b k0 h0
    refine ⟨l, h1, ?_⟩
    cases k0 with
    | row sz rows ro =>
      obtain ⟨g1, g2, cs, e, fz, g3, g4, g5, _⟩ := h2
      exact ⟨g1, g2, cs, e, fz, g3, g4, g5, fun e => by cases e⟩
    | map es ro => exact h2
  · rw [St.get_frz, Option.map_eq_some_iff] at h1
    obtain ⟨k0, _, rfl⟩ := h1
    cases k0 <;> simp [Blk.frz, Blk.ro] at hro

mutual
/-- Does a value name nothing but what stands there? -/
def oldV (s : St) : Value → Bool
  | .pointer (some ⟨b, _, _⟩) => (s.get b).isSome
  | .slice (some ⟨b, _, _⟩) _ _ => (s.get b).isSome
  | .map (some b) => (s.get b).isSome
  | .agg ⟨l⟩ => oldVs s l
  | .tuple ⟨l⟩ => oldVs s l
  | .iface _ v => oldV s v
  | .func _ ⟨a⟩ ⟨c⟩ => oldVs s a && oldVs s c
  | _ => true
def oldVs (s : St) : List Value → Bool
  | [] => true
  | v :: r => oldV s v && oldVs s r
end

mutual
theorem VRel.old {φ φ' : Phi} {s : St} (hb : ∀ b, (s.get b).isSome = true → φ b = φ' b) : ∀ {v u : Value}, VRel φ' v u → oldV s v = true → VRel φ v u
  | _, _, .bool b, _ => .bool b
  | _, _, .int k n, _ => .int k n
  | _, _, .str x, _ => .str x
  | _, _, .pnil, _ => .pnil
  | _, _, .ptr h, ho => .ptr (by rw [hb _ (by simpa only [oldV] using ho)]; exact h)
  | _, _, .snil, _ => .snil
  | _, _, .slice h h1 h2 h3 h4, ho => .slice (by rw [hb _ (by simpa only [oldV] using ho)]; exact h) h1 h2 h3 h4
  | _, _, .mnil, _ => .mnil
  | _, _, .map h, ho => .map (by rw [hb _ (by simpa only [oldV] using ho)]; exact h)
  | _, _, .nilF, _ => .nilF
  | _, _, .func fn h1 h2, ho => by
    simp only [oldV, Bool.and_eq_true] at ho
    exact .func fn (VsRel.old hb h1 ho.1) (VsRel.old hb h2 ho.2)
  | _, _, .nilI, _ => .nilI
  | _, _, .iface t h, ho => .iface t (VRel.old hb h (by simpa only [oldV] using ho))
  | _, _, .agg h h1, ho => .agg (VsRel.old hb h (by simpa only [oldV] using ho)) h1
  | _, _, .tuple h, ho => .tuple (VsRel.old hb h (by simpa only [oldV] using ho))
theorem VsRel.old {φ φ' : Phi} {s : St} (hb : ∀ b, (s.get b).isSome = true → φ b = φ' b) : ∀ {l l' : List Value}, VsRel φ' l l' → oldVs s l = true → VsRel φ l l'
  | _, _, .nil, _ => .nil
  | _, _, .cons h t, ho => by
    simp only [oldVs, Bool.and_eq_true] at ho
    exact .cons (VRel.old hb h ho.1) (VsRel.old hb t ho.2)
end

/-- What it answers, as a reading. -/
def frzR (m : St → Option (Value × St)) (s : St) : Option Value :=
  (m s.frz).bind fun r => if oldV s r.1 then some r.1 else none

theorem FnOk.frozen {P : Program} {f : FuncId} {F : List Value → St → Option (Value × St)} (h : FnOk P f (.st F)) : FnOk P f (.rd fun args s => frzR (F args) s) := by
  intro φ s w args args' r hr ha hg
  unfold frzR at hg
  rw [Option.bind_eq_some_iff] at hg
  obtain ⟨⟨v, s'⟩, h1, h2⟩ := hg
  simp only at h2
  split at h2
  · rename_i ho
    cases h2
    refine (h φ s.frz w args args' _ s' hr.frz ha h1).mono fun e w' he => ?_
    cases e with
    | returned u =>
      obtain ⟨φ', hst, hv⟩ := he
      have hb : Below w.heap.size w w' := ⟨hst.frm.os, hst.frm.tape, hst.frm.output, hst.frm.size, fun c hc => hst.frm.old c hc fun b k l g1 g2 _ => by
        rw [St.get_frz, Option.map_eq_some_iff] at g1
        obtain ⟨k0, _, rfl⟩ := g1
        cases k0 <;> simp [Blk.frz, Blk.ro] at g2⟩
      refine ⟨⟨hb, Froz.of_below hb⟩, VRel.old (s := s) (fun b hsome => ?_) hv ho⟩
      cases hg : s.get b with
      | none => rw [hg] at hsome; simp at hsome
      | some k =>
        obtain ⟨l, g1, _⟩ := hr.blk b k hg
        rw [g1, hst.ext b l g1]
    | _ => exact he.elim
  · simp at h2

/-- A reading known by what it answers. -/
theorem FnOk.rd_of' {P : Program} {f : FuncId} {g g' : List Value → St → Option Value} (h : FnOk P f (.rd g)) (he : ∀ args s r, g' args s = some r → g args s = some r) : FnOk P f (.rd g') :=
  fun φ s w args args' r hr ha hg => h φ s w args args' r hr ha (he args s r hg)

end Go.Sim
