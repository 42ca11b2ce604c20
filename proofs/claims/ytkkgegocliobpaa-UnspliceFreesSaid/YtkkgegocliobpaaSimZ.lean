/-
  Closed calls; laws of one answer; the row by its cells.
-/
import Derived.Test.YtkkgegocliobpaaSimY
set_option linter.unusedSimpArgs false
set_option linter.unusedVariables false
namespace Go.Sim
open Go.RowKit (Below)
open Go.ChangeShapes Go.WideShapes Go.RowKit

/-- A call without arguments that answers what is plain: known once for all memories. -/
def closedW (v : Value) : List Value → St → Option Value
  | [], _ => some v
  | _, _ => none

theorem FnOk.closed {P : Program} {f : FuncId} {F : List Value → St → Option (Value × St)} {v : Value} (h : FnOk P f (.st F)) (he : (F [] ⟨[], 0⟩).map (·.1) = some v) (hp : plainV v = true) : FnOk P f (.rd (closedW v)) := by
  intro φ s w args args' r hr ha hg
  unfold closedW at hg
  split at hg
  · cases hg
    cases ha
    rw [Option.map_eq_some_iff] at he
    obtain ⟨⟨v', s'⟩, h1, h2⟩ := he
    simp only at h2
    subst h2
    refine (h (fun _ => none) ⟨[], 0⟩ w [] [] _ _ (rel_nil w) .nil h1).mono fun e w' he => ?_
    cases e with
    | returned u =>
      obtain ⟨φ', hst, hv⟩ := he
      have hb : Below w.heap.size w w' := ⟨hst.frm.os, hst.frm.tape, hst.frm.output, hst.frm.size, fun c hc => hst.frm.old c hc fun b k l g1 g2 _ => by simp [St.get, getH] at g1⟩
      refine ⟨⟨hb, Froz.of_below hb⟩, ?_⟩
      rw [VRel.plain_eq hv hp]
      exact VRel.of_plain φ hp
    | _ => exact he.elim
  · simp at hg

def Leaf.scalar : Leaf → Bool
  | .sl _ => false
  | _ => true

theorem Leaf.Is.plain {s : St} {x : Leaf} {v : Value} (hx : x.scalar = true) (h : Leaf.Is s x v) : plainV v = true ∧ ∀ s', Leaf.Is s' x v := by
  cases x with
  | sl _ => simp [Leaf.scalar] at hx
  | b => unfold Leaf.Is at h; obtain ⟨x, rfl⟩ := h; exact ⟨rfl, fun _ => by unfold Leaf.Is; exact ⟨x, rfl⟩⟩
  | i k => unfold Leaf.Is at h; obtain ⟨x, rfl, hw⟩ := h; exact ⟨rfl, fun _ => by unfold Leaf.Is; exact ⟨x, rfl, hw⟩⟩
  | str => unfold Leaf.Is at h; obtain ⟨x, rfl, hw⟩ := h; exact ⟨rfl, fun _ => by unfold Leaf.Is; exact ⟨x, rfl, hw⟩⟩

theorem answer_cells {φ : Phi} {s : St} {W : World} : ∀ {ls : List Leaf} {row : List Leaf} {cs vs : List Value}, Rel φ s W → ls.all Leaf.scalar = true → Leaf.Are s (ls ++ [.sl row]) cs → VsRel φ cs vs →
    ∃ φ1 pre x, Rel φ1 ⟨[], 1⟩ W ∧ VsRel φ1 (pre ++ [x]) vs ∧ Leaf.Are ⟨[], 1⟩ ls pre ∧ (x = .slice none 0 0 ∨ ∃ len c, x = .slice (some ⟨0, 0, some 0⟩) len c)
  | [], row, cs, vs, hr, _, h, hv => by
    simp only [List.nil_append] at h
    unfold Leaf.Are at h
    obtain ⟨v, r, rfl, h1, h2⟩ := h
    unfold Leaf.Are at h2
    subst h2
    have hn : Rel (fun _ => none) ⟨[], 1⟩ W := ⟨fun b l h => by simp at h, fun b k h => by simp [St.get, getH] at h, fun b c k k' l l' h => by simp [St.get, getH] at h⟩
    unfold Leaf.Is at h1
    rcases h1 with rfl | ⟨b, len, cap, rows, rfl, h3, h4, h5, h6, _⟩
    · refine ⟨fun _ => none, [], _, hn, ?_, by unfold Leaf.Are; rfl, .inl rfl⟩
      cases hv with
      | cons a t =>
        cases t
        cases a
        exact .cons .snil .nil
    · cases hv with
      | cons a t =>
        cases t
        cases a with
        | slice g1 g2 g3 g4 g5 =>
          rename_i c a l
          refine ⟨fun x => if x = 0 then some l else none, [], _, ⟨fun b l h => ?_, fun b k h => by simp [St.get, getH] at h, fun b c k k' l l' h => by simp [St.get, getH] at h⟩, .cons (.slice (b := 0) (by simp) g2 g3 g4 g5) .nil, by unfold Leaf.Are; rfl, .inr ⟨_, _, rfl⟩⟩
          split at h
          · simp; omega
          · simp at h
  | x :: ls, row, cs, vs, hr, hs, h, hv => by
    simp only [List.cons_append] at h
    unfold Leaf.Are at h
    obtain ⟨v, r, rfl, h1, h2⟩ := h
    simp only [List.all_cons, Bool.and_eq_true] at hs
    cases hv with
    | cons a t =>
      obtain ⟨φ1, pre, y, g1, g2, g3, g4⟩ := answer_cells hr hs.2 h2 t
      obtain ⟨hp, hi⟩ := Leaf.Is.plain hs.1 h1
      refine ⟨φ1, v :: pre, y, g1, ?_, ?_, g4⟩
      · have := VRel.plain_eq a hp
        subst this
        exact .cons (VRel.of_plain φ1 hp) g2
      · unfold Leaf.Are
        exact ⟨v, pre, rfl, hi _, g3⟩

/-- Of a law of one answer, whose last cell alone may be a slice: it is enough to look at a heap without rows. -/
theorem answer_start {ls row : List Leaf} {F : List Value → St → Option (Value × St)} (hs : ls.all Leaf.scalar = true)
    (h : ∀ pre x, Leaf.Are ⟨[], 1⟩ ls pre → (x = .slice none 0 0 ∨ ∃ len c, x = .slice (some ⟨0, 0, some 0⟩) len c) → (F [.agg ⟨pre ++ [x]⟩] ⟨[], 1⟩).map (·.1) = some (.bool true))
    (φ : Phi) (s : St) (us vs : List Value) (W : World) (hr : Rel φ s W) (_ : AllRo s) (ha : Args s [(true, ls ++ [.sl row])] us) (hv : VsRel φ us vs) :
    ∃ φ1 s1 us1, Rel φ1 s1 W ∧ AllRo s1 ∧ VsRel φ1 us1 vs ∧ ∃ s', F us1 s1 = some (.bool true, s') := by
  unfold Args Args at ha
  obtain ⟨u, _, rfl, h1, rfl⟩ := ha
  unfold Arg at h1
  obtain ⟨cs, rfl, h1⟩ := h1
  cases hv with
  | cons a t =>
    cases t
    cases a with
    | agg b c =>
      obtain ⟨φ1, pre, x, g1, g2, g3, g4⟩ := answer_cells hr hs h1 b
      have h2 := h pre x g3 g4
      rw [Option.map_eq_some_iff] at h2
      obtain ⟨⟨v', s'⟩, h3, h4⟩ := h2
      simp only at h4
      subst h4
      have ho : oneCs (pre ++ [x]) = true := by
        have := VsRel.oneCs g2
        have := VsRel.oneCs b
        simp_all
      exact ⟨φ1, ⟨[], 1⟩, _, g1, AllRo.nil 1, .cons (.agg g2 ho) .nil, s', h3⟩

/-- THE ROW, by its arguments' cells. -/
theorem contractA {P : Program} {fid : FuncId} {fn : Func} {d : Nat} {tb : TypeId} {F : List Value → St → Option (Value × St)} {spec : ChangeSpec} {H : Type} {enc : TypeId × Value → H} {apart fresh handsOn again : Bool} {ls : List (Bool × List Leaf)}
    (hl : laidOutB P = true) (hts : fn.params.toList.all (fun t => tyOk P d t && P.readableRec t && decide (t < P.types.size)) = true)
    (hres : fn.resultTypes = #[tb]) (htb : P.underlying tb = some .bool) (hv : spec.vars = [])
    (hfn : ∀ ds : List (DataW H), ds.length = fn.params.size → (spec.fn H ds).results = [.lit (.bool true)] ∧ (spec.fn H ds).args = ds ∧ (spec.fn H ds).vars = [])
    (sound : FnOk P fid (.st F)) (hls : argLs P d fn.params.toList = some ls)
    (law : ∀ (φ : Phi) (s : St) (us vs : List Value) (W : World), Rel φ s W → AllRo s → Args s ls us → VsRel φ us vs → ∃ φ1 s1 us1, Rel φ1 s1 W ∧ AllRo s1 ∧ VsRel φ1 us1 vs ∧ ∃ s', F us1 s1 = some (.bool true, s'))
    (W : World) (base : Nat) (args : Array Value) (ds gs : List (DataW H)) (before : List MemPlace)
    (hval : ∀ (j : Nat) t v, fn.params[j]? = some t → args[j]? = some v → Value.okWide P W .any base t v)
    (hW : DataW.Whole enc P fn.params.toList spec.vars apart W args.toList ds gs before) :
    Calls P fid args W fun e W' => ∃ v, e = .returned v ∧ spec.post enc P fn apart fresh handsOn again W args v W' :=
  contract hl hts hres htb hv hfn sound (fun φ s us vs W h1 h2 h3 h4 => law φ s us vs W h1 h2 (TyVs.args hls h3) h4) W base args ds gs before hval hW

/-- A law that is shown at its own memory. -/
theorem law_here {F : List Value → St → Option (Value × St)} {ls : List (Bool × List Leaf)}
    (h : ∀ (s : St) (us : List Value), AllRo s → (∀ b, s.n ≤ b → s.get b = none) → Args s ls us → ∃ s', F us s = some (.bool true, s'))
    (φ : Phi) (s : St) (us vs : List Value) (W : World) (hr : Rel φ s W) (ha : AllRo s) (h1 : Args s ls us) (hv : VsRel φ us vs) :
    ∃ φ1 s1 us1, Rel φ1 s1 W ∧ AllRo s1 ∧ VsRel φ1 us1 vs ∧ ∃ s', F us1 s1 = some (.bool true, s') :=
  ⟨φ, s, us, hr, ha, hv, h s us ha (fun b hb => by
    cases hg : s.get b with
    | none => rfl
    | some k =>
      obtain ⟨l, hl1, _⟩ := hr.blk b k hg
      have := hr.fresh b l hl1
      omega) h1⟩
end Go.Sim
