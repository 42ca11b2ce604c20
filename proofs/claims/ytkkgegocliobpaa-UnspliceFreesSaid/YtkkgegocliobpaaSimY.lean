/-
  The arguments of a law, cell by cell, and its row.
-/
import Derived.Test.YtkkgegocliobpaaSimX
set_option linter.unusedSimpArgs false
set_option linter.unusedVariables false
namespace Go.Sim
open Go.RowKit (Below)
open Go.ChangeShapes Go.WideShapes Go.RowKit

inductive Leaf where
  | b
  | i (k : IntKind)
  | str
  | sl (row : List Leaf)

mutual
/-- What a cell looks like. -/
def Leaf.Is (s : St) : Leaf → Value → Prop
  | .b, v => ∃ x, v = .bool x
  | .i k, v => ∃ n, v = .int k n ∧ (Lit.int k n).wf = true
  | .str, v => ∃ x : ByteArray, v = .string x ∧ x.size ≤ maxLen
  | .sl row, v => v = .slice none 0 0 ∨ ∃ b len cap rows, v = .slice (some ⟨b, 0, some 0⟩) len (2 * cap) ∧ len ≤ cap ∧ cap ≤ maxLen ∧ s.get b = some (.row row.length rows true) ∧ rows.length = cap ∧ ∀ r ∈ rows, Leaf.Are s row r
def Leaf.Are (s : St) : List Leaf → List Value → Prop
  | [], cs => cs = []
  | x :: l, cs => ∃ v r, cs = v :: r ∧ Leaf.Is s x v ∧ Leaf.Are s l r
end

theorem Leaf.Are.length {s : St} : ∀ {l : List Leaf} {cs : List Value}, Leaf.Are s l cs → cs.length = l.length
  | [], cs, h => by unfold Leaf.Are at h; simp [h]
  | x :: l, cs, h => by
    unfold Leaf.Are at h
    obtain ⟨v, r, rfl, _, h⟩ := h
    simp [Leaf.Are.length h]

theorem Leaf.Are.append {s : St} : ∀ {l m : List Leaf} {cs ds : List Value}, Leaf.Are s l cs → Leaf.Are s m ds → Leaf.Are s (l ++ m) (cs ++ ds)
  | [], m, cs, ds, h, k => by unfold Leaf.Are at h; subst h; exact k
  | x :: l, m, cs, ds, h, k => by
    unfold Leaf.Are at h
    obtain ⟨v, r, rfl, h1, h⟩ := h
    simp only [List.cons_append]
    unfold Leaf.Are
    exact ⟨v, r ++ ds, rfl, h1, Leaf.Are.append h k⟩

def flatFs (P : Program) (F : TypeId → Option (List Leaf)) : List Field → Option (List Leaf)
  | [] => some []
  | f :: r => match F f.type, flatFs P F r with
    | some a, some b => if a.length = P.cellsOf f.type then some (a ++ b) else none
    | _, _ => none

def repL (l : List Leaf) : Nat → List Leaf
  | 0 => []
  | n + 1 => l ++ repL l n

/-- A type's cells. -/
def flat (P : Program) : Nat → TypeId → Option (List Leaf)
  | 0, _ => none
  | d + 1, t => match P.underlying t with
    | some .bool => some [.b]
    | some (.int k) => some [.i k]
    | some .string => some [.str]
    | some (.slice e) => match flat P d e with
      | some l => if l.length = P.cellsOf e then some [.sl l] else none
      | none => none
    | some (.struct fs) => flatFs P (flat P d) fs.toList
    | some (.array n e) => match flat P d e with
      | some l => if l.length = P.cellsOf e then some (repL l n) else none
      | none => none
    | _ => none

theorem are_one {s : St} {x : Leaf} {v : Value} (h : Leaf.Is s x v) : Leaf.Are s [x] [v] := by
  unfold Leaf.Are
  exact ⟨v, [], rfl, h, by unfold Leaf.Are; rfl⟩

theorem are_fields {P : Program} {s : St} {d : Nat} (IH : ∀ {t : TypeId} {cs : List Value} {l : List Leaf}, flat P d t = some l → TyA P s d t cs → Leaf.Are s l cs) :
    ∀ {fs : List Field} {cs : List Value} {l : List Leaf}, flatFs P (flat P d) fs = some l → TyFs P (TyA P s d) fs cs → Leaf.Are s l cs
  | [], cs, l, h, k => by
    simp only [flatFs, Option.some.injEq] at h
    subst h
    unfold Leaf.Are
    exact k
  | f :: r, cs, l, h, k => by
    unfold flatFs at h
    split at h
    · rename_i a b ha hb
      split at h
      · simp only [Option.some.injEq] at h
        subst h
        have := Leaf.Are.append (IH ha k.1) (are_fields IH hb k.2)
        rwa [List.take_append_drop] at this
      · simp at h
    · simp at h

theorem are_elems {P : Program} {s : St} {d : Nat} {e : TypeId} {l : List Leaf} (IH : ∀ {cs : List Value}, TyA P s d e cs → Leaf.Are s l cs) :
    ∀ {n : Nat} {cs : List Value}, TyN (P.cellsOf e) (TyA P s d e) n cs → Leaf.Are s (repL l n) cs
  | 0, cs, k => by unfold repL Leaf.Are; exact k
  | n + 1, cs, k => by
    unfold repL
    have := Leaf.Are.append (IH k.1) (are_elems IH k.2)
    rwa [List.take_append_drop] at this

theorem TyA.are {P : Program} {s : St} : ∀ {d : Nat} {t : TypeId} {cs : List Value} {l : List Leaf}, flat P d t = some l → TyA P s d t cs → Leaf.Are s l cs
  | 0, _, _, _, h, _ => by simp [flat] at h
  | d + 1, t, cs, l, h, k => by
    unfold flat at h
    unfold TyA at k
    split at h
    · rename_i hu
      simp only [hu] at k
      obtain ⟨b, rfl⟩ := k
      cases h
      exact are_one (by unfold Leaf.Is; exact ⟨b, rfl⟩)
    · rename_i kk hu
      simp only [hu] at k
      obtain ⟨n, rfl, hw⟩ := k
      cases h
      exact are_one (by unfold Leaf.Is; exact ⟨n, rfl, hw⟩)
    · rename_i hu
      simp only [hu] at k
      obtain ⟨n, rfl, hw⟩ := k
      cases h
      exact are_one (by unfold Leaf.Is; exact ⟨n, rfl, hw⟩)
    · rename_i e hu
      simp only [hu] at k
      split at h
      · rename_i le hle
        split at h
        · rename_i hlen
          cases h
          rcases k with rfl | ⟨b, len, cap, rows, rfl, h1, h2, h3, h4, h5⟩
          · exact are_one (by unfold Leaf.Is; exact .inl rfl)
          · exact are_one (by unfold Leaf.Is; exact .inr ⟨b, len, cap, rows, rfl, h1, h2, by rw [hlen]; exact h3, h4, fun r hr => TyA.are hle (h5 r hr)⟩)
        · simp at h
      · simp at h
    · rename_i fs hu
      simp only [hu] at k
      exact are_fields (fun h k => TyA.are h k) h k
    · rename_i n e hu
      simp only [hu] at k
      split at h
      · rename_i le hle
        split at h
        · cases h
          exact are_elems (fun k => TyA.are hle k) k
        · simp at h
      · simp at h
    · simp at h

/-- An argument: a row of cells or one alone. -/
def Arg (s : St) : Bool × List Leaf → Value → Prop
  | (true, l), v => ∃ cs, v = .agg ⟨cs⟩ ∧ Leaf.Are s l cs
  | (false, l), v => Leaf.Are s l [v]

def Args (s : St) : List (Bool × List Leaf) → List Value → Prop
  | [], vs => vs = []
  | l :: ls, vs => ∃ u us, vs = u :: us ∧ Arg s l u ∧ Args s ls us

def argL (P : Program) (d : Nat) (t : TypeId) : Option (Bool × List Leaf) :=
  match flat P d t, aggT P t with
  | some l, some a => some (a, l)
  | _, _ => none

def argLs (P : Program) (d : Nat) : List TypeId → Option (List (Bool × List Leaf))
  | [] => some []
  | t :: ts => match argL P d t, argLs P d ts with
    | some l, some ls => some (l :: ls)
    | _, _ => none

theorem TyVs.args {P : Program} {s : St} {d : Nat} : ∀ {ts : List TypeId} {us : List Value} {ls : List (Bool × List Leaf)}, argLs P d ts = some ls → TyVs P s d ts us → Args s ls us
  | [], us, ls, h, k => by
    cases h
    cases us with
    | nil => rfl
    | cons u us => exact k.elim
  | t :: ts, us, ls, h, k => by
    cases us with
    | nil => exact k.elim
    | cons u us =>
      unfold argLs at h
      split at h
      · rename_i l ls' h1 h2
        cases h
        refine ⟨u, us, rfl, ?_, TyVs.args h2 k.2⟩
        have k1 := k.1
        unfold argL aggT at h1
        unfold TyV at k1
        split at h1
        · rename_i l0 a0 hl ha
          cases h1
          split at ha
          · rename_i hu
            cases ha
            simp only [hu] at k1
            obtain ⟨cs, rfl, k2⟩ := k1
            exact ⟨cs, rfl, TyA.are hl k2⟩
          · rename_i hu
            cases ha
            simp only [hu] at k1
            obtain ⟨cs, rfl, k2⟩ := k1
            exact ⟨cs, rfl, TyA.are hl k2⟩
          · rename_i n1 n2 hu
            cases ha
            refine TyA.are hl ?_
            split at k1
            · rename_i hx; exact absurd (hu.symm.trans hx |> Option.some.inj) (n1 _)
            · rename_i hx; exact absurd (hu.symm.trans hx |> Option.some.inj) (n2 _ _)
            · exact k1
          · simp at ha
        · simp at h1
      · simp at h
end Go.Sim
