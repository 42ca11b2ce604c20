/-
  A function that ranges over a function of its own, and leaves by the first round.
-/
import Derived.Test.YtogcfnhbacglfaaRngC
set_option linter.unusedSimpArgs false
set_option linter.unusedVariables false
namespace Go.Sim
open Go.RowKit (Below)

/-- The code of the function: what is ahead of the loop (three pieces), the loop, what is behind it. -/
structure RnC where
  H1 : Code
  H2 : Code
  H3 : Code
  j0 : Nat
  t : Nat
  p : Nat
  j1 : Nat
  r4 : Nat
  st : Array Oper
  E : Code
def RnC.all (c : RnC) : Code := .seq c.H1 (.seq c.H2 (.seq (.seq c.H3 (.block c.j0 (.rangeFunc (.tmp c.t) #[c.p] .skip (.block c.j1 (.seq (.region c.r4 c.st false) .ret))))) c.E))

def cA : Code → Code
  | .seq a _ => a
  | _ => .skip
def cB : Code → Code
  | .seq _ b => b
  | _ => .skip
def cBk : Code → Code
  | .block _ a => a
  | _ => .skip
def cId : Code → Nat
  | .block i _ => i
  | .region i _ _ => i
  | _ => 0
def cLp : Code → Code
  | .loop a => a
  | _ => .skip
def cOps : Code → Array Oper
  | .region _ o _ => o
  | _ => #[]
def cRn : Code → Operand × Array Tmp × Code
  | .rangeFunc f ps _ b => (f, ps, b)
  | _ => (.const undef, #[], .skip)
def tmpOf : Operand → Nat
  | .tmp t => t
  | _ => 0
def bodyOf (f : Func) : Code := match f.body with
  | some c => c
  | none => .skip
def rnOf (f : Func) : RnC :=
  let c := bodyOf f
  let m := cA (cB (cB c))
  let r := cRn (cBk (cB m))
  let b := cBk r.2.2
  ⟨cA c, cA (cB c), cA m, cId (cB m), tmpOf r.1, (r.2.1.toList).headD 0, cId r.2.2, cId (cA b), cOps (cA b), cB (cB (cB c))⟩
def opNo : Oper := ⟨none, .move (.const undef), 0, "", #[], none⟩
def itOf (f : Func) (n : Nat) : ItC :=
  let c := bodyOf f
  let l := cLp (cBk (cB c))
  let b := cBk (cA (cB (cB l)))
  let r := cA (cB b)
  let o := (cOps r).toList
  ⟨cA c, cA l, cA (cB l), cA b, cB (cB b), cB (cB (cB l)), cId (cB c), cId (cA (cB (cB l))), cId r, cOps r, o.take n, o.getD n opNo, o.getD (n + 1) opNo, o.getD (n + 2) opNo, o.getD (n + 3) opNo, o.getD (n + 4) opNo⟩
theorem std_bdR {α β : Type} {m : Option α} {f : α → Option β} : std.bd m f = m.bind f := id rfl
theorem std_cndR {R : Type} {v : Value} {x y : Option R} : std.cnd v x y = cnd v x y := id rfl
theorem cnd_map {α β : Type} {f : α → β} {v : Value} {x y : Option α} : (cnd v x y).map f = cnd v (x.map f) (y.map f) := by
  unfold cnd
  split <;> rfl
theorem one_ne_zeroR : ((1 : Nat) = 0) = False := by simp
theorem zero_ne_oneR : ((0 : Nat) = 1) = False := by simp
def isDefer : Op → Bool
  | .defer _ => true
  | _ => false
theorem st_plain {l : List Oper} (h : (l.all fun o => !isDefer o.op) = true) : ∀ o ∈ l, ∀ x, o.op ≠ .defer x := by
  intro o ho x hx
  have := List.all_eq_true.1 h o ho
  rw [hx] at this
  cases this

/-- What the function answers when the loop has come to its end. -/
def rnE (S : Sig) (P : Program) (C : Ctx) (an : An) (E : Code) (rs : List ResultVar) (ts zs : List Nat) (ys : List Value) (s : St) : Option (Value × St) :=
  evC S P C an E (Value × St) ⟨frV ts ys, [], []⟩ s fun e fr s => match e with
    | .ret => match getV fr zs with
      | some q => resK S P ⟨frV zs q, [], []⟩ s rs fun l => some (oneV l, s)
      | none => none
    | _ => none
/-- What it answers from within the first round. -/
def rnS (S : Sig) (P : Program) (C : Ctx) (an : An) (st : Array Oper) (rs : List ResultVar) (ts : List Nat) (ys : List Value) (s : St) : Option (Value × St) :=
  evOps S P C an st st.toList ⟨frV ts ys, [], []⟩ s (fun _ _ _ => none) fun _ s => resK S P ⟨frV ts ys, [], []⟩ s rs fun l => some (oneV l, s)

/-- The whole. -/
def rnW (h : List Value → St → Option (Bool × List Value × St)) (kf g : Nat) (hu : List Value → St → Option (List Value × St)) (pu : List Value → St → Option (Nat × List Value × St)) (qu : List Value → St → Option (List Value × St)) (k : Nat)
    (e st : List Value → St → Option (Value × St)) (args : List Value) (s : St) : Option (Value × St) :=
  (h args s).bind fun r => match r with
    | (false, l, s1) => some (oneV l, s1)
    | (true, ys, s1) => match ys[kf]? with
      | some (.func (.func f) ⟨[]⟩ ⟨cs⟩) => if f = g then (hu cs s1).bind fun x => (iter (itF pu qu k) BIG x.1 x.2).bind fun y => match y.1 with
          | 1 => e ys y.2
          | 2 => st ys y.2
          | _ => none
        else none
      | _ => none

section
variable {P : Program} {C : Ctx} {an : An} {φ0 φ φ' φb : Phi} {ψ : Nat → Option Nat} {s0 s s' sb : St} {w0 w w' wb : World} {fr fr' : Fr} {a g : Act} {ops : Array Oper}

/-- Yield itself is handed on through the rounds. -/
theorem itF_par {p pu : List Value → St → Option (Nat × List Value × St)} {q qu : List Value → St → Option (List Value × St)} {k : Nat} {x0 : Value}
    (hp : ∀ r s, p (x0 :: r) s = (pu r s).map fun y => (y.1, (if y.1 = 1 then [] else x0 :: y.2.1), y.2.2)) (hq : ∀ r s, q (x0 :: r) s = (qu r s).map fun y => (x0 :: y.1, y.2)) :
    ∀ (n : Nat) (r : List Value) (s : St), iter (itF p q (k + 1)) n (x0 :: r) s = iter (itF pu qu k) n r s
  | 0, r, s => rfl
  | n + 1, r, s => by
    rw [iter_succ, iter_succ]
    unfold itF
    rw [hp]
    cases pu r s with
    | none => rfl
    | some y =>
      obtain ⟨y1, y2, y3⟩ := y
      simp only [Option.map_some, Option.bind_some]
      by_cases h1 : y1 = 1
      · subst h1; rfl
      · rw [if_neg h1]
        simp only [List.getElem?_cons_succ]
        split
        · rfl
        · rw [hq]
          cases qu y2 y3 with
          | none => rfl
          | some z => exact itF_par hp hq n z.1 z.2
        · rfl

/-- In a round, too: a region's operations. -/
theorem list_round {n l : Nat} {Q Q' : Exit → Act → World → Prop} (hQ : ∀ e a w, Q' e a w → e = .normal) : ∀ (A : List Oper) {a : Act} {w : World}, (∀ o ∈ A, ∀ c, o.op ≠ .defer c) → wpList P ops Q' A a w → (∀ a w, Q' .normal a w → Q .normal a w) → wpListIn (Fence.wide.inRound l) n P ops Q A a w
  | [], a, w, _, h, k => k a w h
  | o :: A, a, w, hd, h, k => by
    have ih := fun {a w} h => list_round (n := n) (l := l) (Q := Q) hQ A (a := a) (w := w) (fun o ho => hd o (by simp [ho])) h k
    have hno : ¬ LetsOut Q' := fun ⟨a, w, h⟩ => by cases hQ _ _ _ h
    unfold wpList at h
    unfold wpListIn
    split
    · rename_i hw
      rw [if_pos hw] at h
      have h := h.resolve_right fun e => hno e.2
      refine ⟨fun _ _ => trivial, ?_⟩
      rw [Oper.semAt_eq _ _ _ (hd o (by simp))]
      unfold Oper.wp at h
      generalize (execOp a.eval o).run P w = r at h ⊢
      cases r with
      | ok x w' =>
        cases x <;> simp only [Oper.upon] at h <;> first
          | exact ih h
          | exact h.elim
          | (refine ⟨fun h => by simp [Fence.wide, Fence.inRound] at h, ?_⟩
             refine callsIn_wide.2 (Calls.mono h fun e w'' he => ?_)
             cases e with
             | returned v => exact ih he
             | panicked c => cases hQ _ _ _ he
             | outgrown => exact (hno he).elim)
          | exact ⟨fun h => by simp [Fence.wide, Fence.inRound] at h, rows_in (n := n - 1) (Rows.mono h fun v w'' he => ih he)⟩
      | halt x w' =>
        cases x <;> simp only [Oper.upon] at h <;> first
          | exact h.elim
          | cases hQ _ _ _ h
    · rename_i hw
      rw [if_neg hw] at h
      exact ⟨fun _ _ => trivial, ih h⟩
end
end Go.Sim
