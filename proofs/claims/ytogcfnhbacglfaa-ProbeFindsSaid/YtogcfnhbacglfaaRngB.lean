/-
  An iterator: it goes through rounds, and may come to a call of yield, which tells it to stop.
-/
import Derived.Test.YtogcfnhbacglfaaRngA
set_option linter.unusedSimpArgs false
set_option linter.unusedVariables false
namespace Go.Sim
open Go.RowKit (Below)

/-- The iterator's code, ahead of its loop. -/
def itH (S : Sig) (P : Program) (C : Ctx) (an : An) (R0 : Code) (ls : List Nat) (args : List Value) (s : St) : Option (List Value × St) :=
  argsK args 0 fun e => evC S P C an R0 (List Value × St) ⟨e, [], []⟩ s fun e fr s => match e with
    | .normal => match getV fr ls with
      | some ys => some (ys, s)
      | none => none
    | _ => none
/-- A round, up to the guard of yield: 1: the loop is left. -/
def itP (S : Sig) (P : Program) (C : Ctx) (an : An) (R1 X R2 : Code) (ops : Array Oper) (A : List Oper) (i0 : Nat) (ls ms : List Nat) (ys : List Value) (s : St) : Option (Nat × List Value × St) :=
  evC S P C an R1 (Nat × List Value × St) ⟨frV ls ys, [], []⟩ s fun e fr s => match e with
    | .normal => evC S P C an X (Nat × List Value × St) fr s fun e fr s => match e with
      | .normal => evC S P C an R2 (Nat × List Value × St) fr s fun e fr s => match e with
        | .normal => match fr with
          | ⟨e, l, _⟩ => evOps S P C an ops A ⟨e, l, []⟩ s (fun _ _ _ => none) fun fr s => match getV fr ms with
            | some zs => some (0, zs, s)
            | none => none
        | _ => none
      | .exit i => if i = i0 then some (1, [], s) else none
      | _ => none
    | _ => none
/-- The end of a round in which yield is not called. -/
def itQ (S : Sig) (P : Program) (C : Ctx) (an : An) (ops : Array Oper) (b2 : Oper) (Z R4 : Code) (ls ms : List Nat) (t19 : Nat) (zs : List Value) (s : St) : Option (List Value × St) :=
  evOps S P C an ops [b2] ⟨(t19, .val undef) :: frV ms zs, [], []⟩ s (fun _ _ _ => none) fun fr s => evC S P C an Z (List Value × St) fr s fun e fr s => match e with
    | .normal => evC S P C an R4 (List Value × St) fr s fun e fr s => match e with
      | .normal => match getV fr ls with
        | some ys => some (ys, s)
        | none => none
      | _ => none
    | _ => none
/-- The end of a round in which yield has told it to stop. -/
def itT (S : Sig) (P : Program) (C : Ctx) (an : An) (ops : Array Oper) (b1 b2 : Oper) (Z : Code) (t15 t18 : Nat) (s : St) : Option St :=
  evOps S P C an ops [b1, b2] ⟨[(t18, .val (.bool false)), (t15, .val (.bool true))], [], []⟩ s (fun _ _ _ => none) fun fr s => evC S P C an Z St fr s fun e _ s => match e with
    | .ret => some s
    | _ => none

/-- The whole: what a round makes of the loop's values. -/
def itF (p : List Value → St → Option (Nat × List Value × St)) (q : List Value → St → Option (List Value × St)) (k15 : Nat) (rec : List Value → St → Option (Nat × St)) (ys : List Value) (s : St) : Option (Nat × St) :=
  (p ys s).bind fun r => match r.1 with
    | 1 => some (1, r.2.2)
    | _ => match r.2.1[k15]? with
      | some (.bool true) => some (2, r.2.2)
      | some (.bool false) => (q r.2.1 r.2.2).bind fun x => rec x.1 x.2
      | _ => none

section
variable {P : Program} {C : Ctx} {an : An} {φ0 φ φ' : Phi} {ψ : Nat → Option Nat} {s0 s s' : St} {w0 w w' : World} {fr fr' : Fr} {a g : Act} {ops : Array Oper}

theorem frV_get : ∀ {ts : List Nat} {ys : List Value} {t k : Nat} {v : Value}, ts[k]? = some t → (∀ j, j < k → ts[j]? ≠ some t) → ys[k]? = some v → lookE (frV ts ys) t = some (.val v)
  | [], ys, t, k, v, h, _, _ => by simp at h
  | t0 :: ts, [], t, k, v, h, _, hy => by simp at hy
  | t0 :: ts, y :: ys, t, 0, v, h, _, hy => by
    simp only [List.getElem?_cons_zero, Option.some.injEq] at h hy
    subst h hy
    simp [frV, lookE]
  | t0 :: ts, y :: ys, t, k + 1, v, h, hn, hy => by
    have h0 : t ≠ t0 := by
      intro e
      exact hn 0 (by omega) (by simp [e])
    simp only [frV, lookE, if_neg h0]
    exact frV_get (by simpa using h) (fun j hj => by have := hn (j + 1) (by omega); simpa using this) (by simpa using hy)
theorem lookE_frV : ∀ {ts : List Nat} {ys : List Value} {t : Nat}, t ∉ ts → lookE (frV ts ys) t = none
  | [], ys, t, h => by simp [frV, lookE]
  | t0 :: ts, [], t, h => by simp [frV, lookE]
  | t0 :: ts, y :: ys, t, h => by
    simp only [List.mem_cons, not_or] at h
    simp only [frV, lookE, if_neg h.1]
    exact lookE_frV h.2
theorem yld_at {tmps : Array Value} {ops : Array Oper} {g0 t15 : Nat} {b : Bool} (hg : (ops[g0]?).bind (·.dst) = some t15) (ht : t15 < tmps.size) (hb : tmps.getD t15 undef = .bool b) : yielded ops tmps g0 = some b := by
  unfold yielded
  rw [hg]
  have : tmps[t15]? = some (.bool b) := by
    rw [Array.getElem?_eq_getElem ht]
    rw [Array.getD_eq_getD_getElem?, Array.getElem?_eq_getElem ht] at hb
    exact congrArg some hb
  simp only [Option.bind_some, this]

theorem falls_none {Q : Exit → Act → World → Prop} {R : Type} {r : R} : Falls an φ0 s0 w0 (fun _ _ _ => (none : Option R)) r Q := fun _ _ _ _ _ _ _ _ _ _ h => by cases h

/-- A piece of code, from here. -/
theorem code_here {R : Type} {r : R} {K : Ex → Fr → St → Option R} {e : List (Nat × Ent)} {Q : Exit → Act → World → Prop} (hC : CtxOk P C) (hm : P.follows .mixedOrders = true) (c : Code) (hd : drawsOk an c = true) (h : Here an φ s w e a) (he : evC std P C an c R ⟨e, [], []⟩ s K = some r)
    (hp : ∀ x fr s, K (.pan x) fr s = none)
    (hK : ∀ e φ' ψ' s' fr' a' w', e.pans = false → InvA an φ s w φ' ψ' s' fr' a' w' → K e fr' s' = some r → Q (exOf e) a' w') : c.wp P Q a w :=
  evC_sound hC hm c hd h he (fun φ' ψ' s' fr' a' w' x u _ _ hk => by have hk : K (.pan x) _ _ = some r := hk; rw [hp] at hk; cases hk) hK

/-- The code of an iterator. -/
structure ItC where
  R0 : Code
  R1 : Code
  X : Code
  R2 : Code
  Z : Code
  R4 : Code
  i0 : Nat
  i1 : Nat
  r3 : Nat
  ops : Array Oper
  A : List Oper
  m1 : Oper
  m2 : Oper
  y : Oper
  b1 : Oper
  b2 : Oper
def ItC.body (c : ItC) : Code := .seq c.R1 (.seq c.X (.seq (.block c.i1 (.seq c.R2 (.seq (.region c.r3 c.ops false) c.Z))) c.R4))
def ItC.all (c : ItC) : Code := .seq c.R0 (.block c.i0 (.loop c.body))
/-- Its temporaries: yield, its argument, the guard, .. -/
structure ItT (c : ItC) (an : An) (ls ms : List Nat) (k15 : Nat) where
  t0 : Nat
  t3 : Nat
  t15 : Nat
  t16 : Nat
  t17 : Nat
  t18 : Nat
  t19 : Nat
  g0 : Nat
  l0 : ls[0]? = some t0
  n0 : ms[0]? = some t0
  n3 : ∃ k : Nat, ms[k]? = some t3 ∧ (∀ j : Nat, j < k → ms[j]? ≠ some t3)
  n15 : ms[k15]? = some t15
  f15 : ∀ j : Nat, j < k15 → ms[j]? ≠ some t15
  g : (c.ops[g0]?).bind (·.dst) = some t15
  m16 : t16 ∉ ms
  m17 : t17 ∉ ms
  m18 : t18 ∉ ms
  m19 : t19 ∉ ms
  lt : t15 < an.N ∧ t16 < an.N ∧ t17 < an.N ∧ t18 < an.N ∧ t19 < an.N
  ne : t16 ≠ t3 ∧ t16 ≠ t17 ∧ t16 ≠ t15 ∧ t17 ≠ t15 ∧ t18 ≠ t15
  hm1 : ∃ ty pos af, c.m1 = ⟨some t16, .move (.tmp t0), ty, pos, af, some (g0, true)⟩
  hm2 : ∃ ty pos af, c.m2 = ⟨some t17, .move (.tmp t3), ty, pos, af, some (g0, true)⟩
  hy : ∃ aty ty pos af, c.y = ⟨some t18, .call ⟨.value (.tmp t16), #[.tmp t17], aty⟩, ty, pos, af, some (g0, true)⟩
  hb1 : ∃ op ty pos af, c.b1 = ⟨some t19, op, ty, pos, af, some (g0, true)⟩
  all : c.ops.toList = c.A ++ [c.m1, c.m2, c.y, c.b1, c.b2]

theorem not_wanted {o : Oper} {ops : Array Oper} {tmps : Array Value} {g0 : Nat} (h : yielded ops tmps g0 = some false) (hg : o.guard = some (g0, true)) : ¬ (Region.wanted o (yielded ops tmps) = true) := by
  unfold Region.wanted
  rw [hg]
  simp [h]
theorem is_wanted {o : Oper} {ops : Array Oper} {tmps : Array Value} {g0 : Nat} (h : yielded ops tmps g0 = some true) (hg : o.guard = some (g0, true)) : Region.wanted o (yielded ops tmps) = true := by
  unfold Region.wanted
  rw [hg]
  simp [h]
end
end Go.Sim
