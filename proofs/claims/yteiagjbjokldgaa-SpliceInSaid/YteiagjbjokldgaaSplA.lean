/-
  The machine of package splice, in plain Lean: what it wants, what an answer makes of it.
-/
import Derived.Test.YteiagjbjokldgaaUnsA
import Derived.Test.YteiagjbjokldgaaMachA
set_option linter.unusedSimpArgs false
set_option linter.unusedVariables false
set_option maxRecDepth 100000
set_option maxHeartbeats 2000000
namespace Go.Proofs.Yteiagjbjokldgaa
open Go.Sim Go.Sim.Bt
attribute [local congr] bdc cndc itec gdc gdSc gdUc

structure Cf where
  wl : Int
  wb : Int
  me : Rf
  fr : Rf
  oa : Int
  oo : Int
inductive Th where
  | no
  | fin (r : Res)
  | wait
  | next
  | ex
structure Mm where
  at' : Int
  p : Rf
  last : Option Rf
  r : Rf
  pd : Bool
  dd : Bool
  th : Th
  res : Res
abbrev Cf.cs (c : Cf) : List Value := [.int .i64 c.wl, .int .u64 c.wb, .int .i64 c.me.id, .int .i64 c.me.rk, .int .u64 c.me.n, .int .i64 c.me.ln, .int .u64 c.me.bt, .int .i64 c.fr.id, .int .i64 c.fr.rk, .int .u64 c.fr.n, .int .i64 c.fr.ln, .int .u64 c.fr.bt, .int .i64 c.oa, .int .i64 c.oo]
abbrev Res.cs (r : Res) : List Value := [.int .i64 r.e, .int .u64 r.key, .slice none 0 0, .slice none 0 0, .int .i64 r.l.id, .int .i64 r.l.rk, .int .u64 r.l.n, .int .i64 r.l.ln, .int .u64 r.l.bt, .int .i64 r.r.id, .int .i64 r.r.rk, .int .u64 r.r.n, .int .i64 r.r.ln, .int .u64 r.r.bt, .bool r.found]
abbrev P (b : Nat) : Value := .pointer (some ⟨b, 0, some 0⟩)
/-- The program's row. -/
abbrev urow (c : Cf) (m : Mm) (lp fv : Value) : List Value :=
  [.int .i64 c.wl, .int .u64 c.wb, .int .i64 c.me.id, .int .i64 c.me.rk, .int .u64 c.me.n, .int .i64 c.me.ln, .int .u64 c.me.bt, .int .i64 c.fr.id, .int .i64 c.fr.rk, .int .u64 c.fr.n, .int .i64 c.fr.ln, .int .u64 c.fr.bt, .int .i64 c.oa, .int .i64 c.oo, .int .i64 m.at', .int .i64 m.p.id, .int .i64 m.p.rk, .int .u64 m.p.n, .int .i64 m.p.ln, .int .u64 m.p.bt, lp, .int .i64 m.r.id, .int .i64 m.r.rk, .int .u64 m.r.n, .int .i64 m.r.ln, .int .u64 m.r.bt, .bool m.pd, .bool m.dd, fv,
   .int .i64 m.res.e, .int .u64 m.res.key, .slice none 0 0, .slice none 0 0, .int .i64 m.res.l.id, .int .i64 m.res.l.rk, .int .u64 m.res.l.n, .int .i64 m.res.l.ln, .int .u64 m.res.l.bt, .int .i64 m.res.r.id, .int .i64 m.res.r.rk, .int .u64 m.res.r.n, .int .i64 m.res.r.ln, .int .u64 m.res.r.bt, .bool m.res.found]
abbrev Row (s : St) (b : Nat) (cs : List Value) : Prop := s.get b = some (.row 44 [cs] false)

def lessR (a b : Rf) : Prop := lessK a.rk a.n b.rk b.n
instance (a b : Rf) : Decidable (lessR a b) := by unfold lessR; infer_instance
theorem lessR_def (x y : Rf) : lessR x y = lessK x.rk x.n y.rk y.n := rfl
def sameK (a b : Rf) : Prop := a.rk = b.rk ∧ a.n = b.n
instance (a b : Rf) : Decidable (sameK a b) := by unfold sameK; infer_instance

def askC (c : Cf) (k : Int) (t r r2 : Rf) (o : Bool) : List Value := stepC 1 t ⟨k, c.wl, c.wb, r, r2, if o then c.oa else 0, if o then c.oo else 0⟩ zRes
def nextC (c : Cf) (m : Mm) : List Value :=
  if m.at' = 1 then askC c 3 m.p zR zR true
  else if m.at' = 2 then askC c 1 m.r zR zR false
  else if m.at' = 3 then askC c 7 c.me m.p m.r true
  else if m.at' = 4 then askC c 5 m.p c.me zR true
  else if m.at' = 5 then askC c 6 m.r c.me zR false
  else if m.at' = 6 then askC c 4 c.me zR zR true
  else if m.at' = 7 then askC c 8 c.me zR zR true
  else if m.at' = 8 then askC c 4 m.p zR zR true
  else if m.at' = 9 then stepC 2 zR zAsk zRes
  else stepC 3 zR zAsk m.res
def finR (e : Int) : Res := ⟨e, 0, zR, zR, false⟩
def runC (m : Mm) : Th → Mm
  | .no => m
  | .fin r => { m with at' := 10, res := r }
  | .wait => { m with at' := 9 }
  | .next => { m with last := some m.p, p := m.r, at' := 1 }
  | .ex => { m with at' := 10, res := ⟨100, 0, m.p, m.r, false⟩ }
def freeC (m : Mm) (t : Th) : Mm := if m.pd = true then runC m t else { m with at' := 8, th := t }
def lookC (c : Cf) (m : Mm) : Mm :=
  if ¬ lessR m.p m.r then freeC m (.fin (finR 131))
  else if lessR m.r c.me then freeC m .next
  else if ¬ sameK m.r c.me then { m with at' := 3 }
  else if 0 < c.wl then freeC m .wait
  else { m with at' := 2 }
/-- What an answer makes of it. -/
def tellC (c : Cf) (m : Mm) (a : Ans) : Mm :=
  if m.at' = 1 then
    if a.k = 1 then lookC c { m with r := a.r }
    else if a.k = 2 ∨ a.k = 3 then
      match m.last with
      | none => { m with at' := 10, res := finR 131 }
      | some q => { m with p := q, last := none, at' := 9 }
    else { m with at' := 9 }
  else if m.at' = 2 then (if a.k = 1 ∧ a.f = false then freeC m .ex else freeC m .wait)
  else if m.at' = 3 then (if a.k = 1 then { m with at' := 4 } else if a.k = 3 then freeC m (.fin (finR 132)) else freeC m (.fin (finR 133)))
  else if m.at' = 4 then
    if a.k = 1 ∨ (a.k = 3 ∧ a.r.id = c.me.id) then { m with at' := 5, pd := decide (a.k = 3) } else { m with at' := 7, pd := decide (a.k = 3) }
  else if m.at' = 5 then { m with at' := 6 }
  else if m.at' = 6 then
    (if a.k = 3 then freeC { m with dd := true } (.fin (finR 132)) else freeC { m with dd := false } (.fin ⟨0, 0, m.p, m.r, false⟩))
  else if m.at' = 7 then (if a.k = 3 then freeC m (.fin (finR 132)) else freeC m (.fin (finR 131)))
  else if m.at' = 8 then runC m m.th
  else m
def wakeC (m : Mm) : Mm := if m.at' = 9 then { m with at' := 1 } else m

/-! ### Plain law -/

def InvM (m : Mm) : Prop := 1 ≤ m.at' ∧ m.at' ≤ 10 ∧ (m.pd = true → 5 ≤ m.at' ∧ m.at' ≠ 8 ∧ m.at' ≠ 9) ∧ (m.at' = 8 → m.th ≠ .no)
theorem inv_wake {m : Mm} (h : InvM m) : InvM (wakeC m) := by
  obtain ⟨h1, h2, h3, h4⟩ := h
  unfold wakeC InvM
  split
  · refine ⟨by simp, by simp, ?_, by simp⟩
    intro hp
    have := h3 hp
    omega
  · exact ⟨h1, h2, h3, h4⟩
theorem inv_tell {c : Cf} {m : Mm} (h : InvM m) (a : Ans) : InvM (tellC c m a) := by
  obtain ⟨h1, h2, h3, h4⟩ := h
  have hp : m.at' = 1 ∨ m.at' = 2 ∨ m.at' = 3 ∨ m.at' = 4 ∨ m.at' = 5 ∨ m.at' = 6 ∨ m.at' = 7 ∨ m.at' = 8 ∨ m.at' = 9 ∨ m.at' = 10 := by omega
  have hd : m.at' ≤ 4 ∨ m.at' = 8 ∨ m.at' = 9 → m.pd = false := by
    intro g
    cases hb : m.pd
    · rfl
    · have := h3 hb; omega
  rcases hp with hp | hp | hp | hp | hp | hp | hp | hp | hp | hp
  · have hd := hd (by omega)
    simp only [tellC, hp, sy, reduceIte, Nat.reduceAdd, Nat.reduceLeDiff, Nat.reduceLT, Nat.reduceEqDiff, Int.reduceEq, Int.reduceLT, Int.reduceLE, Int.reduceNe, lookC, freeC, hd]
    repeat' split
    all_goals (unfold InvM; simp_all)
  · have hd := hd (by omega)
    simp only [tellC, hp, sy, reduceIte, Nat.reduceAdd, Nat.reduceLeDiff, Nat.reduceLT, Nat.reduceEqDiff, Int.reduceEq, Int.reduceLT, Int.reduceLE, Int.reduceNe, lookC, freeC, hd]
    repeat' split
    all_goals (unfold InvM; simp_all)
  · have hd := hd (by omega)
    simp only [tellC, hp, sy, reduceIte, Nat.reduceAdd, Nat.reduceLeDiff, Nat.reduceLT, Nat.reduceEqDiff, Int.reduceEq, Int.reduceLT, Int.reduceLE, Int.reduceNe, lookC, freeC, hd]
    repeat' split
    all_goals (unfold InvM; simp_all)
  · simp only [tellC, hp, sy, reduceIte, Nat.reduceAdd, Nat.reduceLeDiff, Nat.reduceLT, Nat.reduceEqDiff, Int.reduceEq, Int.reduceLT, Int.reduceLE, Int.reduceNe]
    split
    all_goals (unfold InvM; simp_all)
  · simp only [tellC, hp, sy, reduceIte, Nat.reduceAdd, Nat.reduceLeDiff, Nat.reduceLT, Nat.reduceEqDiff, Int.reduceEq, Int.reduceLT, Int.reduceLE, Int.reduceNe]
    unfold InvM; simp_all
  · simp only [tellC, hp, sy, reduceIte, Nat.reduceAdd, Nat.reduceLeDiff, Nat.reduceLT, Nat.reduceEqDiff, Int.reduceEq, Int.reduceLT, Int.reduceLE, Int.reduceNe, freeC]
    repeat' split
    all_goals (unfold InvM; simp_all [runC])
  · simp only [tellC, hp, sy, reduceIte, Nat.reduceAdd, Nat.reduceLeDiff, Nat.reduceLT, Nat.reduceEqDiff, Int.reduceEq, Int.reduceLT, Int.reduceLE, Int.reduceNe, freeC]
    repeat' split
    all_goals (unfold InvM; simp_all [runC])
  · have hd := hd (by omega)
    have ht := h4 hp
    simp only [tellC, hp, sy, reduceIte, Nat.reduceAdd, Nat.reduceLeDiff, Nat.reduceLT, Nat.reduceEqDiff, Int.reduceEq, Int.reduceLT, Int.reduceLE, Int.reduceNe]
    cases ht' : m.th <;> simp only [runC] <;> first | (exact absurd ht' ht) | (unfold InvM; simp_all)
  · simp only [tellC, hp, sy, reduceIte, Nat.reduceAdd, Nat.reduceLeDiff, Nat.reduceLT, Nat.reduceEqDiff, Int.reduceEq, Int.reduceLT, Int.reduceLE, Int.reduceNe]
    exact ⟨h1, h2, h3, h4⟩
  · simp only [tellC, hp, sy, reduceIte, Nat.reduceAdd, Nat.reduceLeDiff, Nat.reduceLT, Nat.reduceEqDiff, Int.reduceEq, Int.reduceLT, Int.reduceLE, Int.reduceNe]
    exact ⟨h1, h2, h3, h4⟩
end Go.Proofs.Yteiagjbjokldgaa
