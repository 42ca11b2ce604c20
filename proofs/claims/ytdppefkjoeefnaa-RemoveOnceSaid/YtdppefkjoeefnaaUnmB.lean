/-
  The machine of package unsplice and the reference's: what each step makes of it.
-/
import Derived.Test.YtdppefkjoeefnaaUnsA
import Derived.Test.YtdppefkjoeefnaaMachA
import Derived.Test.YtdppefkjoeefnaaGW1
set_option linter.unusedSimpArgs false
set_option linter.unusedVariables false
set_option maxRecDepth 100000
namespace Go.Proofs.Ytdppefkjoeefnaa.Un
open Go.Sim
attribute [local congr] bdc cndc itec gdc gdSc gdUc

structure Cf where
  wl : Int
  wb : Int
  me : Rf
  oa : Int
  oo : Int
structure Mm where
  at' : Int
  th : Int
  p : Rf
  q : Rf
  e : Int
abbrev Cf.cs (c : Cf) : List Value := [.int .i64 c.wl, .int .u64 c.wb, .int .i64 c.me.id, .int .i64 c.me.rk, .int .u64 c.me.n, .int .i64 c.me.ln, .int .u64 c.me.bt, .int .i64 c.oa, .int .i64 c.oo]
/-- The program's row. -/
abbrev urow (c : Cf) (m : Mm) : List Value :=
  [.int .i64 c.wl, .int .u64 c.wb, .int .i64 c.me.id, .int .i64 c.me.rk, .int .u64 c.me.n, .int .i64 c.me.ln, .int .u64 c.me.bt, .int .i64 c.oa, .int .i64 c.oo, .int .i64 m.at', .int .i64 m.th,
   .int .i64 m.p.id, .int .i64 m.p.rk, .int .u64 m.p.n, .int .i64 m.p.ln, .int .u64 m.p.bt, .int .i64 m.q.id, .int .i64 m.q.rk, .int .u64 m.q.n, .int .i64 m.q.ln, .int .u64 m.q.bt, .int .i64 m.e]
/-- The reference's row. -/
abbrev rrow (c : Cf) (m : Mm) : List Value :=
  [.int .i64 c.wl, .int .u64 c.wb, .int .i64 c.me.id, .int .i64 c.me.rk, .int .u64 c.me.n, .int .i64 c.me.ln, .int .u64 c.me.bt, .int .i64 c.oa, .int .i64 c.oo, .int .i64 m.at',
   .int .i64 m.p.id, .int .i64 m.p.rk, .int .u64 m.p.n, .int .i64 m.p.ln, .int .u64 m.p.bt, .int .i64 m.q.id, .int .i64 m.q.rk, .int .u64 m.q.n, .int .i64 m.q.ln, .int .u64 m.q.bt, .int .i64 m.th, .int .i64 m.e]

def lessR (a b : Rf) : Prop := lessK a.rk a.n b.rk b.n
instance (a b : Rf) : Decidable (lessR a b) := by unfold lessR; infer_instance
def eqR (a b : Rf) : Bool := decide (a.id = b.id) && (decide (a.rk = b.rk) && (decide (a.n = b.n) && (decide (a.ln = b.ln) && decide (a.bt = b.bt))))

/-- The step that a machine wants. -/
def askC (c : Cf) (k : Int) (t r : Rf) (o : Bool) : List Value := stepC 1 t ⟨k, c.wl, c.wb, r, zR, if o then c.oa else 0, if o then c.oo else 0⟩ zRes
def nextC (c : Cf) (m : Mm) : List Value :=
  if m.at' = 1 then askC c 1 c.me zR false
  else if m.at' = 2 then askC c 3 m.p zR true
  else if m.at' = 3 then askC c 3 c.me zR true
  else if m.at' = 4 then askC c 5 m.p m.q true
  else if m.at' = 5 then askC c 6 m.q m.p false
  else if m.at' = 6 then askC c 8 c.me zR true
  else if m.at' = 7 then askC c 4 c.me zR true
  else if m.at' = 8 then askC c 4 m.p zR true
  else if m.at' = 9 then stepC 2 zR zAsk zRes
  else stepC 3 zR zAsk ⟨m.e, 0, zR, zR, false⟩
def frees (m : Mm) (th e : Int) : Mm := { m with at' := 8, th := th, e := e }
/-- What an answer makes of it. -/
def tellC (c : Cf) (m : Mm) (a : Ans) : Mm :=
  if m.at' = 1 then
    if a.k = 1 then (if lessR a.l c.me then { m with at' := 2, p := a.l } else { m with at' := 9 })
    else if a.k = 2 then { m with at' := 10, e := 0 } else if a.k = 3 then { m with at' := 10, e := 132 } else { m with at' := 9 }
  else if m.at' = 2 then
    if a.k = 1 then (if eqR a.r c.me = true then { m with at' := 3 } else frees m 9 0) else { m with at' := 9 }
  else if m.at' = 3 then
    if a.k = 1 then (if lessR c.me a.r then { m with at' := 4, q := a.r } else { m with at' := 7, q := a.r })
    else if a.k = 2 then frees m 10 0 else if a.k = 3 then frees m 10 132 else frees m 9 0
  else if m.at' = 4 then
    if a.k = 1 ∨ (a.k = 3 ∧ eqR a.r m.q = true) then { m with at' := 5 } else { m with at' := 7 }
  else if m.at' = 5 then { m with at' := 6 }
  else if m.at' = 6 then (if a.k = 3 then frees m 10 132 else frees m 10 0)
  else if m.at' = 7 then frees m 9 0
  else if m.at' = 8 then { m with at' := m.th }
  else m
/-- .. of the reference's. -/
def tellR (c : Cf) (m : Mm) (a : Ans) : Mm :=
  if m.at' = 1 then
    if a.k = 1 ∧ lessR a.l c.me then { m with at' := 2, p := a.l }
    else if a.k = 2 then { m with at' := 10 } else if a.k = 3 then { m with at' := 10, e := 132 } else { m with at' := 9 }
  else if m.at' = 3 then
    if a.k = 1 then (if lessR c.me a.r then { m with at' := 4, q := a.r } else { m with at' := 7 })
    else if a.k = 2 then frees m 10 0 else if a.k = 3 then frees m 10 132 else frees m 9 0
  else tellC c m a
def wakeC (m : Mm) : Mm := if m.at' = 9 then { m with at' := 1 } else m

abbrev P (b : Nat) : Value := .pointer (some ⟨b, 0, some 0⟩)
abbrev Row (s : St) (b : Nat) (cs : List Value) : Prop := s.get b = some (.row 22 [cs] false)

theorem is_r {s : St} {b : Nat} {c : Cf} {m : Mm} (h : Row s b (urow c m)) (hp : 0 < m.at') : unsplice_Unsplice_is.r (P b) s = some (.bool true) := by
  simp only [unsplice_Unsplice_is.r, unsplice_Unsplice_is.t, sy, reduceIte, Nat.reduceAdd, Nat.reduceLeDiff, Nat.reduceLT, Nat.reduceEqDiff, Int.reduceEq, Int.reduceLT, Int.reduceLE, Int.reduceNe, ly, ldc_row h, hp]
theorem asks_r {s : St} {b : Nat} {c : Cf} {m : Mm} (h : Row s b (urow c m)) (k : Int) (t r : Rf) (hk : k = 1 ∨ k = 3 ∨ k = 4 ∨ k = 5 ∨ k = 6 ∨ k = 8) :
    unsplice_Unsplice_asks.r (P b) (.int .i64 k) (.agg ⟨t.cs⟩) (.agg ⟨r.cs⟩) s = some (.agg ⟨askC c k t r (k ≠ 1 ∧ k ≠ 6)⟩) := by
  rcases hk with rfl | rfl | rfl | rfl | rfl | rfl <;> simp only [unsplice_Unsplice_asks.r, unsplice_Unsplice_asks.t, unsplice_Unsplice_asks.t.p1, sy, reduceIte, Nat.reduceAdd, Nat.reduceLeDiff, Nat.reduceLT, Nat.reduceEqDiff, Int.reduceEq, Int.reduceLT, Int.reduceLE, Int.reduceNe, ly, lda_row h, askC, stepC]
theorem rask_r {s : St} {b : Nat} {c : Cf} {m : Mm} (h : Row s b (rrow c m)) (k : Int) (t r : Rf) (hk : k = 1 ∨ k = 3 ∨ k = 4 ∨ k = 5 ∨ k = 6 ∨ k = 8) :
    leapfrogref14x_Unsplice_ask.r (P b) (.int .i64 k) (.agg ⟨t.cs⟩) (.agg ⟨r.cs⟩) s = some (.agg ⟨askC c k t r (k ≠ 1 ∧ k ≠ 6)⟩) := by
  rcases hk with rfl | rfl | rfl | rfl | rfl | rfl <;> simp only [leapfrogref14x_Unsplice_ask.r, leapfrogref14x_Unsplice_ask.t, leapfrogref14x_Unsplice_ask.t.p1, sy, reduceIte, Nat.reduceAdd, Nat.reduceLeDiff, Nat.reduceLT, Nat.reduceEqDiff, Int.reduceEq, Int.reduceLT, Int.reduceLE, Int.reduceNe, ly, lda_row h, askC, stepC]
end Go.Proofs.Ytdppefkjoeefnaa.Un
