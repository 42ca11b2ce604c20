/-
  What all machines share: references, asks, results, steps, answers, as cells; two steps that are one.
-/
import Derived.Test.YteiagjbjokldgaaSymB
import Derived.Test.YteiagjbjokldgaaGW1
set_option linter.unusedSimpArgs false
set_option linter.unusedVariables false
set_option maxRecDepth 100000
namespace Go.Proofs.Yteiagjbjokldgaa
open Go.Sim
attribute [local congr] bdc cndc itec gdc gdSc gdUc

structure Rf where
  id : Int
  rk : Int
  n : Int
  ln : Int
  bt : Int
structure AskP where
  k : Int
  wl : Int
  wb : Int
  r : Rf
  r2 : Rf
  oa : Int
  oo : Int
structure Res where
  e : Int
  key : Int
  l : Rf
  r : Rf
  found : Bool
structure Ans where
  k : Int
  f : Bool
  l : Rf
  r : Rf
  v : Value

abbrev zR : Rf := ⟨0, 0, 0, 0, 0⟩
abbrev zRes : Res := ⟨0, 0, zR, zR, false⟩
abbrev zAsk : AskP := ⟨0, 0, 0, zR, zR, 0, 0⟩

abbrev Rf.cs (r : Rf) : List Value := [.int .i64 r.id, .int .i64 r.rk, .int .u64 r.n, .int .i64 r.ln, .int .u64 r.bt]
/-- A step's cells. -/
abbrev stepC (k : Int) (t : Rf) (a : AskP) (r : Res) : List Value :=
  [.int .i64 k, .int .i64 t.id, .int .i64 t.rk, .int .u64 t.n, .int .i64 t.ln, .int .u64 t.bt,
   .int .i64 a.k, .int .i64 a.wl, .int .u64 a.wb, .int .i64 a.r.id, .int .i64 a.r.rk, .int .u64 a.r.n, .int .i64 a.r.ln, .int .u64 a.r.bt, .int .i64 a.r2.id, .int .i64 a.r2.rk, .int .u64 a.r2.n, .int .i64 a.r2.ln, .int .u64 a.r2.bt, .int .i64 a.oa, .int .i64 a.oo,
   .int .i64 r.e, .int .u64 r.key, .slice none 0 0, .slice none 0 0, .int .i64 r.l.id, .int .i64 r.l.rk, .int .u64 r.l.n, .int .i64 r.l.ln, .int .u64 r.l.bt, .int .i64 r.r.id, .int .i64 r.r.rk, .int .u64 r.r.n, .int .i64 r.r.ln, .int .u64 r.r.bt, .bool r.found]
/-- An answer's. -/
abbrev Ans.cs (a : Ans) : List Value :=
  [.int .i64 a.k, .bool a.f, .int .i64 a.l.id, .int .i64 a.l.rk, .int .u64 a.l.n, .int .i64 a.l.ln, .int .u64 a.l.bt, .int .i64 a.r.id, .int .i64 a.r.rk, .int .u64 a.r.n, .int .i64 a.r.ln, .int .u64 a.r.bt, a.v]

theorem ptr_nil_ne (a : Option Addr) (n c : Nat) : True := trivial

end Go.Proofs.Yteiagjbjokldgaa
