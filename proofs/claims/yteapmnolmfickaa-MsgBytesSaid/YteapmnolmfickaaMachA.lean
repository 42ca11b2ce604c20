/-
  What all machines share: references, asks, results, steps, answers, as cells; two steps that are one.
-/
import Derived.Test.YteapmnolmfickaaSymB
import Derived.Test.YteapmnolmfickaaGW1
set_option linter.unusedSimpArgs false
set_option linter.unusedVariables false
set_option maxRecDepth 100000
namespace Go.Proofs.Yteapmnolmfickaa
open Go.Sim
attribute [local congr] bdc cndc itec gdc gdSc gdUc
structure Rf where
  id:Int
  rk:Int
  n:Int
  ln:Int
  bt:Int
structure AskP where
  k:Int
  wl:Int
  wb:Int
  r:Rf
  r2:Rf
  oa:Int
  oo:Int
structure Res where
  e:Int
  key:Int
  l:Rf
  r:Rf
  found:Bool
structure Ans where
  k:Int
  f:Bool
  l:Rf
  r:Rf
  v:Value
abbrev zR:Rf:=⟨0,0,0,0,0⟩
abbrev Rf.cs (r:Rf):List Value:=[.int .i64 r.id,.int .i64 r.rk,.int .u64 r.n,.int .i64 r.ln,.int .u64 r.bt]
abbrev Ans.cs (a:Ans):List Value :=
  [.int .i64 a.k,.bool a.f,.int .i64 a.l.id,.int .i64 a.l.rk,.int .u64 a.l.n,.int .i64 a.l.ln,.int .u64 a.l.bt,.int .i64 a.r.id,.int .i64 a.r.rk,.int .u64 a.r.n,.int .i64 a.r.ln,.int .u64 a.r.bt,a.v]
end Go.Proofs.Yteapmnolmfickaa
