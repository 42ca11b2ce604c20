/-
  Rows of ticks and answers, with what their values are.
-/
import Derived.Test.YteapmnolmfickaaMachF
set_option linter.unusedSimpArgs false
set_option linter.unusedVariables false
set_option maxRecDepth 100000
namespace Go.Proofs.Yteapmnolmfickaa
open Go.Sim
abbrev ValIs (s:St) (v:Value):Prop:=Leaf.Is s (.sl [.i .u8]) v
end Go.Proofs.Yteapmnolmfickaa
