/-
  Few fields, and how many bytes fields have.
-/
import Derived.Test.YteapmnolmfickaaPakL
set_option linter.unusedSimpArgs false
set_option linter.unusedVariables false
set_option maxRecDepth 100000
set_option maxHeartbeats 4000000
namespace Go.Proofs.Yteapmnolmfickaa
open Go.Sim Go.Sim.Bt
attribute [local congr] bdc cndc itec gdc gdSc gdUc
theorem Pers.mono {n m:Nat} {s:St} {P:St→Prop} (h:Pers n s P) (hn:n≤m):Pers m s P:=fun s' k=>h s' fun x hx=>k x (by omega)
end Go.Proofs.Yteapmnolmfickaa
