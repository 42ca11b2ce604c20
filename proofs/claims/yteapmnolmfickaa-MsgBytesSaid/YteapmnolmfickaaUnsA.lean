/-
  Keys, owners and the machine of package unsplice over unknown numbers.
-/
import Derived.Test.YteapmnolmfickaaSymB
import Derived.Test.YteapmnolmfickaaVecE
set_option linter.unusedSimpArgs false
set_option linter.unusedVariables false
set_option maxRecDepth 100000
namespace Go.Proofs.Yteapmnolmfickaa
open Go.Sim Go.Sim.Bt
attribute [local congr] bdc cndc itec gdc gdSc gdUc
def lessK (r n r' n':Int):Prop:=r < r'∨(r=r'∧n < n')
instance (r n r' n':Int):Decidable (lessK r n r' n'):=by unfold lessK; infer_instance
abbrev KV (r n:Int):Value:=.agg ⟨[.int .i64 r,.int .u64 n]⟩
def okO (a o:Int):Prop:=0≤a∧a < 1024∧1≤o∧o≤1073741824
instance (a o:Int):Decidable (okO a o):=by unfold okO; infer_instance
end Go.Proofs.Yteapmnolmfickaa
