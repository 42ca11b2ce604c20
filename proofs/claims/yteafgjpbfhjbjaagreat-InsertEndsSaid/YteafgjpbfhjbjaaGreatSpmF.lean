/-
  A splice and the reference's, side by side: in plain Lean.
-/
import Derived.Test.YteafgjpbfhjbjaaGreatSpmE
set_option linter.unusedSimpArgs false
set_option linter.unusedVariables false
set_option maxRecDepth 100000
set_option maxHeartbeats 2000000
namespace Go.Proofs.YteafgjpbfhjbjaaGreat.Sp
open Go.Sim Go.Sim.Bt
def Pq (m : Mm) (r : Rm) : Prop := r.p = m.p ∧ (∀ q, m.last = some q → r.has = true ∧ r.last = q) ∧ (m.last = none → r.has = false)
def Code : Th → Int → Mm → Res → Prop
  | .no, _, _, _ => False
  | .fin R, k, _, res => k = 3 ∧ res = R
  | .wait, k, _, _ => k = 2
  | .next, k, _, _ => k = 4
  | .ex, k, m, res => k = 3 ∧ res = ⟨100, 0, m.p, m.r, false⟩
structure RelM (m : Mm) (r : Rm) : Prop where
  rr : r.r = m.r
  pd : r.pd = m.pd
  nr : r.at' = if m.at' = 1 then 1 else m.at' + 1
  pq : m.at' ≠ 9 → Pq m r
  w9 : m.at' = 9 → (r.th = 1 ∧ Pq m r) ∨ (r.th = 5 ∧ r.has = true ∧ r.last = m.p ∧ m.last = none)
  th : m.at' = 8 → Code m.th r.th m r.res
  res : m.at' = 10 → r.res = m.res
end Go.Proofs.YteafgjpbfhjbjaaGreat.Sp
