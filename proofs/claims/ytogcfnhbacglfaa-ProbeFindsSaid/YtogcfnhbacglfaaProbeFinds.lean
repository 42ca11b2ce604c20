/-
  ProbeFinds answers true, whatever it is given, and leaves its arguments as they were. No condition.
-/
import Derived.Test.YtogcfnhbacglfaaRows
import Derived.Test.YtogcfnhbacglfaaLPrbFinds
import Derived.ProofKit
set_option linter.unusedVariables false
set_option linter.unusedSimpArgs false
set_option maxRecDepth 100000
namespace Go.Proofs.Ytogcfnhbacglfaa
open Go.Sim Go.ChangeShapes Go.WideShapes Go.ChangeAt Go.RowKit
namespace ProbeFinds

theorem own : ownKnob Try.prog.godebug = none := by kernel_rfl
theorem laid : laidOutB Try.prog = true := by kernel_rfl

theorem lifted (os : Os) (started : os.Started) (H : Type) (enc : TypeId × Value → H) :
    ReturnsInHanded {} Try.checked os 4 .any (Rows.probeFindsSpec.pre6 enc Try.prog Try.f4 Rows.probeFindsRow.domain false) (Rows.probeFindsSpec.post enc Try.prog Try.f4 false true false false) := by
  refine returnsInHanded_of_change (C := Try.checked) own started (by kernel_rfl) Try.func4
    (ChangeSpec.witness6 (enc := enc) (C := Try.checked) false ⟨#[], #[(Go.Value.int Go.IntKind.u8 0), (Go.Value.slice Option.none 0 0), (Go.Value.slice Option.none 0 0), (Go.Value.slice Option.none 0 0), (Go.Value.slice Option.none 0 0), (Go.Value.int Go.IntKind.u8 0)], []⟩ 8 (by kernel_rfl) (by kernel_rfl) (by kernel_rfl) (by kernel_rfl)) ?_
  intro W base args ds gs before hval hW _ _
  exact contractA (P := Try.prog) (fn := Try.f4) (d := 9) (tb := 4) (ls := [(false, [.i .u8]), (false, [.sl [.i .u64]]), (false, [.sl [.i .u64]]), (false, [.sl [.b]]), (false, [.sl [.b]]), (false, [.i .u8])]) laid (by kernel_rfl) (by kernel_rfl) (by kernel_rfl) rfl
    (fun ds h => by
      match ds, h with
      | [d0, d1, d2, d3, d4, d5], _ => exact ⟨rfl, rfl, rfl⟩)
    leapfroglaw19x_ProbeFinds.sound (by kernel_rfl) (law_here fun s us ha hf h => law s us ha hf h) W base args ds gs before hval hW

theorem proved : Rows.ProbeFindsSaid :=
  OpenClaim.holds_of_wide 4 Try.f4 rfl rfl rfl rfl rfl rfl rfl ⟨rfl, rfl, rfl, rfl, rfl⟩ rfl rfl rfl rfl rfl (by kernel_rfl) Try.func4 (by kernel_rfl)
    (of_decide_eq_true (by kernel_rfl)) (by unfold Func.isWrapper; first | (rw [if_pos (by decide +kernel)]; kernel_rfl) | (rw [if_neg (by decide +kernel)]; exact ⟨rfl, rfl⟩))
    (fun os started H enc _ => lifted os started H enc)
end ProbeFinds
end Go.Proofs.Ytogcfnhbacglfaa
