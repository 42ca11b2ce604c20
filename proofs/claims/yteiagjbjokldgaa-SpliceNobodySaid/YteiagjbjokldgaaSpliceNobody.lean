/-
  SpliceNobody answers true, whatever answer it is given, and leaves its argument as it was. No condition.
-/
import Derived.Test.YteiagjbjokldgaaRows
import Derived.Test.YteiagjbjokldgaaGN0
import Derived.ProofKit
set_option linter.unusedVariables false
set_option linter.unusedSimpArgs false
set_option maxRecDepth 100000
namespace Go.Proofs.Yteiagjbjokldgaa
open Go.Sim Go.ChangeShapes Go.WideShapes Go.ChangeAt Go.RowKit
namespace SpliceNobody

def cells : List Leaf := [.i .i64, .b, .i .i64, .i .i64, .i .u64, .i .i64, .i .u64, .i .i64, .i .i64, .i .u64, .i .i64, .i .u64]

theorem law (pre : List Value) (x : Value) (hp : Leaf.Are ⟨[], 1⟩ cells pre) (hx : x = .slice none 0 0 ∨ ∃ len c, x = .slice (some ⟨0, 0, some 0⟩) len c) :
    (leapfroglaw13x_SpliceNobody.w [.agg ⟨pre ++ [x]⟩] ⟨[], 1⟩).map (·.1) = some (.bool true) := by
  simp only [cells, Leaf.Are, Leaf.Is] at hp
  obtain ⟨_, _, rfl, ⟨_, rfl, _⟩, _, _, rfl, ⟨_, rfl⟩, _, _, rfl, ⟨_, rfl, _⟩, _, _, rfl, ⟨_, rfl, _⟩, _, _, rfl, ⟨_, rfl, _⟩, _, _, rfl, ⟨_, rfl, _⟩, _, _, rfl, ⟨_, rfl, _⟩, _, _, rfl, ⟨_, rfl, _⟩, _, _, rfl, ⟨_, rfl, _⟩, _, _, rfl, ⟨_, rfl, _⟩, _, _, rfl, ⟨_, rfl, _⟩, _, _, rfl, ⟨_, rfl, _⟩, rfl⟩ := hp
  rcases hx with rfl | ⟨len, c, rfl⟩
  · kernel_rfl
  · kernel_rfl

theorem own : ownKnob Try.prog.godebug = none := by kernel_rfl
theorem laid : laidOutB Try.prog = true := by kernel_rfl

theorem lifted (os : Os) (started : os.Started) (H : Type) (enc : TypeId × Value → H) :
    ReturnsInHanded {} Try.checked os 7 .any (Rows.spliceNobodySpec.pre6 enc Try.prog Try.f7 Rows.spliceNobodyRow.domain false) (Rows.spliceNobodySpec.post enc Try.prog Try.f7 false true false false) := by
  refine returnsInHanded_of_change (C := Try.checked) own started (by kernel_rfl) Try.func7
    (ChangeSpec.witness6 (enc := enc) (C := Try.checked) false ⟨#[], #[(Go.Value.agg #[(Go.Value.int Go.IntKind.i64 0), (Go.Value.bool Bool.false), (Go.Value.int Go.IntKind.i64 0), (Go.Value.int Go.IntKind.i64 0), (Go.Value.int Go.IntKind.u64 0), (Go.Value.int Go.IntKind.i64 0), (Go.Value.int Go.IntKind.u64 0), (Go.Value.int Go.IntKind.i64 0), (Go.Value.int Go.IntKind.i64 0), (Go.Value.int Go.IntKind.u64 0), (Go.Value.int Go.IntKind.i64 0), (Go.Value.int Go.IntKind.u64 0), (Go.Value.slice Option.none 0 0)])], []⟩ 8 (by kernel_rfl) (by kernel_rfl) (by kernel_rfl) (by kernel_rfl)) ?_
  intro W base args ds gs before hval hW _ _
  exact contractA (P := Try.prog) (fn := Try.f7) (d := 9) (tb := 4) (ls := [(true, cells ++ [.sl [.i .u8]])]) laid (by kernel_rfl) (by kernel_rfl) (by kernel_rfl) rfl
    (fun ds h => by
      match ds, h with
      | [d], _ => exact ⟨rfl, rfl, rfl⟩)
    leapfroglaw13x_SpliceNobody.sound (by kernel_rfl) (answer_start (by kernel_rfl) law) W base args ds gs before hval hW

theorem proved : Rows.SpliceNobodySaid :=
  OpenClaim.holds_of_wide 7 Try.f7 rfl rfl rfl rfl rfl rfl rfl ⟨rfl, rfl, rfl, rfl, rfl⟩ rfl rfl rfl rfl rfl (by kernel_rfl) Try.func7 (by kernel_rfl)
    (of_decide_eq_true (by kernel_rfl)) (by unfold Func.isWrapper; first | (rw [if_pos (by decide +kernel)]; kernel_rfl) | (rw [if_neg (by decide +kernel)]; exact ⟨rfl, rfl⟩))
    (fun os started H enc _ => lifted os started H enc)
end SpliceNobody
end Go.Proofs.Yteiagjbjokldgaa
