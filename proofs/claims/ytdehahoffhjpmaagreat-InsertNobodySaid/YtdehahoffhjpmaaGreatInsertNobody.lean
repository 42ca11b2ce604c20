/-
  InsertNobody answers true, whatever answer it is given, and leaves its argument as it was. No condition.
-/
import Derived.Test.YtdehahoffhjpmaaGreatRows
import Derived.Test.YtdehahoffhjpmaaGreatGN3
import Derived.ProofKit
set_option linter.unusedVariables false
set_option linter.unusedSimpArgs false
set_option maxRecDepth 100000
namespace Go.Proofs.YtdehahoffhjpmaaGreat
open Go.Sim Go.ChangeShapes Go.WideShapes Go.ChangeAt Go.RowKit
namespace InsertNobody

def cells : List Leaf := [.i .i64, .b, .i .i64, .i .i64, .i .u64, .i .i64, .i .u64, .i .i64, .i .i64, .i .u64, .i .i64, .i .u64]

theorem law (pre : List Value) (x : Value) (hp : Leaf.Are ⟨[], 1⟩ cells pre) (hx : x = .slice none 0 0 ∨ ∃ len c, x = .slice (some ⟨0, 0, some 0⟩) len c) :
    (leapfroglaw15x_InsertNobody.w [.agg ⟨pre ++ [x]⟩] ⟨[], 1⟩).map (·.1) = some (.bool true) := by
  simp only [cells, Leaf.Are, Leaf.Is] at hp
  obtain ⟨_, _, rfl, ⟨_, rfl, _⟩, _, _, rfl, ⟨_, rfl⟩, _, _, rfl, ⟨_, rfl, _⟩, _, _, rfl, ⟨_, rfl, _⟩, _, _, rfl, ⟨_, rfl, _⟩, _, _, rfl, ⟨_, rfl, _⟩, _, _, rfl, ⟨_, rfl, _⟩, _, _, rfl, ⟨_, rfl, _⟩, _, _, rfl, ⟨_, rfl, _⟩, _, _, rfl, ⟨_, rfl, _⟩, _, _, rfl, ⟨_, rfl, _⟩, _, _, rfl, ⟨_, rfl, _⟩, rfl⟩ := hp
  rcases hx with rfl | ⟨len, c, rfl⟩
  · kernel_rfl
  · kernel_rfl

theorem own : ownKnob Tryz.prog.godebug = none := by kernel_rfl
theorem laid : laidOutB Tryz.prog = true := by kernel_rfl

theorem lifted (os : Os) (started : os.Started) (H : Type) (enc : TypeId × Value → H) :
    ReturnsInHanded {} Tryz.checked os 3 .any (Rows.insertNobodySpec.pre6 enc Tryz.prog Tryz.f3 Rows.insertNobodyRow.domain false) (Rows.insertNobodySpec.post enc Tryz.prog Tryz.f3 false true false false) := by
  refine returnsInHanded_of_change (C := Tryz.checked) own started (by kernel_rfl) Tryz.func3
    (ChangeSpec.witness6 (enc := enc) (C := Tryz.checked) false ⟨#[], #[(Go.Value.agg #[(Go.Value.int Go.IntKind.i64 0), (Go.Value.bool Bool.false), (Go.Value.int Go.IntKind.i64 0), (Go.Value.int Go.IntKind.i64 0), (Go.Value.int Go.IntKind.u64 0), (Go.Value.int Go.IntKind.i64 0), (Go.Value.int Go.IntKind.u64 0), (Go.Value.int Go.IntKind.i64 0), (Go.Value.int Go.IntKind.i64 0), (Go.Value.int Go.IntKind.u64 0), (Go.Value.int Go.IntKind.i64 0), (Go.Value.int Go.IntKind.u64 0), (Go.Value.slice Option.none 0 0)])], []⟩ 8 (by kernel_rfl) (by kernel_rfl) (by kernel_rfl) (by kernel_rfl)) ?_
  intro W base args ds gs before hval hW _ _
  exact contractA (P := Tryz.prog) (fn := Tryz.f3) (d := 9) (tb := 4) (ls := [(true, cells ++ [.sl [.i .u8]])]) laid (by kernel_rfl) (by kernel_rfl) (by kernel_rfl) rfl
    (fun ds h => by
      match ds, h with
      | [d], _ => exact ⟨rfl, rfl, rfl⟩)
    leapfroglaw15x_InsertNobody.sound (by kernel_rfl) (answer_start (by kernel_rfl) law) W base args ds gs before hval hW

theorem proved : Rows.InsertNobodySaid :=
  OpenClaim.holds_of_wide 3 Tryz.f3 rfl rfl rfl rfl rfl rfl rfl ⟨rfl, rfl, rfl, rfl, rfl⟩ rfl rfl rfl rfl rfl (by kernel_rfl) Tryz.func3 (by kernel_rfl)
    (of_decide_eq_true (by kernel_rfl)) (by unfold Func.isWrapper; first | (rw [if_pos (by decide +kernel)]; kernel_rfl) | (rw [if_neg (by decide +kernel)]; exact ⟨rfl, rfl⟩))
    (fun os started H enc _ => lifted os started H enc)
end InsertNobody
end Go.Proofs.YtdehahoffhjpmaaGreat
