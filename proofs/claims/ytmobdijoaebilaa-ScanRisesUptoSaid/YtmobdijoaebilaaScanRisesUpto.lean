/-
  ScanRises answers true, whatever it is given of bulk at most 1048576, and leaves its arguments as they were.
-/
import Derived.Test.YtmobdijoaebilaaRows
import Derived.Test.YtmobdijoaebilaaLScnRises
import Derived.WalkKit
import Derived.ProofKit
import Derived.OpenShut
import Derived.JoinedCond
set_option linter.unusedVariables false
set_option linter.unusedSimpArgs false
set_option maxRecDepth 100000
namespace Go.Proofs.Ytmobdijoaebilaa
open Go.Sim Go.ChangeShapes Go.WideShapes Go.ChangeAt Go.RowKit
namespace ScanRisesUpto

theorem own : ownKnob Try.prog.godebug = none := by kernel_rfl
theorem laid : laidOutB Try.prog = true := by kernel_rfl
theorem bulk_pos {H : Type} (d : DataW H) : 0 < Rows.uptoBulk d := by
  cases d with
  | lit l => cases l <;> simp [Rows.uptoBulk]
  | _ => simp [Rows.uptoBulk]
theorem bulk_mem {H : Type} : ∀ {l : List (DataW H)} {x : DataW H}, x ∈ l → Rows.uptoBulk x ≤ Rows.uptoBulkAll l
  | y :: l, x, h => by
    simp only [Rows.uptoBulkAll]
    rcases List.mem_cons.1 h with rfl | h
    · omega
    · have := bulk_mem h; omega
theorem bulk_len {H : Type} : ∀ l : List (DataW H), l.length ≤ Rows.uptoBulkAll l
  | [] => Nat.zero_le _
  | y :: l => by
    have := bulk_len l
    have := bulk_pos y
    simp only [Rows.uptoBulkAll, List.length_cons]
    omega
theorem isBulk (H : Type) : IsBulk (fun d : DataW H => Rows.uptoBulk d) := by
  refine ⟨fun es rs => ⟨?_, fun x hx => ?_⟩, fun ps x hx => ?_, fun x => ?_⟩
  · have := bulk_len es
    have := bulk_len rs
    simp only [Rows.uptoBulk]
    omega
  · simp only [Rows.uptoBulk]
    rcases hx with hx | hx
    · have := bulk_mem hx; omega
    · have := bulk_mem hx; omega
  · have := bulk_mem hx
    simp only [Rows.uptoBulk]
    omega
  · simp only [Rows.uptoBulk, Array.length_toList]
    exact Nat.le_succ _
theorem small {H : Type} {ds gs : List (DataW H)} (hk : Rows.uptoSmall H (ds ++ gs) = true) : ∀ y ∈ ds, Rows.uptoBulk y ≤ smallM := by
  intro y hy
  have h1 : Rows.uptoBulkAll (ds ++ gs) ≤ 1048576 := by simpa [Rows.uptoSmall] using hk
  have h2 := bulk_mem (List.mem_append.2 (.inl hy : y ∈ ds ∨ y ∈ gs))
  unfold smallM
  omega

theorem lifted (os : Os) (started : os.Started) (H : Type) (enc : TypeId × Value → H) (F : Stop.Interp) :
    ReturnsInHanded {} Try.checked os 4 .any ((Rows.OpenSpec.upto Rows.scanRisesSpec).pre6 enc Try.prog Try.f4 Rows.scanRisesUptoRow.domain false) (((Rows.OpenSpec.upto Rows.scanRisesSpec).at F).post enc Try.prog Try.f4 false true false false) := by
  refine returnsInHanded_of_cond (C := Try.checked) (s := Rows.OpenSpec.upto Rows.scanRisesSpec) (k := Rows.uptoSmall) rfl own started (by kernel_rfl) Try.func4
    (OpenSpec.witness (enc := enc) (C := Try.checked) (s := Rows.OpenSpec.upto Rows.scanRisesSpec) (k := Rows.uptoSmall) rfl false ⟨#[], #[(Go.Value.agg #[(Go.Value.int Go.IntKind.i64 0), (Go.Value.int Go.IntKind.i64 0), (Go.Value.int Go.IntKind.i64 0), (Go.Value.int Go.IntKind.u64 0), (Go.Value.int Go.IntKind.i64 0), (Go.Value.int Go.IntKind.u64 0), (Go.Value.int Go.IntKind.u64 0), (Go.Value.int Go.IntKind.u64 0)]), (Go.Value.slice Option.none 0 0)], []⟩ 8 (by kernel_rfl) (by kernel_rfl) (by kernel_rfl)
      (x := ([.agg [.lit (.int .i64 0), .agg [.lit (.int .i64 0), .agg [.lit (.int .i64 0), .lit (.int .u64 0)], .agg [.lit (.int .i64 0), .lit (.int .u64 0)]], .lit (.int .u64 0), .lit (.int .u64 0)], .nil], [], [])) (by kernel_rfl) rfl (by kernel_rfl)) ?_
  intro W base args ds gs before hval hW _ hk _
  exact contractAM (B := fun H d => Rows.uptoBulk (H := H) d) isBulk (spec := Rows.scanRisesSpec) (P := Try.prog) (fn := Try.f4) (d := 9) (tb := 4) (ls := [(true, [.i .i64, .i .i64, .i .i64, .i .u64, .i .i64, .i .u64, .i .u64, .i .u64]), (false, [.sl [.i .i64, .b, .i .i64, .i .i64, .i .u64, .i .i64, .i .u64, .i .i64, .i .i64, .i .u64, .i .i64, .i .u64, .sl [.i .u8]]])]) laid (by kernel_rfl) (by kernel_rfl) (by kernel_rfl) rfl
    (fun ds h => by
      match ds, h with
      | [d0, d1], _ => exact ⟨rfl, rfl, rfl⟩)
    leapfroglaw18x_ScanRises.sound (by kernel_rfl) (law_hereM fun s us ha hf h => ScanRises.law s us ha hf h) W base args ds gs before hval (small hk) hW

theorem proved : Rows.ScanRisesUptoSaid :=
  OpenClaim.holds_of_cond 4 Try.f4 rfl rfl rfl rfl rfl rfl rfl ⟨rfl, rfl, rfl, rfl, rfl⟩ rfl rfl rfl rfl rfl (by kernel_rfl) Try.func4 (by kernel_rfl)
    (of_decide_eq_true (by kernel_rfl)) (by unfold Func.isWrapper; first | (rw [if_pos (by decide +kernel)]; kernel_rfl) | (rw [if_neg (by decide +kernel)]; exact ⟨rfl, rfl⟩))
    (fun os started H enc _ F => lifted os started H enc F)
end ScanRisesUpto
end Go.Proofs.Ytmobdijoaebilaa
