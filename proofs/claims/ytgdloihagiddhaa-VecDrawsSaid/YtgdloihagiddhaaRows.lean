/-
  No cell of these rows narrows 'for every input' (looked for: loops, veiled, ifaces, maps, wideKeys, modest, calm, conditions, laid).
  DERIVED. THE GIVEN ROWS OF THIS SEAT. 8 by the template 'for every input the law returns true; each argument reads behind the call as it read before'; 0 by the template 'total and deterministic' (their statements: YtgdloihagiddhaaTotals.lean).
  GIVEN WITH THE SEED: the statements are not yours to turn. If you find one false, say at which input.
  Laid BY PROGRAM, IN A SANDBOX (cutbox-rows.mjs): the forced cells as the released guide's own fill.sh prints them over the translation 4fe72e91f347a3ca… (all of the seat's roots in one cut). By AI agents, Wed Nov 11 2026. No macro, syntax, notation, axiom, sorry.
-/
import Derived.Test.YtgdloihagiddhaaChecked
import GoSem.Claim
import GoSem.ClaimJoined
import GoSem.ClaimMapViews
import Derived.JoinedTies
import Derived.KernelRfl
namespace Go.Proofs.Ytgdloihagiddhaa
/- THE CELL 'sum', in the pinned program and in every row, IS THE sha256 OF THE DUMP (.gsa) THAT YtgdloihagiddhaaProg.lean LOADS. Nothing in Lean hashes anything: it is a label: what it is worth is what the hold of that sum in a sandbox is worth. -/
noncomputable def Try.pinned : Pinned := { name := "ytgdloihagiddhaa", sum := "4fe72e91f347a3ca2193017730637892c3a394feed92c824fd389b6495210b31", checked := Try.checked }
namespace Rows
def none {H : Type} : Left H := { results := [], args := [] }

/-- 'leapfroglaw01.VecTexts': WHATEVER THE INPUT: true; the input reads as it did. -/
def vecTextsSpec : ChangeSpec := { name := "vecTexts", fn := fun _ => fun
  | [d1, d2] => { results := [.lit (.bool true)], args := [d1, d2] }
  | _ => none }
def vecTextsRow : OpenClaim := { program := "ytgdloihagiddhaa", sum := "4fe72e91f347a3ca2193017730637892c3a394feed92c824fd389b6495210b31", func := "leapfrog/leapfroglaw01.VecTexts", spec := "vecTexts", inPlace := ["internal/abi.NoEscape"], apart := false }
def VecTextsSaid : Prop := vecTextsRow.holds Try.pinned (OpenSpec.ofChange vecTextsSpec)

/-- ITS FALSE NEIGHBOUR: 'it returns false'. Refute it at one input. -/
def vecTextsWrong : ChangeSpec := { name := "vecTexts", fn := fun _ => fun
  | [d1, d2] => { results := [.lit (.bool false)], args := [d1, d2] }
  | _ => none }
def VecTextsWrongFalsely : Prop := vecTextsRow.holds Try.pinned (OpenSpec.ofChange vecTextsWrong)

/-- 'leapfroglaw01.VecJoins': WHATEVER THE INPUT: true; the input reads as it did. -/
def vecJoinsSpec : ChangeSpec := { name := "vecJoins", fn := fun _ => fun
  | [d] => { results := [.lit (.bool true)], args := [d] }
  | _ => none }
def vecJoinsRow : OpenClaim := { program := "ytgdloihagiddhaa", sum := "4fe72e91f347a3ca2193017730637892c3a394feed92c824fd389b6495210b31", func := "leapfrog/leapfroglaw01.VecJoins", spec := "vecJoins", inPlace := ["internal/abi.NoEscape"], apart := false }
def VecJoinsSaid : Prop := vecJoinsRow.holds Try.pinned (OpenSpec.ofChange vecJoinsSpec)

/-- ITS FALSE NEIGHBOUR: 'it returns false'. Refute it at one input. -/
def vecJoinsWrong : ChangeSpec := { name := "vecJoins", fn := fun _ => fun
  | [d] => { results := [.lit (.bool false)], args := [d] }
  | _ => none }
def VecJoinsWrongFalsely : Prop := vecJoinsRow.holds Try.pinned (OpenSpec.ofChange vecJoinsWrong)

/-- 'leapfroglaw01.VecParted': WHATEVER THE INPUT: true; the input reads as it did. -/
def vecPartedSpec : ChangeSpec := { name := "vecParted", fn := fun _ => fun
  | [d1, d2] => { results := [.lit (.bool true)], args := [d1, d2] }
  | _ => none }
def vecPartedRow : OpenClaim := { program := "ytgdloihagiddhaa", sum := "4fe72e91f347a3ca2193017730637892c3a394feed92c824fd389b6495210b31", func := "leapfrog/leapfroglaw01.VecParted", spec := "vecParted", inPlace := ["internal/abi.NoEscape"], apart := false }
def VecPartedSaid : Prop := vecPartedRow.holds Try.pinned (OpenSpec.ofChange vecPartedSpec)

/-- ITS FALSE NEIGHBOUR: 'it returns false'. Refute it at one input. -/
def vecPartedWrong : ChangeSpec := { name := "vecParted", fn := fun _ => fun
  | [d1, d2] => { results := [.lit (.bool false)], args := [d1, d2] }
  | _ => none }
def VecPartedWrongFalsely : Prop := vecPartedRow.holds Try.pinned (OpenSpec.ofChange vecPartedWrong)

/-- 'leapfroglaw01.VecDraws': WHATEVER THE INPUT: true; the input reads as it did. -/
def vecDrawsSpec : ChangeSpec := { name := "vecDraws", fn := fun _ => fun
  | [d1, d2, d3, d4] => { results := [.lit (.bool true)], args := [d1, d2, d3, d4] }
  | _ => none }
def vecDrawsRow : OpenClaim := { program := "ytgdloihagiddhaa", sum := "4fe72e91f347a3ca2193017730637892c3a394feed92c824fd389b6495210b31", func := "leapfrog/leapfroglaw01.VecDraws", spec := "vecDraws", inPlace := ["internal/abi.NoEscape"], unfollowed := true, recurses := true, apart := false }
def VecDrawsSaid : Prop := vecDrawsRow.holds Try.pinned (OpenSpec.ofChange vecDrawsSpec)

/-- ITS FALSE NEIGHBOUR: 'it returns false'. Refute it at one input. -/
def vecDrawsWrong : ChangeSpec := { name := "vecDraws", fn := fun _ => fun
  | [d1, d2, d3, d4] => { results := [.lit (.bool false)], args := [d1, d2, d3, d4] }
  | _ => none }
def VecDrawsWrongFalsely : Prop := vecDrawsRow.holds Try.pinned (OpenSpec.ofChange vecDrawsWrong)

/-- 'leapfroglaw01.VecBits': WHATEVER THE INPUT: true; the input reads as it did. -/
def vecBitsSpec : ChangeSpec := { name := "vecBits", fn := fun _ => fun
  | [d1, d2] => { results := [.lit (.bool true)], args := [d1, d2] }
  | _ => none }
def vecBitsRow : OpenClaim := { program := "ytgdloihagiddhaa", sum := "4fe72e91f347a3ca2193017730637892c3a394feed92c824fd389b6495210b31", func := "leapfrog/leapfroglaw01.VecBits", spec := "vecBits", inPlace := ["internal/abi.NoEscape"], apart := false }
def VecBitsSaid : Prop := vecBitsRow.holds Try.pinned (OpenSpec.ofChange vecBitsSpec)

/-- ITS FALSE NEIGHBOUR: 'it returns false'. Refute it at one input. -/
def vecBitsWrong : ChangeSpec := { name := "vecBits", fn := fun _ => fun
  | [d1, d2] => { results := [.lit (.bool false)], args := [d1, d2] }
  | _ => none }
def VecBitsWrongFalsely : Prop := vecBitsRow.holds Try.pinned (OpenSpec.ofChange vecBitsWrong)

/-- 'leapfroglaw01.VecBack': WHATEVER THE INPUT: true; the input reads as it did. -/
def vecBackSpec : ChangeSpec := { name := "vecBack", fn := fun _ => fun
  | [d1, d2] => { results := [.lit (.bool true)], args := [d1, d2] }
  | _ => none }
def vecBackRow : OpenClaim := { program := "ytgdloihagiddhaa", sum := "4fe72e91f347a3ca2193017730637892c3a394feed92c824fd389b6495210b31", func := "leapfrog/leapfroglaw01.VecBack", spec := "vecBack", inPlace := ["internal/abi.NoEscape"], apart := false }
def VecBackSaid : Prop := vecBackRow.holds Try.pinned (OpenSpec.ofChange vecBackSpec)

/-- ITS FALSE NEIGHBOUR: 'it returns false'. Refute it at one input. -/
def vecBackWrong : ChangeSpec := { name := "vecBack", fn := fun _ => fun
  | [d1, d2] => { results := [.lit (.bool false)], args := [d1, d2] }
  | _ => none }
def VecBackWrongFalsely : Prop := vecBackRow.holds Try.pinned (OpenSpec.ofChange vecBackWrong)

/-- 'leapfroglaw01.VecOrder': WHATEVER THE INPUT: true; the input reads as it did. -/
def vecOrderSpec : ChangeSpec := { name := "vecOrder", fn := fun _ => fun
  | [d1, d2, d3] => { results := [.lit (.bool true)], args := [d1, d2, d3] }
  | _ => none }
def vecOrderRow : OpenClaim := { program := "ytgdloihagiddhaa", sum := "4fe72e91f347a3ca2193017730637892c3a394feed92c824fd389b6495210b31", func := "leapfrog/leapfroglaw01.VecOrder", spec := "vecOrder", inPlace := ["internal/abi.NoEscape"], apart := false }
def VecOrderSaid : Prop := vecOrderRow.holds Try.pinned (OpenSpec.ofChange vecOrderSpec)

/-- ITS FALSE NEIGHBOUR: 'it returns false'. Refute it at one input. -/
def vecOrderWrong : ChangeSpec := { name := "vecOrder", fn := fun _ => fun
  | [d1, d2, d3] => { results := [.lit (.bool false)], args := [d1, d2, d3] }
  | _ => none }
def VecOrderWrongFalsely : Prop := vecOrderRow.holds Try.pinned (OpenSpec.ofChange vecOrderWrong)

/-- 'leapfroglaw01.VecCompares': WHATEVER THE INPUT: true; the input reads as it did. -/
def vecComparesSpec : ChangeSpec := { name := "vecCompares", fn := fun _ => fun
  | [d1, d2] => { results := [.lit (.bool true)], args := [d1, d2] }
  | _ => none }
def vecComparesRow : OpenClaim := { program := "ytgdloihagiddhaa", sum := "4fe72e91f347a3ca2193017730637892c3a394feed92c824fd389b6495210b31", func := "leapfrog/leapfroglaw01.VecCompares", spec := "vecCompares", inPlace := ["internal/abi.NoEscape"], apart := false }
def VecComparesSaid : Prop := vecComparesRow.holds Try.pinned (OpenSpec.ofChange vecComparesSpec)

/-- ITS FALSE NEIGHBOUR: 'it returns false'. Refute it at one input. -/
def vecComparesWrong : ChangeSpec := { name := "vecCompares", fn := fun _ => fun
  | [d1, d2] => { results := [.lit (.bool false)], args := [d1, d2] }
  | _ => none }
def VecComparesWrongFalsely : Prop := vecComparesRow.holds Try.pinned (OpenSpec.ofChange vecComparesWrong)

/- THE SECOND FORM. 'bulk': how many values and letters a reading holds, each counted each time it is reached (what is shared counts as often as it is met; a slice's spare places count too). A statement '..UptoSaid' is the law's where the arguments, and the package variables that the reading takes, are together of bulk at most 1048576: NARROWER than '..Said'. Prove '..Said' where nothing that the law and all that it calls make is longer than what came in: it says more and counts as full. Else prove '..UptoSaid'. A law counts once. -/
mutual
def uptoBulk {H : Type} : DataW H → Nat
  | .lit (.string bytes) => bytes.length + 1
  | .lit _ => 1
  | .nil => 1
  | .ptr d => uptoBulk d + 1
  | .slice elems spare => uptoBulkAll elems + uptoBulkAll spare + 1
  | .agg parts => uptoBulkAll parts + 1
  | .iface _ d => uptoBulk d + 1
  | .map entries => uptoBulkEntries entries + 1
  | .held _ => 1
def uptoBulkAll {H : Type} : List (DataW H) → Nat
  | [] => 0
  | d :: r => uptoBulk d + uptoBulkAll r
def uptoBulkEntries {H : Type} : List (Lit × DataW H) → Nat
  | [] => 0
  | x :: r => uptoBulkEntry x + uptoBulkEntries r
def uptoBulkEntry {H : Type} : Lit × DataW H → Nat
  | (.string bytes, d) => bytes.length + uptoBulk d + 1
  | (_, d) => uptoBulk d + 1
 end
def uptoSmall : (H : Type) → List (DataW H) → Bool := fun _ ds => decide (uptoBulkAll ds ≤ 1048576)
def OpenSpec.upto (s : _root_.Go.ChangeSpec) : _root_.Go.OpenSpec := { _root_.Go.OpenSpec.ofChange s with cond := some uptoSmall }

/-- 'leapfroglaw01.VecTexts', WHERE WHAT IT READS IS OF BULK AT MOST 1048576: true; the input reads as it did. -/
def vecTextsUptoRow : OpenClaim := { program := "ytgdloihagiddhaa", sum := "4fe72e91f347a3ca2193017730637892c3a394feed92c824fd389b6495210b31", func := "leapfrog/leapfroglaw01.VecTexts", spec := "vecTexts", inPlace := ["internal/abi.NoEscape"], apart := false, narrowed := true }
def VecTextsUptoSaid : Prop := vecTextsUptoRow.holds Try.pinned (OpenSpec.upto vecTextsSpec)

/-- 'leapfroglaw01.VecJoins', WHERE WHAT IT READS IS OF BULK AT MOST 1048576: true; the input reads as it did. -/
def vecJoinsUptoRow : OpenClaim := { program := "ytgdloihagiddhaa", sum := "4fe72e91f347a3ca2193017730637892c3a394feed92c824fd389b6495210b31", func := "leapfrog/leapfroglaw01.VecJoins", spec := "vecJoins", inPlace := ["internal/abi.NoEscape"], apart := false, narrowed := true }
def VecJoinsUptoSaid : Prop := vecJoinsUptoRow.holds Try.pinned (OpenSpec.upto vecJoinsSpec)

/-- 'leapfroglaw01.VecParted', WHERE WHAT IT READS IS OF BULK AT MOST 1048576: true; the input reads as it did. -/
def vecPartedUptoRow : OpenClaim := { program := "ytgdloihagiddhaa", sum := "4fe72e91f347a3ca2193017730637892c3a394feed92c824fd389b6495210b31", func := "leapfrog/leapfroglaw01.VecParted", spec := "vecParted", inPlace := ["internal/abi.NoEscape"], apart := false, narrowed := true }
def VecPartedUptoSaid : Prop := vecPartedUptoRow.holds Try.pinned (OpenSpec.upto vecPartedSpec)

/-- 'leapfroglaw01.VecDraws', WHERE WHAT IT READS IS OF BULK AT MOST 1048576: true; the input reads as it did. -/
def vecDrawsUptoRow : OpenClaim := { program := "ytgdloihagiddhaa", sum := "4fe72e91f347a3ca2193017730637892c3a394feed92c824fd389b6495210b31", func := "leapfrog/leapfroglaw01.VecDraws", spec := "vecDraws", inPlace := ["internal/abi.NoEscape"], unfollowed := true, recurses := true, apart := false, narrowed := true }
def VecDrawsUptoSaid : Prop := vecDrawsUptoRow.holds Try.pinned (OpenSpec.upto vecDrawsSpec)

/-- 'leapfroglaw01.VecBits', WHERE WHAT IT READS IS OF BULK AT MOST 1048576: true; the input reads as it did. -/
def vecBitsUptoRow : OpenClaim := { program := "ytgdloihagiddhaa", sum := "4fe72e91f347a3ca2193017730637892c3a394feed92c824fd389b6495210b31", func := "leapfrog/leapfroglaw01.VecBits", spec := "vecBits", inPlace := ["internal/abi.NoEscape"], apart := false, narrowed := true }
def VecBitsUptoSaid : Prop := vecBitsUptoRow.holds Try.pinned (OpenSpec.upto vecBitsSpec)

/-- 'leapfroglaw01.VecBack', WHERE WHAT IT READS IS OF BULK AT MOST 1048576: true; the input reads as it did. -/
def vecBackUptoRow : OpenClaim := { program := "ytgdloihagiddhaa", sum := "4fe72e91f347a3ca2193017730637892c3a394feed92c824fd389b6495210b31", func := "leapfrog/leapfroglaw01.VecBack", spec := "vecBack", inPlace := ["internal/abi.NoEscape"], apart := false, narrowed := true }
def VecBackUptoSaid : Prop := vecBackUptoRow.holds Try.pinned (OpenSpec.upto vecBackSpec)

/-- 'leapfroglaw01.VecOrder', WHERE WHAT IT READS IS OF BULK AT MOST 1048576: true; the input reads as it did. -/
def vecOrderUptoRow : OpenClaim := { program := "ytgdloihagiddhaa", sum := "4fe72e91f347a3ca2193017730637892c3a394feed92c824fd389b6495210b31", func := "leapfrog/leapfroglaw01.VecOrder", spec := "vecOrder", inPlace := ["internal/abi.NoEscape"], apart := false, narrowed := true }
def VecOrderUptoSaid : Prop := vecOrderUptoRow.holds Try.pinned (OpenSpec.upto vecOrderSpec)

/-- 'leapfroglaw01.VecCompares', WHERE WHAT IT READS IS OF BULK AT MOST 1048576: true; the input reads as it did. -/
def vecComparesUptoRow : OpenClaim := { program := "ytgdloihagiddhaa", sum := "4fe72e91f347a3ca2193017730637892c3a394feed92c824fd389b6495210b31", func := "leapfrog/leapfroglaw01.VecCompares", spec := "vecCompares", inPlace := ["internal/abi.NoEscape"], apart := false, narrowed := true }
def VecComparesUptoSaid : Prop := vecComparesUptoRow.holds Try.pinned (OpenSpec.upto vecComparesSpec)

end Rows
end Go.Proofs.Ytgdloihagiddhaa
