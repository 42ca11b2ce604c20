/-
  No cell of these rows narrows 'for every input' (looked for: loops, veiled, ifaces, maps, wideKeys, modest, calm, conditions, laid).
  DERIVED. THE GIVEN ROWS OF THIS SEAT. 3 by the template 'for every input the law returns true; each argument reads behind the call as it read before'; 0 by the template 'total and deterministic' (their statements: YtdppefkjoeefnaaTotals.lean).
  GIVEN WITH THE SEED: the statements are not yours to turn. If you find one false, say at which input.
  Laid BY PROGRAM, IN A SANDBOX (cutbox-rows.mjs): the forced cells as the released guide's own fill.sh prints them over the translation a202f3f12476c94b… (all of the seat's roots in one cut). By AI agents, Wed Nov 11 2026. No macro, syntax, notation, axiom, sorry.
-/
import Derived.Test.YtdppefkjoeefnaaChecked
import GoSem.Claim
import GoSem.ClaimJoined
import GoSem.ClaimMapViews
import Derived.JoinedTies
import Derived.KernelRfl
namespace Go.Proofs.Ytdppefkjoeefnaa
/- THE CELL 'sum', in the pinned program and in every row, IS THE sha256 OF THE DUMP (.gsa) THAT YtdppefkjoeefnaaProg.lean LOADS. Nothing in Lean hashes anything: it is a label: what it is worth is what the hold of that sum in a sandbox is worth. -/
noncomputable def Try.pinned : Pinned := { name := "ytdppefkjoeefnaa", sum := "a202f3f12476c94b1c05a56c301c47f4e05b82d530dc5687a867b3d5bf03e504", checked := Try.checked }
namespace Rows
def none {H : Type} : Left H := { results := [], args := [] }

/-- 'leapfroglaw16.RemoveRuns': WHATEVER THE INPUT: true; the input reads as it did. -/
def removeRunsSpec : ChangeSpec := { name := "removeRuns", fn := fun _ => fun
  | [d1, d2, d3] => { results := [.lit (.bool true)], args := [d1, d2, d3] }
  | _ => none }
def removeRunsRow : OpenClaim := { program := "ytdppefkjoeefnaa", sum := "a202f3f12476c94b1c05a56c301c47f4e05b82d530dc5687a867b3d5bf03e504", func := "leapfrog/leapfroglaw16.RemoveRuns", spec := "removeRuns", unfollowed := true, recurses := true, plainKeys := false, apart := false }
def RemoveRunsSaid : Prop := removeRunsRow.holds Try.pinned (OpenSpec.ofChange removeRunsSpec)

/-- ITS FALSE NEIGHBOUR: 'it returns false'. Refute it at one input. -/
def removeRunsWrong : ChangeSpec := { name := "removeRuns", fn := fun _ => fun
  | [d1, d2, d3] => { results := [.lit (.bool false)], args := [d1, d2, d3] }
  | _ => none }
def RemoveRunsWrongFalsely : Prop := removeRunsRow.holds Try.pinned (OpenSpec.ofChange removeRunsWrong)

/-- 'leapfroglaw16.RemoveOnce': WHATEVER THE INPUT: true; the input reads as it did. -/
def removeOnceSpec : ChangeSpec := { name := "removeOnce", fn := fun _ => fun
  | [d1, d2] => { results := [.lit (.bool true)], args := [d1, d2] }
  | _ => none }
def removeOnceRow : OpenClaim := { program := "ytdppefkjoeefnaa", sum := "a202f3f12476c94b1c05a56c301c47f4e05b82d530dc5687a867b3d5bf03e504", func := "leapfrog/leapfroglaw16.RemoveOnce", spec := "removeOnce", unfollowed := true, recurses := true, plainKeys := false, apart := false }
def RemoveOnceSaid : Prop := removeOnceRow.holds Try.pinned (OpenSpec.ofChange removeOnceSpec)

/-- ITS FALSE NEIGHBOUR: 'it returns false'. Refute it at one input. -/
def removeOnceWrong : ChangeSpec := { name := "removeOnce", fn := fun _ => fun
  | [d1, d2] => { results := [.lit (.bool false)], args := [d1, d2] }
  | _ => none }
def RemoveOnceWrongFalsely : Prop := removeOnceRow.holds Try.pinned (OpenSpec.ofChange removeOnceWrong)

/-- 'leapfroglaw16.RemoveNobody': WHATEVER THE INPUT: true; the input reads as it did. -/
def removeNobodySpec : ChangeSpec := { name := "removeNobody", fn := fun _ => fun
  | [d] => { results := [.lit (.bool true)], args := [d] }
  | _ => none }
def removeNobodyRow : OpenClaim := { program := "ytdppefkjoeefnaa", sum := "a202f3f12476c94b1c05a56c301c47f4e05b82d530dc5687a867b3d5bf03e504", func := "leapfrog/leapfroglaw16.RemoveNobody", spec := "removeNobody", unfollowed := true, recurses := true, plainKeys := false, apart := false }
def RemoveNobodySaid : Prop := removeNobodyRow.holds Try.pinned (OpenSpec.ofChange removeNobodySpec)

/-- ITS FALSE NEIGHBOUR: 'it returns false'. Refute it at one input. -/
def removeNobodyWrong : ChangeSpec := { name := "removeNobody", fn := fun _ => fun
  | [d] => { results := [.lit (.bool false)], args := [d] }
  | _ => none }
def RemoveNobodyWrongFalsely : Prop := removeNobodyRow.holds Try.pinned (OpenSpec.ofChange removeNobodyWrong)

/- THE SECOND FORM. 'bulk': how many values and letters a reading holds, each counted each time it is reached (what is shared counts as often as it is met; a slice's spare places count too). A statement '..UptoSaid' is the law's where the arguments, and the package variables that the reading takes, are together of bulk at most 1048576: NARROWER than '..Said'. Prove '..Said' where nothing that the law and all that it calls make is longer than what came in: it says more and counts as full. Else prove '..UptoSaid'. A law counts once. -/
mutual
def uptoBulk {H : Type} : DataW H → Nat
  | .lit (.string bytes) => bytes.length + 1
  | .lit _ => 1
  | .nil => 1
  | .ptr d => uptoBulk d + 1
  | .slice elems spare => uptoBulkAll elems + uptoBulkAll spare + 1
  | .agg parts => uptoBulkAll parts + 1
  | .iface _ d => uptoBulk d + 1
  | .map entries => uptoBulkEntries entries + 1
  | .held _ => 1
def uptoBulkAll {H : Type} : List (DataW H) → Nat
  | [] => 0
  | d :: r => uptoBulk d + uptoBulkAll r
def uptoBulkEntries {H : Type} : List (Lit × DataW H) → Nat
  | [] => 0
  | x :: r => uptoBulkEntry x + uptoBulkEntries r
def uptoBulkEntry {H : Type} : Lit × DataW H → Nat
  | (.string bytes, d) => bytes.length + uptoBulk d + 1
  | (_, d) => uptoBulk d + 1
 end
def uptoSmall : (H : Type) → List (DataW H) → Bool := fun _ ds => decide (uptoBulkAll ds ≤ 1048576)
def OpenSpec.upto (s : _root_.Go.ChangeSpec) : _root_.Go.OpenSpec := { _root_.Go.OpenSpec.ofChange s with cond := some uptoSmall }

/-- 'leapfroglaw16.RemoveRuns', WHERE WHAT IT READS IS OF BULK AT MOST 1048576: true; the input reads as it did. -/
def removeRunsUptoRow : OpenClaim := { program := "ytdppefkjoeefnaa", sum := "a202f3f12476c94b1c05a56c301c47f4e05b82d530dc5687a867b3d5bf03e504", func := "leapfrog/leapfroglaw16.RemoveRuns", spec := "removeRuns", unfollowed := true, recurses := true, plainKeys := false, apart := false, narrowed := true }
def RemoveRunsUptoSaid : Prop := removeRunsUptoRow.holds Try.pinned (OpenSpec.upto removeRunsSpec)

/-- 'leapfroglaw16.RemoveOnce', WHERE WHAT IT READS IS OF BULK AT MOST 1048576: true; the input reads as it did. -/
def removeOnceUptoRow : OpenClaim := { program := "ytdppefkjoeefnaa", sum := "a202f3f12476c94b1c05a56c301c47f4e05b82d530dc5687a867b3d5bf03e504", func := "leapfrog/leapfroglaw16.RemoveOnce", spec := "removeOnce", unfollowed := true, recurses := true, plainKeys := false, apart := false, narrowed := true }
def RemoveOnceUptoSaid : Prop := removeOnceUptoRow.holds Try.pinned (OpenSpec.upto removeOnceSpec)

/-- 'leapfroglaw16.RemoveNobody', WHERE WHAT IT READS IS OF BULK AT MOST 1048576: true; the input reads as it did. -/
def removeNobodyUptoRow : OpenClaim := { program := "ytdppefkjoeefnaa", sum := "a202f3f12476c94b1c05a56c301c47f4e05b82d530dc5687a867b3d5bf03e504", func := "leapfrog/leapfroglaw16.RemoveNobody", spec := "removeNobody", unfollowed := true, recurses := true, plainKeys := false, apart := false, narrowed := true }
def RemoveNobodyUptoSaid : Prop := removeNobodyUptoRow.holds Try.pinned (OpenSpec.upto removeNobodySpec)

end Rows
end Go.Proofs.Ytdppefkjoeefnaa
