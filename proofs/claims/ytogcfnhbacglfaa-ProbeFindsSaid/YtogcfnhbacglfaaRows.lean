/-
  No cell of these rows narrows 'for every input' (looked for: loops, veiled, ifaces, maps, wideKeys, modest, calm, conditions, laid).
  DERIVED. THE GIVEN ROWS OF THIS SEAT. 4 by the template 'for every input the law returns true; each argument reads behind the call as it read before'; 0 by the template 'total and deterministic' (their statements: YtogcfnhbacglfaaTotals.lean).
  GIVEN WITH THE SEED: the statements are not yours to turn. If you find one false, say at which input.
  Laid BY PROGRAM, IN A SANDBOX (cutbox-rows.mjs): the forced cells as the released guide's own fill.sh prints them over the translation 0728f73ab11b8eec… (all of the seat's roots in one cut). By AI agents, Wed Nov 11 2026. No macro, syntax, notation, axiom, sorry.
-/
import Derived.Test.YtogcfnhbacglfaaChecked
import GoSem.Claim
import GoSem.ClaimJoined
import GoSem.ClaimMapViews
import Derived.JoinedTies
import Derived.KernelRfl
namespace Go.Proofs.Ytogcfnhbacglfaa
/- THE CELL 'sum', in the pinned program and in every row, IS THE sha256 OF THE DUMP (.gsa) THAT YtogcfnhbacglfaaProg.lean LOADS. Nothing in Lean hashes anything: it is a label: what it is worth is what the hold of that sum in a sandbox is worth. -/
noncomputable def Try.pinned : Pinned := { name := "ytogcfnhbacglfaa", sum := "0728f73ab11b8eec49978c596bfe2de02af39fca5640cee3645c35f8ea6de111", checked := Try.checked }
namespace Rows
def none {H : Type} : Left H := { results := [], args := [] }

/-- 'leapfroglaw19.ProbeMany': WHATEVER THE INPUT: true; the input reads as it did. -/
def probeManySpec : ChangeSpec := { name := "probeMany", fn := fun _ => fun
  | [d] => { results := [.lit (.bool true)], args := [d] }
  | _ => none }
def probeManyRow : OpenClaim := { program := "ytogcfnhbacglfaa", sum := "0728f73ab11b8eec49978c596bfe2de02af39fca5640cee3645c35f8ea6de111", func := "leapfrog/leapfroglaw19.ProbeMany", spec := "probeMany", unfollowed := true, recurses := true, apart := false }
def ProbeManySaid : Prop := probeManyRow.holds Try.pinned (OpenSpec.ofChange probeManySpec)

/-- ITS FALSE NEIGHBOUR: 'it returns false'. Refute it at one input. -/
def probeManyWrong : ChangeSpec := { name := "probeMany", fn := fun _ => fun
  | [d] => { results := [.lit (.bool false)], args := [d] }
  | _ => none }
def ProbeManyWrongFalsely : Prop := probeManyRow.holds Try.pinned (OpenSpec.ofChange probeManyWrong)

/-- 'leapfroglaw19.ProbeFinds': WHATEVER THE INPUT: true; the input reads as it did. -/
def probeFindsSpec : ChangeSpec := { name := "probeFinds", fn := fun _ => fun
  | [d1, d2, d3, d4, d5, d6] => { results := [.lit (.bool true)], args := [d1, d2, d3, d4, d5, d6] }
  | _ => none }
def probeFindsRow : OpenClaim := { program := "ytogcfnhbacglfaa", sum := "0728f73ab11b8eec49978c596bfe2de02af39fca5640cee3645c35f8ea6de111", func := "leapfrog/leapfroglaw19.ProbeFinds", spec := "probeFinds", unfollowed := true, recurses := true, apart := false }
def ProbeFindsSaid : Prop := probeFindsRow.holds Try.pinned (OpenSpec.ofChange probeFindsSpec)

/-- ITS FALSE NEIGHBOUR: 'it returns false'. Refute it at one input. -/
def probeFindsWrong : ChangeSpec := { name := "probeFinds", fn := fun _ => fun
  | [d1, d2, d3, d4, d5, d6] => { results := [.lit (.bool false)], args := [d1, d2, d3, d4, d5, d6] }
  | _ => none }
def ProbeFindsWrongFalsely : Prop := probeFindsRow.holds Try.pinned (OpenSpec.ofChange probeFindsWrong)

/-- 'leapfroglaw19.ProbeRuns': WHATEVER THE INPUT: true; the input reads as it did. -/
def probeRunsSpec : ChangeSpec := { name := "probeRuns", fn := fun _ => fun
  | [d1, d2] => { results := [.lit (.bool true)], args := [d1, d2] }
  | _ => none }
def probeRunsRow : OpenClaim := { program := "ytogcfnhbacglfaa", sum := "0728f73ab11b8eec49978c596bfe2de02af39fca5640cee3645c35f8ea6de111", func := "leapfrog/leapfroglaw19.ProbeRuns", spec := "probeRuns", unfollowed := true, recurses := true, apart := false }
def ProbeRunsSaid : Prop := probeRunsRow.holds Try.pinned (OpenSpec.ofChange probeRunsSpec)

/-- ITS FALSE NEIGHBOUR: 'it returns false'. Refute it at one input. -/
def probeRunsWrong : ChangeSpec := { name := "probeRuns", fn := fun _ => fun
  | [d1, d2] => { results := [.lit (.bool false)], args := [d1, d2] }
  | _ => none }
def ProbeRunsWrongFalsely : Prop := probeRunsRow.holds Try.pinned (OpenSpec.ofChange probeRunsWrong)

/-- 'leapfroglaw19.ProbeNobody': WHATEVER THE INPUT: true; the input reads as it did. -/
def probeNobodySpec : ChangeSpec := { name := "probeNobody", fn := fun _ => fun
  | [d] => { results := [.lit (.bool true)], args := [d] }
  | _ => none }
def probeNobodyRow : OpenClaim := { program := "ytogcfnhbacglfaa", sum := "0728f73ab11b8eec49978c596bfe2de02af39fca5640cee3645c35f8ea6de111", func := "leapfrog/leapfroglaw19.ProbeNobody", spec := "probeNobody", unfollowed := true, recurses := true, apart := false }
def ProbeNobodySaid : Prop := probeNobodyRow.holds Try.pinned (OpenSpec.ofChange probeNobodySpec)

/-- ITS FALSE NEIGHBOUR: 'it returns false'. Refute it at one input. -/
def probeNobodyWrong : ChangeSpec := { name := "probeNobody", fn := fun _ => fun
  | [d] => { results := [.lit (.bool false)], args := [d] }
  | _ => none }
def ProbeNobodyWrongFalsely : Prop := probeNobodyRow.holds Try.pinned (OpenSpec.ofChange probeNobodyWrong)

/- THE SECOND FORM. 'bulk': how many values and letters a reading holds, each counted each time it is reached (what is shared counts as often as it is met; a slice's spare places count too). A statement '..UptoSaid' is the law's where the arguments, and the package variables that the reading takes, are together of bulk at most 1048576: NARROWER than '..Said'. Prove '..Said' where nothing that the law and all that it calls make is longer than what came in: it says more and counts as full. Else prove '..UptoSaid'. A law counts once. -/
mutual
def uptoBulk {H : Type} : DataW H → Nat
  | .lit (.string bytes) => bytes.length + 1
  | .lit _ => 1
  | .nil => 1
  | .ptr d => uptoBulk d + 1
  | .slice elems spare => uptoBulkAll elems + uptoBulkAll spare + 1
  | .agg parts => uptoBulkAll parts + 1
  | .iface _ d => uptoBulk d + 1
  | .map entries => uptoBulkEntries entries + 1
  | .held _ => 1
def uptoBulkAll {H : Type} : List (DataW H) → Nat
  | [] => 0
  | d :: r => uptoBulk d + uptoBulkAll r
def uptoBulkEntries {H : Type} : List (Lit × DataW H) → Nat
  | [] => 0
  | x :: r => uptoBulkEntry x + uptoBulkEntries r
def uptoBulkEntry {H : Type} : Lit × DataW H → Nat
  | (.string bytes, d) => bytes.length + uptoBulk d + 1
  | (_, d) => uptoBulk d + 1
 end
def uptoSmall : (H : Type) → List (DataW H) → Bool := fun _ ds => decide (uptoBulkAll ds ≤ 1048576)
def OpenSpec.upto (s : _root_.Go.ChangeSpec) : _root_.Go.OpenSpec := { _root_.Go.OpenSpec.ofChange s with cond := some uptoSmall }

/-- 'leapfroglaw19.ProbeMany', WHERE WHAT IT READS IS OF BULK AT MOST 1048576: true; the input reads as it did. -/
def probeManyUptoRow : OpenClaim := { program := "ytogcfnhbacglfaa", sum := "0728f73ab11b8eec49978c596bfe2de02af39fca5640cee3645c35f8ea6de111", func := "leapfrog/leapfroglaw19.ProbeMany", spec := "probeMany", unfollowed := true, recurses := true, apart := false, narrowed := true }
def ProbeManyUptoSaid : Prop := probeManyUptoRow.holds Try.pinned (OpenSpec.upto probeManySpec)

/-- 'leapfroglaw19.ProbeFinds', WHERE WHAT IT READS IS OF BULK AT MOST 1048576: true; the input reads as it did. -/
def probeFindsUptoRow : OpenClaim := { program := "ytogcfnhbacglfaa", sum := "0728f73ab11b8eec49978c596bfe2de02af39fca5640cee3645c35f8ea6de111", func := "leapfrog/leapfroglaw19.ProbeFinds", spec := "probeFinds", unfollowed := true, recurses := true, apart := false, narrowed := true }
def ProbeFindsUptoSaid : Prop := probeFindsUptoRow.holds Try.pinned (OpenSpec.upto probeFindsSpec)

/-- 'leapfroglaw19.ProbeRuns', WHERE WHAT IT READS IS OF BULK AT MOST 1048576: true; the input reads as it did. -/
def probeRunsUptoRow : OpenClaim := { program := "ytogcfnhbacglfaa", sum := "0728f73ab11b8eec49978c596bfe2de02af39fca5640cee3645c35f8ea6de111", func := "leapfrog/leapfroglaw19.ProbeRuns", spec := "probeRuns", unfollowed := true, recurses := true, apart := false, narrowed := true }
def ProbeRunsUptoSaid : Prop := probeRunsUptoRow.holds Try.pinned (OpenSpec.upto probeRunsSpec)

/-- 'leapfroglaw19.ProbeNobody', WHERE WHAT IT READS IS OF BULK AT MOST 1048576: true; the input reads as it did. -/
def probeNobodyUptoRow : OpenClaim := { program := "ytogcfnhbacglfaa", sum := "0728f73ab11b8eec49978c596bfe2de02af39fca5640cee3645c35f8ea6de111", func := "leapfrog/leapfroglaw19.ProbeNobody", spec := "probeNobody", unfollowed := true, recurses := true, apart := false, narrowed := true }
def ProbeNobodyUptoSaid : Prop := probeNobodyUptoRow.holds Try.pinned (OpenSpec.upto probeNobodySpec)

end Rows
end Go.Proofs.Ytogcfnhbacglfaa
