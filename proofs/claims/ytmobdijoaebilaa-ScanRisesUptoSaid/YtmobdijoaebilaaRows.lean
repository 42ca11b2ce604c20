/-
  No cell of these rows narrows 'for every input' (looked for: loops, veiled, ifaces, maps, wideKeys, modest, calm, conditions, laid).
  DERIVED. THE GIVEN ROWS OF THIS SEAT. 4 by the template 'for every input the law returns true; each argument reads behind the call as it read before'; 0 by the template 'total and deterministic' (their statements: YtmobdijoaebilaaTotals.lean).
  GIVEN WITH THE SEED: the statements are not yours to turn. If you find one false, say at which input.
  Laid BY PROGRAM, IN A SANDBOX (cutbox-rows.mjs): the forced cells as the released guide's own fill.sh prints them over the translation e3ff4eef7810988c… (all of the seat's roots in one cut). By AI agents, Wed Nov 11 2026. No macro, syntax, notation, axiom, sorry.
-/
import Derived.Test.YtmobdijoaebilaaChecked
import GoSem.Claim
import GoSem.ClaimJoined
import GoSem.ClaimMapViews
import Derived.JoinedTies
import Derived.KernelRfl
namespace Go.Proofs.Ytmobdijoaebilaa
/- THE CELL 'sum', in the pinned program and in every row, IS THE sha256 OF THE DUMP (.gsa) THAT YtmobdijoaebilaaProg.lean LOADS. Nothing in Lean hashes anything: it is a label: what it is worth is what the hold of that sum in a sandbox is worth. -/
noncomputable def Try.pinned : Pinned := { name := "ytmobdijoaebilaa", sum := "e3ff4eef7810988c0e3bfb8a14ec247e9ee78878a08918bcb32705e15eab56b3", checked := Try.checked }
namespace Rows
def none {H : Type} : Left H := { results := [], args := [] }

/-- 'leapfroglaw18.ScanLarge': WHATEVER THE INPUT: true; the input reads as it did. -/
def scanLargeSpec : ChangeSpec := { name := "scanLarge", fn := fun _ => fun
  | [d] => { results := [.lit (.bool true)], args := [d] }
  | _ => none }
def scanLargeRow : OpenClaim := { program := "ytmobdijoaebilaa", sum := "e3ff4eef7810988c0e3bfb8a14ec247e9ee78878a08918bcb32705e15eab56b3", func := "leapfrog/leapfroglaw18.ScanLarge", spec := "scanLarge", unfollowed := true, recurses := true, plainKeys := false, apart := false }
def ScanLargeSaid : Prop := scanLargeRow.holds Try.pinned (OpenSpec.ofChange scanLargeSpec)

/-- ITS FALSE NEIGHBOUR: 'it returns false'. Refute it at one input. -/
def scanLargeWrong : ChangeSpec := { name := "scanLarge", fn := fun _ => fun
  | [d] => { results := [.lit (.bool false)], args := [d] }
  | _ => none }
def ScanLargeWrongFalsely : Prop := scanLargeRow.holds Try.pinned (OpenSpec.ofChange scanLargeWrong)

/-- 'leapfroglaw18.ScanRises': WHATEVER THE INPUT: true; the input reads as it did. -/
def scanRisesSpec : ChangeSpec := { name := "scanRises", fn := fun _ => fun
  | [d1, d2] => { results := [.lit (.bool true)], args := [d1, d2] }
  | _ => none }
def scanRisesRow : OpenClaim := { program := "ytmobdijoaebilaa", sum := "e3ff4eef7810988c0e3bfb8a14ec247e9ee78878a08918bcb32705e15eab56b3", func := "leapfrog/leapfroglaw18.ScanRises", spec := "scanRises", unfollowed := true, recurses := true, plainKeys := false, apart := false }
def ScanRisesSaid : Prop := scanRisesRow.holds Try.pinned (OpenSpec.ofChange scanRisesSpec)

/-- ITS FALSE NEIGHBOUR: 'it returns false'. Refute it at one input. -/
def scanRisesWrong : ChangeSpec := { name := "scanRises", fn := fun _ => fun
  | [d1, d2] => { results := [.lit (.bool false)], args := [d1, d2] }
  | _ => none }
def ScanRisesWrongFalsely : Prop := scanRisesRow.holds Try.pinned (OpenSpec.ofChange scanRisesWrong)

/-- 'leapfroglaw18.ScanRuns': WHATEVER THE INPUT: true; the input reads as it did. -/
def scanRunsSpec : ChangeSpec := { name := "scanRuns", fn := fun _ => fun
  | [d1, d2, d3] => { results := [.lit (.bool true)], args := [d1, d2, d3] }
  | _ => none }
def scanRunsRow : OpenClaim := { program := "ytmobdijoaebilaa", sum := "e3ff4eef7810988c0e3bfb8a14ec247e9ee78878a08918bcb32705e15eab56b3", func := "leapfrog/leapfroglaw18.ScanRuns", spec := "scanRuns", unfollowed := true, recurses := true, plainKeys := false, apart := false }
def ScanRunsSaid : Prop := scanRunsRow.holds Try.pinned (OpenSpec.ofChange scanRunsSpec)

/-- ITS FALSE NEIGHBOUR: 'it returns false'. Refute it at one input. -/
def scanRunsWrong : ChangeSpec := { name := "scanRuns", fn := fun _ => fun
  | [d1, d2, d3] => { results := [.lit (.bool false)], args := [d1, d2, d3] }
  | _ => none }
def ScanRunsWrongFalsely : Prop := scanRunsRow.holds Try.pinned (OpenSpec.ofChange scanRunsWrong)

/-- 'leapfroglaw18.ScanNobody': WHATEVER THE INPUT: true; the input reads as it did. -/
def scanNobodySpec : ChangeSpec := { name := "scanNobody", fn := fun _ => fun
  | [d] => { results := [.lit (.bool true)], args := [d] }
  | _ => none }
def scanNobodyRow : OpenClaim := { program := "ytmobdijoaebilaa", sum := "e3ff4eef7810988c0e3bfb8a14ec247e9ee78878a08918bcb32705e15eab56b3", func := "leapfrog/leapfroglaw18.ScanNobody", spec := "scanNobody", unfollowed := true, recurses := true, plainKeys := false, apart := false }
def ScanNobodySaid : Prop := scanNobodyRow.holds Try.pinned (OpenSpec.ofChange scanNobodySpec)

/-- ITS FALSE NEIGHBOUR: 'it returns false'. Refute it at one input. -/
def scanNobodyWrong : ChangeSpec := { name := "scanNobody", fn := fun _ => fun
  | [d] => { results := [.lit (.bool false)], args := [d] }
  | _ => none }
def ScanNobodyWrongFalsely : Prop := scanNobodyRow.holds Try.pinned (OpenSpec.ofChange scanNobodyWrong)

/- THE SECOND FORM. 'bulk': how many values and letters a reading holds, each counted each time it is reached (what is shared counts as often as it is met; a slice's spare places count too). A statement '..UptoSaid' is the law's where the arguments, and the package variables that the reading takes, are together of bulk at most 1048576: NARROWER than '..Said'. Prove '..Said' where nothing that the law and all that it calls make is longer than what came in: it says more and counts as full. Else prove '..UptoSaid'. A law counts once. -/
mutual
def uptoBulk {H : Type} : DataW H → Nat
  | .lit (.string bytes) => bytes.length + 1
  | .lit _ => 1
  | .nil => 1
  | .ptr d => uptoBulk d + 1
  | .slice elems spare => uptoBulkAll elems + uptoBulkAll spare + 1
  | .agg parts => uptoBulkAll parts + 1
  | .iface _ d => uptoBulk d + 1
  | .map entries => uptoBulkEntries entries + 1
  | .held _ => 1
def uptoBulkAll {H : Type} : List (DataW H) → Nat
  | [] => 0
  | d :: r => uptoBulk d + uptoBulkAll r
def uptoBulkEntries {H : Type} : List (Lit × DataW H) → Nat
  | [] => 0
  | x :: r => uptoBulkEntry x + uptoBulkEntries r
def uptoBulkEntry {H : Type} : Lit × DataW H → Nat
  | (.string bytes, d) => bytes.length + uptoBulk d + 1
  | (_, d) => uptoBulk d + 1
 end
def uptoSmall : (H : Type) → List (DataW H) → Bool := fun _ ds => decide (uptoBulkAll ds ≤ 1048576)
def OpenSpec.upto (s : _root_.Go.ChangeSpec) : _root_.Go.OpenSpec := { _root_.Go.OpenSpec.ofChange s with cond := some uptoSmall }

/-- 'leapfroglaw18.ScanLarge', WHERE WHAT IT READS IS OF BULK AT MOST 1048576: true; the input reads as it did. -/
def scanLargeUptoRow : OpenClaim := { program := "ytmobdijoaebilaa", sum := "e3ff4eef7810988c0e3bfb8a14ec247e9ee78878a08918bcb32705e15eab56b3", func := "leapfrog/leapfroglaw18.ScanLarge", spec := "scanLarge", unfollowed := true, recurses := true, plainKeys := false, apart := false, narrowed := true }
def ScanLargeUptoSaid : Prop := scanLargeUptoRow.holds Try.pinned (OpenSpec.upto scanLargeSpec)

/-- 'leapfroglaw18.ScanRises', WHERE WHAT IT READS IS OF BULK AT MOST 1048576: true; the input reads as it did. -/
def scanRisesUptoRow : OpenClaim := { program := "ytmobdijoaebilaa", sum := "e3ff4eef7810988c0e3bfb8a14ec247e9ee78878a08918bcb32705e15eab56b3", func := "leapfrog/leapfroglaw18.ScanRises", spec := "scanRises", unfollowed := true, recurses := true, plainKeys := false, apart := false, narrowed := true }
def ScanRisesUptoSaid : Prop := scanRisesUptoRow.holds Try.pinned (OpenSpec.upto scanRisesSpec)

/-- 'leapfroglaw18.ScanRuns', WHERE WHAT IT READS IS OF BULK AT MOST 1048576: true; the input reads as it did. -/
def scanRunsUptoRow : OpenClaim := { program := "ytmobdijoaebilaa", sum := "e3ff4eef7810988c0e3bfb8a14ec247e9ee78878a08918bcb32705e15eab56b3", func := "leapfrog/leapfroglaw18.ScanRuns", spec := "scanRuns", unfollowed := true, recurses := true, plainKeys := false, apart := false, narrowed := true }
def ScanRunsUptoSaid : Prop := scanRunsUptoRow.holds Try.pinned (OpenSpec.upto scanRunsSpec)

/-- 'leapfroglaw18.ScanNobody', WHERE WHAT IT READS IS OF BULK AT MOST 1048576: true; the input reads as it did. -/
def scanNobodyUptoRow : OpenClaim := { program := "ytmobdijoaebilaa", sum := "e3ff4eef7810988c0e3bfb8a14ec247e9ee78878a08918bcb32705e15eab56b3", func := "leapfrog/leapfroglaw18.ScanNobody", spec := "scanNobody", unfollowed := true, recurses := true, plainKeys := false, apart := false, narrowed := true }
def ScanNobodyUptoSaid : Prop := scanNobodyUptoRow.holds Try.pinned (OpenSpec.upto scanNobodySpec)

end Rows
end Go.Proofs.Ytmobdijoaebilaa
