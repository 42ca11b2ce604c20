/-
  No cell of these rows narrows 'for every input' (looked for: loops, veiled, ifaces, maps, wideKeys, modest, calm, conditions, laid).
  DERIVED. THE GIVEN ROWS OF THIS SEAT. 5 by the template 'for every input the law returns true; each argument reads behind the call as it read before'; 0 by the template 'total and deterministic' (their statements: YteiagjbjokldgaaTotals.lean).
  GIVEN WITH THE SEED: the statements are not yours to turn. If you find one false, say at which input.
  Laid BY PROGRAM, IN A SANDBOX (cutbox-rows.mjs): the forced cells as the released guide's own fill.sh prints them over the translation 496122a9aa3a3556… (all of the seat's roots in one cut). By AI agents, Wed Nov 11 2026. No macro, syntax, notation, axiom, sorry.
-/
import Derived.Test.YteiagjbjokldgaaChecked
import GoSem.Claim
import GoSem.ClaimJoined
import GoSem.ClaimMapViews
import Derived.JoinedTies
import Derived.KernelRfl
namespace Go.Proofs.Yteiagjbjokldgaa
/- THE CELL 'sum', in the pinned program and in every row, IS THE sha256 OF THE DUMP (.gsa) THAT YteiagjbjokldgaaProg.lean LOADS. Nothing in Lean hashes anything: it is a label: what it is worth is what the hold of that sum in a sandbox is worth. -/
noncomputable def Try.pinned : Pinned := { name := "yteiagjbjokldgaa", sum := "496122a9aa3a355698bc3dcc1d0d09c141bc72e652b139d147c696c755f489cd", checked := Try.checked }
namespace Rows
def none {H : Type} : Left H := { results := [], args := [] }

/-- 'leapfroglaw13.SpliceIn': WHATEVER THE INPUT: true; the input reads as it did. -/
def spliceInSpec : ChangeSpec := { name := "spliceIn", fn := fun _ => fun
  | [d1, d2, d3, d4, d5] => { results := [.lit (.bool true)], args := [d1, d2, d3, d4, d5] }
  | _ => none }
def spliceInRow : OpenClaim := { program := "yteiagjbjokldgaa", sum := "496122a9aa3a355698bc3dcc1d0d09c141bc72e652b139d147c696c755f489cd", func := "leapfrog/leapfroglaw13.SpliceIn", spec := "spliceIn", unfollowed := true, recurses := true, apart := false }
def SpliceInSaid : Prop := spliceInRow.holds Try.pinned (OpenSpec.ofChange spliceInSpec)

/-- ITS FALSE NEIGHBOUR: 'it returns false'. Refute it at one input. -/
def spliceInWrong : ChangeSpec := { name := "spliceIn", fn := fun _ => fun
  | [d1, d2, d3, d4, d5] => { results := [.lit (.bool false)], args := [d1, d2, d3, d4, d5] }
  | _ => none }
def SpliceInWrongFalsely : Prop := spliceInRow.holds Try.pinned (OpenSpec.ofChange spliceInWrong)

/-- 'leapfroglaw13.SpliceRuns': WHATEVER THE INPUT: true; the input reads as it did. -/
def spliceRunsSpec : ChangeSpec := { name := "spliceRuns", fn := fun _ => fun
  | [d1, d2] => { results := [.lit (.bool true)], args := [d1, d2] }
  | _ => none }
def spliceRunsRow : OpenClaim := { program := "yteiagjbjokldgaa", sum := "496122a9aa3a355698bc3dcc1d0d09c141bc72e652b139d147c696c755f489cd", func := "leapfrog/leapfroglaw13.SpliceRuns", spec := "spliceRuns", unfollowed := true, recurses := true, apart := false }
def SpliceRunsSaid : Prop := spliceRunsRow.holds Try.pinned (OpenSpec.ofChange spliceRunsSpec)

/-- ITS FALSE NEIGHBOUR: 'it returns false'. Refute it at one input. -/
def spliceRunsWrong : ChangeSpec := { name := "spliceRuns", fn := fun _ => fun
  | [d1, d2] => { results := [.lit (.bool false)], args := [d1, d2] }
  | _ => none }
def SpliceRunsWrongFalsely : Prop := spliceRunsRow.holds Try.pinned (OpenSpec.ofChange spliceRunsWrong)

/-- 'leapfroglaw13.SpliceFrees': WHATEVER THE INPUT: true; the input reads as it did. -/
def spliceFreesSpec : ChangeSpec := { name := "spliceFrees", fn := fun _ => fun
  | [d1, d2] => { results := [.lit (.bool true)], args := [d1, d2] }
  | _ => none }
def spliceFreesRow : OpenClaim := { program := "yteiagjbjokldgaa", sum := "496122a9aa3a355698bc3dcc1d0d09c141bc72e652b139d147c696c755f489cd", func := "leapfrog/leapfroglaw13.SpliceFrees", spec := "spliceFrees", unfollowed := true, recurses := true, apart := false }
def SpliceFreesSaid : Prop := spliceFreesRow.holds Try.pinned (OpenSpec.ofChange spliceFreesSpec)

/-- ITS FALSE NEIGHBOUR: 'it returns false'. Refute it at one input. -/
def spliceFreesWrong : ChangeSpec := { name := "spliceFrees", fn := fun _ => fun
  | [d1, d2] => { results := [.lit (.bool false)], args := [d1, d2] }
  | _ => none }
def SpliceFreesWrongFalsely : Prop := spliceFreesRow.holds Try.pinned (OpenSpec.ofChange spliceFreesWrong)

/-- 'leapfroglaw13.SpliceRises': WHATEVER THE INPUT: true; the input reads as it did. -/
def spliceRisesSpec : ChangeSpec := { name := "spliceRises", fn := fun _ => fun
  | [d1, d2] => { results := [.lit (.bool true)], args := [d1, d2] }
  | _ => none }
def spliceRisesRow : OpenClaim := { program := "yteiagjbjokldgaa", sum := "496122a9aa3a355698bc3dcc1d0d09c141bc72e652b139d147c696c755f489cd", func := "leapfrog/leapfroglaw13.SpliceRises", spec := "spliceRises", unfollowed := true, recurses := true, apart := false }
def SpliceRisesSaid : Prop := spliceRisesRow.holds Try.pinned (OpenSpec.ofChange spliceRisesSpec)

/-- ITS FALSE NEIGHBOUR: 'it returns false'. Refute it at one input. -/
def spliceRisesWrong : ChangeSpec := { name := "spliceRises", fn := fun _ => fun
  | [d1, d2] => { results := [.lit (.bool false)], args := [d1, d2] }
  | _ => none }
def SpliceRisesWrongFalsely : Prop := spliceRisesRow.holds Try.pinned (OpenSpec.ofChange spliceRisesWrong)

/-- 'leapfroglaw13.SpliceNobody': WHATEVER THE INPUT: true; the input reads as it did. -/
def spliceNobodySpec : ChangeSpec := { name := "spliceNobody", fn := fun _ => fun
  | [d] => { results := [.lit (.bool true)], args := [d] }
  | _ => none }
def spliceNobodyRow : OpenClaim := { program := "yteiagjbjokldgaa", sum := "496122a9aa3a355698bc3dcc1d0d09c141bc72e652b139d147c696c755f489cd", func := "leapfrog/leapfroglaw13.SpliceNobody", spec := "spliceNobody", unfollowed := true, recurses := true, apart := false }
def SpliceNobodySaid : Prop := spliceNobodyRow.holds Try.pinned (OpenSpec.ofChange spliceNobodySpec)

/-- ITS FALSE NEIGHBOUR: 'it returns false'. Refute it at one input. -/
def spliceNobodyWrong : ChangeSpec := { name := "spliceNobody", fn := fun _ => fun
  | [d] => { results := [.lit (.bool false)], args := [d] }
  | _ => none }
def SpliceNobodyWrongFalsely : Prop := spliceNobodyRow.holds Try.pinned (OpenSpec.ofChange spliceNobodyWrong)

/- THE SECOND FORM. 'bulk': how many values and letters a reading holds, each counted each time it is reached (what is shared counts as often as it is met; a slice's spare places count too). A statement '..UptoSaid' is the law's where the arguments, and the package variables that the reading takes, are together of bulk at most 1048576: NARROWER than '..Said'. Prove '..Said' where nothing that the law and all that it calls make is longer than what came in: it says more and counts as full. Else prove '..UptoSaid'. A law counts once. -/
mutual
def uptoBulk {H : Type} : DataW H → Nat
  | .lit (.string bytes) => bytes.length + 1
  | .lit _ => 1
  | .nil => 1
  | .ptr d => uptoBulk d + 1
  | .slice elems spare => uptoBulkAll elems + uptoBulkAll spare + 1
  | .agg parts => uptoBulkAll parts + 1
  | .iface _ d => uptoBulk d + 1
  | .map entries => uptoBulkEntries entries + 1
  | .held _ => 1
def uptoBulkAll {H : Type} : List (DataW H) → Nat
  | [] => 0
  | d :: r => uptoBulk d + uptoBulkAll r
def uptoBulkEntries {H : Type} : List (Lit × DataW H) → Nat
  | [] => 0
  | x :: r => uptoBulkEntry x + uptoBulkEntries r
def uptoBulkEntry {H : Type} : Lit × DataW H → Nat
  | (.string bytes, d) => bytes.length + uptoBulk d + 1
  | (_, d) => uptoBulk d + 1
 end
def uptoSmall : (H : Type) → List (DataW H) → Bool := fun _ ds => decide (uptoBulkAll ds ≤ 1048576)
def OpenSpec.upto (s : _root_.Go.ChangeSpec) : _root_.Go.OpenSpec := { _root_.Go.OpenSpec.ofChange s with cond := some uptoSmall }

/-- 'leapfroglaw13.SpliceIn', WHERE WHAT IT READS IS OF BULK AT MOST 1048576: true; the input reads as it did. -/
def spliceInUptoRow : OpenClaim := { program := "yteiagjbjokldgaa", sum := "496122a9aa3a355698bc3dcc1d0d09c141bc72e652b139d147c696c755f489cd", func := "leapfrog/leapfroglaw13.SpliceIn", spec := "spliceIn", unfollowed := true, recurses := true, apart := false, narrowed := true }
def SpliceInUptoSaid : Prop := spliceInUptoRow.holds Try.pinned (OpenSpec.upto spliceInSpec)

/-- 'leapfroglaw13.SpliceRuns', WHERE WHAT IT READS IS OF BULK AT MOST 1048576: true; the input reads as it did. -/
def spliceRunsUptoRow : OpenClaim := { program := "yteiagjbjokldgaa", sum := "496122a9aa3a355698bc3dcc1d0d09c141bc72e652b139d147c696c755f489cd", func := "leapfrog/leapfroglaw13.SpliceRuns", spec := "spliceRuns", unfollowed := true, recurses := true, apart := false, narrowed := true }
def SpliceRunsUptoSaid : Prop := spliceRunsUptoRow.holds Try.pinned (OpenSpec.upto spliceRunsSpec)

/-- 'leapfroglaw13.SpliceFrees', WHERE WHAT IT READS IS OF BULK AT MOST 1048576: true; the input reads as it did. -/
def spliceFreesUptoRow : OpenClaim := { program := "yteiagjbjokldgaa", sum := "496122a9aa3a355698bc3dcc1d0d09c141bc72e652b139d147c696c755f489cd", func := "leapfrog/leapfroglaw13.SpliceFrees", spec := "spliceFrees", unfollowed := true, recurses := true, apart := false, narrowed := true }
def SpliceFreesUptoSaid : Prop := spliceFreesUptoRow.holds Try.pinned (OpenSpec.upto spliceFreesSpec)

/-- 'leapfroglaw13.SpliceRises', WHERE WHAT IT READS IS OF BULK AT MOST 1048576: true; the input reads as it did. -/
def spliceRisesUptoRow : OpenClaim := { program := "yteiagjbjokldgaa", sum := "496122a9aa3a355698bc3dcc1d0d09c141bc72e652b139d147c696c755f489cd", func := "leapfrog/leapfroglaw13.SpliceRises", spec := "spliceRises", unfollowed := true, recurses := true, apart := false, narrowed := true }
def SpliceRisesUptoSaid : Prop := spliceRisesUptoRow.holds Try.pinned (OpenSpec.upto spliceRisesSpec)

/-- 'leapfroglaw13.SpliceNobody', WHERE WHAT IT READS IS OF BULK AT MOST 1048576: true; the input reads as it did. -/
def spliceNobodyUptoRow : OpenClaim := { program := "yteiagjbjokldgaa", sum := "496122a9aa3a355698bc3dcc1d0d09c141bc72e652b139d147c696c755f489cd", func := "leapfrog/leapfroglaw13.SpliceNobody", spec := "spliceNobody", unfollowed := true, recurses := true, apart := false, narrowed := true }
def SpliceNobodyUptoSaid : Prop := spliceNobodyUptoRow.holds Try.pinned (OpenSpec.upto spliceNobodySpec)

end Rows
end Go.Proofs.Yteiagjbjokldgaa
