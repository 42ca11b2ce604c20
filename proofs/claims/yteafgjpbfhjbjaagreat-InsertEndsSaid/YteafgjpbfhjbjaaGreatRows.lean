/-
  No cell of these rows narrows 'for every input' (looked for: loops, veiled, ifaces, maps, wideKeys, modest, calm, conditions, laid).
  DERIVED. THE GIVEN ROWS OF THIS SEAT. 5 by the template 'for every input the law returns true; each argument reads behind the call as it read before'; 0 by the template 'total and deterministic' (their statements: YteafgjpbfhjbjaaGreatTotals.lean).
  GIVEN WITH THE SEED: the statements are not yours to turn. If you find one false, say at which input.
  Laid BY PROGRAM, IN A SANDBOX (cutbox-rows.mjs): the forced cells as the released guide's own fill.sh prints them over the translation a129ae21fdada744… (all of the seat's roots in one cut). By AI agents, Wed Nov 11 2026. No macro, syntax, notation, axiom, sorry.
-/
import Derived.Test.YteafgjpbfhjbjaaGreatChecked
import GoSem.Claim
import GoSem.ClaimJoined
import GoSem.ClaimMapViews
import Derived.JoinedTies
import Derived.KernelRfl
namespace Go.Proofs.YteafgjpbfhjbjaaGreat
/- THE CELL 'sum', in the pinned program and in every row, IS THE sha256 OF THE DUMP (.gsa) THAT YteafgjpbfhjbjaaGreatProg.lean LOADS. Nothing in Lean hashes anything: it is a label: what it is worth is what the hold of that sum in a sandbox is worth. -/
noncomputable def Tryz.pinned : Pinned := { name := "yteafgjpbfhjbjaagreat", sum := "a129ae21fdada744cda0189ea22ee558a1ba8fb450ad6c91496fce1cc9e17098", checked := Tryz.checked }
namespace Rows
def none {H : Type} : Left H := { results := [], args := [] }

/-- 'leapfroglaw15.InsertIn': WHATEVER THE INPUT: true; the input reads as it did. -/
def insertInSpec : ChangeSpec := { name := "insertIn", fn := fun _ => fun
  | [d1, d2, d3, d4] => { results := [.lit (.bool true)], args := [d1, d2, d3, d4] }
  | _ => none }
def insertInRow : OpenClaim := { program := "yteafgjpbfhjbjaagreat", sum := "a129ae21fdada744cda0189ea22ee558a1ba8fb450ad6c91496fce1cc9e17098", func := "leapfrog/leapfroglaw15.InsertIn", spec := "insertIn", unfollowed := true, recurses := true, plainKeys := false, apart := false }
def InsertInSaid : Prop := insertInRow.holds Tryz.pinned (OpenSpec.ofChange insertInSpec)

/-- ITS FALSE NEIGHBOUR: 'it returns false'. Refute it at one input. -/
def insertInWrong : ChangeSpec := { name := "insertIn", fn := fun _ => fun
  | [d1, d2, d3, d4] => { results := [.lit (.bool false)], args := [d1, d2, d3, d4] }
  | _ => none }
def InsertInWrongFalsely : Prop := insertInRow.holds Tryz.pinned (OpenSpec.ofChange insertInWrong)

/-- 'leapfroglaw15.InsertRuns': WHATEVER THE INPUT: true; the input reads as it did. -/
def insertRunsSpec : ChangeSpec := { name := "insertRuns", fn := fun _ => fun
  | [d1, d2] => { results := [.lit (.bool true)], args := [d1, d2] }
  | _ => none }
def insertRunsRow : OpenClaim := { program := "yteafgjpbfhjbjaagreat", sum := "a129ae21fdada744cda0189ea22ee558a1ba8fb450ad6c91496fce1cc9e17098", func := "leapfrog/leapfroglaw15.InsertRuns", spec := "insertRuns", unfollowed := true, recurses := true, plainKeys := false, apart := false }
def InsertRunsSaid : Prop := insertRunsRow.holds Tryz.pinned (OpenSpec.ofChange insertRunsSpec)

/-- ITS FALSE NEIGHBOUR: 'it returns false'. Refute it at one input. -/
def insertRunsWrong : ChangeSpec := { name := "insertRuns", fn := fun _ => fun
  | [d1, d2] => { results := [.lit (.bool false)], args := [d1, d2] }
  | _ => none }
def InsertRunsWrongFalsely : Prop := insertRunsRow.holds Tryz.pinned (OpenSpec.ofChange insertRunsWrong)

/-- 'leapfroglaw15.InsertFrees': WHATEVER THE INPUT: true; the input reads as it did. -/
def insertFreesSpec : ChangeSpec := { name := "insertFrees", fn := fun _ => fun
  | [d1, d2] => { results := [.lit (.bool true)], args := [d1, d2] }
  | _ => none }
def insertFreesRow : OpenClaim := { program := "yteafgjpbfhjbjaagreat", sum := "a129ae21fdada744cda0189ea22ee558a1ba8fb450ad6c91496fce1cc9e17098", func := "leapfrog/leapfroglaw15.InsertFrees", spec := "insertFrees", unfollowed := true, recurses := true, plainKeys := false, apart := false }
def InsertFreesSaid : Prop := insertFreesRow.holds Tryz.pinned (OpenSpec.ofChange insertFreesSpec)

/-- ITS FALSE NEIGHBOUR: 'it returns false'. Refute it at one input. -/
def insertFreesWrong : ChangeSpec := { name := "insertFrees", fn := fun _ => fun
  | [d1, d2] => { results := [.lit (.bool false)], args := [d1, d2] }
  | _ => none }
def InsertFreesWrongFalsely : Prop := insertFreesRow.holds Tryz.pinned (OpenSpec.ofChange insertFreesWrong)

/-- 'leapfroglaw15.InsertEnds': WHATEVER THE INPUT: true; the input reads as it did. -/
def insertEndsSpec : ChangeSpec := { name := "insertEnds", fn := fun _ => fun
  | [d1, d2] => { results := [.lit (.bool true)], args := [d1, d2] }
  | _ => none }
def insertEndsRow : OpenClaim := { program := "yteafgjpbfhjbjaagreat", sum := "a129ae21fdada744cda0189ea22ee558a1ba8fb450ad6c91496fce1cc9e17098", func := "leapfrog/leapfroglaw15.InsertEnds", spec := "insertEnds", unfollowed := true, recurses := true, plainKeys := false, apart := false }
def InsertEndsSaid : Prop := insertEndsRow.holds Tryz.pinned (OpenSpec.ofChange insertEndsSpec)

/-- ITS FALSE NEIGHBOUR: 'it returns false'. Refute it at one input. -/
def insertEndsWrong : ChangeSpec := { name := "insertEnds", fn := fun _ => fun
  | [d1, d2] => { results := [.lit (.bool false)], args := [d1, d2] }
  | _ => none }
def InsertEndsWrongFalsely : Prop := insertEndsRow.holds Tryz.pinned (OpenSpec.ofChange insertEndsWrong)

/-- 'leapfroglaw15.InsertNobody': WHATEVER THE INPUT: true; the input reads as it did. -/
def insertNobodySpec : ChangeSpec := { name := "insertNobody", fn := fun _ => fun
  | [d] => { results := [.lit (.bool true)], args := [d] }
  | _ => none }
def insertNobodyRow : OpenClaim := { program := "yteafgjpbfhjbjaagreat", sum := "a129ae21fdada744cda0189ea22ee558a1ba8fb450ad6c91496fce1cc9e17098", func := "leapfrog/leapfroglaw15.InsertNobody", spec := "insertNobody", unfollowed := true, recurses := true, plainKeys := false, apart := false }
def InsertNobodySaid : Prop := insertNobodyRow.holds Tryz.pinned (OpenSpec.ofChange insertNobodySpec)

/-- ITS FALSE NEIGHBOUR: 'it returns false'. Refute it at one input. -/
def insertNobodyWrong : ChangeSpec := { name := "insertNobody", fn := fun _ => fun
  | [d] => { results := [.lit (.bool false)], args := [d] }
  | _ => none }
def InsertNobodyWrongFalsely : Prop := insertNobodyRow.holds Tryz.pinned (OpenSpec.ofChange insertNobodyWrong)

/- THE SECOND FORM. 'bulk': how many values and letters a reading holds, each counted each time it is reached (what is shared counts as often as it is met; a slice's spare places count too). A statement '..UptoSaid' is the law's where the arguments, and the package variables that the reading takes, are together of bulk at most 1048576: NARROWER than '..Said'. Prove '..Said' where nothing that the law and all that it calls make is longer than what came in: it says more and counts as full. Else prove '..UptoSaid'. A law counts once. -/
mutual
def uptoBulk {H : Type} : DataW H → Nat
  | .lit (.string bytes) => bytes.length + 1
  | .lit _ => 1
  | .nil => 1
  | .ptr d => uptoBulk d + 1
  | .slice elems spare => uptoBulkAll elems + uptoBulkAll spare + 1
  | .agg parts => uptoBulkAll parts + 1
  | .iface _ d => uptoBulk d + 1
  | .map entries => uptoBulkEntries entries + 1
  | .held _ => 1
def uptoBulkAll {H : Type} : List (DataW H) → Nat
  | [] => 0
  | d :: r => uptoBulk d + uptoBulkAll r
def uptoBulkEntries {H : Type} : List (Lit × DataW H) → Nat
  | [] => 0
  | x :: r => uptoBulkEntry x + uptoBulkEntries r
def uptoBulkEntry {H : Type} : Lit × DataW H → Nat
  | (.string bytes, d) => bytes.length + uptoBulk d + 1
  | (_, d) => uptoBulk d + 1
 end
def uptoSmall : (H : Type) → List (DataW H) → Bool := fun _ ds => decide (uptoBulkAll ds ≤ 1048576)
def OpenSpec.upto (s : _root_.Go.ChangeSpec) : _root_.Go.OpenSpec := { _root_.Go.OpenSpec.ofChange s with cond := some uptoSmall }

/-- 'leapfroglaw15.InsertIn', WHERE WHAT IT READS IS OF BULK AT MOST 1048576: true; the input reads as it did. -/
def insertInUptoRow : OpenClaim := { program := "yteafgjpbfhjbjaagreat", sum := "a129ae21fdada744cda0189ea22ee558a1ba8fb450ad6c91496fce1cc9e17098", func := "leapfrog/leapfroglaw15.InsertIn", spec := "insertIn", unfollowed := true, recurses := true, plainKeys := false, apart := false, narrowed := true }
def InsertInUptoSaid : Prop := insertInUptoRow.holds Tryz.pinned (OpenSpec.upto insertInSpec)

/-- 'leapfroglaw15.InsertRuns', WHERE WHAT IT READS IS OF BULK AT MOST 1048576: true; the input reads as it did. -/
def insertRunsUptoRow : OpenClaim := { program := "yteafgjpbfhjbjaagreat", sum := "a129ae21fdada744cda0189ea22ee558a1ba8fb450ad6c91496fce1cc9e17098", func := "leapfrog/leapfroglaw15.InsertRuns", spec := "insertRuns", unfollowed := true, recurses := true, plainKeys := false, apart := false, narrowed := true }
def InsertRunsUptoSaid : Prop := insertRunsUptoRow.holds Tryz.pinned (OpenSpec.upto insertRunsSpec)

/-- 'leapfroglaw15.InsertFrees', WHERE WHAT IT READS IS OF BULK AT MOST 1048576: true; the input reads as it did. -/
def insertFreesUptoRow : OpenClaim := { program := "yteafgjpbfhjbjaagreat", sum := "a129ae21fdada744cda0189ea22ee558a1ba8fb450ad6c91496fce1cc9e17098", func := "leapfrog/leapfroglaw15.InsertFrees", spec := "insertFrees", unfollowed := true, recurses := true, plainKeys := false, apart := false, narrowed := true }
def InsertFreesUptoSaid : Prop := insertFreesUptoRow.holds Tryz.pinned (OpenSpec.upto insertFreesSpec)

/-- 'leapfroglaw15.InsertEnds', WHERE WHAT IT READS IS OF BULK AT MOST 1048576: true; the input reads as it did. -/
def insertEndsUptoRow : OpenClaim := { program := "yteafgjpbfhjbjaagreat", sum := "a129ae21fdada744cda0189ea22ee558a1ba8fb450ad6c91496fce1cc9e17098", func := "leapfrog/leapfroglaw15.InsertEnds", spec := "insertEnds", unfollowed := true, recurses := true, plainKeys := false, apart := false, narrowed := true }
def InsertEndsUptoSaid : Prop := insertEndsUptoRow.holds Tryz.pinned (OpenSpec.upto insertEndsSpec)

/-- 'leapfroglaw15.InsertNobody', WHERE WHAT IT READS IS OF BULK AT MOST 1048576: true; the input reads as it did. -/
def insertNobodyUptoRow : OpenClaim := { program := "yteafgjpbfhjbjaagreat", sum := "a129ae21fdada744cda0189ea22ee558a1ba8fb450ad6c91496fce1cc9e17098", func := "leapfrog/leapfroglaw15.InsertNobody", spec := "insertNobody", unfollowed := true, recurses := true, plainKeys := false, apart := false, narrowed := true }
def InsertNobodyUptoSaid : Prop := insertNobodyUptoRow.holds Tryz.pinned (OpenSpec.upto insertNobodySpec)

end Rows
end Go.Proofs.YteafgjpbfhjbjaaGreat
