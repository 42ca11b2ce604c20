/-
  No cell of these rows narrows 'for every input' (looked for: loops, veiled, ifaces, maps, wideKeys, modest, calm, conditions, laid).
  DERIVED. THE GIVEN ROWS OF THIS SEAT. 7 by the template 'for every input the law returns true; each argument reads behind the call as it read before'; 0 by the template 'total and deterministic' (their statements: YtonnegfkokghdaaTotals.lean).
  GIVEN WITH THE SEED: the statements are not yours to turn. If you find one false, say at which input.
  Laid BY PROGRAM, IN A SANDBOX (cutbox-rows.mjs): the forced cells as the released guide's own fill.sh prints them over the translation 8930f76fc95fa584… (all of the seat's roots in one cut). By AI agents, Wed Nov 11 2026. No macro, syntax, notation, axiom, sorry.
-/
import Derived.Test.YtonnegfkokghdaaChecked
import GoSem.Claim
import GoSem.ClaimJoined
import GoSem.ClaimMapViews
import Derived.JoinedTies
import Derived.KernelRfl
namespace Go.Proofs.Ytonnegfkokghdaa
/- THE CELL 'sum', in the pinned program and in every row, IS THE sha256 OF THE DUMP (.gsa) THAT YtonnegfkokghdaaProg.lean LOADS. Nothing in Lean hashes anything: it is a label: what it is worth is what the hold of that sum in a sandbox is worth. -/
noncomputable def Try.pinned : Pinned := { name := "ytonnegfkokghdaa", sum := "8930f76fc95fa58463e9dd45f2659bc17779a11c8477fc6ea9886f9add115fbf", checked := Try.checked }
namespace Rows
def none {H : Type} : Left H := { results := [], args := [] }

/-- 'leapfroglaw12.SeekFinds': WHATEVER THE INPUT: true; the input reads as it did. -/
def seekFindsSpec : ChangeSpec := { name := "seekFinds", fn := fun _ => fun
  | [d1, d2, d3, d4, d5] => { results := [.lit (.bool true)], args := [d1, d2, d3, d4, d5] }
  | _ => none }
def seekFindsRow : OpenClaim := { program := "ytonnegfkokghdaa", sum := "8930f76fc95fa58463e9dd45f2659bc17779a11c8477fc6ea9886f9add115fbf", func := "leapfrog/leapfroglaw12.SeekFinds", spec := "seekFinds", plainKeys := false, apart := false }
def SeekFindsSaid : Prop := seekFindsRow.holds Try.pinned (OpenSpec.ofChange seekFindsSpec)

/-- ITS FALSE NEIGHBOUR: 'it returns false'. Refute it at one input. -/
def seekFindsWrong : ChangeSpec := { name := "seekFinds", fn := fun _ => fun
  | [d1, d2, d3, d4, d5] => { results := [.lit (.bool false)], args := [d1, d2, d3, d4, d5] }
  | _ => none }
def SeekFindsWrongFalsely : Prop := seekFindsRow.holds Try.pinned (OpenSpec.ofChange seekFindsWrong)

/-- 'leapfroglaw12.SeekDead': WHATEVER THE INPUT: true; the input reads as it did. -/
def seekDeadSpec : ChangeSpec := { name := "seekDead", fn := fun _ => fun
  | [d1, d2, d3, d4, d5] => { results := [.lit (.bool true)], args := [d1, d2, d3, d4, d5] }
  | _ => none }
def seekDeadRow : OpenClaim := { program := "ytonnegfkokghdaa", sum := "8930f76fc95fa58463e9dd45f2659bc17779a11c8477fc6ea9886f9add115fbf", func := "leapfrog/leapfroglaw12.SeekDead", spec := "seekDead", plainKeys := false, apart := false }
def SeekDeadSaid : Prop := seekDeadRow.holds Try.pinned (OpenSpec.ofChange seekDeadSpec)

/-- ITS FALSE NEIGHBOUR: 'it returns false'. Refute it at one input. -/
def seekDeadWrong : ChangeSpec := { name := "seekDead", fn := fun _ => fun
  | [d1, d2, d3, d4, d5] => { results := [.lit (.bool false)], args := [d1, d2, d3, d4, d5] }
  | _ => none }
def SeekDeadWrongFalsely : Prop := seekDeadRow.holds Try.pinned (OpenSpec.ofChange seekDeadWrong)

/-- 'leapfroglaw12.SeekEnds': WHATEVER THE INPUT: true; the input reads as it did. -/
def seekEndsSpec : ChangeSpec := { name := "seekEnds", fn := fun _ => fun
  | [d1, d2] => { results := [.lit (.bool true)], args := [d1, d2] }
  | _ => none }
def seekEndsRow : OpenClaim := { program := "ytonnegfkokghdaa", sum := "8930f76fc95fa58463e9dd45f2659bc17779a11c8477fc6ea9886f9add115fbf", func := "leapfrog/leapfroglaw12.SeekEnds", spec := "seekEnds", plainKeys := false, apart := false }
def SeekEndsSaid : Prop := seekEndsRow.holds Try.pinned (OpenSpec.ofChange seekEndsSpec)

/-- ITS FALSE NEIGHBOUR: 'it returns false'. Refute it at one input. -/
def seekEndsWrong : ChangeSpec := { name := "seekEnds", fn := fun _ => fun
  | [d1, d2] => { results := [.lit (.bool false)], args := [d1, d2] }
  | _ => none }
def SeekEndsWrongFalsely : Prop := seekEndsRow.holds Try.pinned (OpenSpec.ofChange seekEndsWrong)

/-- 'leapfroglaw12.SeekRises': WHATEVER THE INPUT: true; the input reads as it did. -/
def seekRisesSpec : ChangeSpec := { name := "seekRises", fn := fun _ => fun
  | [d1, d2] => { results := [.lit (.bool true)], args := [d1, d2] }
  | _ => none }
def seekRisesRow : OpenClaim := { program := "ytonnegfkokghdaa", sum := "8930f76fc95fa58463e9dd45f2659bc17779a11c8477fc6ea9886f9add115fbf", func := "leapfrog/leapfroglaw12.SeekRises", spec := "seekRises", plainKeys := false, apart := false }
def SeekRisesSaid : Prop := seekRisesRow.holds Try.pinned (OpenSpec.ofChange seekRisesSpec)

/-- ITS FALSE NEIGHBOUR: 'it returns false'. Refute it at one input. -/
def seekRisesWrong : ChangeSpec := { name := "seekRises", fn := fun _ => fun
  | [d1, d2] => { results := [.lit (.bool false)], args := [d1, d2] }
  | _ => none }
def SeekRisesWrongFalsely : Prop := seekRisesRow.holds Try.pinned (OpenSpec.ofChange seekRisesWrong)

/-- 'leapfroglaw12.SeekPasses': WHATEVER THE INPUT: true; the input reads as it did. -/
def seekPassesSpec : ChangeSpec := { name := "seekPasses", fn := fun _ => fun
  | [d1, d2, d3, d4, d5] => { results := [.lit (.bool true)], args := [d1, d2, d3, d4, d5] }
  | _ => none }
def seekPassesRow : OpenClaim := { program := "ytonnegfkokghdaa", sum := "8930f76fc95fa58463e9dd45f2659bc17779a11c8477fc6ea9886f9add115fbf", func := "leapfrog/leapfroglaw12.SeekPasses", spec := "seekPasses", plainKeys := false, apart := false }
def SeekPassesSaid : Prop := seekPassesRow.holds Try.pinned (OpenSpec.ofChange seekPassesSpec)

/-- ITS FALSE NEIGHBOUR: 'it returns false'. Refute it at one input. -/
def seekPassesWrong : ChangeSpec := { name := "seekPasses", fn := fun _ => fun
  | [d1, d2, d3, d4, d5] => { results := [.lit (.bool false)], args := [d1, d2, d3, d4, d5] }
  | _ => none }
def SeekPassesWrongFalsely : Prop := seekPassesRow.holds Try.pinned (OpenSpec.ofChange seekPassesWrong)

/-- 'leapfroglaw12.SeekRuns': WHATEVER THE INPUT: true; the input reads as it did. -/
def seekRunsSpec : ChangeSpec := { name := "seekRuns", fn := fun _ => fun
  | [d1, d2] => { results := [.lit (.bool true)], args := [d1, d2] }
  | _ => none }
def seekRunsRow : OpenClaim := { program := "ytonnegfkokghdaa", sum := "8930f76fc95fa58463e9dd45f2659bc17779a11c8477fc6ea9886f9add115fbf", func := "leapfrog/leapfroglaw12.SeekRuns", spec := "seekRuns", plainKeys := false, apart := false }
def SeekRunsSaid : Prop := seekRunsRow.holds Try.pinned (OpenSpec.ofChange seekRunsSpec)

/-- ITS FALSE NEIGHBOUR: 'it returns false'. Refute it at one input. -/
def seekRunsWrong : ChangeSpec := { name := "seekRuns", fn := fun _ => fun
  | [d1, d2] => { results := [.lit (.bool false)], args := [d1, d2] }
  | _ => none }
def SeekRunsWrongFalsely : Prop := seekRunsRow.holds Try.pinned (OpenSpec.ofChange seekRunsWrong)

/-- 'leapfroglaw12.SeekNobody': WHATEVER THE INPUT: true; the input reads as it did. -/
def seekNobodySpec : ChangeSpec := { name := "seekNobody", fn := fun _ => fun
  | [d] => { results := [.lit (.bool true)], args := [d] }
  | _ => none }
def seekNobodyRow : OpenClaim := { program := "ytonnegfkokghdaa", sum := "8930f76fc95fa58463e9dd45f2659bc17779a11c8477fc6ea9886f9add115fbf", func := "leapfrog/leapfroglaw12.SeekNobody", spec := "seekNobody", plainKeys := false, apart := false }
def SeekNobodySaid : Prop := seekNobodyRow.holds Try.pinned (OpenSpec.ofChange seekNobodySpec)

/-- ITS FALSE NEIGHBOUR: 'it returns false'. Refute it at one input. -/
def seekNobodyWrong : ChangeSpec := { name := "seekNobody", fn := fun _ => fun
  | [d] => { results := [.lit (.bool false)], args := [d] }
  | _ => none }
def SeekNobodyWrongFalsely : Prop := seekNobodyRow.holds Try.pinned (OpenSpec.ofChange seekNobodyWrong)

/- THE SECOND FORM. 'bulk': how many values and letters a reading holds, each counted each time it is reached (what is shared counts as often as it is met; a slice's spare places count too). A statement '..UptoSaid' is the law's where the arguments, and the package variables that the reading takes, are together of bulk at most 1048576: NARROWER than '..Said'. Prove '..Said' where nothing that the law and all that it calls make is longer than what came in: it says more and counts as full. Else prove '..UptoSaid'. A law counts once. -/
mutual
def uptoBulk {H : Type} : DataW H → Nat
  | .lit (.string bytes) => bytes.length + 1
  | .lit _ => 1
  | .nil => 1
  | .ptr d => uptoBulk d + 1
  | .slice elems spare => uptoBulkAll elems + uptoBulkAll spare + 1
  | .agg parts => uptoBulkAll parts + 1
  | .iface _ d => uptoBulk d + 1
  | .map entries => uptoBulkEntries entries + 1
  | .held _ => 1
def uptoBulkAll {H : Type} : List (DataW H) → Nat
  | [] => 0
  | d :: r => uptoBulk d + uptoBulkAll r
def uptoBulkEntries {H : Type} : List (Lit × DataW H) → Nat
  | [] => 0
  | x :: r => uptoBulkEntry x + uptoBulkEntries r
def uptoBulkEntry {H : Type} : Lit × DataW H → Nat
  | (.string bytes, d) => bytes.length + uptoBulk d + 1
  | (_, d) => uptoBulk d + 1
 end
def uptoSmall : (H : Type) → List (DataW H) → Bool := fun _ ds => decide (uptoBulkAll ds ≤ 1048576)
def OpenSpec.upto (s : _root_.Go.ChangeSpec) : _root_.Go.OpenSpec := { _root_.Go.OpenSpec.ofChange s with cond := some uptoSmall }

/-- 'leapfroglaw12.SeekFinds', WHERE WHAT IT READS IS OF BULK AT MOST 1048576: true; the input reads as it did. -/
def seekFindsUptoRow : OpenClaim := { program := "ytonnegfkokghdaa", sum := "8930f76fc95fa58463e9dd45f2659bc17779a11c8477fc6ea9886f9add115fbf", func := "leapfrog/leapfroglaw12.SeekFinds", spec := "seekFinds", plainKeys := false, apart := false, narrowed := true }
def SeekFindsUptoSaid : Prop := seekFindsUptoRow.holds Try.pinned (OpenSpec.upto seekFindsSpec)

/-- 'leapfroglaw12.SeekDead', WHERE WHAT IT READS IS OF BULK AT MOST 1048576: true; the input reads as it did. -/
def seekDeadUptoRow : OpenClaim := { program := "ytonnegfkokghdaa", sum := "8930f76fc95fa58463e9dd45f2659bc17779a11c8477fc6ea9886f9add115fbf", func := "leapfrog/leapfroglaw12.SeekDead", spec := "seekDead", plainKeys := false, apart := false, narrowed := true }
def SeekDeadUptoSaid : Prop := seekDeadUptoRow.holds Try.pinned (OpenSpec.upto seekDeadSpec)

/-- 'leapfroglaw12.SeekEnds', WHERE WHAT IT READS IS OF BULK AT MOST 1048576: true; the input reads as it did. -/
def seekEndsUptoRow : OpenClaim := { program := "ytonnegfkokghdaa", sum := "8930f76fc95fa58463e9dd45f2659bc17779a11c8477fc6ea9886f9add115fbf", func := "leapfrog/leapfroglaw12.SeekEnds", spec := "seekEnds", plainKeys := false, apart := false, narrowed := true }
def SeekEndsUptoSaid : Prop := seekEndsUptoRow.holds Try.pinned (OpenSpec.upto seekEndsSpec)

/-- 'leapfroglaw12.SeekRises', WHERE WHAT IT READS IS OF BULK AT MOST 1048576: true; the input reads as it did. -/
def seekRisesUptoRow : OpenClaim := { program := "ytonnegfkokghdaa", sum := "8930f76fc95fa58463e9dd45f2659bc17779a11c8477fc6ea9886f9add115fbf", func := "leapfrog/leapfroglaw12.SeekRises", spec := "seekRises", plainKeys := false, apart := false, narrowed := true }
def SeekRisesUptoSaid : Prop := seekRisesUptoRow.holds Try.pinned (OpenSpec.upto seekRisesSpec)

/-- 'leapfroglaw12.SeekPasses', WHERE WHAT IT READS IS OF BULK AT MOST 1048576: true; the input reads as it did. -/
def seekPassesUptoRow : OpenClaim := { program := "ytonnegfkokghdaa", sum := "8930f76fc95fa58463e9dd45f2659bc17779a11c8477fc6ea9886f9add115fbf", func := "leapfrog/leapfroglaw12.SeekPasses", spec := "seekPasses", plainKeys := false, apart := false, narrowed := true }
def SeekPassesUptoSaid : Prop := seekPassesUptoRow.holds Try.pinned (OpenSpec.upto seekPassesSpec)

/-- 'leapfroglaw12.SeekRuns', WHERE WHAT IT READS IS OF BULK AT MOST 1048576: true; the input reads as it did. -/
def seekRunsUptoRow : OpenClaim := { program := "ytonnegfkokghdaa", sum := "8930f76fc95fa58463e9dd45f2659bc17779a11c8477fc6ea9886f9add115fbf", func := "leapfrog/leapfroglaw12.SeekRuns", spec := "seekRuns", plainKeys := false, apart := false, narrowed := true }
def SeekRunsUptoSaid : Prop := seekRunsUptoRow.holds Try.pinned (OpenSpec.upto seekRunsSpec)

/-- 'leapfroglaw12.SeekNobody', WHERE WHAT IT READS IS OF BULK AT MOST 1048576: true; the input reads as it did. -/
def seekNobodyUptoRow : OpenClaim := { program := "ytonnegfkokghdaa", sum := "8930f76fc95fa58463e9dd45f2659bc17779a11c8477fc6ea9886f9add115fbf", func := "leapfrog/leapfroglaw12.SeekNobody", spec := "seekNobody", plainKeys := false, apart := false, narrowed := true }
def SeekNobodyUptoSaid : Prop := seekNobodyUptoRow.holds Try.pinned (OpenSpec.upto seekNobodySpec)

end Rows
end Go.Proofs.Ytonnegfkokghdaa
