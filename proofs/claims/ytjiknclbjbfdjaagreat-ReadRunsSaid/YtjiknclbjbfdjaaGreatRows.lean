/-
  No cell of these rows narrows 'for every input' (looked for: loops, veiled, ifaces, maps, wideKeys, modest, calm, conditions, laid).
  DERIVED. THE GIVEN ROWS OF THIS SEAT. 3 by the template 'for every input the law returns true; each argument reads behind the call as it read before'; 0 by the template 'total and deterministic' (their statements: YtjiknclbjbfdjaaGreatTotals.lean).
  GIVEN WITH THE SEED: the statements are not yours to turn. If you find one false, say at which input.
  Laid BY PROGRAM, IN A SANDBOX (cutbox-rows.mjs): the forced cells as the released guide's own fill.sh prints them over the translation b8f5fcd77c263d32… (all of the seat's roots in one cut). By AI agents, Wed Nov 11 2026. No macro, syntax, notation, axiom, sorry.
-/
import Derived.Test.YtjiknclbjbfdjaaGreatChecked
import GoSem.Claim
import GoSem.ClaimJoined
import GoSem.ClaimMapViews
import Derived.JoinedTies
import Derived.KernelRfl
namespace Go.Proofs.YtjiknclbjbfdjaaGreat
/- THE CELL 'sum', in the pinned program and in every row, IS THE sha256 OF THE DUMP (.gsa) THAT YtjiknclbjbfdjaaGreatProg.lean LOADS. Nothing in Lean hashes anything: it is a label: what it is worth is what the hold of that sum in a sandbox is worth. -/
noncomputable def Tryz.pinned : Pinned := { name := "ytjiknclbjbfdjaagreat", sum := "b8f5fcd77c263d3201ffc1e8315afb8e4c6ea64a78e3684f38c6e06df38c2407", checked := Tryz.checked }
namespace Rows
def none {H : Type} : Left H := { results := [], args := [] }

/-- 'leapfroglaw17.ReadRuns': WHATEVER THE INPUT: true; the input reads as it did. -/
def readRunsSpec : ChangeSpec := { name := "readRuns", fn := fun _ => fun
  | [d1, d2] => { results := [.lit (.bool true)], args := [d1, d2] }
  | _ => none }
def readRunsRow : OpenClaim := { program := "ytjiknclbjbfdjaagreat", sum := "b8f5fcd77c263d3201ffc1e8315afb8e4c6ea64a78e3684f38c6e06df38c2407", func := "leapfrog/leapfroglaw17.ReadRuns", spec := "readRuns", unfollowed := true, recurses := true, plainKeys := false, apart := false }
def ReadRunsSaid : Prop := readRunsRow.holds Tryz.pinned (OpenSpec.ofChange readRunsSpec)

/-- ITS FALSE NEIGHBOUR: 'it returns false'. Refute it at one input. -/
def readRunsWrong : ChangeSpec := { name := "readRuns", fn := fun _ => fun
  | [d1, d2] => { results := [.lit (.bool false)], args := [d1, d2] }
  | _ => none }
def ReadRunsWrongFalsely : Prop := readRunsRow.holds Tryz.pinned (OpenSpec.ofChange readRunsWrong)

/-- 'leapfroglaw17.ReadAsks': WHATEVER THE INPUT: true; the input reads as it did. -/
def readAsksSpec : ChangeSpec := { name := "readAsks", fn := fun _ => fun
  | [d1, d2] => { results := [.lit (.bool true)], args := [d1, d2] }
  | _ => none }
def readAsksRow : OpenClaim := { program := "ytjiknclbjbfdjaagreat", sum := "b8f5fcd77c263d3201ffc1e8315afb8e4c6ea64a78e3684f38c6e06df38c2407", func := "leapfrog/leapfroglaw17.ReadAsks", spec := "readAsks", unfollowed := true, recurses := true, plainKeys := false, apart := false }
def ReadAsksSaid : Prop := readAsksRow.holds Tryz.pinned (OpenSpec.ofChange readAsksSpec)

/-- ITS FALSE NEIGHBOUR: 'it returns false'. Refute it at one input. -/
def readAsksWrong : ChangeSpec := { name := "readAsks", fn := fun _ => fun
  | [d1, d2] => { results := [.lit (.bool false)], args := [d1, d2] }
  | _ => none }
def ReadAsksWrongFalsely : Prop := readAsksRow.holds Tryz.pinned (OpenSpec.ofChange readAsksWrong)

/-- 'leapfroglaw17.ReadNobody': WHATEVER THE INPUT: true; the input reads as it did. -/
def readNobodySpec : ChangeSpec := { name := "readNobody", fn := fun _ => fun
  | [d] => { results := [.lit (.bool true)], args := [d] }
  | _ => none }
def readNobodyRow : OpenClaim := { program := "ytjiknclbjbfdjaagreat", sum := "b8f5fcd77c263d3201ffc1e8315afb8e4c6ea64a78e3684f38c6e06df38c2407", func := "leapfrog/leapfroglaw17.ReadNobody", spec := "readNobody", unfollowed := true, recurses := true, plainKeys := false, apart := false }
def ReadNobodySaid : Prop := readNobodyRow.holds Tryz.pinned (OpenSpec.ofChange readNobodySpec)

/-- ITS FALSE NEIGHBOUR: 'it returns false'. Refute it at one input. -/
def readNobodyWrong : ChangeSpec := { name := "readNobody", fn := fun _ => fun
  | [d] => { results := [.lit (.bool false)], args := [d] }
  | _ => none }
def ReadNobodyWrongFalsely : Prop := readNobodyRow.holds Tryz.pinned (OpenSpec.ofChange readNobodyWrong)

/- THE SECOND FORM. 'bulk': how many values and letters a reading holds, each counted each time it is reached (what is shared counts as often as it is met; a slice's spare places count too). A statement '..UptoSaid' is the law's where the arguments, and the package variables that the reading takes, are together of bulk at most 1048576: NARROWER than '..Said'. Prove '..Said' where nothing that the law and all that it calls make is longer than what came in: it says more and counts as full. Else prove '..UptoSaid'. A law counts once. -/
mutual
def uptoBulk {H : Type} : DataW H → Nat
  | .lit (.string bytes) => bytes.length + 1
  | .lit _ => 1
  | .nil => 1
  | .ptr d => uptoBulk d + 1
  | .slice elems spare => uptoBulkAll elems + uptoBulkAll spare + 1
  | .agg parts => uptoBulkAll parts + 1
  | .iface _ d => uptoBulk d + 1
  | .map entries => uptoBulkEntries entries + 1
  | .held _ => 1
def uptoBulkAll {H : Type} : List (DataW H) → Nat
  | [] => 0
  | d :: r => uptoBulk d + uptoBulkAll r
def uptoBulkEntries {H : Type} : List (Lit × DataW H) → Nat
  | [] => 0
  | x :: r => uptoBulkEntry x + uptoBulkEntries r
def uptoBulkEntry {H : Type} : Lit × DataW H → Nat
  | (.string bytes, d) => bytes.length + uptoBulk d + 1
  | (_, d) => uptoBulk d + 1
 end
def uptoSmall : (H : Type) → List (DataW H) → Bool := fun _ ds => decide (uptoBulkAll ds ≤ 1048576)
def OpenSpec.upto (s : _root_.Go.ChangeSpec) : _root_.Go.OpenSpec := { _root_.Go.OpenSpec.ofChange s with cond := some uptoSmall }

/-- 'leapfroglaw17.ReadRuns', WHERE WHAT IT READS IS OF BULK AT MOST 1048576: true; the input reads as it did. -/
def readRunsUptoRow : OpenClaim := { program := "ytjiknclbjbfdjaagreat", sum := "b8f5fcd77c263d3201ffc1e8315afb8e4c6ea64a78e3684f38c6e06df38c2407", func := "leapfrog/leapfroglaw17.ReadRuns", spec := "readRuns", unfollowed := true, recurses := true, plainKeys := false, apart := false, narrowed := true }
def ReadRunsUptoSaid : Prop := readRunsUptoRow.holds Tryz.pinned (OpenSpec.upto readRunsSpec)

/-- 'leapfroglaw17.ReadAsks', WHERE WHAT IT READS IS OF BULK AT MOST 1048576: true; the input reads as it did. -/
def readAsksUptoRow : OpenClaim := { program := "ytjiknclbjbfdjaagreat", sum := "b8f5fcd77c263d3201ffc1e8315afb8e4c6ea64a78e3684f38c6e06df38c2407", func := "leapfrog/leapfroglaw17.ReadAsks", spec := "readAsks", unfollowed := true, recurses := true, plainKeys := false, apart := false, narrowed := true }
def ReadAsksUptoSaid : Prop := readAsksUptoRow.holds Tryz.pinned (OpenSpec.upto readAsksSpec)

/-- 'leapfroglaw17.ReadNobody', WHERE WHAT IT READS IS OF BULK AT MOST 1048576: true; the input reads as it did. -/
def readNobodyUptoRow : OpenClaim := { program := "ytjiknclbjbfdjaagreat", sum := "b8f5fcd77c263d3201ffc1e8315afb8e4c6ea64a78e3684f38c6e06df38c2407", func := "leapfrog/leapfroglaw17.ReadNobody", spec := "readNobody", unfollowed := true, recurses := true, plainKeys := false, apart := false, narrowed := true }
def ReadNobodyUptoSaid : Prop := readNobodyUptoRow.holds Tryz.pinned (OpenSpec.upto readNobodySpec)

end Rows
end Go.Proofs.YtjiknclbjbfdjaaGreat
