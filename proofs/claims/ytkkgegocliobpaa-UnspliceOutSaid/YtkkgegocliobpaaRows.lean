/-
  No cell of these rows narrows 'for every input' (looked for: loops, veiled, ifaces, maps, wideKeys, modest, calm, conditions, laid).
  DERIVED. THE GIVEN ROWS OF THIS SEAT. 4 by the template 'for every input the law returns true; each argument reads behind the call as it read before'; 0 by the template 'total and deterministic' (their statements: YtkkgegocliobpaaTotals.lean).
  GIVEN WITH THE SEED: the statements are not yours to turn. If you find one false, say at which input.
  Laid BY PROGRAM, IN A SANDBOX (cutbox-rows.mjs): the forced cells as the released guide's own fill.sh prints them over the translation 1c3f71d7db174b43… (all of the seat's roots in one cut). By AI agents, Wed Nov 11 2026. No macro, syntax, notation, axiom, sorry.
-/
import Derived.Test.YtkkgegocliobpaaChecked
import GoSem.Claim
import GoSem.ClaimJoined
import GoSem.ClaimMapViews
import Derived.JoinedTies
import Derived.KernelRfl
namespace Go.Proofs.Ytkkgegocliobpaa
/- THE CELL 'sum', in the pinned program and in every row, IS THE sha256 OF THE DUMP (.gsa) THAT YtkkgegocliobpaaProg.lean LOADS. Nothing in Lean hashes anything: it is a label: what it is worth is what the hold of that sum in a sandbox is worth. -/
noncomputable def Try.pinned : Pinned := { name := "ytkkgegocliobpaa", sum := "1c3f71d7db174b43b49d419e024015307a2e16559df8d566cb208ae7f4e5da53", checked := Try.checked }
namespace Rows
def none {H : Type} : Left H := { results := [], args := [] }

/-- 'leapfroglaw14.UnspliceOut': WHATEVER THE INPUT: true; the input reads as it did. -/
def unspliceOutSpec : ChangeSpec := { name := "unspliceOut", fn := fun _ => fun
  | [d1, d2] => { results := [.lit (.bool true)], args := [d1, d2] }
  | _ => none }
def unspliceOutRow : OpenClaim := { program := "ytkkgegocliobpaa", sum := "1c3f71d7db174b43b49d419e024015307a2e16559df8d566cb208ae7f4e5da53", func := "leapfrog/leapfroglaw14.UnspliceOut", spec := "unspliceOut", apart := false }
def UnspliceOutSaid : Prop := unspliceOutRow.holds Try.pinned (OpenSpec.ofChange unspliceOutSpec)

/-- ITS FALSE NEIGHBOUR: 'it returns false'. Refute it at one input. -/
def unspliceOutWrong : ChangeSpec := { name := "unspliceOut", fn := fun _ => fun
  | [d1, d2] => { results := [.lit (.bool false)], args := [d1, d2] }
  | _ => none }
def UnspliceOutWrongFalsely : Prop := unspliceOutRow.holds Try.pinned (OpenSpec.ofChange unspliceOutWrong)

/-- 'leapfroglaw14.UnspliceRuns': WHATEVER THE INPUT: true; the input reads as it did. -/
def unspliceRunsSpec : ChangeSpec := { name := "unspliceRuns", fn := fun _ => fun
  | [d1, d2, d3] => { results := [.lit (.bool true)], args := [d1, d2, d3] }
  | _ => none }
def unspliceRunsRow : OpenClaim := { program := "ytkkgegocliobpaa", sum := "1c3f71d7db174b43b49d419e024015307a2e16559df8d566cb208ae7f4e5da53", func := "leapfrog/leapfroglaw14.UnspliceRuns", spec := "unspliceRuns", apart := false }
def UnspliceRunsSaid : Prop := unspliceRunsRow.holds Try.pinned (OpenSpec.ofChange unspliceRunsSpec)

/-- ITS FALSE NEIGHBOUR: 'it returns false'. Refute it at one input. -/
def unspliceRunsWrong : ChangeSpec := { name := "unspliceRuns", fn := fun _ => fun
  | [d1, d2, d3] => { results := [.lit (.bool false)], args := [d1, d2, d3] }
  | _ => none }
def UnspliceRunsWrongFalsely : Prop := unspliceRunsRow.holds Try.pinned (OpenSpec.ofChange unspliceRunsWrong)

/-- 'leapfroglaw14.UnspliceFrees': WHATEVER THE INPUT: true; the input reads as it did. -/
def unspliceFreesSpec : ChangeSpec := { name := "unspliceFrees", fn := fun _ => fun
  | [d1, d2] => { results := [.lit (.bool true)], args := [d1, d2] }
  | _ => none }
def unspliceFreesRow : OpenClaim := { program := "ytkkgegocliobpaa", sum := "1c3f71d7db174b43b49d419e024015307a2e16559df8d566cb208ae7f4e5da53", func := "leapfrog/leapfroglaw14.UnspliceFrees", spec := "unspliceFrees", apart := false }
def UnspliceFreesSaid : Prop := unspliceFreesRow.holds Try.pinned (OpenSpec.ofChange unspliceFreesSpec)

/-- ITS FALSE NEIGHBOUR: 'it returns false'. Refute it at one input. -/
def unspliceFreesWrong : ChangeSpec := { name := "unspliceFrees", fn := fun _ => fun
  | [d1, d2] => { results := [.lit (.bool false)], args := [d1, d2] }
  | _ => none }
def UnspliceFreesWrongFalsely : Prop := unspliceFreesRow.holds Try.pinned (OpenSpec.ofChange unspliceFreesWrong)

/-- 'leapfroglaw14.UnspliceNobody': WHATEVER THE INPUT: true; the input reads as it did. -/
def unspliceNobodySpec : ChangeSpec := { name := "unspliceNobody", fn := fun _ => fun
  | [d] => { results := [.lit (.bool true)], args := [d] }
  | _ => none }
def unspliceNobodyRow : OpenClaim := { program := "ytkkgegocliobpaa", sum := "1c3f71d7db174b43b49d419e024015307a2e16559df8d566cb208ae7f4e5da53", func := "leapfrog/leapfroglaw14.UnspliceNobody", spec := "unspliceNobody", apart := false }
def UnspliceNobodySaid : Prop := unspliceNobodyRow.holds Try.pinned (OpenSpec.ofChange unspliceNobodySpec)

/-- ITS FALSE NEIGHBOUR: 'it returns false'. Refute it at one input. -/
def unspliceNobodyWrong : ChangeSpec := { name := "unspliceNobody", fn := fun _ => fun
  | [d] => { results := [.lit (.bool false)], args := [d] }
  | _ => none }
def UnspliceNobodyWrongFalsely : Prop := unspliceNobodyRow.holds Try.pinned (OpenSpec.ofChange unspliceNobodyWrong)

/- THE SECOND FORM. 'bulk': how many values and letters a reading holds, each counted each time it is reached (what is shared counts as often as it is met; a slice's spare places count too). A statement '..UptoSaid' is the law's where the arguments, and the package variables that the reading takes, are together of bulk at most 1048576: NARROWER than '..Said'. Prove '..Said' where nothing that the law and all that it calls make is longer than what came in: it says more and counts as full. Else prove '..UptoSaid'. A law counts once. -/
mutual
def uptoBulk {H : Type} : DataW H → Nat
  | .lit (.string bytes) => bytes.length + 1
  | .lit _ => 1
  | .nil => 1
  | .ptr d => uptoBulk d + 1
  | .slice elems spare => uptoBulkAll elems + uptoBulkAll spare + 1
  | .agg parts => uptoBulkAll parts + 1
  | .iface _ d => uptoBulk d + 1
  | .map entries => uptoBulkEntries entries + 1
  | .held _ => 1
def uptoBulkAll {H : Type} : List (DataW H) → Nat
  | [] => 0
  | d :: r => uptoBulk d + uptoBulkAll r
def uptoBulkEntries {H : Type} : List (Lit × DataW H) → Nat
  | [] => 0
  | x :: r => uptoBulkEntry x + uptoBulkEntries r
def uptoBulkEntry {H : Type} : Lit × DataW H → Nat
  | (.string bytes, d) => bytes.length + uptoBulk d + 1
  | (_, d) => uptoBulk d + 1
 end
def uptoSmall : (H : Type) → List (DataW H) → Bool := fun _ ds => decide (uptoBulkAll ds ≤ 1048576)
def OpenSpec.upto (s : _root_.Go.ChangeSpec) : _root_.Go.OpenSpec := { _root_.Go.OpenSpec.ofChange s with cond := some uptoSmall }

/-- 'leapfroglaw14.UnspliceOut', WHERE WHAT IT READS IS OF BULK AT MOST 1048576: true; the input reads as it did. -/
def unspliceOutUptoRow : OpenClaim := { program := "ytkkgegocliobpaa", sum := "1c3f71d7db174b43b49d419e024015307a2e16559df8d566cb208ae7f4e5da53", func := "leapfrog/leapfroglaw14.UnspliceOut", spec := "unspliceOut", apart := false, narrowed := true }
def UnspliceOutUptoSaid : Prop := unspliceOutUptoRow.holds Try.pinned (OpenSpec.upto unspliceOutSpec)

/-- 'leapfroglaw14.UnspliceRuns', WHERE WHAT IT READS IS OF BULK AT MOST 1048576: true; the input reads as it did. -/
def unspliceRunsUptoRow : OpenClaim := { program := "ytkkgegocliobpaa", sum := "1c3f71d7db174b43b49d419e024015307a2e16559df8d566cb208ae7f4e5da53", func := "leapfrog/leapfroglaw14.UnspliceRuns", spec := "unspliceRuns", apart := false, narrowed := true }
def UnspliceRunsUptoSaid : Prop := unspliceRunsUptoRow.holds Try.pinned (OpenSpec.upto unspliceRunsSpec)

/-- 'leapfroglaw14.UnspliceFrees', WHERE WHAT IT READS IS OF BULK AT MOST 1048576: true; the input reads as it did. -/
def unspliceFreesUptoRow : OpenClaim := { program := "ytkkgegocliobpaa", sum := "1c3f71d7db174b43b49d419e024015307a2e16559df8d566cb208ae7f4e5da53", func := "leapfrog/leapfroglaw14.UnspliceFrees", spec := "unspliceFrees", apart := false, narrowed := true }
def UnspliceFreesUptoSaid : Prop := unspliceFreesUptoRow.holds Try.pinned (OpenSpec.upto unspliceFreesSpec)

/-- 'leapfroglaw14.UnspliceNobody', WHERE WHAT IT READS IS OF BULK AT MOST 1048576: true; the input reads as it did. -/
def unspliceNobodyUptoRow : OpenClaim := { program := "ytkkgegocliobpaa", sum := "1c3f71d7db174b43b49d419e024015307a2e16559df8d566cb208ae7f4e5da53", func := "leapfrog/leapfroglaw14.UnspliceNobody", spec := "unspliceNobody", apart := false, narrowed := true }
def UnspliceNobodyUptoSaid : Prop := unspliceNobodyUptoRow.holds Try.pinned (OpenSpec.upto unspliceNobodySpec)

end Rows
end Go.Proofs.Ytkkgegocliobpaa
