/-
  No cell of these rows narrows 'for every input' (looked for: loops, veiled, ifaces, maps, wideKeys, modest, calm, conditions, laid).
  DERIVED. THE GIVEN ROWS OF THIS SEAT. 3 by the template 'for every input the law returns true; each argument reads behind the call as it read before'; 0 by the template 'total and deterministic' (their statements: YtpjobebheebncaaTotals.lean).
  GIVEN WITH THE SEED: the statements are not yours to turn. If you find one false, say at which input.
  Laid BY PROGRAM, IN A SANDBOX (cutbox-rows.mjs): the forced cells as the released guide's own fill.sh prints them over the translation 4cda43e3e183f058… (all of the seat's roots in one cut). By AI agents, Wed Nov 11 2026. No macro, syntax, notation, axiom, sorry.
-/
import Derived.Test.YtpjobebheebncaaChecked
import GoSem.Claim
import GoSem.ClaimJoined
import GoSem.ClaimMapViews
import Derived.JoinedTies
import Derived.KernelRfl
namespace Go.Proofs.Ytpjobebheebncaa
/- THE CELL 'sum', in the pinned program and in every row, IS THE sha256 OF THE DUMP (.gsa) THAT YtpjobebheebncaaProg.lean LOADS. Nothing in Lean hashes anything: it is a label: what it is worth is what the hold of that sum in a sandbox is worth. -/
noncomputable def Try.pinned : Pinned := { name := "ytpjobebheebncaa", sum := "4cda43e3e183f05810974d7f7c1da1ab6033f69a5f1862456b81263bab867640", checked := Try.checked }
namespace Rows
def none {H : Type} : Left H := { results := [], args := [] }

/-- 'leapfroglaw20.MendWhole': WHATEVER THE INPUT: true; the input reads as it did. -/
def mendWholeSpec : ChangeSpec := { name := "mendWhole", fn := fun _ => fun
  | [d1, d2, d3, d4, d5] => { results := [.lit (.bool true)], args := [d1, d2, d3, d4, d5] }
  | _ => none }
def mendWholeRow : OpenClaim := { program := "ytpjobebheebncaa", sum := "4cda43e3e183f05810974d7f7c1da1ab6033f69a5f1862456b81263bab867640", func := "leapfrog/leapfroglaw20.MendWhole", spec := "mendWhole", unfollowed := true, recurses := true, apart := false }
def MendWholeSaid : Prop := mendWholeRow.holds Try.pinned (OpenSpec.ofChange mendWholeSpec)

/-- ITS FALSE NEIGHBOUR: 'it returns false'. Refute it at one input. -/
def mendWholeWrong : ChangeSpec := { name := "mendWhole", fn := fun _ => fun
  | [d1, d2, d3, d4, d5] => { results := [.lit (.bool false)], args := [d1, d2, d3, d4, d5] }
  | _ => none }
def MendWholeWrongFalsely : Prop := mendWholeRow.holds Try.pinned (OpenSpec.ofChange mendWholeWrong)

/-- 'leapfroglaw20.MendAlone': WHATEVER THE INPUT: true; the input reads as it did. -/
def mendAloneSpec : ChangeSpec := { name := "mendAlone", fn := fun _ => fun
  | [d1, d2] => { results := [.lit (.bool true)], args := [d1, d2] }
  | _ => none }
def mendAloneRow : OpenClaim := { program := "ytpjobebheebncaa", sum := "4cda43e3e183f05810974d7f7c1da1ab6033f69a5f1862456b81263bab867640", func := "leapfrog/leapfroglaw20.MendAlone", spec := "mendAlone", unfollowed := true, recurses := true, apart := false }
def MendAloneSaid : Prop := mendAloneRow.holds Try.pinned (OpenSpec.ofChange mendAloneSpec)

/-- ITS FALSE NEIGHBOUR: 'it returns false'. Refute it at one input. -/
def mendAloneWrong : ChangeSpec := { name := "mendAlone", fn := fun _ => fun
  | [d1, d2] => { results := [.lit (.bool false)], args := [d1, d2] }
  | _ => none }
def MendAloneWrongFalsely : Prop := mendAloneRow.holds Try.pinned (OpenSpec.ofChange mendAloneWrong)

/-- 'leapfroglaw20.MendNobody': WHATEVER THE INPUT: true; the input reads as it did. -/
def mendNobodySpec : ChangeSpec := { name := "mendNobody", fn := fun _ => fun
  | [d] => { results := [.lit (.bool true)], args := [d] }
  | _ => none }
def mendNobodyRow : OpenClaim := { program := "ytpjobebheebncaa", sum := "4cda43e3e183f05810974d7f7c1da1ab6033f69a5f1862456b81263bab867640", func := "leapfrog/leapfroglaw20.MendNobody", spec := "mendNobody", unfollowed := true, recurses := true, apart := false }
def MendNobodySaid : Prop := mendNobodyRow.holds Try.pinned (OpenSpec.ofChange mendNobodySpec)

/-- ITS FALSE NEIGHBOUR: 'it returns false'. Refute it at one input. -/
def mendNobodyWrong : ChangeSpec := { name := "mendNobody", fn := fun _ => fun
  | [d] => { results := [.lit (.bool false)], args := [d] }
  | _ => none }
def MendNobodyWrongFalsely : Prop := mendNobodyRow.holds Try.pinned (OpenSpec.ofChange mendNobodyWrong)

/- THE SECOND FORM. 'bulk': how many values and letters a reading holds, each counted each time it is reached (what is shared counts as often as it is met; a slice's spare places count too). A statement '..UptoSaid' is the law's where the arguments, and the package variables that the reading takes, are together of bulk at most 1048576: NARROWER than '..Said'. Prove '..Said' where nothing that the law and all that it calls make is longer than what came in: it says more and counts as full. Else prove '..UptoSaid'. A law counts once. -/
mutual
def uptoBulk {H : Type} : DataW H → Nat
  | .lit (.string bytes) => bytes.length + 1
  | .lit _ => 1
  | .nil => 1
  | .ptr d => uptoBulk d + 1
  | .slice elems spare => uptoBulkAll elems + uptoBulkAll spare + 1
  | .agg parts => uptoBulkAll parts + 1
  | .iface _ d => uptoBulk d + 1
  | .map entries => uptoBulkEntries entries + 1
  | .held _ => 1
def uptoBulkAll {H : Type} : List (DataW H) → Nat
  | [] => 0
  | d :: r => uptoBulk d + uptoBulkAll r
def uptoBulkEntries {H : Type} : List (Lit × DataW H) → Nat
  | [] => 0
  | x :: r => uptoBulkEntry x + uptoBulkEntries r
def uptoBulkEntry {H : Type} : Lit × DataW H → Nat
  | (.string bytes, d) => bytes.length + uptoBulk d + 1
  | (_, d) => uptoBulk d + 1
 end
def uptoSmall : (H : Type) → List (DataW H) → Bool := fun _ ds => decide (uptoBulkAll ds ≤ 1048576)
def OpenSpec.upto (s : _root_.Go.ChangeSpec) : _root_.Go.OpenSpec := { _root_.Go.OpenSpec.ofChange s with cond := some uptoSmall }

/-- 'leapfroglaw20.MendWhole', WHERE WHAT IT READS IS OF BULK AT MOST 1048576: true; the input reads as it did. -/
def mendWholeUptoRow : OpenClaim := { program := "ytpjobebheebncaa", sum := "4cda43e3e183f05810974d7f7c1da1ab6033f69a5f1862456b81263bab867640", func := "leapfrog/leapfroglaw20.MendWhole", spec := "mendWhole", unfollowed := true, recurses := true, apart := false, narrowed := true }
def MendWholeUptoSaid : Prop := mendWholeUptoRow.holds Try.pinned (OpenSpec.upto mendWholeSpec)

/-- 'leapfroglaw20.MendAlone', WHERE WHAT IT READS IS OF BULK AT MOST 1048576: true; the input reads as it did. -/
def mendAloneUptoRow : OpenClaim := { program := "ytpjobebheebncaa", sum := "4cda43e3e183f05810974d7f7c1da1ab6033f69a5f1862456b81263bab867640", func := "leapfrog/leapfroglaw20.MendAlone", spec := "mendAlone", unfollowed := true, recurses := true, apart := false, narrowed := true }
def MendAloneUptoSaid : Prop := mendAloneUptoRow.holds Try.pinned (OpenSpec.upto mendAloneSpec)

/-- 'leapfroglaw20.MendNobody', WHERE WHAT IT READS IS OF BULK AT MOST 1048576: true; the input reads as it did. -/
def mendNobodyUptoRow : OpenClaim := { program := "ytpjobebheebncaa", sum := "4cda43e3e183f05810974d7f7c1da1ab6033f69a5f1862456b81263bab867640", func := "leapfrog/leapfroglaw20.MendNobody", spec := "mendNobody", unfollowed := true, recurses := true, apart := false, narrowed := true }
def MendNobodyUptoSaid : Prop := mendNobodyUptoRow.holds Try.pinned (OpenSpec.upto mendNobodySpec)

end Rows
end Go.Proofs.Ytpjobebheebncaa
