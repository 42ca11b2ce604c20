/-
  What the functions answer that RemoveNobody reaches (part 2): for each function of the program a plain function over abstract values, and that the model answers as it does.
-/
import Derived.Test.YtdppefkjoeefnaaGN1
set_option linter.unusedVariables false
set_option maxRecDepth 100000
namespace Go.Proofs.Ytdppefkjoeefnaa
open Go.Sim
noncomputable section
/-! ### leapfrog/leapfroglaw16.RemoveNobody: function 5 -/
def leapfroglaw16x_RemoveNobody.ctx : Ctx := [(13, .st remove_Remove_Tell.w), (15, .st remove_Remove_Wake.w), (10, .st remove_Remove_Next.w), (9, .rd leapfrogref12x_SameStep.w), (12, .rd remove_Remove_Marked.w), (6, .rd leapfroglaw16x_awakeC.w)]
def leapfroglaw16x_RemoveNobody.l3.p1 (S : Sig) (s21 : St) (xs20 : List Value) (rec22 : List Value → St → Option Cut) : Option Cut :=
  S.bd (idx s21 1 (xs20.getD 0 undef) (xs20.getD 2 undef)) fun x24 => S.bd (ldc s21 x24) fun x25 => S.bd (lal (cellsA (xs20.getD 3 undef)) 0 13) fun x26 => S.bd (remove_Remove_Tell.v x25 x26 s21) fun r27 => S.bd (remove_Remove_Wake.v x25 r27.2) fun r28 => S.bd (remove_Remove_Next.v x25 r28.2) fun r29 => S.bd (bld [(Go.Value.int Go.IntKind.i64 0), (Go.Value.int Go.IntKind.i64 0), (Go.Value.int Go.IntKind.i64 0), (Go.Value.int Go.IntKind.u64 0), (Go.Value.int Go.IntKind.i64 0), (Go.Value.int Go.IntKind.u64 0), (Go.Value.int Go.IntKind.i64 0), (Go.Value.int Go.IntKind.i64 0), (Go.Value.int Go.IntKind.u64 0), (Go.Value.int Go.IntKind.i64 0), (Go.Value.int Go.IntKind.i64 0), (Go.Value.int Go.IntKind.u64 0), (Go.Value.int Go.IntKind.i64 0), (Go.Value.int Go.IntKind.u64 0), (Go.Value.int Go.IntKind.i64 0), (Go.Value.int Go.IntKind.i64 0), (Go.Value.int Go.IntKind.u64 0), (Go.Value.int Go.IntKind.i64 0), (Go.Value.int Go.IntKind.u64 0), (Go.Value.int Go.IntKind.i64 0), (Go.Value.int Go.IntKind.i64 0), (Go.Value.int Go.IntKind.i64 0), (Go.Value.int Go.IntKind.u64 0), (Go.Value.slice Option.none 0 0), (Go.Value.slice Option.none 0 0), (Go.Value.int Go.IntKind.i64 0), (Go.Value.int Go.IntKind.i64 0), (Go.Value.int Go.IntKind.u64 0), (Go.Value.int Go.IntKind.i64 0), (Go.Value.int Go.IntKind.u64 0), (Go.Value.int Go.IntKind.i64 0), (Go.Value.int Go.IntKind.i64 0), (Go.Value.int Go.IntKind.u64 0), (Go.Value.int Go.IntKind.i64 0), (Go.Value.int Go.IntKind.u64 0), (Go.Value.bool Bool.false)] []) fun x30 => S.bd (leapfrogref12x_SameStep.r r29.1 x30 r29.2) fun x31 => S.bd (un .not x31) fun x32 => S.bd (S.gd x32 false (some x25)) fun x33 => S.bd (S.gd x32 false (remove_Remove_Marked.r x33 r29.2)) fun x34 => S.bd (pik x32 (Go.Value.bool Bool.true) x34) fun x35 => S.cnd x35 (some (1, [(Go.Value.bool Bool.false)], r29.2)) (S.bd (bin .add (xs20.getD 2 undef) (Go.Value.int Go.IntKind.i64 1)) fun x36 => rec22 [(xs20.getD 0 undef), (xs20.getD 1 undef), x36, (Value.agg ⟨(cellsA (xs20.getD 3 undef))⟩)] r29.2)

def leapfroglaw16x_RemoveNobody.l3 (S : Sig) (rec22 : List Value → St → Option Cut) (xs20 : List Value) (s21 : St) : Option Cut :=
  S.bd (bin .lss (xs20.getD 2 undef) (xs20.getD 1 undef)) fun x23 => S.cnd x23 (leapfroglaw16x_RemoveNobody.l3.p1 S s21 xs20 rec22) (some (0, [], s21))

def leapfroglaw16x_RemoveNobody.t (S : Sig) (a0 : Value) (s : St) : Option (Value × St) :=
  S.bd (bx a0) fun c1 => S.bd (bld [(Go.Value.int Go.IntKind.i64 0), (Go.Value.int Go.IntKind.i64 0), (Go.Value.int Go.IntKind.i64 0), (Go.Value.int Go.IntKind.u64 0), (Go.Value.int Go.IntKind.i64 0), (Go.Value.int Go.IntKind.u64 0), (Go.Value.int Go.IntKind.u64 0), (Go.Value.int Go.IntKind.i64 0), (Go.Value.int Go.IntKind.i64 0), Go.Value.nilIface, (Go.Value.int Go.IntKind.i64 0), (Go.Value.int Go.IntKind.i64 0), (Go.Value.int Go.IntKind.u64 0), (Go.Value.int Go.IntKind.i64 0), (Go.Value.int Go.IntKind.u64 0), (Go.Value.int Go.IntKind.i64 0), (Go.Value.bool Bool.false), (Go.Value.bool Bool.false), (Go.Value.int Go.IntKind.i64 0), (Go.Value.bool Bool.false)] []) fun x2 => S.bd (alv s x2) fun r3 => S.bd (S.bd (bls 1 (List.replicate 2 [(Go.Value.pointer Option.none)]) [(0, (Go.Value.pointer Option.none)), (1, r3.1)]) fun rows => als r3.2 1 2 rows) fun r4 => S.bd (lenL r4.1) fun x5 => S.bd (S.it (leapfroglaw16x_RemoveNobody.l3 S) [r4.1, x5, (Go.Value.int Go.IntKind.i64 0), (Value.agg ⟨c1⟩)] r4.2) fun r37 => if r37.1 = 0 then (S.bd (leapfroglaw16x_awakeC.r  r37.2.2) fun x38 => some (x38, r37.2.2)) else (some ((r37.2.1.getD 0 undef), r37.2.2))
def leapfroglaw16x_RemoveNobody.v (a0 : Value) (s : St) : Option (Value × St) := leapfroglaw16x_RemoveNobody.t std a0 s
def leapfroglaw16x_RemoveNobody.w : List Value → St → Option (Value × St)
  | [a0], s => leapfroglaw16x_RemoveNobody.v a0 s
  | _, _ => none
def leapfroglaw16x_RemoveNobody.an : An := ⟨31, false, [1], [(3, ⟨[.p 1 1 0, .v 9, .v 10, .v 11, .l 1], [(.exit 0, []), (.ret, [.v 2])]⟩)], [], []⟩
theorem leapfroglaw16x_RemoveNobody.ok (S : Sig) (a0 : Value) (s : St) : evF S Try.prog leapfroglaw16x_RemoveNobody.ctx leapfroglaw16x_RemoveNobody.an Try.f5 [a0] s = leapfroglaw16x_RemoveNobody.t S a0 s := by kernel_rfl
theorem leapfroglaw16x_RemoveNobody.cok : CtxOk Try.prog leapfroglaw16x_RemoveNobody.ctx := .cons remove_Remove_Tell.sound remove_Remove_Tell.can <| .cons remove_Remove_Wake.sound remove_Remove_Wake.can <| .cons remove_Remove_Next.sound remove_Remove_Next.can <| .cons leapfrogref12x_SameStep.sound leapfrogref12x_SameStep.can <| .cons remove_Remove_Marked.sound remove_Remove_Marked.can <| .cons leapfroglaw16x_awakeC.sound leapfroglaw16x_awakeC.can <| .nil
theorem leapfroglaw16x_RemoveNobody.draws : fnDraws leapfroglaw16x_RemoveNobody.an Try.f5 = true := by kernel_rfl
theorem leapfroglaw16x_RemoveNobody.can : callOk Try.prog 5 = true := by kernel_rfl
theorem leapfroglaw16x_RemoveNobody.sound : FnOk Try.prog 5 (.st leapfroglaw16x_RemoveNobody.w) := FnOk.st_of (evF_ok leapfroglaw16x_RemoveNobody.cok mixed (f := 5) (fn := Try.f5) (by kernel_rfl) leapfroglaw16x_RemoveNobody.draws) fun args s r h => by
  unfold leapfroglaw16x_RemoveNobody.w at h; split at h
  · rw [leapfroglaw16x_RemoveNobody.ok std]; exact h
  · simp at h


end
end Go.Proofs.Ytdppefkjoeefnaa
