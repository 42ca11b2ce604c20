/-
  What the functions answer that SeekFinds, SeekDead, SeekPasses, SeekEnds, SeekRises, SeekRuns reaches (part 0): for each function of the program a plain function over abstract values, and that the model answers as it does.
-/
import Derived.Test.YtonnegfkokghdaaSimZ
import Derived.Test.YtonnegfkokghdaaProg
import Derived.KernelRfl
set_option linter.unusedVariables false
set_option maxRecDepth 100000
namespace Go.Proofs.Ytonnegfkokghdaa
open Go.Sim
noncomputable section
theorem mixed : Try.prog.follows .mixedOrders = true := by kernel_rfl
/-! ### leapfrog/leapfrogref12.Head: function 12 -/
def leapfrogref12x_Head.ctx : Ctx := []
def leapfrogref12x_Head.t (S : Sig) (a0 : Value) (s : St) : Option Value :=
  S.bd (bx (Go.Value.agg #[(Go.Value.int Go.IntKind.i64 0), (Go.Value.int Go.IntKind.i64 0), (Go.Value.int Go.IntKind.u64 0), (Go.Value.int Go.IntKind.i64 0), (Go.Value.int Go.IntKind.u64 0)])) fun c1 => S.bd (bld [(Go.Value.int Go.IntKind.i64 0), (Go.Value.int Go.IntKind.u64 0)] [(0, 1, (Go.Value.int Go.IntKind.i64 1))]) fun x2 => S.bd (bld [(Go.Value.int Go.IntKind.i64 0), (Go.Value.int Go.IntKind.u64 0)] [(0, 1, a0)]) fun x3 => S.bd (bld [(Go.Value.int Go.IntKind.i64 0), (Go.Value.int Go.IntKind.i64 0), (Go.Value.int Go.IntKind.u64 0), (Go.Value.int Go.IntKind.i64 0), (Go.Value.int Go.IntKind.u64 0)] [(1, 2, x2), (3, 2, x3)]) fun x4 => S.bd (stl c1 0 5 x4) fun c5 => S.bd (lal c5 0 5) fun x6 => some (x6)
def leapfrogref12x_Head.r (a0 : Value) (s : St) : Option Value := leapfrogref12x_Head.t std a0 s
def leapfrogref12x_Head.w : List Value → St → Option Value
  | [a0], s => leapfrogref12x_Head.r a0 s
  | _, _ => none
def leapfrogref12x_Head.an : An := ⟨7, true, [2], [], [], []⟩
theorem leapfrogref12x_Head.ok (S : Sig) (a0 : Value) (s : St) : evG S Try.prog leapfrogref12x_Head.ctx leapfrogref12x_Head.an Try.f12 [a0] s = leapfrogref12x_Head.t S a0 s := by kernel_rfl
theorem leapfrogref12x_Head.cok : CtxOk Try.prog leapfrogref12x_Head.ctx := .nil
theorem leapfrogref12x_Head.draws : fnDraws leapfrogref12x_Head.an Try.f12 = true := by kernel_rfl
theorem leapfrogref12x_Head.can : callOk Try.prog 12 = true := by kernel_rfl
theorem leapfrogref12x_Head.sound : FnOk Try.prog 12 (.rd leapfrogref12x_Head.w) := FnOk.rd_of (evG_ok leapfrogref12x_Head.cok mixed (f := 12) (fn := Try.f12) (by kernel_rfl) leapfrogref12x_Head.draws) fun args s r h => by
  unfold leapfrogref12x_Head.w at h; split at h
  · rw [leapfrogref12x_Head.ok std]; exact h
  · simp at h

/-! ### leapfrog/leapfrogref02.At: function 13 -/
def leapfrogref02x_At.ctx : Ctx := []
def leapfrogref02x_At.t (S : Sig) (a0 : Value) (s : St) : Option Value :=
  S.bd (bx (Go.Value.agg #[(Go.Value.int Go.IntKind.i64 0), (Go.Value.int Go.IntKind.u64 0)])) fun c1 => S.bd (bld [(Go.Value.int Go.IntKind.i64 0), (Go.Value.int Go.IntKind.u64 0)] [(0, 1, (Go.Value.int Go.IntKind.i64 2)), (1, 1, a0)]) fun x2 => S.bd (stl c1 0 2 x2) fun c3 => S.bd (lal c3 0 2) fun x4 => some (x4)
def leapfrogref02x_At.r (a0 : Value) (s : St) : Option Value := leapfrogref02x_At.t std a0 s
def leapfrogref02x_At.w : List Value → St → Option Value
  | [a0], s => leapfrogref02x_At.r a0 s
  | _, _ => none
def leapfrogref02x_At.an : An := ⟨5, true, [2], [], [], []⟩
theorem leapfrogref02x_At.ok (S : Sig) (a0 : Value) (s : St) : evG S Try.prog leapfrogref02x_At.ctx leapfrogref02x_At.an Try.f13 [a0] s = leapfrogref02x_At.t S a0 s := by kernel_rfl
theorem leapfrogref02x_At.cok : CtxOk Try.prog leapfrogref02x_At.ctx := .nil
theorem leapfrogref02x_At.draws : fnDraws leapfrogref02x_At.an Try.f13 = true := by kernel_rfl
theorem leapfrogref02x_At.can : callOk Try.prog 13 = true := by kernel_rfl
theorem leapfrogref02x_At.sound : FnOk Try.prog 13 (.rd leapfrogref02x_At.w) := FnOk.rd_of (evG_ok leapfrogref02x_At.cok mixed (f := 13) (fn := Try.f13) (by kernel_rfl) leapfrogref02x_At.draws) fun args s r h => by
  unfold leapfrogref02x_At.w at h; split at h
  · rw [leapfrogref02x_At.ok std]; exact h
  · simp at h

/-! ### leapfrog/key.Check: function 35 -/
def key_Check.ctx : Ctx := []
def key_Check.t (S : Sig) (a0 : Value) (s : St) : Option Value :=
  S.bd (bx a0) fun c1 => S.bd (lcl c1 0) fun x2 => S.bd (eqb [1] false false x2 (Go.Value.int Go.IntKind.i64 2)) fun x3 => S.bd (S.gd x3 false (lcl c1 0)) fun x4 => S.bd (S.gd x3 false (eqb [1] false false x4 (Go.Value.int Go.IntKind.i64 1))) fun x5 => S.bd (S.gd x3 false (some x5)) fun x6 => S.bd (S.gd x6 false (lcl c1 0)) fun x7 => S.bd (S.gd x6 false (eqb [1] false false x7 (Go.Value.int Go.IntKind.i64 3))) fun x8 => S.bd (S.gd x3 false (pik x6 (Go.Value.bool Bool.true) x8)) fun x9 => S.bd (S.gd x3 false (some x9)) fun x10 => S.bd (S.gd x10 true (lcl c1 1)) fun x11 => S.bd (S.gd x10 true (eqb [1] false false x11 (Go.Value.int Go.IntKind.u64 0))) fun x12 => S.bd (S.gd x3 false (pik x10 x12 (Go.Value.bool Bool.false))) fun x13 => S.bd (pik x3 (Go.Value.bool Bool.true) x13) fun x14 => S.cnd x14 (some ((Go.Value.int Go.IntKind.i64 0))) (some ((Go.Value.int Go.IntKind.i64 20)))
def key_Check.r (a0 : Value) (s : St) : Option Value := key_Check.t std a0 s
def key_Check.w : List Value → St → Option Value
  | [a0], s => key_Check.r a0 s
  | _, _ => none
def key_Check.an : An := ⟨21, true, [1], [], [], []⟩
theorem key_Check.ok (S : Sig) (a0 : Value) (s : St) : evG S Try.prog key_Check.ctx key_Check.an Try.f35 [a0] s = key_Check.t S a0 s := by kernel_rfl
theorem key_Check.cok : CtxOk Try.prog key_Check.ctx := .nil
theorem key_Check.draws : fnDraws key_Check.an Try.f35 = true := by kernel_rfl
theorem key_Check.can : callOk Try.prog 35 = true := by kernel_rfl
theorem key_Check.sound : FnOk Try.prog 35 (.rd key_Check.w) := FnOk.rd_of (evG_ok key_Check.cok mixed (f := 35) (fn := Try.f35) (by kernel_rfl) key_Check.draws) fun args s r h => by
  unfold key_Check.w at h; split at h
  · rw [key_Check.ok std]; exact h
  · simp at h

/-! ### leapfrog/vec.low: function 61 -/
def vec_low.ctx : Ctx := []
def vec_low.t (S : Sig) (a0 : Value) (s : St) : Option Value :=
  S.bd (cvi .u64 a0) fun x1 => S.bd (bin .shl (Go.Value.int Go.IntKind.u64 1) x1) fun x2 => S.bd (bin .sub x2 (Go.Value.int Go.IntKind.u64 1)) fun x3 => some (x3)
def vec_low.r (a0 : Value) (s : St) : Option Value := vec_low.t std a0 s
def vec_low.w : List Value → St → Option Value
  | [a0], s => vec_low.r a0 s
  | _, _ => none
def vec_low.an : An := ⟨7, true, [], [], [], []⟩
theorem vec_low.ok (S : Sig) (a0 : Value) (s : St) : evG S Try.prog vec_low.ctx vec_low.an Try.f61 [a0] s = vec_low.t S a0 s := by kernel_rfl
theorem vec_low.cok : CtxOk Try.prog vec_low.ctx := .nil
theorem vec_low.draws : fnDraws vec_low.an Try.f61 = true := by kernel_rfl
theorem vec_low.can : callOk Try.prog 61 = true := by kernel_rfl
theorem vec_low.sound : FnOk Try.prog 61 (.rd vec_low.w) := FnOk.rd_of (evG_ok vec_low.cok mixed (f := 61) (fn := Try.f61) (by kernel_rfl) vec_low.draws) fun args s r h => by
  unfold vec_low.w at h; split at h
  · rw [vec_low.ok std]; exact h
  · simp at h

/-! ### leapfrog/vec.Right: function 51 -/
def vec_Right.ctx : Ctx := [(61, .rd vec_low.w)]
def vec_Right.t (S : Sig) (a0 : Value) (s : St) : Option Value :=
  S.bd (bx a0) fun c1 => S.bd (lcl c1 0) fun x2 => S.bd (bin .lss x2 (Go.Value.int Go.IntKind.i64 0)) fun x3 => S.bd (S.gd x3 false (lcl c1 0)) fun x4 => S.bd (S.gd x3 false (bin .gtr x4 (Go.Value.int Go.IntKind.i64 32))) fun x5 => S.bd (pik x3 (Go.Value.bool Bool.true) x5) fun x6 => S.bd (S.gd x6 false (lcl c1 1)) fun x7 => S.bd (S.gd x6 false (lcl c1 0)) fun x8 => S.bd (S.gd x6 false (vec_low.r x8 s)) fun x9 => S.bd (S.gd x6 false (bin .gtr x7 x9)) fun x10 => S.bd (pik x6 (Go.Value.bool Bool.true) x10) fun x11 => S.cnd x11 (some ((Go.Value.int Go.IntKind.i64 10))) (some ((Go.Value.int Go.IntKind.i64 0)))
def vec_Right.r (a0 : Value) (s : St) : Option Value := vec_Right.t std a0 s
def vec_Right.w : List Value → St → Option Value
  | [a0], s => vec_Right.r a0 s
  | _, _ => none
def vec_Right.an : An := ⟨19, true, [1], [], [], [(1, [(0, 0, [], []), (1, 9, [], []), (2, 0, [], []), (3, 0, [], []), (4, 0, [], []), (5, 9, [], []), (6, 0, [], []), (7, 0, [], []), (8, 0, [], []), (9, 0, [], []), (10, 9, [], []), (11, 0, [], []), (12, 9, [], []), (13, 3, [], []), (14, 0, [], []), (15, 0, [], [])])]⟩
theorem vec_Right.ok (S : Sig) (a0 : Value) (s : St) : evG S Try.prog vec_Right.ctx vec_Right.an Try.f51 [a0] s = vec_Right.t S a0 s := by kernel_rfl
theorem vec_Right.cok : CtxOk Try.prog vec_Right.ctx := .cons vec_low.sound vec_low.can <| .nil
theorem vec_Right.draws : fnDraws vec_Right.an Try.f51 = true := by kernel_rfl
theorem vec_Right.can : callOk Try.prog 51 = true := by kernel_rfl
theorem vec_Right.sound : FnOk Try.prog 51 (.rd vec_Right.w) := FnOk.rd_of (evG_ok vec_Right.cok mixed (f := 51) (fn := Try.f51) (by kernel_rfl) vec_Right.draws) fun args s r h => by
  unfold vec_Right.w at h; split at h
  · rw [vec_Right.ok std]; exact h
  · simp at h

/-! ### leapfrog/seek.right: function 34 -/
def seek_right.ctx : Ctx := [(35, .rd key_Check.w), (51, .rd vec_Right.w)]
def seek_right.t (S : Sig) (a0 a1 : Value) (s : St) : Option Value :=
  S.bd (bx a0) fun c1 => S.bd (lal c1 1 2) fun x2 => S.bd (key_Check.r x2 s) fun x3 => S.bd (eqb [1] false false x3 (Go.Value.int Go.IntKind.i64 0)) fun x4 => S.bd (S.gd x4 true (lal c1 3 2)) fun x5 => S.bd (S.gd x4 true (vec_Right.r x5 s)) fun x6 => S.bd (S.gd x4 true (eqb [1] false false x6 (Go.Value.int Go.IntKind.i64 0))) fun x7 => S.bd (pik x4 x7 (Go.Value.bool Bool.false)) fun x8 => S.bd (S.gd x8 true (lcl c1 3)) fun x9 => S.bd (S.gd x8 true (some a1)) fun x10 => S.bd (S.gd x8 true (eqb [1] false false x9 x10)) fun x11 => S.bd (pik x8 x11 (Go.Value.bool Bool.false)) fun x12 => some (x12)
def seek_right.r (a0 a1 : Value) (s : St) : Option Value := seek_right.t std a0 a1 s
def seek_right.w : List Value → St → Option Value
  | [a0, a1], s => seek_right.r a0 a1 s
  | _, _ => none
def seek_right.an : An := ⟨22, true, [2], [], [], []⟩
theorem seek_right.ok (S : Sig) (a0 a1 : Value) (s : St) : evG S Try.prog seek_right.ctx seek_right.an Try.f34 [a0, a1] s = seek_right.t S a0 a1 s := by kernel_rfl
theorem seek_right.cok : CtxOk Try.prog seek_right.ctx := .cons key_Check.sound key_Check.can <| .cons vec_Right.sound vec_Right.can <| .nil
theorem seek_right.draws : fnDraws seek_right.an Try.f34 = true := by kernel_rfl
theorem seek_right.can : callOk Try.prog 34 = true := by kernel_rfl
theorem seek_right.sound : FnOk Try.prog 34 (.rd seek_right.w) := FnOk.rd_of (evG_ok seek_right.cok mixed (f := 34) (fn := Try.f34) (by kernel_rfl) seek_right.draws) fun args s r h => by
  unfold seek_right.w at h; split at h
  · rw [seek_right.ok std]; exact h
  · simp at h

/-! ### leapfrog/seek.New: function 17 -/
def seek_New.ctx : Ctx := [(34, .rd seek_right.w), (35, .rd key_Check.w)]
def seek_New.t.p1 (S : Sig) (x6 : Value) (x9 : Value) (c1 : List Value) (s : St) : Option (Value × St) :=
  S.bd (S.gd x6 false (un .not x9)) fun x10 => S.bd (pik x6 (Go.Value.bool Bool.true) x10) fun x11 => S.bd (S.gd x11 false (lal c1 6 2)) fun x12 => S.bd (S.gd x11 false (key_Check.r x12 s)) fun x13 => S.bd (S.gd x11 false (eqb [1] false true x13 (Go.Value.int Go.IntKind.i64 0))) fun x14 => S.bd (pik x11 (Go.Value.bool Bool.true) x14) fun x15 => S.bd (S.gd x15 false (lcl c1 6)) fun x16 => S.bd (S.gd x15 false (eqb [1] false false x16 (Go.Value.int Go.IntKind.i64 1))) fun x17 => S.bd (pik x15 (Go.Value.bool Bool.true) x17) fun x18 => S.cnd x18 (some ((Value.tuple ⟨[(Go.Value.pointer Option.none), (Go.Value.int Go.IntKind.i64 120)]⟩), s)) (S.bd (lal c1 0 8) fun x19 => S.bd (lal c1 1 5) fun x20 => S.bd (lal c1 4 2) fun x21 => S.bd (mkm s) fun r22 => S.bd (bld [(Go.Value.int Go.IntKind.i64 0), (Go.Value.int Go.IntKind.i64 0), (Go.Value.int Go.IntKind.i64 0), (Go.Value.int Go.IntKind.u64 0), (Go.Value.int Go.IntKind.i64 0), (Go.Value.int Go.IntKind.u64 0), (Go.Value.int Go.IntKind.i64 0), (Go.Value.int Go.IntKind.u64 0), (Go.Value.bool Bool.false), (Go.Value.int Go.IntKind.i64 0), (Go.Value.int Go.IntKind.i64 0), (Go.Value.int Go.IntKind.u64 0), (Go.Value.int Go.IntKind.i64 0), (Go.Value.int Go.IntKind.u64 0), (Go.Value.int Go.IntKind.i64 0), (Go.Value.int Go.IntKind.u64 0), (Go.Value.bool Bool.false), (Go.Value.int Go.IntKind.i64 0), (Go.Value.int Go.IntKind.i64 0), (Go.Value.int Go.IntKind.u64 0), (Go.Value.int Go.IntKind.i64 0), (Go.Value.int Go.IntKind.u64 0), (Go.Value.map Option.none), (Go.Value.int Go.IntKind.i64 0), (Go.Value.bool Bool.false), (Go.Value.int Go.IntKind.i64 0), (Go.Value.int Go.IntKind.u64 0), (Go.Value.slice Option.none 0 0), (Go.Value.slice Option.none 0 0), (Go.Value.int Go.IntKind.i64 0), (Go.Value.int Go.IntKind.i64 0), (Go.Value.int Go.IntKind.u64 0), (Go.Value.int Go.IntKind.i64 0), (Go.Value.int Go.IntKind.u64 0), (Go.Value.int Go.IntKind.i64 0), (Go.Value.int Go.IntKind.i64 0), (Go.Value.int Go.IntKind.u64 0), (Go.Value.int Go.IntKind.i64 0), (Go.Value.int Go.IntKind.u64 0), (Go.Value.bool Bool.false)] [(0, 8, x19), (8, 1, (Go.Value.bool Bool.true)), (9, 5, x20), (14, 2, x21), (22, 1, r22.1)]) fun x23 => S.bd (alv r22.2 x23) fun r24 => some ((Value.tuple ⟨[r24.1, (Go.Value.int Go.IntKind.i64 0)]⟩), r24.2))

def seek_New.t (S : Sig) (a0 : Value) (s : St) : Option (Value × St) :=
  S.bd (bx a0) fun c1 => S.bd (lcl c1 0) fun x2 => S.bd (bin .lss x2 (Go.Value.int Go.IntKind.i64 0)) fun x3 => S.bd (S.gd x3 false (lcl c1 0)) fun x4 => S.bd (S.gd x3 false (bin .gtr x4 (Go.Value.int Go.IntKind.i64 32))) fun x5 => S.bd (pik x3 (Go.Value.bool Bool.true) x5) fun x6 => S.bd (S.gd x6 false (lal c1 1 5)) fun x7 => S.bd (S.gd x6 false (lcl c1 0)) fun x8 => S.bd (S.gd x6 false (seek_right.r x7 x8 s)) fun x9 => seek_New.t.p1 S x6 x9 c1 s
def seek_New.v (a0 : Value) (s : St) : Option (Value × St) := seek_New.t std a0 s
def seek_New.w : List Value → St → Option (Value × St)
  | [a0], s => seek_New.v a0 s
  | _, _ => none
def seek_New.an : An := ⟨41, false, [1], [], [], []⟩
theorem seek_New.ok (S : Sig) (a0 : Value) (s : St) : evF S Try.prog seek_New.ctx seek_New.an Try.f17 [a0] s = seek_New.t S a0 s := by kernel_rfl
theorem seek_New.cok : CtxOk Try.prog seek_New.ctx := .cons seek_right.sound seek_right.can <| .cons key_Check.sound key_Check.can <| .nil
theorem seek_New.draws : fnDraws seek_New.an Try.f17 = true := by kernel_rfl
theorem seek_New.can : callOk Try.prog 17 = true := by kernel_rfl
theorem seek_New.sound : FnOk Try.prog 17 (.st seek_New.w) := FnOk.st_of (evF_ok seek_New.cok mixed (f := 17) (fn := Try.f17) (by kernel_rfl) seek_New.draws) fun args s r h => by
  unfold seek_New.w at h; split at h
  · rw [seek_New.ok std]; exact h
  · simp at h

/-! ### (*leapfrog/seek.Seek).is: function 36 -/
def seek_Seek_is.ctx : Ctx := []
def seek_Seek_is.t (S : Sig) (a0 : Value) (s : St) : Option Value :=
  S.bd (eqb [3] false true a0 (Go.Value.pointer Option.none)) fun x1 => S.bd (S.gd x1 true (some a0)) fun x2 => S.bd (S.gd x1 true (nck x2)) fun x3 => S.bd (S.gd x1 true (fld 8 x3)) fun x4 => S.bd (S.gd x1 true (ldc s x4)) fun x5 => S.bd (pik x1 x5 (Go.Value.bool Bool.false)) fun x6 => some (x6)
def seek_Seek_is.r (a0 : Value) (s : St) : Option Value := seek_Seek_is.t std a0 s
def seek_Seek_is.w : List Value → St → Option Value
  | [a0], s => seek_Seek_is.r a0 s
  | _, _ => none
def seek_Seek_is.an : An := ⟨11, true, [], [], [], []⟩
theorem seek_Seek_is.ok (S : Sig) (a0 : Value) (s : St) : evG S Try.prog seek_Seek_is.ctx seek_Seek_is.an Try.f36 [a0] s = seek_Seek_is.t S a0 s := by kernel_rfl
theorem seek_Seek_is.cok : CtxOk Try.prog seek_Seek_is.ctx := .nil
theorem seek_Seek_is.draws : fnDraws seek_Seek_is.an Try.f36 = true := by kernel_rfl
theorem seek_Seek_is.can : callOk Try.prog 36 = true := by kernel_rfl
theorem seek_Seek_is.sound : FnOk Try.prog 36 (.rd seek_Seek_is.w) := FnOk.rd_of (evG_ok seek_Seek_is.cok mixed (f := 36) (fn := Try.f36) (by kernel_rfl) seek_Seek_is.draws) fun args s r h => by
  unfold seek_Seek_is.w at h; split at h
  · rw [seek_Seek_is.ok std]; exact h
  · simp at h

/-! ### (*leapfrog/seek.Seek).Next: function 19 -/
def seek_Seek_Next.ctx : Ctx := [(36, .rd seek_Seek_is.w)]
def seek_Seek_Next.t.p1 (S : Sig) (r35 : Cut) (x38 : Value) (x36 : Value) : Option Value :=
  S.bd (lda r35.2.2 2 x38) fun x39 => S.bd (bld [(Go.Value.int Go.IntKind.i64 0), (Go.Value.int Go.IntKind.i64 0), (Go.Value.int Go.IntKind.u64 0), (Go.Value.int Go.IntKind.i64 0), (Go.Value.int Go.IntKind.i64 0), (Go.Value.int Go.IntKind.u64 0), (Go.Value.int Go.IntKind.i64 0), (Go.Value.int Go.IntKind.u64 0), (Go.Value.int Go.IntKind.i64 0), (Go.Value.int Go.IntKind.i64 0), (Go.Value.int Go.IntKind.u64 0), (Go.Value.int Go.IntKind.i64 0), (Go.Value.int Go.IntKind.u64 0), (Go.Value.int Go.IntKind.i64 0), (Go.Value.int Go.IntKind.i64 0)] [(0, 1, (Go.Value.int Go.IntKind.i64 1)), (1, 2, x39)]) fun x40 => S.bd (bld [(Go.Value.int Go.IntKind.i64 0), (Go.Value.int Go.IntKind.i64 0), (Go.Value.int Go.IntKind.i64 0), (Go.Value.int Go.IntKind.u64 0), (Go.Value.int Go.IntKind.i64 0), (Go.Value.int Go.IntKind.u64 0), (Go.Value.int Go.IntKind.i64 0), (Go.Value.int Go.IntKind.i64 0), (Go.Value.int Go.IntKind.u64 0), (Go.Value.int Go.IntKind.i64 0), (Go.Value.int Go.IntKind.i64 0), (Go.Value.int Go.IntKind.u64 0), (Go.Value.int Go.IntKind.i64 0), (Go.Value.int Go.IntKind.u64 0), (Go.Value.int Go.IntKind.i64 0), (Go.Value.int Go.IntKind.i64 0), (Go.Value.int Go.IntKind.u64 0), (Go.Value.int Go.IntKind.i64 0), (Go.Value.int Go.IntKind.u64 0), (Go.Value.int Go.IntKind.i64 0), (Go.Value.int Go.IntKind.i64 0), (Go.Value.int Go.IntKind.i64 0), (Go.Value.int Go.IntKind.u64 0), (Go.Value.slice Option.none 0 0), (Go.Value.slice Option.none 0 0), (Go.Value.int Go.IntKind.i64 0), (Go.Value.int Go.IntKind.i64 0), (Go.Value.int Go.IntKind.u64 0), (Go.Value.int Go.IntKind.i64 0), (Go.Value.int Go.IntKind.u64 0), (Go.Value.int Go.IntKind.i64 0), (Go.Value.int Go.IntKind.i64 0), (Go.Value.int Go.IntKind.u64 0), (Go.Value.int Go.IntKind.i64 0), (Go.Value.int Go.IntKind.u64 0), (Go.Value.bool Bool.false)] [(0, 1, (Go.Value.int Go.IntKind.i64 1)), (1, 5, x36), (6, 15, x40)]) fun x41 => S.bd (stl (cellsA (r35.2.1.getD 1 undef)) 0 36 x41) fun c42 => S.bd (lal c42 0 36) fun x43 => some (x43)

def seek_Seek_Next.t.p2 (S : Sig) (a0 : Value) (s : St) (c1 : List Value) : Option Value :=
  S.bd (nck a0) fun x7 => S.bd (fld 24 x7) fun x8 => S.bd (ldc s x8) fun x9 => S.cnd x9 (S.bd (nck a0) fun x10 => S.bd (fld 25 x10) fun x11 => S.bd (lda s 15 x11) fun x12 => S.bd (bld [(Go.Value.int Go.IntKind.i64 0), (Go.Value.int Go.IntKind.i64 0), (Go.Value.int Go.IntKind.i64 0), (Go.Value.int Go.IntKind.u64 0), (Go.Value.int Go.IntKind.i64 0), (Go.Value.int Go.IntKind.u64 0), (Go.Value.int Go.IntKind.i64 0), (Go.Value.int Go.IntKind.i64 0), (Go.Value.int Go.IntKind.u64 0), (Go.Value.int Go.IntKind.i64 0), (Go.Value.int Go.IntKind.i64 0), (Go.Value.int Go.IntKind.u64 0), (Go.Value.int Go.IntKind.i64 0), (Go.Value.int Go.IntKind.u64 0), (Go.Value.int Go.IntKind.i64 0), (Go.Value.int Go.IntKind.i64 0), (Go.Value.int Go.IntKind.u64 0), (Go.Value.int Go.IntKind.i64 0), (Go.Value.int Go.IntKind.u64 0), (Go.Value.int Go.IntKind.i64 0), (Go.Value.int Go.IntKind.i64 0), (Go.Value.int Go.IntKind.i64 0), (Go.Value.int Go.IntKind.u64 0), (Go.Value.slice Option.none 0 0), (Go.Value.slice Option.none 0 0), (Go.Value.int Go.IntKind.i64 0), (Go.Value.int Go.IntKind.i64 0), (Go.Value.int Go.IntKind.u64 0), (Go.Value.int Go.IntKind.i64 0), (Go.Value.int Go.IntKind.u64 0), (Go.Value.int Go.IntKind.i64 0), (Go.Value.int Go.IntKind.i64 0), (Go.Value.int Go.IntKind.u64 0), (Go.Value.int Go.IntKind.i64 0), (Go.Value.int Go.IntKind.u64 0), (Go.Value.bool Bool.false)] [(0, 1, (Go.Value.int Go.IntKind.i64 3)), (21, 15, x12)]) fun x13 => S.bd (stl c1 0 36 x13) fun c14 => S.bd (lal c14 0 36) fun x15 => some (x15)) (S.bd (nck a0) fun x16 => S.bd (fld 9 x16) fun x17 => S.bd (lda s 5 x17) fun x18 => S.bd (bx (Go.Value.agg #[(Go.Value.int Go.IntKind.i64 0), (Go.Value.int Go.IntKind.i64 0), (Go.Value.int Go.IntKind.u64 0), (Go.Value.int Go.IntKind.i64 0), (Go.Value.int Go.IntKind.u64 0)])) fun c19 => S.bd (stl c19 0 5 x18) fun c20 => S.bd (show Option Cut from S.bd (nck a0) fun x28 => S.bd (fld 16 x28) fun x29 => S.bd (ldc s x29) fun x30 => S.cnd x30 (S.bd (nck a0) fun x31 => S.bd (fld 17 x31) fun x32 => S.bd (lda s 5 x32) fun x33 => S.bd (stl c20 0 5 x33) fun c34 => some (0, [a0, (Value.agg ⟨c1⟩), (Value.agg ⟨c34⟩)], s)) (some (0, [a0, (Value.agg ⟨c1⟩), (Value.agg ⟨c20⟩)], s))) fun r35 => S.bd (lal (cellsA (r35.2.1.getD 2 undef)) 0 5) fun x36 => S.bd (nck (r35.2.1.getD 0 undef)) fun x37 => S.bd (fld 14 x37) fun x38 => seek_Seek_Next.t.p1 S r35 x38 x36)

def seek_Seek_Next.t (S : Sig) (a0 : Value) (s : St) : Option Value :=
  S.bd (bx (Go.Value.agg #[(Go.Value.int Go.IntKind.i64 0), (Go.Value.int Go.IntKind.i64 0), (Go.Value.int Go.IntKind.i64 0), (Go.Value.int Go.IntKind.u64 0), (Go.Value.int Go.IntKind.i64 0), (Go.Value.int Go.IntKind.u64 0), (Go.Value.int Go.IntKind.i64 0), (Go.Value.int Go.IntKind.i64 0), (Go.Value.int Go.IntKind.u64 0), (Go.Value.int Go.IntKind.i64 0), (Go.Value.int Go.IntKind.i64 0), (Go.Value.int Go.IntKind.u64 0), (Go.Value.int Go.IntKind.i64 0), (Go.Value.int Go.IntKind.u64 0), (Go.Value.int Go.IntKind.i64 0), (Go.Value.int Go.IntKind.i64 0), (Go.Value.int Go.IntKind.u64 0), (Go.Value.int Go.IntKind.i64 0), (Go.Value.int Go.IntKind.u64 0), (Go.Value.int Go.IntKind.i64 0), (Go.Value.int Go.IntKind.i64 0), (Go.Value.int Go.IntKind.i64 0), (Go.Value.int Go.IntKind.u64 0), (Go.Value.slice Option.none 0 0), (Go.Value.slice Option.none 0 0), (Go.Value.int Go.IntKind.i64 0), (Go.Value.int Go.IntKind.i64 0), (Go.Value.int Go.IntKind.u64 0), (Go.Value.int Go.IntKind.i64 0), (Go.Value.int Go.IntKind.u64 0), (Go.Value.int Go.IntKind.i64 0), (Go.Value.int Go.IntKind.i64 0), (Go.Value.int Go.IntKind.u64 0), (Go.Value.int Go.IntKind.i64 0), (Go.Value.int Go.IntKind.u64 0), (Go.Value.bool Bool.false)])) fun c1 => S.bd (seek_Seek_is.r a0 s) fun x2 => S.bd (un .not x2) fun x3 => S.cnd x3 (S.bd (bld [(Go.Value.int Go.IntKind.i64 0), (Go.Value.int Go.IntKind.i64 0), (Go.Value.int Go.IntKind.i64 0), (Go.Value.int Go.IntKind.u64 0), (Go.Value.int Go.IntKind.i64 0), (Go.Value.int Go.IntKind.u64 0), (Go.Value.int Go.IntKind.i64 0), (Go.Value.int Go.IntKind.i64 0), (Go.Value.int Go.IntKind.u64 0), (Go.Value.int Go.IntKind.i64 0), (Go.Value.int Go.IntKind.i64 0), (Go.Value.int Go.IntKind.u64 0), (Go.Value.int Go.IntKind.i64 0), (Go.Value.int Go.IntKind.u64 0), (Go.Value.int Go.IntKind.i64 0), (Go.Value.int Go.IntKind.i64 0), (Go.Value.int Go.IntKind.u64 0), (Go.Value.int Go.IntKind.i64 0), (Go.Value.int Go.IntKind.u64 0), (Go.Value.int Go.IntKind.i64 0), (Go.Value.int Go.IntKind.i64 0), (Go.Value.int Go.IntKind.i64 0), (Go.Value.int Go.IntKind.u64 0), (Go.Value.slice Option.none 0 0), (Go.Value.slice Option.none 0 0), (Go.Value.int Go.IntKind.i64 0), (Go.Value.int Go.IntKind.i64 0), (Go.Value.int Go.IntKind.u64 0), (Go.Value.int Go.IntKind.i64 0), (Go.Value.int Go.IntKind.u64 0), (Go.Value.int Go.IntKind.i64 0), (Go.Value.int Go.IntKind.i64 0), (Go.Value.int Go.IntKind.u64 0), (Go.Value.int Go.IntKind.i64 0), (Go.Value.int Go.IntKind.u64 0), (Go.Value.bool Bool.false)] []) fun x4 => S.bd (stl c1 0 36 x4) fun c5 => S.bd (lal c5 0 36) fun x6 => some (x6)) (seek_Seek_Next.t.p2 S a0 s c1)
def seek_Seek_Next.r (a0 : Value) (s : St) : Option Value := seek_Seek_Next.t std a0 s
def seek_Seek_Next.w : List Value → St → Option Value
  | [a0], s => seek_Seek_Next.r a0 s
  | _, _ => none
def seek_Seek_Next.an : An := ⟨36, true, [2, 3], [], [(8, ⟨[], [(.normal, [.v 0, .p 2 2 0, .p 3 3 0, .l 2, .l 3])]⟩)], [(8, [(0, 25, [], []), (1, 0, [], []), (2, 0, [], []), (3, 0, [], []), (4, 2, [], []), (5, 0, [], []), (6, 0, [], []), (7, 21, [], [])])]⟩
theorem seek_Seek_Next.ok (S : Sig) (a0 : Value) (s : St) : evG S Try.prog seek_Seek_Next.ctx seek_Seek_Next.an Try.f19 [a0] s = seek_Seek_Next.t S a0 s := by kernel_rfl
theorem seek_Seek_Next.cok : CtxOk Try.prog seek_Seek_Next.ctx := .cons seek_Seek_is.sound seek_Seek_is.can <| .nil
theorem seek_Seek_Next.draws : fnDraws seek_Seek_Next.an Try.f19 = true := by kernel_rfl
theorem seek_Seek_Next.can : callOk Try.prog 19 = true := by kernel_rfl
theorem seek_Seek_Next.sound : FnOk Try.prog 19 (.rd seek_Seek_Next.w) := FnOk.rd_of (evG_ok seek_Seek_Next.cok mixed (f := 19) (fn := Try.f19) (by kernel_rfl) seek_Seek_Next.draws) fun args s r h => by
  unfold seek_Seek_Next.w at h; split at h
  · rw [seek_Seek_Next.ok std]; exact h
  · simp at h

/-! ### leapfrog/leapfroglaw12.at: function 31 -/
def leapfroglaw12x_at.ctx : Ctx := [(13, .rd leapfrogref02x_At.w)]
def leapfroglaw12x_at.t (S : Sig) (a0 a1 : Value) (s : St) : Option Value :=
  S.bd (bx (Go.Value.agg #[(Go.Value.int Go.IntKind.i64 0), (Go.Value.int Go.IntKind.i64 0), (Go.Value.int Go.IntKind.u64 0), (Go.Value.int Go.IntKind.i64 0), (Go.Value.int Go.IntKind.u64 0)])) fun c1 => S.bd (leapfrogref02x_At.r a1 s) fun x2 => S.bd (bld [(Go.Value.int Go.IntKind.i64 0), (Go.Value.int Go.IntKind.i64 0), (Go.Value.int Go.IntKind.u64 0), (Go.Value.int Go.IntKind.i64 0), (Go.Value.int Go.IntKind.u64 0)] [(0, 1, a0), (1, 2, x2)]) fun x3 => S.bd (stl c1 0 5 x3) fun c4 => S.bd (lal c4 0 5) fun x5 => some (x5)
def leapfroglaw12x_at.r (a0 a1 : Value) (s : St) : Option Value := leapfroglaw12x_at.t std a0 a1 s
def leapfroglaw12x_at.w : List Value → St → Option Value
  | [a0, a1], s => leapfroglaw12x_at.r a0 a1 s
  | _, _ => none
def leapfroglaw12x_at.an : An := ⟨9, true, [4], [], [], []⟩
theorem leapfroglaw12x_at.ok (S : Sig) (a0 a1 : Value) (s : St) : evG S Try.prog leapfroglaw12x_at.ctx leapfroglaw12x_at.an Try.f31 [a0, a1] s = leapfroglaw12x_at.t S a0 a1 s := by kernel_rfl
theorem leapfroglaw12x_at.cok : CtxOk Try.prog leapfroglaw12x_at.ctx := .cons leapfrogref02x_At.sound leapfrogref02x_At.can <| .nil
theorem leapfroglaw12x_at.draws : fnDraws leapfroglaw12x_at.an Try.f31 = true := by kernel_rfl
theorem leapfroglaw12x_at.can : callOk Try.prog 31 = true := by kernel_rfl
theorem leapfroglaw12x_at.sound : FnOk Try.prog 31 (.rd leapfroglaw12x_at.w) := FnOk.rd_of (evG_ok leapfroglaw12x_at.cok mixed (f := 31) (fn := Try.f31) (by kernel_rfl) leapfroglaw12x_at.draws) fun args s r h => by
  unfold leapfroglaw12x_at.w at h; split at h
  · rw [leapfroglaw12x_at.ok std]; exact h
  · simp at h

/-! ### cmp.isNaN[leapfrog/api.Rank]: function 71 -/
def cmp_isNaN_api_Rank.ctx : Ctx := []
def cmp_isNaN_api_Rank.t (S : Sig) (a0 : Value) (s : St) : Option Value :=
  S.bd (eqb [1] false true a0 a0) fun x1 => some (x1)
def cmp_isNaN_api_Rank.r (a0 : Value) (s : St) : Option Value := cmp_isNaN_api_Rank.t std a0 s
def cmp_isNaN_api_Rank.w : List Value → St → Option Value
  | [a0], s => cmp_isNaN_api_Rank.r a0 s
  | _, _ => none
def cmp_isNaN_api_Rank.an : An := ⟨6, true, [], [], [], []⟩
theorem cmp_isNaN_api_Rank.ok (S : Sig) (a0 : Value) (s : St) : evG S Try.prog cmp_isNaN_api_Rank.ctx cmp_isNaN_api_Rank.an Try.f71 [a0] s = cmp_isNaN_api_Rank.t S a0 s := by kernel_rfl
theorem cmp_isNaN_api_Rank.cok : CtxOk Try.prog cmp_isNaN_api_Rank.ctx := .nil
theorem cmp_isNaN_api_Rank.draws : fnDraws cmp_isNaN_api_Rank.an Try.f71 = true := by kernel_rfl
theorem cmp_isNaN_api_Rank.can : callOk Try.prog 71 = true := by kernel_rfl
theorem cmp_isNaN_api_Rank.sound : FnOk Try.prog 71 (.rd cmp_isNaN_api_Rank.w) := FnOk.rd_of (evG_ok cmp_isNaN_api_Rank.cok mixed (f := 71) (fn := Try.f71) (by kernel_rfl) cmp_isNaN_api_Rank.draws) fun args s r h => by
  unfold cmp_isNaN_api_Rank.w at h; split at h
  · rw [cmp_isNaN_api_Rank.ok std]; exact h
  · simp at h

/-! ### cmp.Compare[leapfrog/api.Rank]: function 69 -/
def cmp_Compare_api_Rank.ctx : Ctx := [(71, .rd cmp_isNaN_api_Rank.w)]
def cmp_Compare_api_Rank.t (S : Sig) (a0 a1 : Value) (s : St) : Option Value :=
  S.bd (cmp_isNaN_api_Rank.r a0 s) fun x1 => S.bd (cmp_isNaN_api_Rank.r a1 s) fun x2 => S.cnd x1 (S.cnd x2 (some ((Go.Value.int Go.IntKind.i64 0))) (some ((Go.Value.int Go.IntKind.i64 (-1))))) (S.cnd x2 (some ((Go.Value.int Go.IntKind.i64 1))) (S.bd (bin .lss a0 a1) fun x3 => S.cnd x3 (some ((Go.Value.int Go.IntKind.i64 (-1)))) (S.bd (bin .gtr a0 a1) fun x4 => S.cnd x4 (some ((Go.Value.int Go.IntKind.i64 1))) (some ((Go.Value.int Go.IntKind.i64 0))))))
def cmp_Compare_api_Rank.r (a0 a1 : Value) (s : St) : Option Value := cmp_Compare_api_Rank.t std a0 a1 s
def cmp_Compare_api_Rank.w : List Value → St → Option Value
  | [a0, a1], s => cmp_Compare_api_Rank.r a0 a1 s
  | _, _ => none
def cmp_Compare_api_Rank.an : An := ⟨20, true, [], [], [], []⟩
theorem cmp_Compare_api_Rank.ok (S : Sig) (a0 a1 : Value) (s : St) : evG S Try.prog cmp_Compare_api_Rank.ctx cmp_Compare_api_Rank.an Try.f69 [a0, a1] s = cmp_Compare_api_Rank.t S a0 a1 s := by kernel_rfl
theorem cmp_Compare_api_Rank.cok : CtxOk Try.prog cmp_Compare_api_Rank.ctx := .cons cmp_isNaN_api_Rank.sound cmp_isNaN_api_Rank.can <| .nil
theorem cmp_Compare_api_Rank.draws : fnDraws cmp_Compare_api_Rank.an Try.f69 = true := by kernel_rfl
theorem cmp_Compare_api_Rank.can : callOk Try.prog 69 = true := by kernel_rfl
theorem cmp_Compare_api_Rank.sound : FnOk Try.prog 69 (.rd cmp_Compare_api_Rank.w) := FnOk.rd_of (evG_ok cmp_Compare_api_Rank.cok mixed (f := 69) (fn := Try.f69) (by kernel_rfl) cmp_Compare_api_Rank.draws) fun args s r h => by
  unfold cmp_Compare_api_Rank.w at h; split at h
  · rw [cmp_Compare_api_Rank.ok std]; exact h
  · simp at h

/-! ### cmp.isNaN[uint64]: function 72 -/
def cmp_isNaN_uint64.ctx : Ctx := []
def cmp_isNaN_uint64.t (S : Sig) (a0 : Value) (s : St) : Option Value :=
  S.bd (eqb [1] false true a0 a0) fun x1 => some (x1)
def cmp_isNaN_uint64.r (a0 : Value) (s : St) : Option Value := cmp_isNaN_uint64.t std a0 s
def cmp_isNaN_uint64.w : List Value → St → Option Value
  | [a0], s => cmp_isNaN_uint64.r a0 s
  | _, _ => none
def cmp_isNaN_uint64.an : An := ⟨6, true, [], [], [], []⟩
theorem cmp_isNaN_uint64.ok (S : Sig) (a0 : Value) (s : St) : evG S Try.prog cmp_isNaN_uint64.ctx cmp_isNaN_uint64.an Try.f72 [a0] s = cmp_isNaN_uint64.t S a0 s := by kernel_rfl
theorem cmp_isNaN_uint64.cok : CtxOk Try.prog cmp_isNaN_uint64.ctx := .nil
theorem cmp_isNaN_uint64.draws : fnDraws cmp_isNaN_uint64.an Try.f72 = true := by kernel_rfl
theorem cmp_isNaN_uint64.can : callOk Try.prog 72 = true := by kernel_rfl
theorem cmp_isNaN_uint64.sound : FnOk Try.prog 72 (.rd cmp_isNaN_uint64.w) := FnOk.rd_of (evG_ok cmp_isNaN_uint64.cok mixed (f := 72) (fn := Try.f72) (by kernel_rfl) cmp_isNaN_uint64.draws) fun args s r h => by
  unfold cmp_isNaN_uint64.w at h; split at h
  · rw [cmp_isNaN_uint64.ok std]; exact h
  · simp at h

/-! ### cmp.Compare[uint64]: function 70 -/
def cmp_Compare_uint64.ctx : Ctx := [(72, .rd cmp_isNaN_uint64.w)]
def cmp_Compare_uint64.t (S : Sig) (a0 a1 : Value) (s : St) : Option Value :=
  S.bd (cmp_isNaN_uint64.r a0 s) fun x1 => S.bd (cmp_isNaN_uint64.r a1 s) fun x2 => S.cnd x1 (S.cnd x2 (some ((Go.Value.int Go.IntKind.i64 0))) (some ((Go.Value.int Go.IntKind.i64 (-1))))) (S.cnd x2 (some ((Go.Value.int Go.IntKind.i64 1))) (S.bd (bin .lss a0 a1) fun x3 => S.cnd x3 (some ((Go.Value.int Go.IntKind.i64 (-1)))) (S.bd (bin .gtr a0 a1) fun x4 => S.cnd x4 (some ((Go.Value.int Go.IntKind.i64 1))) (some ((Go.Value.int Go.IntKind.i64 0))))))
def cmp_Compare_uint64.r (a0 a1 : Value) (s : St) : Option Value := cmp_Compare_uint64.t std a0 a1 s
def cmp_Compare_uint64.w : List Value → St → Option Value
  | [a0, a1], s => cmp_Compare_uint64.r a0 a1 s
  | _, _ => none
def cmp_Compare_uint64.an : An := ⟨20, true, [], [], [], []⟩
theorem cmp_Compare_uint64.ok (S : Sig) (a0 a1 : Value) (s : St) : evG S Try.prog cmp_Compare_uint64.ctx cmp_Compare_uint64.an Try.f70 [a0, a1] s = cmp_Compare_uint64.t S a0 a1 s := by kernel_rfl
theorem cmp_Compare_uint64.cok : CtxOk Try.prog cmp_Compare_uint64.ctx := .cons cmp_isNaN_uint64.sound cmp_isNaN_uint64.can <| .nil
theorem cmp_Compare_uint64.draws : fnDraws cmp_Compare_uint64.an Try.f70 = true := by kernel_rfl
theorem cmp_Compare_uint64.can : callOk Try.prog 70 = true := by kernel_rfl
theorem cmp_Compare_uint64.sound : FnOk Try.prog 70 (.rd cmp_Compare_uint64.w) := FnOk.rd_of (evG_ok cmp_Compare_uint64.cok mixed (f := 70) (fn := Try.f70) (by kernel_rfl) cmp_Compare_uint64.draws) fun args s r h => by
  unfold cmp_Compare_uint64.w at h; split at h
  · rw [cmp_Compare_uint64.ok std]; exact h
  · simp at h

/-! ### cmp.Or[int]: function 68 -/
def cmp_Or_int.ctx : Ctx := []
def cmp_Or_int.l3 (S : Sig) (rec9 : List Value → St → Option Cut) (xs7 : List Value) (s8 : St) : Option Cut :=
  S.bd (bin .lss (xs7.getD 3 undef) (xs7.getD 2 undef)) fun x10 => S.cnd x10 (S.bd (idx s8 1 (xs7.getD 1 undef) (xs7.getD 3 undef)) fun x11 => S.bd (ldc s8 x11) fun x12 => S.bd (eqb [1] false true x12 (xs7.getD 0 undef)) fun x13 => S.cnd x13 (some (1, [x12], s8)) (S.bd (bin .add (xs7.getD 3 undef) (Go.Value.int Go.IntKind.i64 1)) fun x14 => rec9 [(xs7.getD 0 undef), (xs7.getD 1 undef), (xs7.getD 2 undef), x14] s8)) (some (0, [(xs7.getD 0 undef)], s8))

def cmp_Or_int.t (S : Sig) (a0 : Value) (s : St) : Option Value :=
  S.bd (lenL a0) fun x1 => S.bd (S.it (cmp_Or_int.l3 S) [(Go.Value.int Go.IntKind.i64 0), a0, x1, (Go.Value.int Go.IntKind.i64 0)] s) fun r15 => if r15.1 = 0 then (some ((r15.2.1.getD 0 undef))) else (some ((r15.2.1.getD 0 undef)))
def cmp_Or_int.r (a0 : Value) (s : St) : Option Value := cmp_Or_int.t std a0 s
def cmp_Or_int.w : List Value → St → Option Value
  | [a0], s => cmp_Or_int.r a0 s
  | _, _ => none
def cmp_Or_int.an : An := ⟨18, true, [], [(3, ⟨[.v 3, .v 6, .v 7, .v 8], [(.exit 0, [.v 3]), (.ret, [.v 2])]⟩)], [], []⟩
theorem cmp_Or_int.ok (S : Sig) (a0 : Value) (s : St) : evG S Try.prog cmp_Or_int.ctx cmp_Or_int.an Try.f68 [a0] s = cmp_Or_int.t S a0 s := by kernel_rfl
theorem cmp_Or_int.cok : CtxOk Try.prog cmp_Or_int.ctx := .nil
theorem cmp_Or_int.draws : fnDraws cmp_Or_int.an Try.f68 = true := by kernel_rfl
theorem cmp_Or_int.can : callOk Try.prog 68 = true := by kernel_rfl
theorem cmp_Or_int.sound : FnOk Try.prog 68 (.rd cmp_Or_int.w) := FnOk.rd_of (evG_ok cmp_Or_int.cok mixed (f := 68) (fn := Try.f68) (by kernel_rfl) cmp_Or_int.draws) fun args s r h => by
  unfold cmp_Or_int.w at h; split at h
  · rw [cmp_Or_int.ok std]; exact h
  · simp at h

/-! ### leapfrog/key.Compare: function 63 -/
def key_Compare.ctx : Ctx := [(69, .rd cmp_Compare_api_Rank.w), (70, .rd cmp_Compare_uint64.w), (68, .rd cmp_Or_int.w)]
def key_Compare.t (S : Sig) (a0 a1 : Value) (s : St) : Option (Value × St) :=
  S.bd (bx a0) fun c1 => S.bd (bx a1) fun c2 => S.bd (lcl c1 0) fun x3 => S.bd (lcl c2 0) fun x4 => S.bd (lcl c1 1) fun x5 => S.bd (lcl c2 1) fun x6 => S.bd (cmp_Compare_api_Rank.r x3 x4 s) fun x7 => S.bd (cmp_Compare_uint64.r x5 x6 s) fun x8 => S.bd (S.bd (bls 1 (List.replicate 2 [(Go.Value.int Go.IntKind.i64 0)]) [(0, x7), (1, x8)]) fun rows => als s 1 2 rows) fun r9 => S.bd (cmp_Or_int.r r9.1 r9.2) fun x10 => some (x10, r9.2)
def key_Compare.v (a0 a1 : Value) (s : St) : Option (Value × St) := key_Compare.t std a0 a1 s
def key_Compare.w : List Value → St → Option (Value × St)
  | [a0, a1], s => key_Compare.v a0 a1 s
  | _, _ => none
def key_Compare.an : An := ⟨17, false, [2, 3], [], [], [(1, [(0, 0, [], []), (1, 17, [], []), (2, 0, [], []), (3, 25, [], []), (5, 0, [], []), (6, 17, [], []), (7, 0, [], []), (8, 25, [], []), (4, 3, [], []), (9, 3, [], []), (10, 3, [], []), (11, 3, [], []), (12, 0, [], [])])]⟩
theorem key_Compare.ok (S : Sig) (a0 a1 : Value) (s : St) : evF S Try.prog key_Compare.ctx key_Compare.an Try.f63 [a0, a1] s = key_Compare.t S a0 a1 s := by kernel_rfl
theorem key_Compare.cok : CtxOk Try.prog key_Compare.ctx := .cons cmp_Compare_api_Rank.sound cmp_Compare_api_Rank.can <| .cons cmp_Compare_uint64.sound cmp_Compare_uint64.can <| .cons cmp_Or_int.sound cmp_Or_int.can <| .nil
theorem key_Compare.draws : fnDraws key_Compare.an Try.f63 = true := by kernel_rfl
theorem key_Compare.can : callOk Try.prog 63 = true := by kernel_rfl
theorem key_Compare.sound : FnOk Try.prog 63 (.st key_Compare.w) := FnOk.st_of (evF_ok key_Compare.cok mixed (f := 63) (fn := Try.f63) (by kernel_rfl) key_Compare.draws) fun args s r h => by
  unfold key_Compare.w at h; split at h
  · rw [key_Compare.ok std]; exact h
  · simp at h

/-! ### leapfrog/key.Compare: function 63, as a reading -/
def key_CompareQ.r (a0 a1 : Value) (s : St) : Option Value := frzR (fun s => key_Compare.v a0 a1 s) s
def key_CompareQ.w : List Value → St → Option Value := fun args s => frzR (key_Compare.w args) s
theorem key_CompareQ.can : callOk Try.prog 63 = true := key_Compare.can
theorem key_CompareQ.sound : FnOk Try.prog 63 (.rd key_CompareQ.w) := FnOk.frozen key_Compare.sound

/-! ### leapfrog/key.Less: function 54 -/
def key_Less.ctx : Ctx := [(63, .rd key_CompareQ.w)]
def key_Less.t (S : Sig) (a0 a1 : Value) (s : St) : Option Value :=
  S.bd (bx a0) fun c1 => S.bd (bx a1) fun c2 => S.bd (lal c1 0 2) fun x3 => S.bd (lal c2 0 2) fun x4 => S.bd (key_CompareQ.r x3 x4 s) fun x5 => S.bd (bin .lss x5 (Go.Value.int Go.IntKind.i64 0)) fun x6 => some (x6)
def key_Less.r (a0 a1 : Value) (s : St) : Option Value := key_Less.t std a0 a1 s
def key_Less.w : List Value → St → Option Value
  | [a0, a1], s => key_Less.r a0 a1 s
  | _, _ => none
def key_Less.an : An := ⟨9, true, [2, 3], [], [], []⟩
theorem key_Less.ok (S : Sig) (a0 a1 : Value) (s : St) : evG S Try.prog key_Less.ctx key_Less.an Try.f54 [a0, a1] s = key_Less.t S a0 a1 s := by kernel_rfl
theorem key_Less.cok : CtxOk Try.prog key_Less.ctx := .cons key_CompareQ.sound key_CompareQ.can <| .nil
theorem key_Less.draws : fnDraws key_Less.an Try.f54 = true := by kernel_rfl
theorem key_Less.can : callOk Try.prog 54 = true := by kernel_rfl
theorem key_Less.sound : FnOk Try.prog 54 (.rd key_Less.w) := FnOk.rd_of (evG_ok key_Less.cok mixed (f := 54) (fn := Try.f54) (by kernel_rfl) key_Less.draws) fun args s r h => by
  unfold key_Less.w at h; split at h
  · rw [key_Less.ok std]; exact h
  · simp at h

/-! ### (*leapfrog/seek.Seek).counts: function 41 -/
def seek_Seek_counts.ctx : Ctx := []
def seek_Seek_counts.t (S : Sig) (a0 : Value) (s : St) : Option (Value × St) :=
  S.bd (nck a0) fun x1 => S.bd (fld 23 x1) fun x2 => S.bd (ldc s x2) fun x3 => S.bd (bin .geq x3 (Go.Value.int Go.IntKind.i64 64)) fun x4 => S.cnd x4 (S.bd (bld [(Go.Value.int Go.IntKind.i64 0), (Go.Value.int Go.IntKind.u64 0), (Go.Value.slice Option.none 0 0), (Go.Value.slice Option.none 0 0), (Go.Value.int Go.IntKind.i64 0), (Go.Value.int Go.IntKind.i64 0), (Go.Value.int Go.IntKind.u64 0), (Go.Value.int Go.IntKind.i64 0), (Go.Value.int Go.IntKind.u64 0), (Go.Value.int Go.IntKind.i64 0), (Go.Value.int Go.IntKind.i64 0), (Go.Value.int Go.IntKind.u64 0), (Go.Value.int Go.IntKind.i64 0), (Go.Value.int Go.IntKind.u64 0), (Go.Value.bool Bool.false)] [(0, 1, (Go.Value.int Go.IntKind.i64 121))]) fun x5 => S.bd (nck a0) fun x6 => S.bd (fld 24 x6) fun x7 => S.bd (stv s 1 x7 (Go.Value.bool Bool.true)) fun s8 => S.bd (nck a0) fun x9 => S.bd (fld 25 x9) fun x10 => S.bd (stv s8 15 x10 x5) fun s11 => some ((Go.Value.bool Bool.false), s11)) (S.bd (nck a0) fun x12 => S.bd (fld 23 x12) fun x13 => S.bd (ldc s x13) fun x14 => S.bd (bin .add x14 (Go.Value.int Go.IntKind.i64 1)) fun x15 => S.bd (nck a0) fun x16 => S.bd (fld 23 x16) fun x17 => S.bd (stv s 1 x17 x15) fun s18 => some ((Go.Value.bool Bool.true), s18))
def seek_Seek_counts.v (a0 : Value) (s : St) : Option (Value × St) := seek_Seek_counts.t std a0 s
def seek_Seek_counts.w : List Value → St → Option (Value × St)
  | [a0], s => seek_Seek_counts.v a0 s
  | _, _ => none
def seek_Seek_counts.an : An := ⟨22, false, [], [], [], []⟩
theorem seek_Seek_counts.ok (S : Sig) (a0 : Value) (s : St) : evF S Try.prog seek_Seek_counts.ctx seek_Seek_counts.an Try.f41 [a0] s = seek_Seek_counts.t S a0 s := by kernel_rfl
theorem seek_Seek_counts.cok : CtxOk Try.prog seek_Seek_counts.ctx := .nil
theorem seek_Seek_counts.draws : fnDraws seek_Seek_counts.an Try.f41 = true := by kernel_rfl
theorem seek_Seek_counts.can : callOk Try.prog 41 = true := by kernel_rfl
theorem seek_Seek_counts.sound : FnOk Try.prog 41 (.st seek_Seek_counts.w) := FnOk.st_of (evF_ok seek_Seek_counts.cok mixed (f := 41) (fn := Try.f41) (by kernel_rfl) seek_Seek_counts.draws) fun args s r h => by
  unfold seek_Seek_counts.w at h; split at h
  · rw [seek_Seek_counts.ok std]; exact h
  · simp at h

/-! ### (*leapfrog/seek.Seek).again: function 53 -/
def seek_Seek_again.ctx : Ctx := [(41, .st seek_Seek_counts.w)]
def seek_Seek_again.t (S : Sig) (a0 : Value) (s : St) : Option (Value × St) :=
  S.bd (seek_Seek_counts.v a0 s) fun r1 => S.cnd r1.1 (S.bd (bld [(Go.Value.int Go.IntKind.i64 0), (Go.Value.int Go.IntKind.u64 0)] [(0, 1, (Go.Value.int Go.IntKind.i64 1))]) fun x2 => S.bd (nck a0) fun x3 => S.bd (fld 0 x3) fun x4 => S.bd (fld 0 x4) fun x5 => S.bd (ldc r1.2 x5) fun x6 => S.bd (bld [(Go.Value.int Go.IntKind.i64 0), (Go.Value.int Go.IntKind.u64 0)] [(0, 1, x6)]) fun x7 => S.bd (bld [(Go.Value.int Go.IntKind.i64 0), (Go.Value.int Go.IntKind.i64 0), (Go.Value.int Go.IntKind.u64 0), (Go.Value.int Go.IntKind.i64 0), (Go.Value.int Go.IntKind.u64 0)] [(1, 2, x2), (3, 2, x7)]) fun x8 => S.bd (nck a0) fun x9 => S.bd (fld 9 x9) fun x10 => S.bd (stv r1.2 5 x10 x8) fun s11 => S.bd (nck a0) fun x12 => S.bd (fld 0 x12) fun x13 => S.bd (fld 0 x13) fun x14 => S.bd (ldc s11 x14) fun x15 => S.bd (bld [(Go.Value.int Go.IntKind.i64 0), (Go.Value.int Go.IntKind.u64 0)] [(0, 1, x15)]) fun x16 => S.bd (nck a0) fun x17 => S.bd (fld 14 x17) fun x18 => S.bd (stv s11 2 x18 x16) fun s19 => S.bd (nck a0) fun x20 => S.bd (fld 16 x20) fun x21 => S.bd (stv s19 1 x21 (Go.Value.bool Bool.false)) fun s22 => some ((Value.tuple ⟨[]⟩), s22)) (some ((Value.tuple ⟨[]⟩), r1.2))
def seek_Seek_again.v (a0 : Value) (s : St) : Option (Value × St) := seek_Seek_again.t std a0 s
def seek_Seek_again.w : List Value → St → Option (Value × St)
  | [a0], s => seek_Seek_again.v a0 s
  | _, _ => none
def seek_Seek_again.an : An := ⟨27, false, [], [], [], []⟩
theorem seek_Seek_again.ok (S : Sig) (a0 : Value) (s : St) : evF S Try.prog seek_Seek_again.ctx seek_Seek_again.an Try.f53 [a0] s = seek_Seek_again.t S a0 s := by kernel_rfl
theorem seek_Seek_again.cok : CtxOk Try.prog seek_Seek_again.ctx := .cons seek_Seek_counts.sound seek_Seek_counts.can <| .nil
theorem seek_Seek_again.draws : fnDraws seek_Seek_again.an Try.f53 = true := by kernel_rfl
theorem seek_Seek_again.can : callOk Try.prog 53 = true := by kernel_rfl
theorem seek_Seek_again.sound : FnOk Try.prog 53 (.st seek_Seek_again.w) := FnOk.st_of (evF_ok seek_Seek_again.cok mixed (f := 53) (fn := Try.f53) (by kernel_rfl) seek_Seek_again.draws) fun args s r h => by
  unfold seek_Seek_again.w at h; split at h
  · rw [seek_Seek_again.ok std]; exact h
  · simp at h

/-! ### leapfrog/vec.upTo: function 66 -/
def vec_upTo.ctx : Ctx := [(51, .rd vec_Right.w)]
def vec_upTo.t (S : Sig) (a0 a1 : Value) (s : St) : Option Value :=
  S.bd (bx a0) fun c1 => S.bd (lal c1 0 2) fun x2 => S.bd (vec_Right.r x2 s) fun x3 => S.bd (eqb [1] false true x3 (Go.Value.int Go.IntKind.i64 0)) fun x4 => S.cnd x4 (some (x3)) (S.bd (bin .lss a1 (Go.Value.int Go.IntKind.i64 0)) fun x5 => S.bd (S.gd x5 false (some a1)) fun x6 => S.bd (S.gd x5 false (lcl c1 0)) fun x7 => S.bd (S.gd x5 false (bin .gtr x6 x7)) fun x8 => S.bd (pik x5 (Go.Value.bool Bool.true) x8) fun x9 => S.cnd x9 (some ((Go.Value.int Go.IntKind.i64 5))) (some ((Go.Value.int Go.IntKind.i64 0))))
def vec_upTo.r (a0 a1 : Value) (s : St) : Option Value := vec_upTo.t std a0 a1 s
def vec_upTo.w : List Value → St → Option Value
  | [a0, a1], s => vec_upTo.r a0 a1 s
  | _, _ => none
def vec_upTo.an : An := ⟨19, true, [2], [], [], []⟩
theorem vec_upTo.ok (S : Sig) (a0 a1 : Value) (s : St) : evG S Try.prog vec_upTo.ctx vec_upTo.an Try.f66 [a0, a1] s = vec_upTo.t S a0 a1 s := by kernel_rfl
theorem vec_upTo.cok : CtxOk Try.prog vec_upTo.ctx := .cons vec_Right.sound vec_Right.can <| .nil
theorem vec_upTo.draws : fnDraws vec_upTo.an Try.f66 = true := by kernel_rfl
theorem vec_upTo.can : callOk Try.prog 66 = true := by kernel_rfl
theorem vec_upTo.sound : FnOk Try.prog 66 (.rd vec_upTo.w) := FnOk.rd_of (evG_ok vec_upTo.cok mixed (f := 66) (fn := Try.f66) (by kernel_rfl) vec_upTo.draws) fun args s r h => by
  unfold vec_upTo.w at h; split at h
  · rw [vec_upTo.ok std]; exact h
  · simp at h

/-! ### leapfrog/vec.prefix: function 67 -/
def vec_prefix.ctx : Ctx := []
def vec_prefix.t (S : Sig) (a0 a1 : Value) (s : St) : Option Value :=
  S.bd (bx a0) fun c1 => S.bd (bx (Go.Value.agg #[(Go.Value.int Go.IntKind.i64 0), (Go.Value.int Go.IntKind.u64 0)])) fun c2 => S.bd (lcl c1 1) fun x3 => S.bd (lcl c1 0) fun x4 => S.bd (bin .sub x4 a1) fun x5 => S.bd (cvi .u64 x5) fun x6 => S.bd (bin .shr x3 x6) fun x7 => S.bd (bld [(Go.Value.int Go.IntKind.i64 0), (Go.Value.int Go.IntKind.u64 0)] [(0, 1, a1), (1, 1, x7)]) fun x8 => S.bd (stl c2 0 2 x8) fun c9 => S.bd (lal c9 0 2) fun x10 => some (x10)
def vec_prefix.r (a0 a1 : Value) (s : St) : Option Value := vec_prefix.t std a0 a1 s
def vec_prefix.w : List Value → St → Option Value
  | [a0, a1], s => vec_prefix.r a0 a1 s
  | _, _ => none
def vec_prefix.an : An := ⟨15, true, [2, 4], [], [], []⟩
theorem vec_prefix.ok (S : Sig) (a0 a1 : Value) (s : St) : evG S Try.prog vec_prefix.ctx vec_prefix.an Try.f67 [a0, a1] s = vec_prefix.t S a0 a1 s := by kernel_rfl
theorem vec_prefix.cok : CtxOk Try.prog vec_prefix.ctx := .nil
theorem vec_prefix.draws : fnDraws vec_prefix.an Try.f67 = true := by kernel_rfl
theorem vec_prefix.can : callOk Try.prog 67 = true := by kernel_rfl
theorem vec_prefix.sound : FnOk Try.prog 67 (.rd vec_prefix.w) := FnOk.rd_of (evG_ok vec_prefix.cok mixed (f := 67) (fn := Try.f67) (by kernel_rfl) vec_prefix.draws) fun args s r h => by
  unfold vec_prefix.w at h; split at h
  · rw [vec_prefix.ok std]; exact h
  · simp at h

/-! ### leapfrog/vec.Prefix: function 62 -/
def vec_Prefix.ctx : Ctx := [(66, .rd vec_upTo.w), (67, .rd vec_prefix.w)]
def vec_Prefix.t (S : Sig) (a0 a1 : Value) (s : St) : Option Value :=
  S.bd (bx a0) fun c1 => S.bd (bx (Go.Value.agg #[(Go.Value.int Go.IntKind.i64 0), (Go.Value.int Go.IntKind.u64 0)])) fun c2 => S.bd (lal c1 0 2) fun x3 => S.bd (vec_upTo.r x3 a1 s) fun x4 => S.bd (eqb [1] false true x4 (Go.Value.int Go.IntKind.i64 0)) fun x5 => S.cnd x5 (S.bd (bld [(Go.Value.int Go.IntKind.i64 0), (Go.Value.int Go.IntKind.u64 0)] []) fun x6 => S.bd (stl c2 0 2 x6) fun c7 => S.bd (lal c7 0 2) fun x8 => some ((Value.tuple ⟨[x8, x4]⟩))) (S.bd (lal c1 0 2) fun x9 => S.bd (vec_prefix.r x9 a1 s) fun x10 => S.bd (stl c2 0 2 x10) fun c11 => S.bd (lal c11 0 2) fun x12 => some ((Value.tuple ⟨[x12, (Go.Value.int Go.IntKind.i64 0)]⟩)))
def vec_Prefix.r (a0 a1 : Value) (s : St) : Option Value := vec_Prefix.t std a0 a1 s
def vec_Prefix.w : List Value → St → Option Value
  | [a0, a1], s => vec_Prefix.r a0 a1 s
  | _, _ => none
def vec_Prefix.an : An := ⟨17, true, [2, 4], [], [], []⟩
theorem vec_Prefix.ok (S : Sig) (a0 a1 : Value) (s : St) : evG S Try.prog vec_Prefix.ctx vec_Prefix.an Try.f62 [a0, a1] s = vec_Prefix.t S a0 a1 s := by kernel_rfl
theorem vec_Prefix.cok : CtxOk Try.prog vec_Prefix.ctx := .cons vec_upTo.sound vec_upTo.can <| .cons vec_prefix.sound vec_prefix.can <| .nil
theorem vec_Prefix.draws : fnDraws vec_Prefix.an Try.f62 = true := by kernel_rfl
theorem vec_Prefix.can : callOk Try.prog 62 = true := by kernel_rfl
theorem vec_Prefix.sound : FnOk Try.prog 62 (.rd vec_Prefix.w) := FnOk.rd_of (evG_ok vec_Prefix.cok mixed (f := 62) (fn := Try.f62) (by kernel_rfl) vec_Prefix.draws) fun args s r h => by
  unfold vec_Prefix.w at h; split at h
  · rw [vec_Prefix.ok std]; exact h
  · simp at h

/-! ### (*leapfrog/seek.Seek).goes: function 52 -/
def seek_Seek_goes.ctx : Ctx := [(35, .rd key_Check.w), (54, .rd key_Less.w), (53, .st seek_Seek_again.w), (62, .rd vec_Prefix.w)]
def seek_Seek_goes.l2 (S : Sig) (rec37 : List Value → St → Option Cut) (xs35 : List Value) (s36 : St) : Option Cut :=
  S.bd (lal (cellsA (xs35.getD 1 undef)) 1 2) fun x38 => S.bd (key_Check.r x38 s36) fun x39 => S.bd (eqb [1] false true x39 (Go.Value.int Go.IntKind.i64 0)) fun x40 => S.bd (S.gd x40 false (lal (cellsA (xs35.getD 2 undef)) 0 2)) fun x41 => S.bd (S.gd x40 false (lal (cellsA (xs35.getD 1 undef)) 1 2)) fun x42 => S.bd (S.gd x40 false (key_Less.r x41 x42 s36)) fun x43 => S.bd (S.gd x40 false (un .not x43)) fun x44 => S.bd (pik x40 (Go.Value.bool Bool.true) x44) fun x45 => S.cnd x45 (S.bd (seek_Seek_again.v (xs35.getD 0 undef) s36) fun r46 => some (1, [], r46.2)) (S.bd (nck (xs35.getD 0 undef)) fun x47 => S.bd (fld 22 x47) fun x48 => S.bd (ldc s36 x48) fun x49 => S.bd (lcl (cellsA (xs35.getD 1 undef)) 0) fun x50 => S.bd (nck (xs35.getD 0 undef)) fun x51 => S.bd (fld 14 x51) fun x52 => S.bd (lda s36 2 x52) fun x53 => S.bd (bld [(Go.Value.int Go.IntKind.i64 0), (Go.Value.int Go.IntKind.i64 0), (Go.Value.int Go.IntKind.u64 0)] [(0, 1, x50), (1, 2, x53)]) fun x54 => S.bd (lkp s36 [1, 1, 1] true (Go.Value.agg #[(Go.Value.int Go.IntKind.i64 0), (Go.Value.int Go.IntKind.i64 0), (Go.Value.int Go.IntKind.u64 0), (Go.Value.int Go.IntKind.i64 0), (Go.Value.int Go.IntKind.u64 0)]) true x49 x54) fun x55 => S.bd (xtr 0 x55) fun x56 => S.bd (xtr 1 x55) fun x57 => S.bd (bx (Go.Value.agg #[(Go.Value.int Go.IntKind.i64 0), (Go.Value.int Go.IntKind.i64 0), (Go.Value.int Go.IntKind.u64 0), (Go.Value.int Go.IntKind.i64 0), (Go.Value.int Go.IntKind.u64 0)])) fun c58 => S.bd (stl c58 0 5 x56) fun c59 => S.bd (un .not x57) fun x60 => S.cnd x60 (some (0, [(xs35.getD 0 undef), (Value.agg ⟨(cellsA (xs35.getD 1 undef))⟩)], s36)) (S.bd (lal (cellsA (xs35.getD 1 undef)) 1 2) fun x61 => S.bd (lal c59 0 5) fun x62 => S.bd (stl (cellsA (xs35.getD 2 undef)) 0 2 x61) fun c63 => S.bd (stl (cellsA (xs35.getD 1 undef)) 0 5 x62) fun c64 => rec37 [(xs35.getD 0 undef), (Value.agg ⟨c64⟩), (Value.agg ⟨c63⟩)] s36))

def seek_Seek_goes.t.p1 (S : Sig) (r65 : Cut) : Option (Value × St) :=
  S.bd (nck (r65.2.1.getD 0 undef)) fun x79 => S.bd (fld 14 x79) fun x80 => S.bd (fld 0 x80) fun x81 => S.bd (ldc r65.2.2 x81) fun x82 => S.bd (bin .gtr x82 (Go.Value.int Go.IntKind.i64 0)) fun x83 => S.cnd x83 (S.bd (nck (r65.2.1.getD 0 undef)) fun x84 => S.bd (fld 14 x84) fun x85 => S.bd (lda r65.2.2 2 x85) fun x86 => S.bd (nck (r65.2.1.getD 0 undef)) fun x87 => S.bd (fld 14 x87) fun x88 => S.bd (fld 0 x88) fun x89 => S.bd (ldc r65.2.2 x89) fun x90 => S.bd (bin .sub x90 (Go.Value.int Go.IntKind.i64 1)) fun x91 => S.bd (vec_Prefix.r x86 x91 r65.2.2) fun x92 => S.bd (xtr 0 x92) fun x93 => S.bd (xtr 1 x92) fun x94 => S.bd (nck (r65.2.1.getD 0 undef)) fun x95 => S.bd (fld 14 x95) fun x96 => S.bd (stv r65.2.2 2 x96 x93) fun s97 => S.bd (nck (r65.2.1.getD 0 undef)) fun x98 => S.bd (fld 16 x98) fun x99 => S.bd (stv s97 1 x99 (Go.Value.bool Bool.false)) fun s100 => some ((Value.tuple ⟨[]⟩), s100)) (S.bd (nck (r65.2.1.getD 0 undef)) fun x101 => S.bd (fld 9 x101) fun x102 => S.bd (lda r65.2.2 5 x102) fun x103 => S.bd (lal (cellsA (r65.2.1.getD 1 undef)) 0 5) fun x104 => S.bd (lal (cellsA (r65.2.1.getD 1 undef)) 1 2) fun x105 => S.bd (nck (r65.2.1.getD 0 undef)) fun x106 => S.bd (fld 0 x106) fun x107 => S.bd (fld 6 x107) fun x108 => S.bd (lda r65.2.2 2 x108) fun x109 => S.bd (eqb [1, 1] true false x105 x109) fun x110 => S.bd (bld [(Go.Value.int Go.IntKind.i64 0), (Go.Value.int Go.IntKind.u64 0), (Go.Value.slice Option.none 0 0), (Go.Value.slice Option.none 0 0), (Go.Value.int Go.IntKind.i64 0), (Go.Value.int Go.IntKind.i64 0), (Go.Value.int Go.IntKind.u64 0), (Go.Value.int Go.IntKind.i64 0), (Go.Value.int Go.IntKind.u64 0), (Go.Value.int Go.IntKind.i64 0), (Go.Value.int Go.IntKind.i64 0), (Go.Value.int Go.IntKind.u64 0), (Go.Value.int Go.IntKind.i64 0), (Go.Value.int Go.IntKind.u64 0), (Go.Value.bool Bool.false)] [(4, 5, x103), (9, 5, x104), (14, 1, x110)]) fun x111 => S.bd (nck (r65.2.1.getD 0 undef)) fun x112 => S.bd (fld 24 x112) fun x113 => S.bd (stv r65.2.2 1 x113 (Go.Value.bool Bool.true)) fun s114 => S.bd (nck (r65.2.1.getD 0 undef)) fun x115 => S.bd (fld 25 x115) fun x116 => S.bd (stv s114 15 x116 x111) fun s117 => some ((Value.tuple ⟨[]⟩), s117))

def seek_Seek_goes.t (S : Sig) (a0 a1 : Value) (s : St) : Option (Value × St) :=
  S.bd (bx a1) fun c1 => S.bd (nck a0) fun x2 => S.bd (fld 9 x2) fun x3 => S.bd (fld 1 x3) fun x4 => S.bd (lda s 2 x4) fun x5 => S.bd (bx (Go.Value.agg #[(Go.Value.int Go.IntKind.i64 0), (Go.Value.int Go.IntKind.u64 0)])) fun c6 => S.bd (stl c6 0 2 x5) fun c7 => S.bd (S.it (seek_Seek_goes.l2 S) [a0, (Value.agg ⟨c1⟩), (Value.agg ⟨c7⟩)] s) fun r65 => if r65.1 = 0 then (S.bd (lal (cellsA (r65.2.1.getD 1 undef)) 1 2) fun x66 => S.bd (nck (r65.2.1.getD 0 undef)) fun x67 => S.bd (fld 0 x67) fun x68 => S.bd (fld 6 x68) fun x69 => S.bd (lda r65.2.2 2 x69) fun x70 => S.bd (key_Less.r x66 x70 r65.2.2) fun x71 => S.cnd x71 (S.bd (lal (cellsA (r65.2.1.getD 1 undef)) 0 5) fun x72 => S.bd (nck (r65.2.1.getD 0 undef)) fun x73 => S.bd (fld 16 x73) fun x74 => S.bd (stv r65.2.2 1 x74 (Go.Value.bool Bool.true)) fun s75 => S.bd (nck (r65.2.1.getD 0 undef)) fun x76 => S.bd (fld 17 x76) fun x77 => S.bd (stv s75 5 x77 x72) fun s78 => some ((Value.tuple ⟨[]⟩), s78)) (seek_Seek_goes.t.p1 S r65)) else (some ((Value.tuple ⟨[]⟩), r65.2.2))
def seek_Seek_goes.v (a0 a1 : Value) (s : St) : Option (Value × St) := seek_Seek_goes.t std a0 a1 s
def seek_Seek_goes.w : List Value → St → Option (Value × St)
  | [a0, a1], s => seek_Seek_goes.v a0 a1 s
  | _, _ => none
def seek_Seek_goes.an : An := ⟨108, false, [3, 4, 5], [(2, ⟨[.v 0, .p 3 3 0, .p 4 4 0, .l 3, .l 4], [(.exit 0, [.v 0, .p 3 3 0, .l 3]), (.ret, [])]⟩)], [], [(4, [(0, 0, [], []), (1, 0, [], []), (2, 0, [], []), (3, 2, [], []), (4, 0, [], []), (5, 25, [], []), (6, 0, [], []), (7, 0, [], []), (8, 0, [], []), (9, 2, [], []), (10, 0, [], []), (11, 2, [], []), (12, 0, [], []), (13, 0, [], []), (14, 0, [], []), (15, 6, [], []), (16, 45, [], []), (17, 0, [], [])]), (6, [(0, 0, [], []), (1, 25, [], []), (2, 41, [], []), (3, 37, [], []), (4, 29, [], [])]), (8, [(0, 0, [], []), (1, 25, [], []), (2, 0, [], []), (3, 0, [], []), (4, 0, [], []), (5, 0, [], []), (6, 2, [], []), (7, 3, [], []), (8, 0, [], [])]), (9, [(0, 0, [], []), (1, 0, [], []), (2, 25, [], []), (3, 0, [], []), (4, 0, [], []), (5, 4, [], []), (6, 0, [], []), (7, 0, [], []), (8, 4, [], [])]), (11, [(0, 0, [], []), (1, 0, [], []), (2, 0, [], []), (3, 0, [], []), (4, 2, [], []), (5, 0, [], []), (6, 0, [], []), (7, 0, [], []), (8, 0, [], []), (9, 2, [], []), (10, 0, [], []), (11, 3, [], []), (12, 0, [], []), (13, 0, [], []), (14, 0, [], []), (15, 0, [], []), (16, 0, [], []), (17, 4, [], [])]), (7, [(0, 0, [], []), (1, 0, [], []), (2, 0, [], []), (3, 0, [], []), (4, 0, [], []), (5, 2, [], []), (6, 25, [], []), (7, 0, [], []), (8, 25, [], []), (9, 0, [], []), (10, 0, [], []), (11, 0, [], []), (12, 0, [], []), (13, 2, [], []), (14, 0, [], []), (15, 0, [], []), (16, 0, [], []), (17, 0, [], []), (18, 4, [], []), (19, 0, [], []), (20, 0, [], []), (21, 4, [], [])])]⟩
theorem seek_Seek_goes.ok (S : Sig) (a0 a1 : Value) (s : St) : evF S Try.prog seek_Seek_goes.ctx seek_Seek_goes.an Try.f52 [a0, a1] s = seek_Seek_goes.t S a0 a1 s := by kernel_rfl
theorem seek_Seek_goes.cok : CtxOk Try.prog seek_Seek_goes.ctx := .cons key_Check.sound key_Check.can <| .cons key_Less.sound key_Less.can <| .cons seek_Seek_again.sound seek_Seek_again.can <| .cons vec_Prefix.sound vec_Prefix.can <| .nil
theorem seek_Seek_goes.draws : fnDraws seek_Seek_goes.an Try.f52 = true := by kernel_rfl
theorem seek_Seek_goes.can : callOk Try.prog 52 = true := by kernel_rfl
theorem seek_Seek_goes.sound : FnOk Try.prog 52 (.st seek_Seek_goes.w) := FnOk.st_of (evF_ok seek_Seek_goes.cok mixed (f := 52) (fn := Try.f52) (by kernel_rfl) seek_Seek_goes.draws) fun args s r h => by
  unfold seek_Seek_goes.w at h; split at h
  · rw [seek_Seek_goes.ok std]; exact h
  · simp at h

/-! ### (*leapfrog/seek.Seek).keep: function 40 -/
def seek_Seek_keep.ctx : Ctx := []
def seek_Seek_keep.t (S : Sig) (a0 a1 a2 : Value) (s : St) : Option (Value × St) :=
  S.bd (bx a1) fun c1 => S.bd (bx a2) fun c2 => S.bd (nck a0) fun x3 => S.bd (fld 22 x3) fun x4 => S.bd (ldc s x4) fun x5 => S.bd (lcl c1 0) fun x6 => S.bd (nck a0) fun x7 => S.bd (fld 14 x7) fun x8 => S.bd (lda s 2 x8) fun x9 => S.bd (bld [(Go.Value.int Go.IntKind.i64 0), (Go.Value.int Go.IntKind.i64 0), (Go.Value.int Go.IntKind.u64 0)] [(0, 1, x6), (1, 2, x9)]) fun x10 => S.bd (lal c2 7 5) fun x11 => S.bd (upm s [1, 1, 1] true x5 x10 x11) fun s12 => some ((Value.tuple ⟨[]⟩), s12)
def seek_Seek_keep.v (a0 a1 a2 : Value) (s : St) : Option (Value × St) := seek_Seek_keep.t std a0 a1 a2 s
def seek_Seek_keep.w : List Value → St → Option (Value × St)
  | [a0, a1, a2], s => seek_Seek_keep.v a0 a1 a2 s
  | _, _ => none
def seek_Seek_keep.an : An := ⟨19, false, [4, 5], [], [], [(1, [(0, 0, [], []), (1, 0, [], []), (2, 0, [], []), (3, 2, [], []), (4, 0, [], []), (5, 33, [], []), (6, 0, [], []), (7, 0, [], []), (8, 0, [], []), (9, 2, [], []), (10, 0, [], []), (11, 0, [], []), (12, 41, [], []), (13, 4, [], [])])]⟩
theorem seek_Seek_keep.ok (S : Sig) (a0 a1 a2 : Value) (s : St) : evF S Try.prog seek_Seek_keep.ctx seek_Seek_keep.an Try.f40 [a0, a1, a2] s = seek_Seek_keep.t S a0 a1 a2 s := by kernel_rfl
theorem seek_Seek_keep.cok : CtxOk Try.prog seek_Seek_keep.ctx := .nil
theorem seek_Seek_keep.draws : fnDraws seek_Seek_keep.an Try.f40 = true := by kernel_rfl
theorem seek_Seek_keep.can : callOk Try.prog 40 = true := by kernel_rfl
theorem seek_Seek_keep.sound : FnOk Try.prog 40 (.st seek_Seek_keep.w) := FnOk.st_of (evF_ok seek_Seek_keep.cok mixed (f := 40) (fn := Try.f40) (by kernel_rfl) seek_Seek_keep.draws) fun args s r h => by
  unfold seek_Seek_keep.w at h; split at h
  · rw [seek_Seek_keep.ok std]; exact h
  · simp at h

/-! ### (*leapfrog/seek.Seek).looked: function 37 -/
def seek_Seek_looked.ctx : Ctx := [(52, .st seek_Seek_goes.w), (40, .st seek_Seek_keep.w), (41, .st seek_Seek_counts.w), (53, .st seek_Seek_again.w)]
def seek_Seek_looked.t (S : Sig) (a0 a1 : Value) (s : St) : Option (Value × St) :=
  S.bd (bx a1) fun c1 => S.bd (lcl c1 0) fun x2 => S.bd (eqb [1] false false x2 (Go.Value.int Go.IntKind.i64 1)) fun x3 => S.cnd x3 (S.bd (nck a0) fun x4 => S.bd (fld 17 x4) fun x5 => S.bd (lda s 5 x5) fun x6 => S.bd (nck a0) fun x7 => S.bd (fld 9 x7) fun x8 => S.bd (stv s 5 x8 x6) fun s9 => S.bd (nck a0) fun x10 => S.bd (fld 16 x10) fun x11 => S.bd (stv s9 1 x11 (Go.Value.bool Bool.false)) fun s12 => S.bd (lal c1 7 5) fun x13 => S.bd (seek_Seek_goes.v a0 x13 s12) fun r14 => some ((Value.tuple ⟨[]⟩), r14.2)) (S.bd (eqb [1] false false x2 (Go.Value.int Go.IntKind.i64 3)) fun x15 => S.cnd x15 (S.bd (nck a0) fun x16 => S.bd (fld 17 x16) fun x17 => S.bd (lda s 5 x17) fun x18 => S.bd (lal c1 0 13) fun x19 => S.bd (seek_Seek_keep.v a0 x18 x19 s) fun r20 => S.bd (seek_Seek_counts.v a0 r20.2) fun r21 => S.cnd r21.1 (S.bd (nck a0) fun x22 => S.bd (fld 16 x22) fun x23 => S.bd (stv r21.2 1 x23 (Go.Value.bool Bool.false)) fun s24 => some ((Value.tuple ⟨[]⟩), s24)) (some ((Value.tuple ⟨[]⟩), r21.2))) (S.bd (seek_Seek_again.v a0 s) fun r25 => some ((Value.tuple ⟨[]⟩), r25.2)))
def seek_Seek_looked.v (a0 a1 : Value) (s : St) : Option (Value × St) := seek_Seek_looked.t std a0 a1 s
def seek_Seek_looked.w : List Value → St → Option (Value × St)
  | [a0, a1], s => seek_Seek_looked.v a0 a1 s
  | _, _ => none
def seek_Seek_looked.an : An := ⟨38, false, [3], [], [], [(7, [(0, 0, [], []), (1, 0, [], []), (2, 0, [], []), (3, 0, [], []), (4, 2, [], []), (5, 25, [], []), (6, 4, [], [])])]⟩
theorem seek_Seek_looked.ok (S : Sig) (a0 a1 : Value) (s : St) : evF S Try.prog seek_Seek_looked.ctx seek_Seek_looked.an Try.f37 [a0, a1] s = seek_Seek_looked.t S a0 a1 s := by kernel_rfl
theorem seek_Seek_looked.cok : CtxOk Try.prog seek_Seek_looked.ctx := .cons seek_Seek_goes.sound seek_Seek_goes.can <| .cons seek_Seek_keep.sound seek_Seek_keep.can <| .cons seek_Seek_counts.sound seek_Seek_counts.can <| .cons seek_Seek_again.sound seek_Seek_again.can <| .nil
theorem seek_Seek_looked.draws : fnDraws seek_Seek_looked.an Try.f37 = true := by kernel_rfl
theorem seek_Seek_looked.can : callOk Try.prog 37 = true := by kernel_rfl
theorem seek_Seek_looked.sound : FnOk Try.prog 37 (.st seek_Seek_looked.w) := FnOk.st_of (evF_ok seek_Seek_looked.cok mixed (f := 37) (fn := Try.f37) (by kernel_rfl) seek_Seek_looked.draws) fun args s r h => by
  unfold seek_Seek_looked.w at h; split at h
  · rw [seek_Seek_looked.ok std]; exact h
  · simp at h

/-! ### (*leapfrog/seek.Seek).stood: function 38 -/
def seek_Seek_stood.ctx : Ctx := [(54, .rd key_Less.w), (52, .st seek_Seek_goes.w), (35, .rd key_Check.w), (53, .st seek_Seek_again.w), (40, .st seek_Seek_keep.w)]
def seek_Seek_stood.t (S : Sig) (a0 a1 : Value) (s : St) : Option (Value × St) :=
  S.bd (bx a1) fun c1 => S.bd (lcl c1 0) fun x2 => S.bd (eqb [1] false false x2 (Go.Value.int Go.IntKind.i64 1)) fun x3 => S.cnd x3 (S.bd (nck a0) fun x4 => S.bd (fld 9 x4) fun x5 => S.bd (fld 1 x5) fun x6 => S.bd (lda s 2 x6) fun x7 => S.bd (nck a0) fun x8 => S.bd (fld 0 x8) fun x9 => S.bd (fld 6 x9) fun x10 => S.bd (lda s 2 x10) fun x11 => S.bd (key_Less.r x7 x11 s) fun x12 => S.cnd x12 (S.bd (lal c1 7 5) fun x13 => S.bd (seek_Seek_goes.v a0 x13 s) fun r14 => some ((Value.tuple ⟨[]⟩), r14.2)) (S.bd (lal c1 3 2) fun x15 => S.bd (key_Check.r x15 s) fun x16 => S.bd (eqb [1] false false x16 (Go.Value.int Go.IntKind.i64 0)) fun x17 => S.bd (S.gd x17 true (lal c1 3 2)) fun x18 => S.bd (S.gd x17 true (some a0)) fun x19 => S.bd (S.gd x17 true (nck x19)) fun x20 => S.bd (S.gd x17 true (fld 9 x20)) fun x21 => S.bd (S.gd x17 true (fld 1 x21)) fun x22 => S.bd (S.gd x17 true (lda s 2 x22)) fun x23 => S.bd (S.gd x17 true (key_Less.r x18 x23 s)) fun x24 => S.bd (pik x17 x24 (Go.Value.bool Bool.false)) fun x25 => S.cnd x25 (S.bd (lal c1 2 5) fun x26 => S.bd (nck a0) fun x27 => S.bd (fld 9 x27) fun x28 => S.bd (stv s 5 x28 x26) fun s29 => some ((Value.tuple ⟨[]⟩), s29)) (S.bd (seek_Seek_again.v a0 s) fun r30 => some ((Value.tuple ⟨[]⟩), r30.2)))) (S.bd (eqb [1] false false x2 (Go.Value.int Go.IntKind.i64 3)) fun x31 => S.cnd x31 (S.bd (nck a0) fun x32 => S.bd (fld 9 x32) fun x33 => S.bd (lda s 5 x33) fun x34 => S.bd (lal c1 0 13) fun x35 => S.bd (seek_Seek_keep.v a0 x34 x35 s) fun r36 => S.bd (seek_Seek_again.v a0 r36.2) fun r37 => some ((Value.tuple ⟨[]⟩), r37.2)) (S.bd (seek_Seek_again.v a0 s) fun r38 => some ((Value.tuple ⟨[]⟩), r38.2)))
def seek_Seek_stood.v (a0 a1 : Value) (s : St) : Option (Value × St) := seek_Seek_stood.t std a0 a1 s
def seek_Seek_stood.w : List Value → St → Option (Value × St)
  | [a0, a1], s => seek_Seek_stood.v a0 a1 s
  | _, _ => none
def seek_Seek_stood.an : An := ⟨55, false, [3], [], [], [(4, [(0, 0, [], []), (1, 0, [], []), (2, 0, [], []), (3, 0, [], []), (4, 2, [], []), (5, 0, [], []), (6, 0, [], []), (7, 0, [], []), (8, 0, [], []), (9, 2, [], []), (10, 3, [], [])]), (6, [(0, 0, [], []), (1, 0, [], []), (2, 25, [], []), (3, 3, [], []), (4, 0, [], []), (5, 0, [], []), (6, 0, [], []), (7, 0, [], []), (8, 25, [], []), (9, 0, [], []), (10, 0, [], []), (11, 0, [], []), (12, 0, [], []), (13, 2, [], []), (14, 3, [], []), (15, 0, [], [])]), (8, [(0, 0, [], []), (1, 0, [], []), (2, 0, [], []), (3, 0, [], []), (4, 2, [], []), (5, 25, [], []), (6, 4, [], [])])]⟩
theorem seek_Seek_stood.ok (S : Sig) (a0 a1 : Value) (s : St) : evF S Try.prog seek_Seek_stood.ctx seek_Seek_stood.an Try.f38 [a0, a1] s = seek_Seek_stood.t S a0 a1 s := by kernel_rfl
theorem seek_Seek_stood.cok : CtxOk Try.prog seek_Seek_stood.ctx := .cons key_Less.sound key_Less.can <| .cons seek_Seek_goes.sound seek_Seek_goes.can <| .cons key_Check.sound key_Check.can <| .cons seek_Seek_again.sound seek_Seek_again.can <| .cons seek_Seek_keep.sound seek_Seek_keep.can <| .nil
theorem seek_Seek_stood.draws : fnDraws seek_Seek_stood.an Try.f38 = true := by kernel_rfl
theorem seek_Seek_stood.can : callOk Try.prog 38 = true := by kernel_rfl
theorem seek_Seek_stood.sound : FnOk Try.prog 38 (.st seek_Seek_stood.w) := FnOk.st_of (evF_ok seek_Seek_stood.cok mixed (f := 38) (fn := Try.f38) (by kernel_rfl) seek_Seek_stood.draws) fun args s r h => by
  unfold seek_Seek_stood.w at h; split at h
  · rw [seek_Seek_stood.ok std]; exact h
  · simp at h

/-! ### (*leapfrog/seek.Seek).Tell: function 18 -/
def seek_Seek_Tell.ctx : Ctx := [(36, .rd seek_Seek_is.w), (37, .st seek_Seek_looked.w), (38, .st seek_Seek_stood.w)]
def seek_Seek_Tell.t (S : Sig) (a0 a1 : Value) (s : St) : Option (Value × St) :=
  S.bd (bx a1) fun c1 => S.bd (seek_Seek_is.r a0 s) fun x2 => S.bd (un .not x2) fun x3 => S.bd (S.gd x3 false (some a0)) fun x4 => S.bd (S.gd x3 false (nck x4)) fun x5 => S.bd (S.gd x3 false (fld 24 x5)) fun x6 => S.bd (S.gd x3 false (ldc s x6)) fun x7 => S.bd (pik x3 (Go.Value.bool Bool.true) x7) fun x8 => S.cnd x8 (some ((Value.tuple ⟨[]⟩), s)) (S.bd (nck a0) fun x9 => S.bd (fld 16 x9) fun x10 => S.bd (ldc s x10) fun x11 => S.cnd x11 (S.bd (lal c1 0 13) fun x12 => S.bd (seek_Seek_looked.v a0 x12 s) fun r13 => some ((Value.tuple ⟨[]⟩), r13.2)) (S.bd (lal c1 0 13) fun x14 => S.bd (seek_Seek_stood.v a0 x14 s) fun r15 => some ((Value.tuple ⟨[]⟩), r15.2)))
def seek_Seek_Tell.v (a0 a1 : Value) (s : St) : Option (Value × St) := seek_Seek_Tell.t std a0 a1 s
def seek_Seek_Tell.w : List Value → St → Option (Value × St)
  | [a0, a1], s => seek_Seek_Tell.v a0 a1 s
  | _, _ => none
def seek_Seek_Tell.an : An := ⟨25, false, [3], [], [], []⟩
theorem seek_Seek_Tell.ok (S : Sig) (a0 a1 : Value) (s : St) : evF S Try.prog seek_Seek_Tell.ctx seek_Seek_Tell.an Try.f18 [a0, a1] s = seek_Seek_Tell.t S a0 a1 s := by kernel_rfl
theorem seek_Seek_Tell.cok : CtxOk Try.prog seek_Seek_Tell.ctx := .cons seek_Seek_is.sound seek_Seek_is.can <| .cons seek_Seek_looked.sound seek_Seek_looked.can <| .cons seek_Seek_stood.sound seek_Seek_stood.can <| .nil
theorem seek_Seek_Tell.draws : fnDraws seek_Seek_Tell.an Try.f18 = true := by kernel_rfl
theorem seek_Seek_Tell.can : callOk Try.prog 18 = true := by kernel_rfl
theorem seek_Seek_Tell.sound : FnOk Try.prog 18 (.st seek_Seek_Tell.w) := FnOk.st_of (evF_ok seek_Seek_Tell.cok mixed (f := 18) (fn := Try.f18) (by kernel_rfl) seek_Seek_Tell.draws) fun args s r h => by
  unfold seek_Seek_Tell.w at h; split at h
  · rw [seek_Seek_Tell.ok std]; exact h
  · simp at h

/-! ### leapfrog/leapfroglaw12.awake: function 10 -/
def leapfroglaw12x_awake.ctx : Ctx := [(12, .rd leapfrogref12x_Head.w), (13, .rd leapfrogref02x_At.w), (17, .st seek_New.w), (19, .rd seek_Seek_Next.w), (31, .rd leapfroglaw12x_at.w), (18, .st seek_Seek_Tell.w)]
def leapfroglaw12x_awake.t.p1 (S : Sig) (r16 : Value × St) (x5 : Value) (c13 : List Value) (c19 : List Value) : Option (Value × St) :=
  S.bd (leapfrogref12x_Head.r (Go.Value.int Go.IntKind.i64 0) r16.2) fun x20 => S.bd (leapfroglaw12x_at.r (Go.Value.int Go.IntKind.i64 3) (Go.Value.int Go.IntKind.u64 9) r16.2) fun x21 => S.bd (bld [(Go.Value.int Go.IntKind.i64 0), (Go.Value.bool Bool.false), (Go.Value.int Go.IntKind.i64 0), (Go.Value.int Go.IntKind.i64 0), (Go.Value.int Go.IntKind.u64 0), (Go.Value.int Go.IntKind.i64 0), (Go.Value.int Go.IntKind.u64 0), (Go.Value.int Go.IntKind.i64 0), (Go.Value.int Go.IntKind.i64 0), (Go.Value.int Go.IntKind.u64 0), (Go.Value.int Go.IntKind.i64 0), (Go.Value.int Go.IntKind.u64 0), (Go.Value.slice Option.none 0 0)] [(0, 1, (Go.Value.int Go.IntKind.i64 1)), (2, 5, x20), (7, 5, x21)]) fun x22 => S.bd (seek_Seek_Tell.v x5 x22 r16.2) fun r23 => S.bd (seek_Seek_Next.r x5 r23.2) fun x24 => S.bd (bx (Go.Value.agg #[(Go.Value.int Go.IntKind.i64 0), (Go.Value.int Go.IntKind.i64 0), (Go.Value.int Go.IntKind.i64 0), (Go.Value.int Go.IntKind.u64 0), (Go.Value.int Go.IntKind.i64 0), (Go.Value.int Go.IntKind.u64 0), (Go.Value.int Go.IntKind.i64 0), (Go.Value.int Go.IntKind.i64 0), (Go.Value.int Go.IntKind.u64 0), (Go.Value.int Go.IntKind.i64 0), (Go.Value.int Go.IntKind.i64 0), (Go.Value.int Go.IntKind.u64 0), (Go.Value.int Go.IntKind.i64 0), (Go.Value.int Go.IntKind.u64 0), (Go.Value.int Go.IntKind.i64 0), (Go.Value.int Go.IntKind.i64 0), (Go.Value.int Go.IntKind.u64 0), (Go.Value.int Go.IntKind.i64 0), (Go.Value.int Go.IntKind.u64 0), (Go.Value.int Go.IntKind.i64 0), (Go.Value.int Go.IntKind.i64 0), (Go.Value.int Go.IntKind.i64 0), (Go.Value.int Go.IntKind.u64 0), (Go.Value.slice Option.none 0 0), (Go.Value.slice Option.none 0 0), (Go.Value.int Go.IntKind.i64 0), (Go.Value.int Go.IntKind.i64 0), (Go.Value.int Go.IntKind.u64 0), (Go.Value.int Go.IntKind.i64 0), (Go.Value.int Go.IntKind.u64 0), (Go.Value.int Go.IntKind.i64 0), (Go.Value.int Go.IntKind.i64 0), (Go.Value.int Go.IntKind.u64 0), (Go.Value.int Go.IntKind.i64 0), (Go.Value.int Go.IntKind.u64 0), (Go.Value.bool Bool.false)])) fun c25 => S.bd (stl c25 0 36 x24) fun c26 => S.bd (lcl c13 0) fun x27 => S.bd (eqb [1] false false x27 (Go.Value.int Go.IntKind.i64 1)) fun x28 => S.bd (S.gd x28 true (lal c13 1 5)) fun x29 => S.bd (S.gd x28 true (leapfrogref12x_Head.r (Go.Value.int Go.IntKind.i64 0) r23.2)) fun x30 => S.bd (S.gd x28 true (eqb [1, 1, 1, 1, 1] true false x29 x30)) fun x31 => S.bd (pik x28 x31 (Go.Value.bool Bool.false)) fun x32 => S.bd (S.gd x32 true (lal c19 1 5)) fun x33 => S.bd (S.gd x32 true (leapfroglaw12x_at.r (Go.Value.int Go.IntKind.i64 2) (Go.Value.int Go.IntKind.u64 5) r23.2)) fun x34 => S.bd (S.gd x32 true (eqb [1, 1, 1, 1, 1] true false x33 x34)) fun x35 => S.bd (pik x32 x35 (Go.Value.bool Bool.false)) fun x36 => S.bd (S.gd x36 true (lcl c26 0)) fun x37 => S.bd (S.gd x36 true (eqb [1] false false x37 (Go.Value.int Go.IntKind.i64 3))) fun x38 => S.bd (pik x36 x38 (Go.Value.bool Bool.false)) fun x39 => S.bd (S.gd x39 true (lcl c26 21)) fun x40 => S.bd (S.gd x39 true (eqb [1] false false x40 (Go.Value.int Go.IntKind.i64 0))) fun x41 => S.bd (pik x39 x41 (Go.Value.bool Bool.false)) fun x42 => S.bd (S.gd x42 true (lal c26 25 5)) fun x43 => S.bd (S.gd x42 true (leapfroglaw12x_at.r (Go.Value.int Go.IntKind.i64 2) (Go.Value.int Go.IntKind.u64 5) r23.2)) fun x44 => S.bd (S.gd x42 true (eqb [1, 1, 1, 1, 1] true false x43 x44)) fun x45 => S.bd (pik x42 x45 (Go.Value.bool Bool.false)) fun x46 => S.bd (S.gd x46 true (lal c26 30 5)) fun x47 => S.bd (S.gd x46 true (leapfroglaw12x_at.r (Go.Value.int Go.IntKind.i64 3) (Go.Value.int Go.IntKind.u64 9) r23.2)) fun x48 => S.bd (S.gd x46 true (eqb [1, 1, 1, 1, 1] true false x47 x48)) fun x49 => S.bd (pik x46 x49 (Go.Value.bool Bool.false)) fun x50 => S.bd (S.gd x50 true (lcl c26 35)) fun x51 => S.bd (S.gd x50 true (un .not x51)) fun x52 => S.bd (pik x50 x52 (Go.Value.bool Bool.false)) fun x53 => some (x53, r23.2)

def leapfroglaw12x_awake.t.p2 (S : Sig) (x5 : Value) (r4 : Value × St) : Option (Value × St) :=
  S.bd (seek_Seek_Next.r x5 r4.2) fun x11 => S.bd (bx (Go.Value.agg #[(Go.Value.int Go.IntKind.i64 0), (Go.Value.int Go.IntKind.i64 0), (Go.Value.int Go.IntKind.i64 0), (Go.Value.int Go.IntKind.u64 0), (Go.Value.int Go.IntKind.i64 0), (Go.Value.int Go.IntKind.u64 0), (Go.Value.int Go.IntKind.i64 0), (Go.Value.int Go.IntKind.i64 0), (Go.Value.int Go.IntKind.u64 0), (Go.Value.int Go.IntKind.i64 0), (Go.Value.int Go.IntKind.i64 0), (Go.Value.int Go.IntKind.u64 0), (Go.Value.int Go.IntKind.i64 0), (Go.Value.int Go.IntKind.u64 0), (Go.Value.int Go.IntKind.i64 0), (Go.Value.int Go.IntKind.i64 0), (Go.Value.int Go.IntKind.u64 0), (Go.Value.int Go.IntKind.i64 0), (Go.Value.int Go.IntKind.u64 0), (Go.Value.int Go.IntKind.i64 0), (Go.Value.int Go.IntKind.i64 0), (Go.Value.int Go.IntKind.i64 0), (Go.Value.int Go.IntKind.u64 0), (Go.Value.slice Option.none 0 0), (Go.Value.slice Option.none 0 0), (Go.Value.int Go.IntKind.i64 0), (Go.Value.int Go.IntKind.i64 0), (Go.Value.int Go.IntKind.u64 0), (Go.Value.int Go.IntKind.i64 0), (Go.Value.int Go.IntKind.u64 0), (Go.Value.int Go.IntKind.i64 0), (Go.Value.int Go.IntKind.i64 0), (Go.Value.int Go.IntKind.u64 0), (Go.Value.int Go.IntKind.i64 0), (Go.Value.int Go.IntKind.u64 0), (Go.Value.bool Bool.false)])) fun c12 => S.bd (stl c12 0 36 x11) fun c13 => S.bd (leapfroglaw12x_at.r (Go.Value.int Go.IntKind.i64 2) (Go.Value.int Go.IntKind.u64 5) r4.2) fun x14 => S.bd (bld [(Go.Value.int Go.IntKind.i64 0), (Go.Value.bool Bool.false), (Go.Value.int Go.IntKind.i64 0), (Go.Value.int Go.IntKind.i64 0), (Go.Value.int Go.IntKind.u64 0), (Go.Value.int Go.IntKind.i64 0), (Go.Value.int Go.IntKind.u64 0), (Go.Value.int Go.IntKind.i64 0), (Go.Value.int Go.IntKind.i64 0), (Go.Value.int Go.IntKind.u64 0), (Go.Value.int Go.IntKind.i64 0), (Go.Value.int Go.IntKind.u64 0), (Go.Value.slice Option.none 0 0)] [(0, 1, (Go.Value.int Go.IntKind.i64 1)), (7, 5, x14)]) fun x15 => S.bd (seek_Seek_Tell.v x5 x15 r4.2) fun r16 => S.bd (seek_Seek_Next.r x5 r16.2) fun x17 => S.bd (bx (Go.Value.agg #[(Go.Value.int Go.IntKind.i64 0), (Go.Value.int Go.IntKind.i64 0), (Go.Value.int Go.IntKind.i64 0), (Go.Value.int Go.IntKind.u64 0), (Go.Value.int Go.IntKind.i64 0), (Go.Value.int Go.IntKind.u64 0), (Go.Value.int Go.IntKind.i64 0), (Go.Value.int Go.IntKind.i64 0), (Go.Value.int Go.IntKind.u64 0), (Go.Value.int Go.IntKind.i64 0), (Go.Value.int Go.IntKind.i64 0), (Go.Value.int Go.IntKind.u64 0), (Go.Value.int Go.IntKind.i64 0), (Go.Value.int Go.IntKind.u64 0), (Go.Value.int Go.IntKind.i64 0), (Go.Value.int Go.IntKind.i64 0), (Go.Value.int Go.IntKind.u64 0), (Go.Value.int Go.IntKind.i64 0), (Go.Value.int Go.IntKind.u64 0), (Go.Value.int Go.IntKind.i64 0), (Go.Value.int Go.IntKind.i64 0), (Go.Value.int Go.IntKind.i64 0), (Go.Value.int Go.IntKind.u64 0), (Go.Value.slice Option.none 0 0), (Go.Value.slice Option.none 0 0), (Go.Value.int Go.IntKind.i64 0), (Go.Value.int Go.IntKind.i64 0), (Go.Value.int Go.IntKind.u64 0), (Go.Value.int Go.IntKind.i64 0), (Go.Value.int Go.IntKind.u64 0), (Go.Value.int Go.IntKind.i64 0), (Go.Value.int Go.IntKind.i64 0), (Go.Value.int Go.IntKind.u64 0), (Go.Value.int Go.IntKind.i64 0), (Go.Value.int Go.IntKind.u64 0), (Go.Value.bool Bool.false)])) fun c18 => S.bd (stl c18 0 36 x17) fun c19 => leapfroglaw12x_awake.t.p1 S r16 x5 c13 c19

def leapfroglaw12x_awake.t (S : Sig) (s : St) : Option (Value × St) :=
  S.bd (leapfrogref12x_Head.r (Go.Value.int Go.IntKind.i64 0) s) fun x1 => S.bd (leapfrogref02x_At.r (Go.Value.int Go.IntKind.u64 7) s) fun x2 => S.bd (bld [(Go.Value.int Go.IntKind.i64 0), (Go.Value.int Go.IntKind.i64 0), (Go.Value.int Go.IntKind.i64 0), (Go.Value.int Go.IntKind.u64 0), (Go.Value.int Go.IntKind.i64 0), (Go.Value.int Go.IntKind.u64 0), (Go.Value.int Go.IntKind.i64 0), (Go.Value.int Go.IntKind.u64 0)] [(1, 5, x1), (6, 2, x2)]) fun x3 => S.bd (seek_New.v x3 s) fun r4 => S.bd (xtr 0 r4.1) fun x5 => S.bd (xtr 1 r4.1) fun x6 => S.bd (eqb [1] false true x6 (Go.Value.int Go.IntKind.i64 0)) fun x7 => S.bd (S.gd x7 false (some x5)) fun x8 => S.bd (S.gd x7 false (eqb [3] false false x8 (Go.Value.pointer Option.none))) fun x9 => S.bd (pik x7 (Go.Value.bool Bool.true) x9) fun x10 => S.cnd x10 (some ((Go.Value.bool Bool.false), r4.2)) (leapfroglaw12x_awake.t.p2 S x5 r4)
def leapfroglaw12x_awake.v (s : St) : Option (Value × St) := leapfroglaw12x_awake.t std  s
def leapfroglaw12x_awake.w : List Value → St → Option (Value × St)
  | [], s => leapfroglaw12x_awake.v  s
  | _, _ => none
def leapfroglaw12x_awake.an : An := ⟨80, false, [3, 4, 5], [], [], [(9, [(0, 0, [], []), (1, 25, [], []), (2, 0, [], []), (3, 0, [], []), (4, 0, [], []), (5, 25, [], []), (6, 3, [], []), (7, 0, [], []), (8, 0, [], []), (9, 0, [], []), (10, 0, [], []), (11, 33, [], []), (12, 3, [], []), (13, 0, [], []), (14, 0, [], []), (15, 0, [], []), (16, 0, [], []), (17, 41, [], []), (18, 0, [], []), (19, 0, [], []), (20, 0, [], []), (21, 0, [], []), (22, 0, [], []), (23, 41, [], []), (24, 0, [], []), (25, 0, [], []), (26, 0, [], []), (27, 0, [], []), (28, 0, [], []), (29, 41, [], []), (30, 3, [], []), (31, 0, [], []), (32, 0, [], []), (33, 0, [], []), (34, 0, [], []), (35, 0, [], []), (36, 41, [], []), (37, 3, [], []), (38, 0, [], []), (39, 0, [], []), (40, 0, [], []), (41, 0, [], []), (42, 0, [], []), (43, 41, [], []), (44, 0, [], []), (45, 0, [], []), (46, 0, [], [])])]⟩
theorem leapfroglaw12x_awake.ok (S : Sig) (s : St) : evF S Try.prog leapfroglaw12x_awake.ctx leapfroglaw12x_awake.an Try.f10 [] s = leapfroglaw12x_awake.t S  s := by kernel_rfl
theorem leapfroglaw12x_awake.cok : CtxOk Try.prog leapfroglaw12x_awake.ctx := .cons leapfrogref12x_Head.sound leapfrogref12x_Head.can <| .cons leapfrogref02x_At.sound leapfrogref02x_At.can <| .cons seek_New.sound seek_New.can <| .cons seek_Seek_Next.sound seek_Seek_Next.can <| .cons leapfroglaw12x_at.sound leapfroglaw12x_at.can <| .cons seek_Seek_Tell.sound seek_Seek_Tell.can <| .nil
theorem leapfroglaw12x_awake.draws : fnDraws leapfroglaw12x_awake.an Try.f10 = true := by kernel_rfl
theorem leapfroglaw12x_awake.can : callOk Try.prog 10 = true := by kernel_rfl
theorem leapfroglaw12x_awake.sound : FnOk Try.prog 10 (.st leapfroglaw12x_awake.w) := FnOk.st_of (evF_ok leapfroglaw12x_awake.cok mixed (f := 10) (fn := Try.f10) (by kernel_rfl) leapfroglaw12x_awake.draws) fun args s r h => by
  unfold leapfroglaw12x_awake.w at h; split at h
  · rw [leapfroglaw12x_awake.ok std]; exact h
  · simp at h

/-! ### leapfrog/leapfroglaw12.awake: function 10, closed -/
def leapfroglaw12x_awakeC.r (s : St) : Option Value := some (Value.bool true)
def leapfroglaw12x_awakeC.w : List Value → St → Option Value := closedW (Value.bool true)
theorem leapfroglaw12x_awakeC.can : callOk Try.prog 10 = true := leapfroglaw12x_awake.can
theorem leapfroglaw12x_awakeC.sound : FnOk Try.prog 10 (.rd leapfroglaw12x_awakeC.w) := FnOk.closed leapfroglaw12x_awake.sound (by kernel_rfl) rfl

/-! ### leapfrog/leapfrogref02.Compare: function 39 -/
def leapfrogref02x_Compare.ctx : Ctx := []
def leapfrogref02x_Compare.t (S : Sig) (a0 a1 : Value) (s : St) : Option Value :=
  S.bd (bx a0) fun c1 => S.bd (bx a1) fun c2 => S.bd (lcl c1 0) fun x3 => S.bd (lcl c2 0) fun x4 => S.bd (bin .lss x3 x4) fun x5 => S.bd (S.gd x5 false (lcl c1 0)) fun x6 => S.bd (S.gd x5 false (lcl c2 0)) fun x7 => S.bd (S.gd x5 false (eqb [1] false false x6 x7)) fun x8 => S.bd (S.gd x5 false (some x8)) fun x9 => S.bd (S.gd x9 true (lcl c1 1)) fun x10 => S.bd (S.gd x9 true (lcl c2 1)) fun x11 => S.bd (S.gd x9 true (bin .lss x10 x11)) fun x12 => S.bd (S.gd x5 false (pik x9 x12 (Go.Value.bool Bool.false))) fun x13 => S.bd (pik x5 (Go.Value.bool Bool.true) x13) fun x14 => S.cnd x14 (some ((Go.Value.int Go.IntKind.i64 (-1)))) (S.bd (lal c1 0 2) fun x15 => S.bd (lal c2 0 2) fun x16 => S.bd (eqb [1, 1] true false x15 x16) fun x17 => S.cnd x17 (some ((Go.Value.int Go.IntKind.i64 0))) (some ((Go.Value.int Go.IntKind.i64 1))))
def leapfrogref02x_Compare.r (a0 a1 : Value) (s : St) : Option Value := leapfrogref02x_Compare.t std a0 a1 s
def leapfrogref02x_Compare.w : List Value → St → Option Value
  | [a0, a1], s => leapfrogref02x_Compare.r a0 a1 s
  | _, _ => none
def leapfrogref02x_Compare.an : An := ⟨29, true, [2, 3], [], [], []⟩
theorem leapfrogref02x_Compare.ok (S : Sig) (a0 a1 : Value) (s : St) : evG S Try.prog leapfrogref02x_Compare.ctx leapfrogref02x_Compare.an Try.f39 [a0, a1] s = leapfrogref02x_Compare.t S a0 a1 s := by kernel_rfl
theorem leapfrogref02x_Compare.cok : CtxOk Try.prog leapfrogref02x_Compare.ctx := .nil
theorem leapfrogref02x_Compare.draws : fnDraws leapfrogref02x_Compare.an Try.f39 = true := by kernel_rfl
theorem leapfrogref02x_Compare.can : callOk Try.prog 39 = true := by kernel_rfl
theorem leapfrogref02x_Compare.sound : FnOk Try.prog 39 (.rd leapfrogref02x_Compare.w) := FnOk.rd_of (evG_ok leapfrogref02x_Compare.cok mixed (f := 39) (fn := Try.f39) (by kernel_rfl) leapfrogref02x_Compare.draws) fun args s r h => by
  unfold leapfrogref02x_Compare.w at h; split at h
  · rw [leapfrogref02x_Compare.ok std]; exact h
  · simp at h

/-! ### leapfrog/leapfrogref02.Less: function 21 -/
def leapfrogref02x_Less.ctx : Ctx := [(39, .rd leapfrogref02x_Compare.w)]
def leapfrogref02x_Less.t (S : Sig) (a0 a1 : Value) (s : St) : Option Value :=
  S.bd (bx a0) fun c1 => S.bd (bx a1) fun c2 => S.bd (lal c1 0 2) fun x3 => S.bd (lal c2 0 2) fun x4 => S.bd (leapfrogref02x_Compare.r x3 x4 s) fun x5 => S.bd (bin .lss x5 (Go.Value.int Go.IntKind.i64 0)) fun x6 => some (x6)
def leapfrogref02x_Less.r (a0 a1 : Value) (s : St) : Option Value := leapfrogref02x_Less.t std a0 a1 s
def leapfrogref02x_Less.w : List Value → St → Option Value
  | [a0, a1], s => leapfrogref02x_Less.r a0 a1 s
  | _, _ => none
def leapfrogref02x_Less.an : An := ⟨9, true, [2, 3], [], [], []⟩
theorem leapfrogref02x_Less.ok (S : Sig) (a0 a1 : Value) (s : St) : evG S Try.prog leapfrogref02x_Less.ctx leapfrogref02x_Less.an Try.f21 [a0, a1] s = leapfrogref02x_Less.t S a0 a1 s := by kernel_rfl
theorem leapfrogref02x_Less.cok : CtxOk Try.prog leapfrogref02x_Less.ctx := .cons leapfrogref02x_Compare.sound leapfrogref02x_Compare.can <| .nil
theorem leapfrogref02x_Less.draws : fnDraws leapfrogref02x_Less.an Try.f21 = true := by kernel_rfl
theorem leapfrogref02x_Less.can : callOk Try.prog 21 = true := by kernel_rfl
theorem leapfrogref02x_Less.sound : FnOk Try.prog 21 (.rd leapfrogref02x_Less.w) := FnOk.rd_of (evG_ok leapfrogref02x_Less.cok mixed (f := 21) (fn := Try.f21) (by kernel_rfl) leapfrogref02x_Less.draws) fun args s r h => by
  unfold leapfrogref02x_Less.w at h; split at h
  · rw [leapfrogref02x_Less.ok std]; exact h
  · simp at h

/-! ### leapfrog/leapfrogref02.Sorted: function 32 -/
def leapfrogref02x_Sorted.ctx : Ctx := [(21, .rd leapfrogref02x_Less.w)]
def leapfrogref02x_Sorted.l8.p1 (S : Sig) (xs95 : List Value) (s96 : St) (rec97 : List Value → St → Option Cut) : Option Cut :=
  S.bd (show Option Cut from S.bd (un .not (xs95.getD 4 undef)) fun x100 => S.bd (S.gd x100 true (some (xs95.getD 1 undef))) fun x101 => S.bd (S.gd x100 true (some (xs95.getD 5 undef))) fun x102 => S.bd (S.gd x100 true (idx s96 2 x101 x102)) fun x103 => S.bd (S.gd x100 true (lda s96 2 x103)) fun x104 => S.bd (S.gd x100 true (some (xs95.getD 0 undef))) fun x105 => S.bd (S.gd x100 true (some (xs95.getD 2 undef))) fun x106 => S.bd (S.gd x100 true (idx s96 2 x105 x106)) fun x107 => S.bd (S.gd x100 true (lda s96 2 x107)) fun x108 => S.bd (S.gd x100 true (leapfrogref02x_Less.r x104 x108 s96)) fun x109 => S.bd (S.gd x100 true (un .not x109)) fun x110 => S.bd (pik x100 x110 (Go.Value.bool Bool.false)) fun x111 => S.cnd x111 (S.bd (idx s96 2 (xs95.getD 0 undef) (xs95.getD 2 undef)) fun x112 => S.bd (lda s96 2 x112) fun x113 => S.bd (S.bd (bls 2 (List.replicate 1 [(Go.Value.int Go.IntKind.i64 0), (Go.Value.int Go.IntKind.u64 0)]) [(0, x113)]) fun rows => als s96 2 1 rows) fun r114 => S.bd (app r114.2 2 16 (xs95.getD 3 undef) r114.1) fun r115 => some (0, [(xs95.getD 0 undef), (xs95.getD 1 undef), (xs95.getD 2 undef), r115.1, (Go.Value.bool Bool.true), (xs95.getD 5 undef), x101, x102, x103, x104, x105, x106, x107, x108, x109, x110], r115.2)) (some (0, [(xs95.getD 0 undef), (xs95.getD 1 undef), (xs95.getD 2 undef), (xs95.getD 3 undef), (xs95.getD 4 undef), (xs95.getD 5 undef), x101, x102, x103, x104, x105, x106, x107, x108, x109, x110], s96))) fun r116 => S.bd (idx r116.2.2 2 (r116.2.1.getD 1 undef) (r116.2.1.getD 5 undef)) fun x117 => S.bd (lda r116.2.2 2 x117) fun x118 => S.bd (idx r116.2.2 2 (r116.2.1.getD 0 undef) (r116.2.1.getD 2 undef)) fun x119 => S.bd (lda r116.2.2 2 x119) fun x120 => S.bd (eqb [1, 1] true true x118 x120) fun x121 => S.cnd x121 (S.bd (idx r116.2.2 2 (r116.2.1.getD 1 undef) (r116.2.1.getD 5 undef)) fun x122 => S.bd (lda r116.2.2 2 x122) fun x123 => S.bd (S.bd (bls 2 (List.replicate 1 [(Go.Value.int Go.IntKind.i64 0), (Go.Value.int Go.IntKind.u64 0)]) [(0, x123)]) fun rows => als r116.2.2 2 1 rows) fun r124 => S.bd (app r124.2 2 16 (r116.2.1.getD 3 undef) r124.1) fun r125 => S.bd (bin .add (r116.2.1.getD 5 undef) (Go.Value.int Go.IntKind.i64 1)) fun x126 => rec97 [(r116.2.1.getD 0 undef), (r116.2.1.getD 1 undef), (r116.2.1.getD 2 undef), r125.1, (r116.2.1.getD 4 undef), x126] r125.2) (S.bd (bin .add (r116.2.1.getD 5 undef) (Go.Value.int Go.IntKind.i64 1)) fun x127 => rec97 [(r116.2.1.getD 0 undef), (r116.2.1.getD 1 undef), (r116.2.1.getD 2 undef), (r116.2.1.getD 3 undef), (r116.2.1.getD 4 undef), x127] r116.2.2)

def leapfrogref02x_Sorted.l8 (S : Sig) (rec97 : List Value → St → Option Cut) (xs95 : List Value) (s96 : St) : Option Cut :=
  S.bd (lenL (xs95.getD 1 undef)) fun x98 => S.bd (bin .lss (xs95.getD 5 undef) x98) fun x99 => S.cnd x99 (leapfrogref02x_Sorted.l8.p1 S xs95 s96 rec97) (some (0, [(xs95.getD 0 undef), (xs95.getD 2 undef), (xs95.getD 3 undef), (xs95.getD 4 undef)], s96))

def leapfrogref02x_Sorted.l3 (S : Sig) (rec92 : List Value → St → Option Cut) (xs90 : List Value) (s91 : St) : Option Cut :=
  S.bd (lenL (xs90.getD 0 undef)) fun x93 => S.bd (bin .lss (xs90.getD 2 undef) x93) fun x94 => S.cnd x94 (S.bd (S.it (leapfrogref02x_Sorted.l8 S) [(xs90.getD 0 undef), (xs90.getD 1 undef), (xs90.getD 2 undef), (Go.Value.slice Option.none 0 0), (Go.Value.bool Bool.false), (Go.Value.int Go.IntKind.i64 0)] s91) fun r128 => S.bd (un .not (r128.2.1.getD 3 undef)) fun x129 => S.cnd x129 (S.bd (idx r128.2.2 2 (r128.2.1.getD 0 undef) (r128.2.1.getD 1 undef)) fun x130 => S.bd (lda r128.2.2 2 x130) fun x131 => S.bd (S.bd (bls 2 (List.replicate 1 [(Go.Value.int Go.IntKind.i64 0), (Go.Value.int Go.IntKind.u64 0)]) [(0, x131)]) fun rows => als r128.2.2 2 1 rows) fun r132 => S.bd (app r132.2 2 16 (r128.2.1.getD 2 undef) r132.1) fun r133 => S.bd (bin .add (r128.2.1.getD 1 undef) (Go.Value.int Go.IntKind.i64 1)) fun x134 => rec92 [(r128.2.1.getD 0 undef), r133.1, x134] r133.2) (S.bd (bin .add (r128.2.1.getD 1 undef) (Go.Value.int Go.IntKind.i64 1)) fun x135 => rec92 [(r128.2.1.getD 0 undef), (r128.2.1.getD 2 undef), x135] r128.2.2)) (some (0, [(xs90.getD 1 undef)], s91))

def leapfrogref02x_Sorted.t (S : Sig) (a0 : Value) (s : St) : Option (Value × St) :=
  S.bd (S.it (leapfrogref02x_Sorted.l3 S) [a0, (Go.Value.slice Option.none 0 0), (Go.Value.int Go.IntKind.i64 0)] s) fun r136 => some ((r136.2.1.getD 0 undef), r136.2.2)
def leapfrogref02x_Sorted.v (a0 : Value) (s : St) : Option (Value × St) := leapfrogref02x_Sorted.t std a0 s
def leapfrogref02x_Sorted.w : List Value → St → Option (Value × St)
  | [a0], s => leapfrogref02x_Sorted.v a0 s
  | _, _ => none
def leapfrogref02x_Sorted.an : An := ⟨68, false, [], [(8, ⟨[.v 0, .v 3, .v 4, .v 5, .v 6, .v 7], [(.exit 2, [.v 0, .v 4, .v 5, .v 6])]⟩), (3, ⟨[.v 0, .v 3, .v 4], [(.exit 0, [.v 3])]⟩)], [(13, ⟨[], [(.normal, [.v 0, .v 3, .v 4, .v 5, .v 6, .v 7, .v 23, .v 24, .v 25, .v 26, .v 27, .v 28, .v 29, .v 30, .v 31, .v 32])]⟩)], [(10, [(0, 0, [], []), (1, 0, [], []), (2, 0, [], []), (3, 0, [], []), (4, 0, [], []), (5, 2, [], []), (6, 2, [], []), (7, 0, [], []), (8, 0, [], []), (9, 2, [], []), (10, 2, [], []), (11, 3, [], []), (12, 0, [], []), (13, 0, [], [])]), (13, [(0, 0, [], []), (1, 0, [], []), (2, 2, [], []), (3, 2, [], []), (4, 0, [], []), (5, 0, [], []), (6, 2, [], []), (7, 2, [], []), (8, 0, [], [])])]⟩
theorem leapfrogref02x_Sorted.ok (S : Sig) (a0 : Value) (s : St) : evF S Try.prog leapfrogref02x_Sorted.ctx leapfrogref02x_Sorted.an Try.f32 [a0] s = leapfrogref02x_Sorted.t S a0 s := by kernel_rfl
theorem leapfrogref02x_Sorted.cok : CtxOk Try.prog leapfrogref02x_Sorted.ctx := .cons leapfrogref02x_Less.sound leapfrogref02x_Less.can <| .nil
theorem leapfrogref02x_Sorted.draws : fnDraws leapfrogref02x_Sorted.an Try.f32 = true := by kernel_rfl
theorem leapfrogref02x_Sorted.can : callOk Try.prog 32 = true := by kernel_rfl
theorem leapfrogref02x_Sorted.sound : FnOk Try.prog 32 (.st leapfrogref02x_Sorted.w) := FnOk.st_of (evF_ok leapfrogref02x_Sorted.cok mixed (f := 32) (fn := Try.f32) (by kernel_rfl) leapfrogref02x_Sorted.draws) fun args s r h => by
  unfold leapfrogref02x_Sorted.w at h; split at h
  · rw [leapfrogref02x_Sorted.ok std]; exact h
  · simp at h

/-! ### leapfrog/leapfroglaw12.Make: function 11 -/
def leapfroglaw12x_Make.ctx : Ctx := [(13, .rd leapfrogref02x_At.w), (32, .st leapfrogref02x_Sorted.w)]
def leapfroglaw12x_Make.l4 (S : Sig) (rec18 : List Value → St → Option Cut) (xs16 : List Value) (s17 : St) : Option Cut :=
  S.bd (lenL (xs16.getD 1 undef)) fun x19 => S.bd (bin .lss (xs16.getD 5 undef) x19) fun x20 => S.bd (S.gd x20 true (some (xs16.getD 5 undef))) fun x21 => S.bd (S.gd x20 true (bin .lss x21 (Go.Value.int Go.IntKind.i64 20))) fun x22 => S.bd (pik x20 x22 (Go.Value.bool Bool.false)) fun x23 => S.cnd x23 (S.bd (idx s17 1 (xs16.getD 1 undef) (xs16.getD 5 undef)) fun x24 => S.bd (ldc s17 x24) fun x25 => S.bd (leapfrogref02x_At.r x25 s17) fun x26 => S.bd (S.bd (bls 2 (List.replicate 1 [(Go.Value.int Go.IntKind.i64 0), (Go.Value.int Go.IntKind.u64 0)]) [(0, x26)]) fun rows => als s17 2 1 rows) fun r27 => S.bd (app r27.2 2 16 (xs16.getD 4 undef) r27.1) fun r28 => S.bd (bin .add (xs16.getD 5 undef) (Go.Value.int Go.IntKind.i64 1)) fun x29 => rec18 [(xs16.getD 0 undef), (xs16.getD 1 undef), (xs16.getD 2 undef), (xs16.getD 3 undef), r28.1, x29, (Value.agg ⟨(cellsA (xs16.getD 6 undef))⟩), (Value.agg ⟨(cellsA (xs16.getD 7 undef))⟩)] r28.2) (some (0, [(xs16.getD 0 undef), (xs16.getD 2 undef), (xs16.getD 3 undef), (xs16.getD 4 undef), (Value.agg ⟨(cellsA (xs16.getD 6 undef))⟩), (Value.agg ⟨(cellsA (xs16.getD 7 undef))⟩)], s17))

def leapfroglaw12x_Make.l9.p1 (S : Sig) (x98 : Value) (x100 : Value) (x101 : Value) (r96 : Cut) (x97 : Value) (x99 : Value) (rec82 : List Value → St → Option Cut) : Option Cut :=
  S.bd (bld [(Go.Value.int Go.IntKind.i64 0), (Go.Value.int Go.IntKind.i64 0), (Go.Value.int Go.IntKind.u64 0), (Go.Value.int Go.IntKind.i64 0), (Go.Value.int Go.IntKind.u64 0)] [(0, 1, x98), (1, 2, x100), (3, 2, x101)]) fun x102 => S.bd (S.bd (bls 5 (List.replicate 1 [(Go.Value.int Go.IntKind.i64 0), (Go.Value.int Go.IntKind.i64 0), (Go.Value.int Go.IntKind.u64 0), (Go.Value.int Go.IntKind.i64 0), (Go.Value.int Go.IntKind.u64 0)]) [(0, x102)]) fun rows => als r96.2.2 5 1 rows) fun r103 => S.bd (app r103.2 5 40 x97 r103.1) fun r104 => S.bd (idx r104.2 2 (r96.2.1.getD 3 undef) (r96.2.1.getD 4 undef)) fun x105 => S.cnd (Value.bool (sameV x105 x99)) (S.bd (lda r104.2 2 x99) fun x106 => S.cnd (Value.bool (sameV x106 x100)) (S.bd (stl (cellsA (r96.2.1.getD 6 undef)) 1 1 r104.1) fun c107 => S.bd (lcl c107 2) fun x108 => S.bd (lenL (r96.2.1.getD 2 undef)) fun x109 => S.bd (bin .lss (r96.2.1.getD 4 undef) x109) fun x110 => S.bd (S.gd x110 true (some (r96.2.1.getD 2 undef))) fun x111 => S.bd (S.gd x110 true (some (r96.2.1.getD 4 undef))) fun x112 => S.bd (S.gd x110 true (idx r104.2 1 x111 x112)) fun x113 => S.bd (S.gd x110 true (ldc r104.2 x113)) fun x114 => S.bd (pik x110 x114 (Go.Value.bool Bool.false)) fun x115 => S.bd (S.bd (bls 1 (List.replicate 1 [(Go.Value.bool Bool.false)]) [(0, x115)]) fun rows => als r104.2 1 1 rows) fun r116 => S.bd (app r116.2 1 1 x108 r116.1) fun r117 => S.bd (lenL (r96.2.1.getD 2 undef)) fun x118 => S.cnd (Value.bool (sameV x118 x109)) (S.bd (S.gd x110 true (idx r117.2 1 x111 x112)) fun x119 => S.cnd (Value.bool (sameV x119 x113)) (S.bd (S.gd x110 true (ldc r117.2 x113)) fun x120 => S.cnd (Value.bool (sameV x120 x114)) (S.bd (stl c107 2 1 r117.1) fun c121 => S.bd (bin .add (r96.2.1.getD 4 undef) (Go.Value.int Go.IntKind.i64 1)) fun x122 => rec82 [(r96.2.1.getD 0 undef), (r96.2.1.getD 1 undef), (r96.2.1.getD 2 undef), (r96.2.1.getD 3 undef), x122, (Value.agg ⟨(cellsA (r96.2.1.getD 5 undef))⟩), (Value.agg ⟨c121⟩)] r117.2) (none)) (none)) (none)) (none)) (none)

def leapfroglaw12x_Make.l9 (S : Sig) (rec82 : List Value → St → Option Cut) (xs80 : List Value) (s81 : St) : Option Cut :=
  S.bd (lenL (xs80.getD 3 undef)) fun x83 => S.bd (bin .lss (xs80.getD 4 undef) x83) fun x84 => S.cnd x84 (S.bd (bld [(Go.Value.int Go.IntKind.i64 0), (Go.Value.int Go.IntKind.u64 0)] [(0, 1, (xs80.getD 0 undef))]) fun x85 => S.bd (bx (Go.Value.agg #[(Go.Value.int Go.IntKind.i64 0), (Go.Value.int Go.IntKind.u64 0)])) fun c86 => S.bd (stl c86 0 2 x85) fun c87 => S.bd (show Option Cut from S.bd (lenL (xs80.getD 1 undef)) fun x88 => S.bd (bin .lss (xs80.getD 4 undef) x88) fun x89 => S.cnd x89 (S.bd (idx s81 1 (xs80.getD 1 undef) (xs80.getD 4 undef)) fun x90 => S.bd (ldc s81 x90) fun x91 => S.bd (cvi .u64 (xs80.getD 0 undef)) fun x92 => S.bd (bin .shl (Go.Value.int Go.IntKind.u64 1) x92) fun x93 => S.bd (bin .rem x91 x93) fun x94 => S.bd (stl c87 1 1 x94) fun c95 => some (0, [(xs80.getD 0 undef), (xs80.getD 1 undef), (xs80.getD 2 undef), (xs80.getD 3 undef), (xs80.getD 4 undef), (Value.agg ⟨(cellsA (xs80.getD 5 undef))⟩), (Value.agg ⟨(cellsA (xs80.getD 6 undef))⟩), (Value.agg ⟨c95⟩)], s81)) (some (0, [(xs80.getD 0 undef), (xs80.getD 1 undef), (xs80.getD 2 undef), (xs80.getD 3 undef), (xs80.getD 4 undef), (Value.agg ⟨(cellsA (xs80.getD 5 undef))⟩), (Value.agg ⟨(cellsA (xs80.getD 6 undef))⟩), (Value.agg ⟨c87⟩)], s81))) fun r96 => S.bd (lcl (cellsA (r96.2.1.getD 6 undef)) 1) fun x97 => S.bd (bin .add (r96.2.1.getD 4 undef) (Go.Value.int Go.IntKind.i64 2)) fun x98 => S.bd (idx r96.2.2 2 (r96.2.1.getD 3 undef) (r96.2.1.getD 4 undef)) fun x99 => S.bd (lda r96.2.2 2 x99) fun x100 => S.bd (lal (cellsA (r96.2.1.getD 7 undef)) 0 2) fun x101 => leapfroglaw12x_Make.l9.p1 S x98 x100 x101 r96 x97 x99 rec82) (some (0, [(Value.agg ⟨(cellsA (xs80.getD 5 undef))⟩), (Value.agg ⟨(cellsA (xs80.getD 6 undef))⟩)], s81))

def leapfroglaw12x_Make.t (S : Sig) (a0 a1 a2 a3 : Value) (s : St) : Option (Value × St) :=
  S.bd (bx (Go.Value.agg #[(Go.Value.int Go.IntKind.i64 0), (Go.Value.slice Option.none 0 0), (Go.Value.slice Option.none 0 0)])) fun c1 => S.bd (bld [(Go.Value.int Go.IntKind.i64 0), (Go.Value.slice Option.none 0 0), (Go.Value.slice Option.none 0 0)] [(0, 1, a0)]) fun x2 => S.bd (bx (Go.Value.agg #[(Go.Value.int Go.IntKind.i64 0), (Go.Value.slice Option.none 0 0), (Go.Value.slice Option.none 0 0)])) fun c3 => S.bd (stl c3 0 3 x2) fun c4 => S.bd (S.it (leapfroglaw12x_Make.l4 S) [a0, a1, a2, a3, (Go.Value.slice Option.none 0 0), (Go.Value.int Go.IntKind.i64 0), (Value.agg ⟨c1⟩), (Value.agg ⟨c4⟩)] s) fun r30 => S.bd (leapfrogref02x_Sorted.v (r30.2.1.getD 3 undef) r30.2.2) fun r31 => S.bd (S.it (leapfroglaw12x_Make.l9 S) [(r30.2.1.getD 0 undef), (r30.2.1.getD 1 undef), (r30.2.1.getD 2 undef), r31.1, (Go.Value.int Go.IntKind.i64 0), (Value.agg ⟨(cellsA (r30.2.1.getD 4 undef))⟩), (Value.agg ⟨(cellsA (r30.2.1.getD 5 undef))⟩)] r31.2) fun r123 => S.bd (lal (cellsA (r123.2.1.getD 1 undef)) 0 3) fun x124 => S.bd (stl (cellsA (r123.2.1.getD 0 undef)) 0 3 x124) fun c125 => S.bd (lal c125 0 3) fun x126 => some (x126, r123.2.2)
def leapfroglaw12x_Make.v (a0 a1 a2 a3 : Value) (s : St) : Option (Value × St) := leapfroglaw12x_Make.t std a0 a1 a2 a3 s
def leapfroglaw12x_Make.w : List Value → St → Option (Value × St)
  | [a0, a1, a2, a3], s => leapfroglaw12x_Make.v a0 a1 a2 a3 s
  | _, _ => none
def leapfroglaw12x_Make.an : An := ⟨86, false, [8, 9, 13], [(4, ⟨[.v 0, .v 1, .v 2, .v 3, .p 8 8 0, .p 9 9 0, .v 10, .v 11, .l 8, .l 9], [(.exit 0, [.v 0, .v 2, .v 3, .p 8 8 0, .p 9 9 0, .v 10, .l 8, .l 9])]⟩), (9, ⟨[.v 0, .v 2, .v 3, .p 8 8 0, .p 9 9 0, .v 10, .v 12, .l 8, .l 9], [(.exit 2, [.p 8 8 0, .p 9 9 0, .l 8, .l 9])]⟩)], [(14, ⟨[], [(.normal, [.v 0, .v 2, .v 3, .p 8 8 0, .p 9 9 0, .v 10, .v 12, .p 13 13 0, .l 8, .l 9, .l 13])]⟩)], [(14, [(0, 0, [], []), (1, 73, [], []), (2, 0, [], []), (3, 0, [], []), (4, 0, [], []), (5, 0, [], []), (6, 2, [], []), (7, 2, [], []), (8, 105, [], []), (9, 0, [], []), (10, 3, [], []), (11, 4, [6, 7], []), (12, 0, [], []), (13, 77, [], [])]), (15, [(0, 0, [], []), (1, 73, [], []), (2, 0, [], []), (3, 0, [], []), (4, 2, [], []), (5, 0, [], []), (6, 0, [], []), (7, 0, [], []), (8, 0, [], []), (9, 2, [], []), (10, 2, [], []), (11, 0, [], []), (12, 3, [], []), (13, 4, [4, 9, 10], []), (14, 0, [], []), (15, 77, [], [])])]⟩
theorem leapfroglaw12x_Make.ok (S : Sig) (a0 a1 a2 a3 : Value) (s : St) : evF S Try.prog leapfroglaw12x_Make.ctx leapfroglaw12x_Make.an Try.f11 [a0, a1, a2, a3] s = leapfroglaw12x_Make.t S a0 a1 a2 a3 s := by kernel_rfl
theorem leapfroglaw12x_Make.cok : CtxOk Try.prog leapfroglaw12x_Make.ctx := .cons leapfrogref02x_At.sound leapfrogref02x_At.can <| .cons leapfrogref02x_Sorted.sound leapfrogref02x_Sorted.can <| .nil
theorem leapfroglaw12x_Make.draws : fnDraws leapfroglaw12x_Make.an Try.f11 = true := by kernel_rfl
theorem leapfroglaw12x_Make.can : callOk Try.prog 11 = true := by kernel_rfl
theorem leapfroglaw12x_Make.sound : FnOk Try.prog 11 (.st leapfroglaw12x_Make.w) := FnOk.st_of (evF_ok leapfroglaw12x_Make.cok mixed (f := 11) (fn := Try.f11) (by kernel_rfl) leapfroglaw12x_Make.draws) fun args s r h => by
  unfold leapfroglaw12x_Make.w at h; split at h
  · rw [leapfroglaw12x_Make.ok std]; exact h
  · simp at h

/-! ### leapfrog/leapfrogref12.Tail: function 14 -/
def leapfrogref12x_Tail.ctx : Ctx := []
def leapfrogref12x_Tail.t (S : Sig) (a0 : Value) (s : St) : Option Value :=
  S.bd (bx (Go.Value.agg #[(Go.Value.int Go.IntKind.i64 0), (Go.Value.int Go.IntKind.i64 0), (Go.Value.int Go.IntKind.u64 0), (Go.Value.int Go.IntKind.i64 0), (Go.Value.int Go.IntKind.u64 0)])) fun c1 => S.bd (bld [(Go.Value.int Go.IntKind.i64 0), (Go.Value.int Go.IntKind.u64 0)] [(0, 1, (Go.Value.int Go.IntKind.i64 3))]) fun x2 => S.bd (bld [(Go.Value.int Go.IntKind.i64 0), (Go.Value.int Go.IntKind.u64 0)] [(0, 1, a0)]) fun x3 => S.bd (bld [(Go.Value.int Go.IntKind.i64 0), (Go.Value.int Go.IntKind.i64 0), (Go.Value.int Go.IntKind.u64 0), (Go.Value.int Go.IntKind.i64 0), (Go.Value.int Go.IntKind.u64 0)] [(0, 1, (Go.Value.int Go.IntKind.i64 1)), (1, 2, x2), (3, 2, x3)]) fun x4 => S.bd (stl c1 0 5 x4) fun c5 => S.bd (lal c5 0 5) fun x6 => some (x6)
def leapfrogref12x_Tail.r (a0 : Value) (s : St) : Option Value := leapfrogref12x_Tail.t std a0 s
def leapfrogref12x_Tail.w : List Value → St → Option Value
  | [a0], s => leapfrogref12x_Tail.r a0 s
  | _, _ => none
def leapfrogref12x_Tail.an : An := ⟨7, true, [2], [], [], []⟩
theorem leapfrogref12x_Tail.ok (S : Sig) (a0 : Value) (s : St) : evG S Try.prog leapfrogref12x_Tail.ctx leapfrogref12x_Tail.an Try.f14 [a0] s = leapfrogref12x_Tail.t S a0 s := by kernel_rfl
theorem leapfrogref12x_Tail.cok : CtxOk Try.prog leapfrogref12x_Tail.ctx := .nil
theorem leapfrogref12x_Tail.draws : fnDraws leapfrogref12x_Tail.an Try.f14 = true := by kernel_rfl
theorem leapfrogref12x_Tail.can : callOk Try.prog 14 = true := by kernel_rfl
theorem leapfrogref12x_Tail.sound : FnOk Try.prog 14 (.rd leapfrogref12x_Tail.w) := FnOk.rd_of (evG_ok leapfrogref12x_Tail.cok mixed (f := 14) (fn := Try.f14) (by kernel_rfl) leapfrogref12x_Tail.draws) fun args s r h => by
  unfold leapfrogref12x_Tail.w at h; split at h
  · rw [leapfrogref12x_Tail.ok std]; exact h
  · simp at h

/-! ### leapfrog/leapfrogref01.Power: function 64 -/
def leapfrogref01x_Power.ctx : Ctx := []
def leapfrogref01x_Power.l2 (S : Sig) (rec6 : List Value → St → Option Cut) (xs4 : List Value) (s5 : St) : Option Cut :=
  S.bd (bin .gtr (xs4.getD 0 undef) (Go.Value.int Go.IntKind.i64 0)) fun x7 => S.cnd x7 (S.bd (bin .mul (xs4.getD 1 undef) (Go.Value.int Go.IntKind.u64 2)) fun x8 => S.bd (bin .sub (xs4.getD 0 undef) (Go.Value.int Go.IntKind.i64 1)) fun x9 => rec6 [x9, x8] s5) (some (0, [(xs4.getD 1 undef)], s5))

def leapfrogref01x_Power.t (S : Sig) (a0 : Value) (s : St) : Option Value :=
  S.bd (S.it (leapfrogref01x_Power.l2 S) [a0, (Go.Value.int Go.IntKind.u64 1)] s) fun r10 => some ((r10.2.1.getD 0 undef))
def leapfrogref01x_Power.r (a0 : Value) (s : St) : Option Value := leapfrogref01x_Power.t std a0 s
def leapfrogref01x_Power.w : List Value → St → Option Value
  | [a0], s => leapfrogref01x_Power.r a0 s
  | _, _ => none
def leapfrogref01x_Power.an : An := ⟨11, true, [], [(2, ⟨[.v 0, .v 3], [(.exit 0, [.v 3])]⟩)], [], []⟩
theorem leapfrogref01x_Power.ok (S : Sig) (a0 : Value) (s : St) : evG S Try.prog leapfrogref01x_Power.ctx leapfrogref01x_Power.an Try.f64 [a0] s = leapfrogref01x_Power.t S a0 s := by kernel_rfl
theorem leapfrogref01x_Power.cok : CtxOk Try.prog leapfrogref01x_Power.ctx := .nil
theorem leapfrogref01x_Power.draws : fnDraws leapfrogref01x_Power.an Try.f64 = true := by kernel_rfl
theorem leapfrogref01x_Power.can : callOk Try.prog 64 = true := by kernel_rfl
theorem leapfrogref01x_Power.sound : FnOk Try.prog 64 (.rd leapfrogref01x_Power.w) := FnOk.rd_of (evG_ok leapfrogref01x_Power.cok mixed (f := 64) (fn := Try.f64) (by kernel_rfl) leapfrogref01x_Power.draws) fun args s r h => by
  unfold leapfrogref01x_Power.w at h; split at h
  · rw [leapfrogref01x_Power.ok std]; exact h
  · simp at h

/-! ### leapfrog/leapfrogref01.Right: function 55 -/
def leapfrogref01x_Right.ctx : Ctx := [(64, .rd leapfrogref01x_Power.w)]
def leapfrogref01x_Right.t (S : Sig) (a0 : Value) (s : St) : Option Value :=
  S.bd (bx a0) fun c1 => S.bd (lcl c1 0) fun x2 => S.bd (bin .geq x2 (Go.Value.int Go.IntKind.i64 0)) fun x3 => S.bd (S.gd x3 true (lcl c1 0)) fun x4 => S.bd (S.gd x3 true (bin .leq x4 (Go.Value.int Go.IntKind.i64 32))) fun x5 => S.bd (pik x3 x5 (Go.Value.bool Bool.false)) fun x6 => S.bd (S.gd x6 true (lcl c1 1)) fun x7 => S.bd (S.gd x6 true (lcl c1 0)) fun x8 => S.bd (S.gd x6 true (leapfrogref01x_Power.r x8 s)) fun x9 => S.bd (S.gd x6 true (bin .lss x7 x9)) fun x10 => S.bd (pik x6 x10 (Go.Value.bool Bool.false)) fun x11 => some (x11)
def leapfrogref01x_Right.r (a0 : Value) (s : St) : Option Value := leapfrogref01x_Right.t std a0 s
def leapfrogref01x_Right.w : List Value → St → Option Value
  | [a0], s => leapfrogref01x_Right.r a0 s
  | _, _ => none
def leapfrogref01x_Right.an : An := ⟨19, true, [1], [], [], [(1, [(0, 0, [], []), (1, 9, [], []), (2, 0, [], []), (3, 0, [], []), (4, 0, [], []), (5, 9, [], []), (6, 0, [], []), (7, 0, [], []), (8, 0, [], []), (9, 0, [], []), (10, 9, [], []), (11, 0, [], []), (12, 9, [], []), (13, 3, [], []), (14, 0, [], []), (15, 0, [], []), (16, 0, [], [])])]⟩
theorem leapfrogref01x_Right.ok (S : Sig) (a0 : Value) (s : St) : evG S Try.prog leapfrogref01x_Right.ctx leapfrogref01x_Right.an Try.f55 [a0] s = leapfrogref01x_Right.t S a0 s := by kernel_rfl
theorem leapfrogref01x_Right.cok : CtxOk Try.prog leapfrogref01x_Right.ctx := .cons leapfrogref01x_Power.sound leapfrogref01x_Power.can <| .nil
theorem leapfrogref01x_Right.draws : fnDraws leapfrogref01x_Right.an Try.f55 = true := by kernel_rfl
theorem leapfrogref01x_Right.can : callOk Try.prog 55 = true := by kernel_rfl
theorem leapfrogref01x_Right.sound : FnOk Try.prog 55 (.rd leapfrogref01x_Right.w) := FnOk.rd_of (evG_ok leapfrogref01x_Right.cok mixed (f := 55) (fn := Try.f55) (by kernel_rfl) leapfrogref01x_Right.draws) fun args s r h => by
  unfold leapfrogref01x_Right.w at h; split at h
  · rw [leapfrogref01x_Right.ok std]; exact h
  · simp at h

/-! ### leapfrog/leapfrogref01.Bits: function 60 -/
def leapfrogref01x_Bits.ctx : Ctx := []
def leapfrogref01x_Bits.l4 (S : Sig) (rec16 : List Value → St → Option Cut) (xs14 : List Value) (s15 : St) : Option Cut :=
  S.bd (bin .geq (xs14.getD 2 undef) (Go.Value.int Go.IntKind.i64 0)) fun x17 => S.cnd x17 (S.bd (bin .rem (xs14.getD 1 undef) (Go.Value.int Go.IntKind.u64 2)) fun x18 => S.bd (cvi .i64 x18) fun x19 => S.bd (idx s15 1 (xs14.getD 0 undef) (xs14.getD 2 undef)) fun x20 => S.bd (stv s15 1 x20 x19) fun s21 => S.bd (bin .quo (xs14.getD 1 undef) (Go.Value.int Go.IntKind.u64 2)) fun x22 => S.bd (bin .sub (xs14.getD 2 undef) (Go.Value.int Go.IntKind.i64 1)) fun x23 => rec16 [(xs14.getD 0 undef), x22, x23] s21) (some (0, [(xs14.getD 0 undef)], s15))

def leapfrogref01x_Bits.t (S : Sig) (a0 : Value) (s : St) : Option (Value × St) :=
  S.bd (bx a0) fun c1 => S.bd (lcl c1 0) fun x2 => S.bd (mks s 1 8 [(Go.Value.int Go.IntKind.i64 0)] x2 x2) fun r3 => S.bd (lcl c1 1) fun x4 => S.bd (lcl c1 0) fun x5 => S.bd (bin .sub x5 (Go.Value.int Go.IntKind.i64 1)) fun x6 => S.bd (S.it (leapfrogref01x_Bits.l4 S) [r3.1, x4, x6] r3.2) fun r24 => some ((r24.2.1.getD 0 undef), r24.2.2)
def leapfrogref01x_Bits.v (a0 : Value) (s : St) : Option (Value × St) := leapfrogref01x_Bits.t std a0 s
def leapfrogref01x_Bits.w : List Value → St → Option (Value × St)
  | [a0], s => leapfrogref01x_Bits.v a0 s
  | _, _ => none
def leapfrogref01x_Bits.an : An := ⟨27, false, [1], [(4, ⟨[.v 3, .v 4, .v 5], [(.exit 0, [.v 3])]⟩)], [], []⟩
theorem leapfrogref01x_Bits.ok (S : Sig) (a0 : Value) (s : St) : evF S Try.prog leapfrogref01x_Bits.ctx leapfrogref01x_Bits.an Try.f60 [a0] s = leapfrogref01x_Bits.t S a0 s := by kernel_rfl
theorem leapfrogref01x_Bits.cok : CtxOk Try.prog leapfrogref01x_Bits.ctx := .nil
theorem leapfrogref01x_Bits.draws : fnDraws leapfrogref01x_Bits.an Try.f60 = true := by kernel_rfl
theorem leapfrogref01x_Bits.can : callOk Try.prog 60 = true := by kernel_rfl
theorem leapfrogref01x_Bits.sound : FnOk Try.prog 60 (.st leapfrogref01x_Bits.w) := FnOk.st_of (evF_ok leapfrogref01x_Bits.cok mixed (f := 60) (fn := Try.f60) (by kernel_rfl) leapfrogref01x_Bits.draws) fun args s r h => by
  unfold leapfrogref01x_Bits.w at h; split at h
  · rw [leapfrogref01x_Bits.ok std]; exact h
  · simp at h

/-! ### leapfrog/leapfrogref01.common: function 59 -/
def leapfrogref01x_common.ctx : Ctx := []
def leapfrogref01x_common.l2 (S : Sig) (rec21 : List Value → St → Option Cut) (xs19 : List Value) (s20 : St) : Option Cut :=
  S.bd (lenL (xs19.getD 0 undef)) fun x22 => S.bd (bin .lss (xs19.getD 2 undef) x22) fun x23 => S.bd (S.gd x23 true (some (xs19.getD 2 undef))) fun x24 => S.bd (S.gd x23 true (some (xs19.getD 1 undef))) fun x25 => S.bd (S.gd x23 true (lenL x25)) fun x26 => S.bd (S.gd x23 true (bin .lss x24 x26)) fun x27 => S.bd (pik x23 x27 (Go.Value.bool Bool.false)) fun x28 => S.bd (S.gd x28 true (some (xs19.getD 0 undef))) fun x29 => S.bd (S.gd x28 true (some (xs19.getD 2 undef))) fun x30 => S.bd (S.gd x28 true (idx s20 1 x29 x30)) fun x31 => S.bd (S.gd x28 true (ldc s20 x31)) fun x32 => S.bd (S.gd x28 true (some (xs19.getD 1 undef))) fun x33 => S.bd (S.gd x28 true (some (xs19.getD 2 undef))) fun x34 => S.bd (S.gd x28 true (idx s20 1 x33 x34)) fun x35 => S.bd (S.gd x28 true (ldc s20 x35)) fun x36 => S.bd (S.gd x28 true (eqb [1] false false x32 x36)) fun x37 => S.bd (pik x28 x37 (Go.Value.bool Bool.false)) fun x38 => S.cnd x38 (S.bd (bin .add (xs19.getD 2 undef) (Go.Value.int Go.IntKind.i64 1)) fun x39 => rec21 [(xs19.getD 0 undef), (xs19.getD 1 undef), x39] s20) (some (0, [(xs19.getD 2 undef)], s20))

def leapfrogref01x_common.t (S : Sig) (a0 a1 : Value) (s : St) : Option Value :=
  S.bd (S.it (leapfrogref01x_common.l2 S) [a0, a1, (Go.Value.int Go.IntKind.i64 0)] s) fun r40 => some ((r40.2.1.getD 0 undef))
def leapfrogref01x_common.r (a0 a1 : Value) (s : St) : Option Value := leapfrogref01x_common.t std a0 a1 s
def leapfrogref01x_common.w : List Value → St → Option Value
  | [a0, a1], s => leapfrogref01x_common.r a0 a1 s
  | _, _ => none
def leapfrogref01x_common.an : An := ⟨30, true, [], [(2, ⟨[.v 0, .v 1, .v 5], [(.exit 0, [.v 5])]⟩)], [], [(2, [(0, 0, [], []), (1, 0, [], []), (2, 2, [], []), (3, 0, [], []), (4, 0, [], []), (5, 0, [], []), (6, 0, [], []), (7, 2, [], []), (8, 0, [], []), (9, 0, [], []), (10, 0, [], []), (11, 0, [], []), (12, 0, [], []), (13, 2, [], []), (14, 2, [], []), (15, 0, [], []), (16, 0, [], []), (17, 2, [], []), (18, 2, [], []), (19, 0, [], []), (20, 0, [], [])])]⟩
theorem leapfrogref01x_common.ok (S : Sig) (a0 a1 : Value) (s : St) : evG S Try.prog leapfrogref01x_common.ctx leapfrogref01x_common.an Try.f59 [a0, a1] s = leapfrogref01x_common.t S a0 a1 s := by kernel_rfl
theorem leapfrogref01x_common.cok : CtxOk Try.prog leapfrogref01x_common.ctx := .nil
theorem leapfrogref01x_common.draws : fnDraws leapfrogref01x_common.an Try.f59 = true := by kernel_rfl
theorem leapfrogref01x_common.can : callOk Try.prog 59 = true := by kernel_rfl
theorem leapfrogref01x_common.sound : FnOk Try.prog 59 (.rd leapfrogref01x_common.w) := FnOk.rd_of (evG_ok leapfrogref01x_common.cok mixed (f := 59) (fn := Try.f59) (by kernel_rfl) leapfrogref01x_common.draws) fun args s r h => by
  unfold leapfrogref01x_common.w at h; split at h
  · rw [leapfrogref01x_common.ok std]; exact h
  · simp at h

/-! ### leapfrog/leapfrogref01.Begins: function 50 -/
def leapfrogref01x_Begins.ctx : Ctx := [(55, .rd leapfrogref01x_Right.w), (60, .st leapfrogref01x_Bits.w), (59, .rd leapfrogref01x_common.w)]
def leapfrogref01x_Begins.t (S : Sig) (a0 a1 : Value) (s : St) : Option (Value × St) :=
  S.bd (bx a0) fun c1 => S.bd (bx a1) fun c2 => S.bd (lal c1 0 2) fun x3 => S.bd (leapfrogref01x_Right.r x3 s) fun x4 => S.bd (S.gd x4 true (lal c2 0 2)) fun x5 => S.bd (S.gd x4 true (leapfrogref01x_Right.r x5 s)) fun x6 => S.bd (pik x4 x6 (Go.Value.bool Bool.false)) fun x7 => S.bd (S.gd x7 true (lal c1 0 2)) fun x8 => S.bd (S.gd x7 true (lal c2 0 2)) fun x9 => S.bd (S.gd x7 true (lcl c2 0)) fun x10 => S.bd (S.gdS x7 true (leapfrogref01x_Bits.v x8 s) s) fun r11 => S.bd (S.gdS x7 true (leapfrogref01x_Bits.v x9 r11.2) r11.2) fun r12 => S.bd (S.gd x7 true (leapfrogref01x_common.r r11.1 r12.1 r12.2)) fun x13 => S.bd (S.gd x7 true (eqb [1] false false x13 x10)) fun x14 => S.bd (pik x7 x14 (Go.Value.bool Bool.false)) fun x15 => some (x15, r12.2)
def leapfrogref01x_Begins.v (a0 a1 : Value) (s : St) : Option (Value × St) := leapfrogref01x_Begins.t std a0 a1 s
def leapfrogref01x_Begins.w : List Value → St → Option (Value × St)
  | [a0, a1], s => leapfrogref01x_Begins.v a0 a1 s
  | _, _ => none
def leapfrogref01x_Begins.an : An := ⟨21, false, [2, 3], [], [], [(1, [(0, 17, [], []), (1, 3, [], []), (2, 0, [], []), (3, 25, [], []), (4, 3, [], []), (5, 0, [], []), (6, 0, [], []), (7, 17, [], []), (9, 25, [], []), (12, 0, [], []), (13, 25, [], []), (8, 4, [], []), (10, 4, [], []), (11, 3, [], []), (14, 0, [], []), (15, 0, [], []), (16, 0, [], [])])]⟩
theorem leapfrogref01x_Begins.ok (S : Sig) (a0 a1 : Value) (s : St) : evF S Try.prog leapfrogref01x_Begins.ctx leapfrogref01x_Begins.an Try.f50 [a0, a1] s = leapfrogref01x_Begins.t S a0 a1 s := by kernel_rfl
theorem leapfrogref01x_Begins.cok : CtxOk Try.prog leapfrogref01x_Begins.ctx := .cons leapfrogref01x_Right.sound leapfrogref01x_Right.can <| .cons leapfrogref01x_Bits.sound leapfrogref01x_Bits.can <| .cons leapfrogref01x_common.sound leapfrogref01x_common.can <| .nil
theorem leapfrogref01x_Begins.draws : fnDraws leapfrogref01x_Begins.an Try.f50 = true := by kernel_rfl
theorem leapfrogref01x_Begins.can : callOk Try.prog 50 = true := by kernel_rfl
theorem leapfrogref01x_Begins.sound : FnOk Try.prog 50 (.st leapfrogref01x_Begins.w) := FnOk.st_of (evF_ok leapfrogref01x_Begins.cok mixed (f := 50) (fn := Try.f50) (by kernel_rfl) leapfrogref01x_Begins.draws) fun args s r h => by
  unfold leapfrogref01x_Begins.w at h; split at h
  · rw [leapfrogref01x_Begins.ok std]; exact h
  · simp at h

/-! ### leapfrog/leapfrogref01.Begins: function 50, as a reading -/
def leapfrogref01x_BeginsQ.r (a0 a1 : Value) (s : St) : Option Value := frzR (fun s => leapfrogref01x_Begins.v a0 a1 s) s
def leapfrogref01x_BeginsQ.w : List Value → St → Option Value := fun args s => frzR (leapfrogref01x_Begins.w args) s
theorem leapfrogref01x_BeginsQ.can : callOk Try.prog 50 = true := leapfrogref01x_Begins.can
theorem leapfrogref01x_BeginsQ.sound : FnOk Try.prog 50 (.rd leapfrogref01x_BeginsQ.w) := FnOk.frozen leapfrogref01x_Begins.sound

/-! ### (leapfrog/leapfroglaw12.World).list: function 33 -/
def leapfroglaw12x_World_list.ctx : Ctx := [(12, .rd leapfrogref12x_Head.w), (50, .rd leapfrogref01x_BeginsQ.w), (14, .rd leapfrogref12x_Tail.w)]
def leapfroglaw12x_World_list.l3 (S : Sig) (rec24 : List Value → St → Option Cut) (xs22 : List Value) (s23 : St) : Option Cut :=
  S.bd (lcl (cellsA (xs22.getD 2 undef)) 1) fun x25 => S.bd (lenL x25) fun x26 => S.bd (bin .lss (xs22.getD 1 undef) x26) fun x27 => S.cnd x27 (S.bd (lcl (cellsA (xs22.getD 2 undef)) 1) fun x28 => S.bd (idx s23 5 x28 (xs22.getD 1 undef)) fun x29 => S.bd (fld 3 x29) fun x30 => S.bd (lda s23 2 x30) fun x31 => S.bd (lal (cellsA (xs22.getD 3 undef)) 0 2) fun x32 => S.bd (leapfrogref01x_BeginsQ.r x31 x32 s23) fun x33 => S.cnd x33 (S.bd (lcl (cellsA (xs22.getD 2 undef)) 1) fun x34 => S.bd (idx s23 5 x34 (xs22.getD 1 undef)) fun x35 => S.bd (lda s23 5 x35) fun x36 => S.bd (S.bd (bls 5 (List.replicate 1 [(Go.Value.int Go.IntKind.i64 0), (Go.Value.int Go.IntKind.i64 0), (Go.Value.int Go.IntKind.u64 0), (Go.Value.int Go.IntKind.i64 0), (Go.Value.int Go.IntKind.u64 0)]) [(0, x36)]) fun rows => als s23 5 1 rows) fun r37 => S.bd (app r37.2 5 40 (xs22.getD 0 undef) r37.1) fun r38 => S.bd (bin .add (xs22.getD 1 undef) (Go.Value.int Go.IntKind.i64 1)) fun x39 => rec24 [r38.1, x39, (Value.agg ⟨(cellsA (xs22.getD 2 undef))⟩), (Value.agg ⟨(cellsA (xs22.getD 3 undef))⟩)] r38.2) (S.bd (bin .add (xs22.getD 1 undef) (Go.Value.int Go.IntKind.i64 1)) fun x40 => rec24 [(xs22.getD 0 undef), x40, (Value.agg ⟨(cellsA (xs22.getD 2 undef))⟩), (Value.agg ⟨(cellsA (xs22.getD 3 undef))⟩)] s23)) (some (0, [(xs22.getD 0 undef), (Value.agg ⟨(cellsA (xs22.getD 2 undef))⟩)], s23))

def leapfroglaw12x_World_list.t (S : Sig) (a0 a1 : Value) (s : St) : Option (Value × St) :=
  S.bd (bx a0) fun c1 => S.bd (bx a1) fun c2 => S.bd (lcl c1 0) fun x3 => S.bd (leapfrogref12x_Head.r x3 s) fun x4 => S.bd (S.bd (bls 5 (List.replicate 1 [(Go.Value.int Go.IntKind.i64 0), (Go.Value.int Go.IntKind.i64 0), (Go.Value.int Go.IntKind.u64 0), (Go.Value.int Go.IntKind.i64 0), (Go.Value.int Go.IntKind.u64 0)]) [(0, x4)]) fun rows => als s 5 1 rows) fun r5 => S.bd (S.it (leapfroglaw12x_World_list.l3 S) [r5.1, (Go.Value.int Go.IntKind.i64 0), (Value.agg ⟨c1⟩), (Value.agg ⟨c2⟩)] r5.2) fun r41 => S.bd (lcl (cellsA (r41.2.1.getD 1 undef)) 0) fun x42 => S.bd (leapfrogref12x_Tail.r x42 r41.2.2) fun x43 => S.bd (S.bd (bls 5 (List.replicate 1 [(Go.Value.int Go.IntKind.i64 0), (Go.Value.int Go.IntKind.i64 0), (Go.Value.int Go.IntKind.u64 0), (Go.Value.int Go.IntKind.i64 0), (Go.Value.int Go.IntKind.u64 0)]) [(0, x43)]) fun rows => als r41.2.2 5 1 rows) fun r44 => S.bd (app r44.2 5 40 (r41.2.1.getD 0 undef) r44.1) fun r45 => some (r45.1, r45.2)
def leapfroglaw12x_World_list.v (a0 a1 : Value) (s : St) : Option (Value × St) := leapfroglaw12x_World_list.t std a0 a1 s
def leapfroglaw12x_World_list.w : List Value → St → Option (Value × St)
  | [a0, a1], s => leapfroglaw12x_World_list.v a0 a1 s
  | _, _ => none
def leapfroglaw12x_World_list.an : An := ⟨40, false, [2, 3], [(3, ⟨[.p 2 2 0, .p 3 3 0, .v 5, .v 6, .l 2, .l 3], [(.exit 0, [.p 2 2 0, .v 5, .l 2])]⟩)], [], [(5, [(0, 0, [], []), (1, 17, [], []), (2, 0, [], []), (3, 2, [], []), (4, 0, [], []), (5, 2, [], []), (6, 25, [], []), (7, 3, [], [])])]⟩
theorem leapfroglaw12x_World_list.ok (S : Sig) (a0 a1 : Value) (s : St) : evF S Try.prog leapfroglaw12x_World_list.ctx leapfroglaw12x_World_list.an Try.f33 [a0, a1] s = leapfroglaw12x_World_list.t S a0 a1 s := by kernel_rfl
theorem leapfroglaw12x_World_list.cok : CtxOk Try.prog leapfroglaw12x_World_list.ctx := .cons leapfrogref12x_Head.sound leapfrogref12x_Head.can <| .cons leapfrogref01x_BeginsQ.sound leapfrogref01x_BeginsQ.can <| .cons leapfrogref12x_Tail.sound leapfrogref12x_Tail.can <| .nil
theorem leapfroglaw12x_World_list.draws : fnDraws leapfroglaw12x_World_list.an Try.f33 = true := by kernel_rfl
theorem leapfroglaw12x_World_list.can : callOk Try.prog 33 = true := by kernel_rfl
theorem leapfroglaw12x_World_list.sound : FnOk Try.prog 33 (.st leapfroglaw12x_World_list.w) := FnOk.st_of (evF_ok leapfroglaw12x_World_list.cok mixed (f := 33) (fn := Try.f33) (by kernel_rfl) leapfroglaw12x_World_list.draws) fun args s r h => by
  unfold leapfroglaw12x_World_list.w at h; split at h
  · rw [leapfroglaw12x_World_list.ok std]; exact h
  · simp at h

/-! ### (leapfrog/leapfroglaw12.World).gone: function 23 -/
def leapfroglaw12x_World_gone.ctx : Ctx := []
def leapfroglaw12x_World_gone.t (S : Sig) (a0 a1 : Value) (s : St) : Option Value :=
  S.bd (bx a0) fun c1 => S.bd (bin .geq a1 (Go.Value.int Go.IntKind.i64 2)) fun x2 => S.bd (S.gd x2 true (some a1)) fun x3 => S.bd (S.gd x2 true (lcl c1 2)) fun x4 => S.bd (S.gd x2 true (lenL x4)) fun x5 => S.bd (S.gd x2 true (bin .add x5 (Go.Value.int Go.IntKind.i64 2))) fun x6 => S.bd (S.gd x2 true (bin .lss x3 x6)) fun x7 => S.bd (pik x2 x7 (Go.Value.bool Bool.false)) fun x8 => S.bd (S.gd x8 true (lcl c1 2)) fun x9 => S.bd (S.gd x8 true (some a1)) fun x10 => S.bd (S.gd x8 true (bin .sub x10 (Go.Value.int Go.IntKind.i64 2))) fun x11 => S.bd (S.gd x8 true (idx s 1 x9 x11)) fun x12 => S.bd (S.gd x8 true (ldc s x12)) fun x13 => S.bd (pik x8 x13 (Go.Value.bool Bool.false)) fun x14 => some (x14)
def leapfroglaw12x_World_gone.r (a0 a1 : Value) (s : St) : Option Value := leapfroglaw12x_World_gone.t std a0 a1 s
def leapfroglaw12x_World_gone.w : List Value → St → Option Value
  | [a0, a1], s => leapfroglaw12x_World_gone.r a0 a1 s
  | _, _ => none
def leapfroglaw12x_World_gone.an : An := ⟨23, true, [2], [], [], []⟩
theorem leapfroglaw12x_World_gone.ok (S : Sig) (a0 a1 : Value) (s : St) : evG S Try.prog leapfroglaw12x_World_gone.ctx leapfroglaw12x_World_gone.an Try.f23 [a0, a1] s = leapfroglaw12x_World_gone.t S a0 a1 s := by kernel_rfl
theorem leapfroglaw12x_World_gone.cok : CtxOk Try.prog leapfroglaw12x_World_gone.ctx := .nil
theorem leapfroglaw12x_World_gone.draws : fnDraws leapfroglaw12x_World_gone.an Try.f23 = true := by kernel_rfl
theorem leapfroglaw12x_World_gone.can : callOk Try.prog 23 = true := by kernel_rfl
theorem leapfroglaw12x_World_gone.sound : FnOk Try.prog 23 (.rd leapfroglaw12x_World_gone.w) := FnOk.rd_of (evG_ok leapfroglaw12x_World_gone.cok mixed (f := 23) (fn := Try.f23) (by kernel_rfl) leapfroglaw12x_World_gone.draws) fun args s r h => by
  unfold leapfroglaw12x_World_gone.w at h; split at h
  · rw [leapfroglaw12x_World_gone.ok std]; exact h
  · simp at h

/-! ### (leapfrog/leapfroglaw12.World).Answer: function 22 -/
def leapfroglaw12x_World_Answer.ctx : Ctx := [(33, .st leapfroglaw12x_World_list.w), (23, .rd leapfroglaw12x_World_gone.w)]
def leapfroglaw12x_World_Answer.l3.p1 (S : Sig) (xs50 : List Value) (s51 : St) : Option Cut :=
  S.bd (bld [(Go.Value.int Go.IntKind.i64 0), (Go.Value.bool Bool.false), (Go.Value.int Go.IntKind.i64 0), (Go.Value.int Go.IntKind.i64 0), (Go.Value.int Go.IntKind.u64 0), (Go.Value.int Go.IntKind.i64 0), (Go.Value.int Go.IntKind.u64 0), (Go.Value.int Go.IntKind.i64 0), (Go.Value.int Go.IntKind.i64 0), (Go.Value.int Go.IntKind.u64 0), (Go.Value.int Go.IntKind.i64 0), (Go.Value.int Go.IntKind.u64 0), (Go.Value.slice Option.none 0 0)] [(0, 1, (Go.Value.int Go.IntKind.i64 1))]) fun x61 => S.bd (bx (Go.Value.agg #[(Go.Value.int Go.IntKind.i64 0), (Go.Value.bool Bool.false), (Go.Value.int Go.IntKind.i64 0), (Go.Value.int Go.IntKind.i64 0), (Go.Value.int Go.IntKind.u64 0), (Go.Value.int Go.IntKind.i64 0), (Go.Value.int Go.IntKind.u64 0), (Go.Value.int Go.IntKind.i64 0), (Go.Value.int Go.IntKind.i64 0), (Go.Value.int Go.IntKind.u64 0), (Go.Value.int Go.IntKind.i64 0), (Go.Value.int Go.IntKind.u64 0), (Go.Value.slice Option.none 0 0)])) fun c62 => S.bd (stl c62 0 13 x61) fun c63 => S.bd (show Option Cut from S.bd (lal (cellsA (xs50.getD 2 undef)) 0 3) fun x64 => S.bd (lcl (cellsA (xs50.getD 3 undef)) 0) fun x65 => S.bd (leapfroglaw12x_World_gone.r x64 x65 s51) fun x66 => S.cnd x66 (S.bd (stl c63 0 1 (Go.Value.int Go.IntKind.i64 3)) fun c67 => some (0, [(xs50.getD 0 undef), (xs50.getD 1 undef), (Value.agg ⟨(cellsA (xs50.getD 4 undef))⟩), (Value.agg ⟨c67⟩)], s51)) (some (0, [(xs50.getD 0 undef), (xs50.getD 1 undef), (Value.agg ⟨(cellsA (xs50.getD 4 undef))⟩), (Value.agg ⟨c63⟩)], s51))) fun r68 => S.bd (show Option Cut from S.bd (bin .gtr (r68.2.1.getD 1 undef) (Go.Value.int Go.IntKind.i64 0)) fun x69 => S.cnd x69 (S.bd (bin .sub (r68.2.1.getD 1 undef) (Go.Value.int Go.IntKind.i64 1)) fun x70 => S.bd (idx r68.2.2 5 (r68.2.1.getD 0 undef) x70) fun x71 => S.bd (lda r68.2.2 5 x71) fun x72 => S.bd (stl (cellsA (r68.2.1.getD 3 undef)) 2 5 x72) fun c73 => some (0, [(r68.2.1.getD 0 undef), (r68.2.1.getD 1 undef), (Value.agg ⟨(cellsA (r68.2.1.getD 2 undef))⟩), (Value.agg ⟨c73⟩)], r68.2.2)) (some (0, [(r68.2.1.getD 0 undef), (r68.2.1.getD 1 undef), (Value.agg ⟨(cellsA (r68.2.1.getD 2 undef))⟩), (Value.agg ⟨(cellsA (r68.2.1.getD 3 undef))⟩)], r68.2.2))) fun r74 => S.bd (bin .add (r74.2.1.getD 1 undef) (Go.Value.int Go.IntKind.i64 1)) fun x75 => S.bd (lenL (r74.2.1.getD 0 undef)) fun x76 => S.bd (bin .lss x75 x76) fun x77 => S.cnd x77 (S.bd (bin .add (r74.2.1.getD 1 undef) (Go.Value.int Go.IntKind.i64 1)) fun x78 => S.bd (idx r74.2.2 5 (r74.2.1.getD 0 undef) x78) fun x79 => S.bd (lda r74.2.2 5 x79) fun x80 => S.bd (stl (cellsA (r74.2.1.getD 3 undef)) 7 5 x80) fun c81 => S.bd (lal c81 0 13) fun x82 => S.bd (stl (cellsA (r74.2.1.getD 2 undef)) 0 13 x82) fun c83 => some (1, [(Value.agg ⟨c83⟩)], r74.2.2)) (S.bd (lal (cellsA (r74.2.1.getD 3 undef)) 0 13) fun x84 => S.bd (stl (cellsA (r74.2.1.getD 2 undef)) 0 13 x84) fun c85 => some (1, [(Value.agg ⟨c85⟩)], r74.2.2))

def leapfroglaw12x_World_Answer.l3 (S : Sig) (rec52 : List Value → St → Option Cut) (xs50 : List Value) (s51 : St) : Option Cut :=
  S.bd (lenL (xs50.getD 0 undef)) fun x53 => S.bd (bin .lss (xs50.getD 1 undef) x53) fun x54 => S.cnd x54 (S.bd (idx s51 5 (xs50.getD 0 undef) (xs50.getD 1 undef)) fun x55 => S.bd (fld 0 x55) fun x56 => S.bd (ldc s51 x56) fun x57 => S.bd (lcl (cellsA (xs50.getD 3 undef)) 0) fun x58 => S.bd (eqb [1] false true x57 x58) fun x59 => S.cnd x59 (S.bd (bin .add (xs50.getD 1 undef) (Go.Value.int Go.IntKind.i64 1)) fun x60 => rec52 [(xs50.getD 0 undef), x60, (Value.agg ⟨(cellsA (xs50.getD 2 undef))⟩), (Value.agg ⟨(cellsA (xs50.getD 3 undef))⟩), (Value.agg ⟨(cellsA (xs50.getD 4 undef))⟩)] s51) (leapfroglaw12x_World_Answer.l3.p1 S xs50 s51)) (some (0, [(Value.agg ⟨(cellsA (xs50.getD 4 undef))⟩)], s51))

def leapfroglaw12x_World_Answer.t (S : Sig) (a0 a1 a2 : Value) (s : St) : Option (Value × St) :=
  S.bd (bx a0) fun c1 => S.bd (bx a1) fun c2 => S.bd (bx a2) fun c3 => S.bd (bx (Go.Value.agg #[(Go.Value.int Go.IntKind.i64 0), (Go.Value.bool Bool.false), (Go.Value.int Go.IntKind.i64 0), (Go.Value.int Go.IntKind.i64 0), (Go.Value.int Go.IntKind.u64 0), (Go.Value.int Go.IntKind.i64 0), (Go.Value.int Go.IntKind.u64 0), (Go.Value.int Go.IntKind.i64 0), (Go.Value.int Go.IntKind.i64 0), (Go.Value.int Go.IntKind.u64 0), (Go.Value.int Go.IntKind.i64 0), (Go.Value.int Go.IntKind.u64 0), (Go.Value.slice Option.none 0 0)])) fun c4 => S.bd (lal c1 0 3) fun x5 => S.bd (lal c3 0 2) fun x6 => S.bd (leapfroglaw12x_World_list.v x5 x6 s) fun r7 => S.bd (S.it (leapfroglaw12x_World_Answer.l3 S) [r7.1, (Go.Value.int Go.IntKind.i64 0), (Value.agg ⟨c1⟩), (Value.agg ⟨c2⟩), (Value.agg ⟨c4⟩)] r7.2) fun r86 => if r86.1 = 0 then (S.bd (bld [(Go.Value.int Go.IntKind.i64 0), (Go.Value.bool Bool.false), (Go.Value.int Go.IntKind.i64 0), (Go.Value.int Go.IntKind.i64 0), (Go.Value.int Go.IntKind.u64 0), (Go.Value.int Go.IntKind.i64 0), (Go.Value.int Go.IntKind.u64 0), (Go.Value.int Go.IntKind.i64 0), (Go.Value.int Go.IntKind.i64 0), (Go.Value.int Go.IntKind.u64 0), (Go.Value.int Go.IntKind.i64 0), (Go.Value.int Go.IntKind.u64 0), (Go.Value.slice Option.none 0 0)] [(0, 1, (Go.Value.int Go.IntKind.i64 2))]) fun x88 => S.bd (stl (cellsA (r86.2.1.getD 0 undef)) 0 13 x88) fun c89 => S.bd (lal c89 0 13) fun x90 => some (x90, r86.2.2)) else (S.bd (lal (cellsA (r86.2.1.getD 0 undef)) 0 13) fun x87 => some (x87, r86.2.2))
def leapfroglaw12x_World_Answer.v (a0 a1 a2 : Value) (s : St) : Option (Value × St) := leapfroglaw12x_World_Answer.t std a0 a1 a2 s
def leapfroglaw12x_World_Answer.w : List Value → St → Option (Value × St)
  | [a0, a1, a2], s => leapfroglaw12x_World_Answer.v a0 a1 a2 s
  | _, _ => none
def leapfroglaw12x_World_Answer.an : An := ⟨54, false, [3, 4, 5, 6, 9], [(3, ⟨[.p 3 3 0, .p 4 4 0, .p 6 6 0, .v 7, .v 8, .l 3, .l 4, .l 6], [(.exit 0, [.p 6 6 0, .l 6]), (.ret, [.p 6 6 0, .l 6])]⟩)], [(9, ⟨[], [(.normal, [.p 6 6 0, .v 7, .v 8, .p 9 9 0, .l 6, .l 9])]⟩), (11, ⟨[], [(.normal, [.p 6 6 0, .v 7, .v 8, .p 9 9 0, .l 6, .l 9])]⟩)], [(5, [(0, 0, [], []), (1, 0, [], []), (2, 2, [], []), (3, 0, [], []), (4, 2, [], []), (5, 0, [], []), (6, 33, [], []), (7, 0, [], [])])]⟩
theorem leapfroglaw12x_World_Answer.ok (S : Sig) (a0 a1 a2 : Value) (s : St) : evF S Try.prog leapfroglaw12x_World_Answer.ctx leapfroglaw12x_World_Answer.an Try.f22 [a0, a1, a2] s = leapfroglaw12x_World_Answer.t S a0 a1 a2 s := by kernel_rfl
theorem leapfroglaw12x_World_Answer.cok : CtxOk Try.prog leapfroglaw12x_World_Answer.ctx := .cons leapfroglaw12x_World_list.sound leapfroglaw12x_World_list.can <| .cons leapfroglaw12x_World_gone.sound leapfroglaw12x_World_gone.can <| .nil
theorem leapfroglaw12x_World_Answer.draws : fnDraws leapfroglaw12x_World_Answer.an Try.f22 = true := by kernel_rfl
theorem leapfroglaw12x_World_Answer.can : callOk Try.prog 22 = true := by kernel_rfl
theorem leapfroglaw12x_World_Answer.sound : FnOk Try.prog 22 (.st leapfroglaw12x_World_Answer.w) := FnOk.st_of (evF_ok leapfroglaw12x_World_Answer.cok mixed (f := 22) (fn := Try.f22) (by kernel_rfl) leapfroglaw12x_World_Answer.draws) fun args s r h => by
  unfold leapfroglaw12x_World_Answer.w at h; split at h
  · rw [leapfroglaw12x_World_Answer.ok std]; exact h
  · simp at h

/-! ### (leapfrog/leapfroglaw12.World).play: function 15 -/
def leapfroglaw12x_World_play.ctx : Ctx := [(17, .st seek_New.w), (19, .rd seek_Seek_Next.w), (22, .st leapfroglaw12x_World_Answer.w), (18, .st seek_Seek_Tell.w)]
def leapfroglaw12x_World_play.l5.p1 (S : Sig) (xs29 : List Value) (s30 : St) (rec31 : List Value → St → Option Cut) : Option Cut :=
  S.bd (seek_Seek_Next.r (xs29.getD 0 undef) s30) fun x33 => S.bd (bx (Go.Value.agg #[(Go.Value.int Go.IntKind.i64 0), (Go.Value.int Go.IntKind.i64 0), (Go.Value.int Go.IntKind.i64 0), (Go.Value.int Go.IntKind.u64 0), (Go.Value.int Go.IntKind.i64 0), (Go.Value.int Go.IntKind.u64 0), (Go.Value.int Go.IntKind.i64 0), (Go.Value.int Go.IntKind.i64 0), (Go.Value.int Go.IntKind.u64 0), (Go.Value.int Go.IntKind.i64 0), (Go.Value.int Go.IntKind.i64 0), (Go.Value.int Go.IntKind.u64 0), (Go.Value.int Go.IntKind.i64 0), (Go.Value.int Go.IntKind.u64 0), (Go.Value.int Go.IntKind.i64 0), (Go.Value.int Go.IntKind.i64 0), (Go.Value.int Go.IntKind.u64 0), (Go.Value.int Go.IntKind.i64 0), (Go.Value.int Go.IntKind.u64 0), (Go.Value.int Go.IntKind.i64 0), (Go.Value.int Go.IntKind.i64 0), (Go.Value.int Go.IntKind.i64 0), (Go.Value.int Go.IntKind.u64 0), (Go.Value.slice Option.none 0 0), (Go.Value.slice Option.none 0 0), (Go.Value.int Go.IntKind.i64 0), (Go.Value.int Go.IntKind.i64 0), (Go.Value.int Go.IntKind.u64 0), (Go.Value.int Go.IntKind.i64 0), (Go.Value.int Go.IntKind.u64 0), (Go.Value.int Go.IntKind.i64 0), (Go.Value.int Go.IntKind.i64 0), (Go.Value.int Go.IntKind.u64 0), (Go.Value.int Go.IntKind.i64 0), (Go.Value.int Go.IntKind.u64 0), (Go.Value.bool Bool.false)])) fun c34 => S.bd (stl c34 0 36 x33) fun c35 => S.bd (lcl c35 0) fun x36 => S.bd (eqb [1] false true x36 (Go.Value.int Go.IntKind.i64 1)) fun x37 => S.cnd x37 (S.bd (lal c35 0 36) fun x38 => S.bd (stl (cellsA (xs29.getD 3 undef)) 0 36 x38) fun c39 => some (1, [(xs29.getD 1 undef), (Value.agg ⟨c39⟩)], s30)) (S.bd (lal (cellsA (xs29.getD 2 undef)) 0 3) fun x40 => S.bd (lal c35 1 5) fun x41 => S.bd (lal c35 7 2) fun x42 => S.bd (leapfroglaw12x_World_Answer.v x40 x41 x42 s30) fun r43 => S.bd (seek_Seek_Tell.v (xs29.getD 0 undef) r43.1 r43.2) fun r44 => S.bd (bin .add (xs29.getD 1 undef) (Go.Value.int Go.IntKind.i64 1)) fun x45 => rec31 [(xs29.getD 0 undef), x45, (Value.agg ⟨(cellsA (xs29.getD 2 undef))⟩), (Value.agg ⟨(cellsA (xs29.getD 3 undef))⟩)] r44.2)

def leapfroglaw12x_World_play.l5 (S : Sig) (rec31 : List Value → St → Option Cut) (xs29 : List Value) (s30 : St) : Option Cut :=
  S.bd (bin .lss (xs29.getD 1 undef) (Go.Value.int Go.IntKind.i64 20000)) fun x32 => S.cnd x32 (leapfroglaw12x_World_play.l5.p1 S xs29 s30 rec31) (some (0, [(Value.agg ⟨(cellsA (xs29.getD 3 undef))⟩)], s30))

def leapfroglaw12x_World_play.t.p1 (S : Sig) (x8 : Value) (x9 : Value) (c3 : List Value) (r5 : Value × St) (x6 : Value) (c1 : List Value) : Option (Value × St) :=
  S.bd (S.gd x8 false (eqb [3] false false x9 (Go.Value.pointer Option.none))) fun x10 => S.bd (pik x8 (Go.Value.bool Bool.true) x10) fun x11 => S.cnd x11 (S.bd (bld [(Go.Value.int Go.IntKind.i64 0), (Go.Value.int Go.IntKind.i64 0), (Go.Value.int Go.IntKind.i64 0), (Go.Value.int Go.IntKind.u64 0), (Go.Value.int Go.IntKind.i64 0), (Go.Value.int Go.IntKind.u64 0), (Go.Value.int Go.IntKind.i64 0), (Go.Value.int Go.IntKind.i64 0), (Go.Value.int Go.IntKind.u64 0), (Go.Value.int Go.IntKind.i64 0), (Go.Value.int Go.IntKind.i64 0), (Go.Value.int Go.IntKind.u64 0), (Go.Value.int Go.IntKind.i64 0), (Go.Value.int Go.IntKind.u64 0), (Go.Value.int Go.IntKind.i64 0), (Go.Value.int Go.IntKind.i64 0), (Go.Value.int Go.IntKind.u64 0), (Go.Value.int Go.IntKind.i64 0), (Go.Value.int Go.IntKind.u64 0), (Go.Value.int Go.IntKind.i64 0), (Go.Value.int Go.IntKind.i64 0), (Go.Value.int Go.IntKind.i64 0), (Go.Value.int Go.IntKind.u64 0), (Go.Value.slice Option.none 0 0), (Go.Value.slice Option.none 0 0), (Go.Value.int Go.IntKind.i64 0), (Go.Value.int Go.IntKind.i64 0), (Go.Value.int Go.IntKind.u64 0), (Go.Value.int Go.IntKind.i64 0), (Go.Value.int Go.IntKind.u64 0), (Go.Value.int Go.IntKind.i64 0), (Go.Value.int Go.IntKind.i64 0), (Go.Value.int Go.IntKind.u64 0), (Go.Value.int Go.IntKind.i64 0), (Go.Value.int Go.IntKind.u64 0), (Go.Value.bool Bool.false)] []) fun x12 => S.bd (stl c3 0 36 x12) fun c13 => S.bd (lal c13 0 36) fun x14 => some ((Value.tuple ⟨[x14, (Go.Value.int Go.IntKind.i64 0)]⟩), r5.2)) (S.bd (S.it (leapfroglaw12x_World_play.l5 S) [x6, (Go.Value.int Go.IntKind.i64 0), (Value.agg ⟨c1⟩), (Value.agg ⟨c3⟩)] r5.2) fun r46 => if r46.1 = 0 then (S.bd (bld [(Go.Value.int Go.IntKind.i64 0), (Go.Value.int Go.IntKind.i64 0), (Go.Value.int Go.IntKind.i64 0), (Go.Value.int Go.IntKind.u64 0), (Go.Value.int Go.IntKind.i64 0), (Go.Value.int Go.IntKind.u64 0), (Go.Value.int Go.IntKind.i64 0), (Go.Value.int Go.IntKind.i64 0), (Go.Value.int Go.IntKind.u64 0), (Go.Value.int Go.IntKind.i64 0), (Go.Value.int Go.IntKind.i64 0), (Go.Value.int Go.IntKind.u64 0), (Go.Value.int Go.IntKind.i64 0), (Go.Value.int Go.IntKind.u64 0), (Go.Value.int Go.IntKind.i64 0), (Go.Value.int Go.IntKind.i64 0), (Go.Value.int Go.IntKind.u64 0), (Go.Value.int Go.IntKind.i64 0), (Go.Value.int Go.IntKind.u64 0), (Go.Value.int Go.IntKind.i64 0), (Go.Value.int Go.IntKind.i64 0), (Go.Value.int Go.IntKind.i64 0), (Go.Value.int Go.IntKind.u64 0), (Go.Value.slice Option.none 0 0), (Go.Value.slice Option.none 0 0), (Go.Value.int Go.IntKind.i64 0), (Go.Value.int Go.IntKind.i64 0), (Go.Value.int Go.IntKind.u64 0), (Go.Value.int Go.IntKind.i64 0), (Go.Value.int Go.IntKind.u64 0), (Go.Value.int Go.IntKind.i64 0), (Go.Value.int Go.IntKind.i64 0), (Go.Value.int Go.IntKind.u64 0), (Go.Value.int Go.IntKind.i64 0), (Go.Value.int Go.IntKind.u64 0), (Go.Value.bool Bool.false)] []) fun x48 => S.bd (stl (cellsA (r46.2.1.getD 0 undef)) 0 36 x48) fun c49 => S.bd (lal c49 0 36) fun x50 => some ((Value.tuple ⟨[x50, (Go.Value.int Go.IntKind.i64 0)]⟩), r46.2.2)) else (S.bd (lal (cellsA (r46.2.1.getD 1 undef)) 0 36) fun x47 => some ((Value.tuple ⟨[x47, (r46.2.1.getD 0 undef)]⟩), r46.2.2)))

def leapfroglaw12x_World_play.t (S : Sig) (a0 a1 : Value) (s : St) : Option (Value × St) :=
  S.bd (bx a0) fun c1 => S.bd (bx a1) fun c2 => S.bd (bx (Go.Value.agg #[(Go.Value.int Go.IntKind.i64 0), (Go.Value.int Go.IntKind.i64 0), (Go.Value.int Go.IntKind.i64 0), (Go.Value.int Go.IntKind.u64 0), (Go.Value.int Go.IntKind.i64 0), (Go.Value.int Go.IntKind.u64 0), (Go.Value.int Go.IntKind.i64 0), (Go.Value.int Go.IntKind.i64 0), (Go.Value.int Go.IntKind.u64 0), (Go.Value.int Go.IntKind.i64 0), (Go.Value.int Go.IntKind.i64 0), (Go.Value.int Go.IntKind.u64 0), (Go.Value.int Go.IntKind.i64 0), (Go.Value.int Go.IntKind.u64 0), (Go.Value.int Go.IntKind.i64 0), (Go.Value.int Go.IntKind.i64 0), (Go.Value.int Go.IntKind.u64 0), (Go.Value.int Go.IntKind.i64 0), (Go.Value.int Go.IntKind.u64 0), (Go.Value.int Go.IntKind.i64 0), (Go.Value.int Go.IntKind.i64 0), (Go.Value.int Go.IntKind.i64 0), (Go.Value.int Go.IntKind.u64 0), (Go.Value.slice Option.none 0 0), (Go.Value.slice Option.none 0 0), (Go.Value.int Go.IntKind.i64 0), (Go.Value.int Go.IntKind.i64 0), (Go.Value.int Go.IntKind.u64 0), (Go.Value.int Go.IntKind.i64 0), (Go.Value.int Go.IntKind.u64 0), (Go.Value.int Go.IntKind.i64 0), (Go.Value.int Go.IntKind.i64 0), (Go.Value.int Go.IntKind.u64 0), (Go.Value.int Go.IntKind.i64 0), (Go.Value.int Go.IntKind.u64 0), (Go.Value.bool Bool.false)])) fun c3 => S.bd (lal c2 0 8) fun x4 => S.bd (seek_New.v x4 s) fun r5 => S.bd (xtr 0 r5.1) fun x6 => S.bd (xtr 1 r5.1) fun x7 => S.bd (eqb [1] false true x7 (Go.Value.int Go.IntKind.i64 0)) fun x8 => S.bd (S.gd x8 false (some x6)) fun x9 => leapfroglaw12x_World_play.t.p1 S x8 x9 c3 r5 x6 c1
def leapfroglaw12x_World_play.v (a0 a1 : Value) (s : St) : Option (Value × St) := leapfroglaw12x_World_play.t std a0 a1 s
def leapfroglaw12x_World_play.w : List Value → St → Option (Value × St)
  | [a0, a1], s => leapfroglaw12x_World_play.v a0 a1 s
  | _, _ => none
def leapfroglaw12x_World_play.an : An := ⟨43, false, [2, 3, 4, 9], [(5, ⟨[.p 2 2 0, .p 4 4 0, .v 6, .v 8, .l 2, .l 4], [(.exit 0, [.p 4 4 0, .l 4]), (.ret, [.p 4 4 0, .v 5, .l 4])]⟩)], [], []⟩
theorem leapfroglaw12x_World_play.ok (S : Sig) (a0 a1 : Value) (s : St) : evF S Try.prog leapfroglaw12x_World_play.ctx leapfroglaw12x_World_play.an Try.f15 [a0, a1] s = leapfroglaw12x_World_play.t S a0 a1 s := by kernel_rfl
theorem leapfroglaw12x_World_play.cok : CtxOk Try.prog leapfroglaw12x_World_play.ctx := .cons seek_New.sound seek_New.can <| .cons seek_Seek_Next.sound seek_Seek_Next.can <| .cons leapfroglaw12x_World_Answer.sound leapfroglaw12x_World_Answer.can <| .cons seek_Seek_Tell.sound seek_Seek_Tell.can <| .nil
theorem leapfroglaw12x_World_play.draws : fnDraws leapfroglaw12x_World_play.an Try.f15 = true := by kernel_rfl
theorem leapfroglaw12x_World_play.can : callOk Try.prog 15 = true := by kernel_rfl
theorem leapfroglaw12x_World_play.sound : FnOk Try.prog 15 (.st leapfroglaw12x_World_play.w) := FnOk.st_of (evF_ok leapfroglaw12x_World_play.cok mixed (f := 15) (fn := Try.f15) (by kernel_rfl) leapfroglaw12x_World_play.draws) fun args s r h => by
  unfold leapfroglaw12x_World_play.w at h; split at h
  · rw [leapfroglaw12x_World_play.ok std]; exact h
  · simp at h

/-! ### (leapfrog/leapfroglaw12.World).right: function 16 -/
def leapfroglaw12x_World_right.ctx : Ctx := [(33, .st leapfroglaw12x_World_list.w), (21, .rd leapfrogref02x_Less.w), (23, .rd leapfroglaw12x_World_gone.w)]
def leapfroglaw12x_World_right.l4 (S : Sig) (rec27 : List Value → St → Option Cut) (xs25 : List Value) (s26 : St) : Option Cut :=
  S.bd (lenL (xs25.getD 0 undef)) fun x28 => S.bd (bin .lss (xs25.getD 2 undef) x28) fun x29 => S.cnd x29 (S.bd (idx s26 5 (xs25.getD 0 undef) (xs25.getD 2 undef)) fun x30 => S.bd (fld 1 x30) fun x31 => S.bd (lda s26 2 x31) fun x32 => S.bd (lal (cellsA (xs25.getD 5 undef)) 0 2) fun x33 => S.bd (leapfrogref02x_Less.r x32 x33 s26) fun x34 => S.bd (S.gd x34 true (lal (cellsA (xs25.getD 3 undef)) 0 3)) fun x35 => S.bd (S.gd x34 true (some (xs25.getD 0 undef))) fun x36 => S.bd (S.gd x34 true (some (xs25.getD 2 undef))) fun x37 => S.bd (S.gd x34 true (idx s26 5 x36 x37)) fun x38 => S.bd (S.gd x34 true (fld 0 x38)) fun x39 => S.bd (S.gd x34 true (ldc s26 x39)) fun x40 => S.bd (S.gd x34 true (leapfroglaw12x_World_gone.r x35 x40 s26)) fun x41 => S.bd (S.gd x34 true (un .not x41)) fun x42 => S.bd (pik x34 x42 (Go.Value.bool Bool.false)) fun x43 => S.cnd x43 (S.bd (bin .add (xs25.getD 2 undef) (Go.Value.int Go.IntKind.i64 1)) fun x44 => rec27 [(xs25.getD 0 undef), (xs25.getD 2 undef), x44, (Value.agg ⟨(cellsA (xs25.getD 3 undef))⟩), (Value.agg ⟨(cellsA (xs25.getD 4 undef))⟩), (Value.agg ⟨(cellsA (xs25.getD 5 undef))⟩)] s26) (S.bd (bin .add (xs25.getD 2 undef) (Go.Value.int Go.IntKind.i64 1)) fun x45 => rec27 [(xs25.getD 0 undef), (xs25.getD 1 undef), x45, (Value.agg ⟨(cellsA (xs25.getD 3 undef))⟩), (Value.agg ⟨(cellsA (xs25.getD 4 undef))⟩), (Value.agg ⟨(cellsA (xs25.getD 5 undef))⟩)] s26)) (some (0, [(xs25.getD 0 undef), (xs25.getD 1 undef), (Value.agg ⟨(cellsA (xs25.getD 3 undef))⟩), (Value.agg ⟨(cellsA (xs25.getD 4 undef))⟩), (Value.agg ⟨(cellsA (xs25.getD 5 undef))⟩)], s26))

def leapfroglaw12x_World_right.l11 (S : Sig) (rec83 : List Value → St → Option Cut) (xs81 : List Value) (s82 : St) : Option Cut :=
  S.bd (lenL (xs81.getD 0 undef)) fun x84 => S.bd (bin .lss (xs81.getD 1 undef) x84) fun x85 => S.cnd x85 (S.bd (idx s82 5 (xs81.getD 0 undef) (xs81.getD 1 undef)) fun x86 => S.bd (lda s82 5 x86) fun x87 => S.bd (lal (cellsA (xs81.getD 3 undef)) 30 5) fun x88 => S.bd (eqb [1, 1, 1, 1, 1] true false x87 x88) fun x89 => S.cnd x89 (S.bd (idx s82 5 (xs81.getD 0 undef) (xs81.getD 1 undef)) fun x90 => S.bd (fld 1 x90) fun x91 => S.bd (lda s82 2 x91) fun x92 => S.bd (lal (cellsA (xs81.getD 4 undef)) 0 2) fun x93 => S.bd (leapfrogref02x_Less.r x92 x93 s82) fun x94 => S.bd (un .not x94) fun x95 => S.bd (S.gd x95 true (lcl (cellsA (xs81.getD 3 undef)) 35)) fun x96 => S.bd (S.gd x95 true (some (xs81.getD 0 undef))) fun x97 => S.bd (S.gd x95 true (some (xs81.getD 1 undef))) fun x98 => S.bd (S.gd x95 true (idx s82 5 x97 x98)) fun x99 => S.bd (S.gd x95 true (fld 1 x99)) fun x100 => S.bd (S.gd x95 true (lda s82 2 x100)) fun x101 => S.bd (S.gd x95 true (lal (cellsA (xs81.getD 4 undef)) 0 2)) fun x102 => S.bd (S.gd x95 true (eqb [1, 1] true false x101 x102)) fun x103 => S.bd (S.gd x95 true (eqb [0] false false x96 x103)) fun x104 => S.bd (pik x95 x104 (Go.Value.bool Bool.false)) fun x105 => some (1, [x105], s82)) (S.bd (lal (cellsA (xs81.getD 2 undef)) 0 3) fun x106 => S.bd (idx s82 5 (xs81.getD 0 undef) (xs81.getD 1 undef)) fun x107 => S.bd (fld 0 x107) fun x108 => S.bd (ldc s82 x108) fun x109 => S.bd (leapfroglaw12x_World_gone.r x106 x109 s82) fun x110 => S.bd (un .not x110) fun x111 => S.cnd x111 (some (1, [(Go.Value.bool Bool.false)], s82)) (S.bd (bin .add (xs81.getD 1 undef) (Go.Value.int Go.IntKind.i64 1)) fun x112 => rec83 [(xs81.getD 0 undef), x112, (Value.agg ⟨(cellsA (xs81.getD 2 undef))⟩), (Value.agg ⟨(cellsA (xs81.getD 3 undef))⟩), (Value.agg ⟨(cellsA (xs81.getD 4 undef))⟩)] s82))) (some (0, [], s82))

def leapfroglaw12x_World_right.t (S : Sig) (a0 a1 a2 : Value) (s : St) : Option (Value × St) :=
  S.bd (bx a0) fun c1 => S.bd (bx a1) fun c2 => S.bd (bx a2) fun c3 => S.bd (lal c1 0 3) fun x4 => S.bd (bld [(Go.Value.int Go.IntKind.i64 0), (Go.Value.int Go.IntKind.u64 0)] []) fun x5 => S.bd (leapfroglaw12x_World_list.v x4 x5 s) fun r6 => S.bd (S.it (leapfroglaw12x_World_right.l4 S) [r6.1, (Go.Value.int Go.IntKind.i64 0), (Go.Value.int Go.IntKind.i64 0), (Value.agg ⟨c1⟩), (Value.agg ⟨c2⟩), (Value.agg ⟨c3⟩)] r6.2) fun r46 => S.bd (lal (cellsA (r46.2.1.getD 3 undef)) 25 5) fun x47 => S.bd (idx r46.2.2 5 (r46.2.1.getD 0 undef) (r46.2.1.getD 1 undef)) fun x48 => S.bd (lda r46.2.2 5 x48) fun x49 => S.bd (eqb [1, 1, 1, 1, 1] true true x47 x49) fun x50 => S.cnd x50 (some ((Go.Value.bool Bool.false), r46.2.2)) (S.bd (bin .add (r46.2.1.getD 1 undef) (Go.Value.int Go.IntKind.i64 1)) fun x51 => S.bd (S.it (leapfroglaw12x_World_right.l11 S) [(r46.2.1.getD 0 undef), x51, (Value.agg ⟨(cellsA (r46.2.1.getD 2 undef))⟩), (Value.agg ⟨(cellsA (r46.2.1.getD 3 undef))⟩), (Value.agg ⟨(cellsA (r46.2.1.getD 4 undef))⟩)] r46.2.2) fun r113 => if r113.1 = 0 then (some ((Go.Value.bool Bool.false), r113.2.2)) else (some ((r113.2.1.getD 0 undef), r113.2.2)))
def leapfroglaw12x_World_right.v (a0 a1 a2 : Value) (s : St) : Option (Value × St) := leapfroglaw12x_World_right.t std a0 a1 a2 s
def leapfroglaw12x_World_right.w : List Value → St → Option (Value × St)
  | [a0, a1, a2], s => leapfroglaw12x_World_right.v a0 a1 a2 s
  | _, _ => none
def leapfroglaw12x_World_right.an : An := ⟨91, false, [3, 4, 5], [(4, ⟨[.p 3 3 0, .p 4 4 0, .p 5 5 0, .v 7, .v 8, .v 9, .l 3, .l 4, .l 5], [(.exit 0, [.p 3 3 0, .p 4 4 0, .p 5 5 0, .v 7, .v 8, .l 3, .l 4, .l 5])]⟩), (11, ⟨[.p 3 3 0, .p 4 4 0, .p 5 5 0, .v 7, .v 10, .l 3, .l 4, .l 5], [(.exit 2, []), (.ret, [.v 6])]⟩)], [], [(6, [(0, 0, [], []), (1, 0, [], []), (2, 2, [], []), (3, 0, [], []), (4, 2, [], []), (5, 41, [], []), (6, 3, [], []), (7, 0, [], []), (8, 25, [], []), (9, 0, [], []), (10, 0, [], []), (11, 2, [], []), (12, 0, [], []), (13, 2, [], []), (14, 3, [], []), (15, 0, [], []), (16, 0, [], [])]), (8, [(0, 0, [], []), (1, 0, [], []), (2, 33, [], []), (3, 0, [], []), (4, 0, [], []), (5, 2, [], []), (6, 2, [], []), (7, 0, [], [])]), (13, [(0, 0, [], []), (1, 0, [], []), (2, 2, [], []), (3, 2, [], []), (4, 0, [], []), (5, 0, [], []), (6, 33, [], []), (7, 0, [], [])]), (14, [(0, 0, [], []), (1, 0, [], []), (2, 2, [], []), (3, 0, [], []), (4, 2, [], []), (5, 41, [], []), (6, 3, [], []), (7, 0, [], []), (8, 0, [], []), (9, 0, [], []), (10, 0, [], []), (11, 33, [], []), (12, 0, [], []), (13, 0, [], []), (14, 2, [], []), (15, 0, [], []), (16, 2, [], []), (17, 41, [], []), (18, 0, [], []), (19, 0, [], []), (20, 0, [], []), (21, 0, [], [])]), (15, [(0, 25, [], []), (1, 0, [], []), (2, 0, [], []), (3, 2, [], []), (4, 0, [], []), (5, 2, [], []), (6, 3, [], []), (7, 0, [], [])])]⟩
theorem leapfroglaw12x_World_right.ok (S : Sig) (a0 a1 a2 : Value) (s : St) : evF S Try.prog leapfroglaw12x_World_right.ctx leapfroglaw12x_World_right.an Try.f16 [a0, a1, a2] s = leapfroglaw12x_World_right.t S a0 a1 a2 s := by kernel_rfl
theorem leapfroglaw12x_World_right.cok : CtxOk Try.prog leapfroglaw12x_World_right.ctx := .cons leapfroglaw12x_World_list.sound leapfroglaw12x_World_list.can <| .cons leapfrogref02x_Less.sound leapfrogref02x_Less.can <| .cons leapfroglaw12x_World_gone.sound leapfroglaw12x_World_gone.can <| .nil
theorem leapfroglaw12x_World_right.draws : fnDraws leapfroglaw12x_World_right.an Try.f16 = true := by kernel_rfl
theorem leapfroglaw12x_World_right.can : callOk Try.prog 16 = true := by kernel_rfl
theorem leapfroglaw12x_World_right.sound : FnOk Try.prog 16 (.st leapfroglaw12x_World_right.w) := FnOk.st_of (evF_ok leapfroglaw12x_World_right.cok mixed (f := 16) (fn := Try.f16) (by kernel_rfl) leapfroglaw12x_World_right.draws) fun args s r h => by
  unfold leapfroglaw12x_World_right.w at h; split at h
  · rw [leapfroglaw12x_World_right.ok std]; exact h
  · simp at h

/-! ### (leapfrog/leapfroglaw12.World).right: function 16, as a reading -/
def leapfroglaw12x_World_rightQ.r (a0 a1 a2 : Value) (s : St) : Option Value := frzR (fun s => leapfroglaw12x_World_right.v a0 a1 a2 s) s
def leapfroglaw12x_World_rightQ.w : List Value → St → Option Value := fun args s => frzR (leapfroglaw12x_World_right.w args) s
theorem leapfroglaw12x_World_rightQ.can : callOk Try.prog 16 = true := leapfroglaw12x_World_right.can
theorem leapfroglaw12x_World_rightQ.sound : FnOk Try.prog 16 (.rd leapfroglaw12x_World_rightQ.w) := FnOk.frozen leapfroglaw12x_World_right.sound

/-! ### leapfrog/leapfroglaw12.SeekFinds: function 3 -/
def leapfroglaw12x_SeekFinds.ctx : Ctx := [(10, .rd leapfroglaw12x_awakeC.w), (11, .st leapfroglaw12x_Make.w), (12, .rd leapfrogref12x_Head.w), (13, .rd leapfrogref02x_At.w), (14, .rd leapfrogref12x_Tail.w), (15, .st leapfroglaw12x_World_play.w), (16, .rd leapfroglaw12x_World_rightQ.w)]
def leapfroglaw12x_SeekFinds.t.p1 (S : Sig) (r58 : Value × St) (r55 : Cut) : Option (Value × St) :=
  S.bd (xtr 0 r58.1) fun x59 => S.bd (xtr 1 r58.1) fun x60 => S.bd (bx (Go.Value.agg #[(Go.Value.int Go.IntKind.i64 0), (Go.Value.int Go.IntKind.i64 0), (Go.Value.int Go.IntKind.i64 0), (Go.Value.int Go.IntKind.u64 0), (Go.Value.int Go.IntKind.i64 0), (Go.Value.int Go.IntKind.u64 0), (Go.Value.int Go.IntKind.i64 0), (Go.Value.int Go.IntKind.i64 0), (Go.Value.int Go.IntKind.u64 0), (Go.Value.int Go.IntKind.i64 0), (Go.Value.int Go.IntKind.i64 0), (Go.Value.int Go.IntKind.u64 0), (Go.Value.int Go.IntKind.i64 0), (Go.Value.int Go.IntKind.u64 0), (Go.Value.int Go.IntKind.i64 0), (Go.Value.int Go.IntKind.i64 0), (Go.Value.int Go.IntKind.u64 0), (Go.Value.int Go.IntKind.i64 0), (Go.Value.int Go.IntKind.u64 0), (Go.Value.int Go.IntKind.i64 0), (Go.Value.int Go.IntKind.i64 0), (Go.Value.int Go.IntKind.i64 0), (Go.Value.int Go.IntKind.u64 0), (Go.Value.slice Option.none 0 0), (Go.Value.slice Option.none 0 0), (Go.Value.int Go.IntKind.i64 0), (Go.Value.int Go.IntKind.i64 0), (Go.Value.int Go.IntKind.u64 0), (Go.Value.int Go.IntKind.i64 0), (Go.Value.int Go.IntKind.u64 0), (Go.Value.int Go.IntKind.i64 0), (Go.Value.int Go.IntKind.i64 0), (Go.Value.int Go.IntKind.u64 0), (Go.Value.int Go.IntKind.i64 0), (Go.Value.int Go.IntKind.u64 0), (Go.Value.bool Bool.false)])) fun c61 => S.bd (stl c61 0 36 x59) fun c62 => S.bd (lcl c62 0) fun x63 => S.bd (eqb [1] false false x63 (Go.Value.int Go.IntKind.i64 3)) fun x64 => S.bd (S.gd x64 true (lcl c62 21)) fun x65 => S.bd (S.gd x64 true (eqb [1] false false x65 (Go.Value.int Go.IntKind.i64 0))) fun x66 => S.bd (pik x64 x66 (Go.Value.bool Bool.false)) fun x67 => S.bd (S.gd x67 true (lal (cellsA (r55.2.1.getD 1 undef)) 0 3)) fun x68 => S.bd (S.gd x67 true (lal c62 0 36)) fun x69 => S.bd (S.gd x67 true (fld 6 (r55.2.1.getD 0 undef))) fun x70 => S.bd (S.gd x67 true (lda r58.2 2 x70)) fun x71 => S.bd (S.gd x67 true (leapfroglaw12x_World_rightQ.r x68 x69 x71 r58.2)) fun x72 => S.bd (pik x67 x72 (Go.Value.bool Bool.false)) fun x73 => S.bd (S.gd x73 true (some x60)) fun x74 => S.bd (S.gd x73 true (lcl (cellsA (r55.2.1.getD 1 undef)) 1)) fun x75 => S.bd (S.gd x73 true (lenL x75)) fun x76 => S.bd (S.gd x73 true (bin .add x76 (Go.Value.int Go.IntKind.i64 2))) fun x77 => S.bd (S.gd x73 true (bin .mul (Go.Value.int Go.IntKind.i64 3) x77)) fun x78 => S.bd (S.gd x73 true (lcl (cellsA (r55.2.1.getD 1 undef)) 0)) fun x79 => S.bd (S.gd x73 true (bin .mul (Go.Value.int Go.IntKind.i64 2) x79)) fun x80 => S.bd (S.gd x73 true (bin .add x78 x80)) fun x81 => S.bd (S.gd x73 true (bin .leq x74 x81)) fun x82 => S.bd (pik x73 x82 (Go.Value.bool Bool.false)) fun x83 => some (x83, r58.2)

def leapfroglaw12x_SeekFinds.t.p2 (S : Sig) (r5 : Value × St) (a4 : Value) (x8 : Value) (x10 : Value) (a3 : Value) (c7 : List Value) : Option (Value × St) :=
  S.bd (alv r5.2 (Go.Value.agg #[(Go.Value.int Go.IntKind.i64 0), (Go.Value.int Go.IntKind.i64 0), (Go.Value.int Go.IntKind.i64 0), (Go.Value.int Go.IntKind.u64 0), (Go.Value.int Go.IntKind.i64 0), (Go.Value.int Go.IntKind.u64 0), (Go.Value.int Go.IntKind.i64 0), (Go.Value.int Go.IntKind.u64 0)])) fun _ => S.bd (leapfrogref02x_At.r a4 r5.2) fun x11 => S.bd (bld [(Go.Value.int Go.IntKind.i64 0), (Go.Value.int Go.IntKind.i64 0), (Go.Value.int Go.IntKind.i64 0), (Go.Value.int Go.IntKind.u64 0), (Go.Value.int Go.IntKind.i64 0), (Go.Value.int Go.IntKind.u64 0), (Go.Value.int Go.IntKind.i64 0), (Go.Value.int Go.IntKind.u64 0)] [(0, 1, x8), (1, 5, x10), (6, 2, x11)]) fun x12 => S.bd (alv r5.2 (Go.Value.agg #[(Go.Value.int Go.IntKind.i64 0), (Go.Value.int Go.IntKind.i64 0), (Go.Value.int Go.IntKind.i64 0), (Go.Value.int Go.IntKind.u64 0), (Go.Value.int Go.IntKind.i64 0), (Go.Value.int Go.IntKind.u64 0), (Go.Value.int Go.IntKind.i64 0), (Go.Value.int Go.IntKind.u64 0)])) fun r13 => S.bd (stv r13.2 8 r13.1 x12) fun s14 => S.bd (show Option Cut from S.bd (cvi .i64 a3) fun x35 => S.bd (lcl c7 1) fun x36 => S.bd (lenL x36) fun x37 => S.bd (bin .add x37 (Go.Value.int Go.IntKind.i64 2)) fun x38 => S.bd (bin .rem x35 x38) fun x39 => S.bd (lcl c7 1) fun x40 => S.bd (lenL x40) fun x41 => S.bd (bin .lss x39 x41) fun x42 => S.cnd x42 (S.bd (lcl c7 1) fun x43 => S.bd (idx s14 5 x43 x39) fun x44 => S.bd (lda s14 5 x44) fun x45 => S.bd (fld 1 r13.1) fun x46 => S.bd (stv s14 5 x46 x45) fun s47 => some (0, [r13.1, (Value.agg ⟨c7⟩)], s47)) (S.bd (lcl c7 1) fun x48 => S.bd (lenL x48) fun x49 => S.bd (eqb [1] false false x39 x49) fun x50 => S.cnd x50 (S.bd (lcl c7 0) fun x51 => S.bd (leapfrogref12x_Tail.r x51 s14) fun x52 => S.bd (fld 1 r13.1) fun x53 => S.bd (stv s14 5 x53 x52) fun s54 => some (0, [r13.1, (Value.agg ⟨c7⟩)], s54)) (some (0, [r13.1, (Value.agg ⟨c7⟩)], s14)))) fun r55 => S.bd (lal (cellsA (r55.2.1.getD 1 undef)) 0 3) fun x56 => S.bd (lda r55.2.2 8 (r55.2.1.getD 0 undef)) fun x57 => S.bd (leapfroglaw12x_World_play.v x56 x57 r55.2.2) fun r58 => leapfroglaw12x_SeekFinds.t.p1 S r58 r55

def leapfroglaw12x_SeekFinds.t (S : Sig) (a0 a1 a2 a3 a4 : Value) (s : St) : Option (Value × St) :=
  S.bd (leapfroglaw12x_awakeC.r  s) fun x1 => S.bd (un .not x1) fun x2 => S.cnd x2 (some ((Go.Value.bool Bool.false), s)) (S.bd (cvi .i64 a0) fun x3 => S.bd (bin .rem x3 (Go.Value.int Go.IntKind.i64 6)) fun x4 => S.bd (leapfroglaw12x_Make.v x4 a1 a2 (Go.Value.slice Option.none 0 0) s) fun r5 => S.bd (bx (Go.Value.agg #[(Go.Value.int Go.IntKind.i64 0), (Go.Value.slice Option.none 0 0), (Go.Value.slice Option.none 0 0)])) fun c6 => S.bd (stl c6 0 3 r5.1) fun c7 => S.bd (lcl c7 0) fun x8 => S.bd (lcl c7 0) fun x9 => S.bd (alv r5.2 (Go.Value.agg #[(Go.Value.int Go.IntKind.i64 0), (Go.Value.int Go.IntKind.i64 0), (Go.Value.int Go.IntKind.i64 0), (Go.Value.int Go.IntKind.u64 0), (Go.Value.int Go.IntKind.i64 0), (Go.Value.int Go.IntKind.u64 0), (Go.Value.int Go.IntKind.i64 0), (Go.Value.int Go.IntKind.u64 0)])) fun _ => S.bd (leapfrogref12x_Head.r x9 r5.2) fun x10 => leapfroglaw12x_SeekFinds.t.p2 S r5 a4 x8 x10 a3 c7)
def leapfroglaw12x_SeekFinds.v (a0 a1 a2 a3 a4 : Value) (s : St) : Option (Value × St) := leapfroglaw12x_SeekFinds.t std a0 a1 a2 a3 a4 s
def leapfroglaw12x_SeekFinds.w : List Value → St → Option (Value × St)
  | [a0, a1, a2, a3, a4], s => leapfroglaw12x_SeekFinds.v a0 a1 a2 a3 a4 s
  | _, _ => none
def leapfroglaw12x_SeekFinds.an : An := ⟨94, false, [11, 14], [], [(10, ⟨[], [(.normal, [.p 11 11 0, .v 12, .l 11])]⟩)], [(4, [(0, 0, [], []), (1, 89, [], []), (2, 0, [], []), (3, 89, [], []), (5, 0, [], []), (4, 3, [], [8]), (6, 3, [], [8]), (7, 0, [], []), (8, 3, [], []), (9, 4, [], [])])]⟩
theorem leapfroglaw12x_SeekFinds.ok (S : Sig) (a0 a1 a2 a3 a4 : Value) (s : St) : evF S Try.prog leapfroglaw12x_SeekFinds.ctx leapfroglaw12x_SeekFinds.an Try.f3 [a0, a1, a2, a3, a4] s = leapfroglaw12x_SeekFinds.t S a0 a1 a2 a3 a4 s := by kernel_rfl
theorem leapfroglaw12x_SeekFinds.cok : CtxOk Try.prog leapfroglaw12x_SeekFinds.ctx := .cons leapfroglaw12x_awakeC.sound leapfroglaw12x_awakeC.can <| .cons leapfroglaw12x_Make.sound leapfroglaw12x_Make.can <| .cons leapfrogref12x_Head.sound leapfrogref12x_Head.can <| .cons leapfrogref02x_At.sound leapfrogref02x_At.can <| .cons leapfrogref12x_Tail.sound leapfrogref12x_Tail.can <| .cons leapfroglaw12x_World_play.sound leapfroglaw12x_World_play.can <| .cons leapfroglaw12x_World_rightQ.sound leapfroglaw12x_World_rightQ.can <| .nil
theorem leapfroglaw12x_SeekFinds.draws : fnDraws leapfroglaw12x_SeekFinds.an Try.f3 = true := by kernel_rfl
theorem leapfroglaw12x_SeekFinds.can : callOk Try.prog 3 = true := by kernel_rfl
theorem leapfroglaw12x_SeekFinds.sound : FnOk Try.prog 3 (.st leapfroglaw12x_SeekFinds.w) := FnOk.st_of (evF_ok leapfroglaw12x_SeekFinds.cok mixed (f := 3) (fn := Try.f3) (by kernel_rfl) leapfroglaw12x_SeekFinds.draws) fun args s r h => by
  unfold leapfroglaw12x_SeekFinds.w at h; split at h
  · rw [leapfroglaw12x_SeekFinds.ok std]; exact h
  · simp at h

/-! ### leapfrog/leapfroglaw12.SeekDead: function 4 -/
def leapfroglaw12x_SeekDead.ctx : Ctx := [(10, .rd leapfroglaw12x_awakeC.w), (11, .st leapfroglaw12x_Make.w), (12, .rd leapfrogref12x_Head.w), (13, .rd leapfrogref02x_At.w), (15, .st leapfroglaw12x_World_play.w), (16, .rd leapfroglaw12x_World_rightQ.w)]
def leapfroglaw12x_SeekDead.l10 (S : Sig) (rec35 : List Value → St → Option Cut) (xs33 : List Value) (s34 : St) : Option Cut :=
  S.bd (lcl (cellsA (xs33.getD 3 undef)) 2) fun x36 => S.bd (lenL x36) fun x37 => S.bd (bin .lss (xs33.getD 2 undef) x37) fun x38 => S.cnd x38 (S.bd (lcl (cellsA (xs33.getD 3 undef)) 2) fun x39 => S.bd (idx s34 1 x39 (xs33.getD 2 undef)) fun x40 => S.bd (ldc s34 x40) fun x41 => S.cnd x41 (S.bd (bin .add (xs33.getD 1 undef) (Go.Value.int Go.IntKind.i64 1)) fun x42 => S.bd (bin .add (xs33.getD 2 undef) (Go.Value.int Go.IntKind.i64 1)) fun x43 => rec35 [(xs33.getD 0 undef), x42, x43, (Value.agg ⟨(cellsA (xs33.getD 3 undef))⟩), (Value.agg ⟨(cellsA (xs33.getD 4 undef))⟩)] s34) (S.bd (bin .add (xs33.getD 2 undef) (Go.Value.int Go.IntKind.i64 1)) fun x44 => rec35 [(xs33.getD 0 undef), (xs33.getD 1 undef), x44, (Value.agg ⟨(cellsA (xs33.getD 3 undef))⟩), (Value.agg ⟨(cellsA (xs33.getD 4 undef))⟩)] s34)) (some (0, [(xs33.getD 0 undef), (xs33.getD 1 undef), (Value.agg ⟨(cellsA (xs33.getD 3 undef))⟩), (Value.agg ⟨(cellsA (xs33.getD 4 undef))⟩)], s34))

def leapfroglaw12x_SeekDead.t.p1 (S : Sig) (r17 : Value × St) (x18 : Value) (r13 : Value × St) (c7 : List Value) : Option (Value × St) :=
  S.bd (xtr 1 r17.1) fun x19 => S.bd (bx (Go.Value.agg #[(Go.Value.int Go.IntKind.i64 0), (Go.Value.int Go.IntKind.i64 0), (Go.Value.int Go.IntKind.i64 0), (Go.Value.int Go.IntKind.u64 0), (Go.Value.int Go.IntKind.i64 0), (Go.Value.int Go.IntKind.u64 0), (Go.Value.int Go.IntKind.i64 0), (Go.Value.int Go.IntKind.i64 0), (Go.Value.int Go.IntKind.u64 0), (Go.Value.int Go.IntKind.i64 0), (Go.Value.int Go.IntKind.i64 0), (Go.Value.int Go.IntKind.u64 0), (Go.Value.int Go.IntKind.i64 0), (Go.Value.int Go.IntKind.u64 0), (Go.Value.int Go.IntKind.i64 0), (Go.Value.int Go.IntKind.i64 0), (Go.Value.int Go.IntKind.u64 0), (Go.Value.int Go.IntKind.i64 0), (Go.Value.int Go.IntKind.u64 0), (Go.Value.int Go.IntKind.i64 0), (Go.Value.int Go.IntKind.i64 0), (Go.Value.int Go.IntKind.i64 0), (Go.Value.int Go.IntKind.u64 0), (Go.Value.slice Option.none 0 0), (Go.Value.slice Option.none 0 0), (Go.Value.int Go.IntKind.i64 0), (Go.Value.int Go.IntKind.i64 0), (Go.Value.int Go.IntKind.u64 0), (Go.Value.int Go.IntKind.i64 0), (Go.Value.int Go.IntKind.u64 0), (Go.Value.int Go.IntKind.i64 0), (Go.Value.int Go.IntKind.i64 0), (Go.Value.int Go.IntKind.u64 0), (Go.Value.int Go.IntKind.i64 0), (Go.Value.int Go.IntKind.u64 0), (Go.Value.bool Bool.false)])) fun c20 => S.bd (stl c20 0 36 x18) fun c21 => S.bd (lcl c21 0) fun x22 => S.bd (eqb [1] false true x22 (Go.Value.int Go.IntKind.i64 3)) fun x23 => S.cnd x23 (some ((Go.Value.bool Bool.false), r17.2)) (S.bd (S.it (leapfroglaw12x_SeekDead.l10 S) [r13.1, (Go.Value.int Go.IntKind.i64 0), (Go.Value.int Go.IntKind.i64 0), (Value.agg ⟨c7⟩), (Value.agg ⟨c21⟩)] r17.2) fun r45 => S.bd (lcl (cellsA (r45.2.1.getD 3 undef)) 21) fun x46 => S.bd (eqb [1] false false x46 (Go.Value.int Go.IntKind.i64 121)) fun x47 => S.cnd x47 (S.bd (lcl (cellsA (r45.2.1.getD 2 undef)) 0) fun x48 => S.bd (bin .add x48 (Go.Value.int Go.IntKind.i64 1)) fun x49 => S.bd (bin .mul (r45.2.1.getD 1 undef) x49) fun x50 => S.bd (bin .gtr x50 (Go.Value.int Go.IntKind.i64 64)) fun x51 => some (x51, r45.2.2)) (S.bd (lcl (cellsA (r45.2.1.getD 3 undef)) 21) fun x52 => S.bd (eqb [1] false false x52 (Go.Value.int Go.IntKind.i64 0)) fun x53 => S.bd (S.gd x53 true (lal (cellsA (r45.2.1.getD 2 undef)) 0 3)) fun x54 => S.bd (S.gd x53 true (lal (cellsA (r45.2.1.getD 3 undef)) 0 36)) fun x55 => S.bd (S.gd x53 true (fld 6 (r45.2.1.getD 0 undef))) fun x56 => S.bd (S.gd x53 true (lda r45.2.2 2 x56)) fun x57 => S.bd (S.gd x53 true (leapfroglaw12x_World_rightQ.r x54 x55 x57 r45.2.2)) fun x58 => S.bd (pik x53 x58 (Go.Value.bool Bool.false)) fun x59 => some (x59, r45.2.2)))

def leapfroglaw12x_SeekDead.t.p2 (S : Sig) (a0 : Value) (a1 : Value) (a2 : Value) (a3 : Value) (s : St) (a4 : Value) : Option (Value × St) :=
  S.bd (cvi .i64 a0) fun x3 => S.bd (bin .rem x3 (Go.Value.int Go.IntKind.i64 6)) fun x4 => S.bd (leapfroglaw12x_Make.v x4 a1 a2 a3 s) fun r5 => S.bd (bx (Go.Value.agg #[(Go.Value.int Go.IntKind.i64 0), (Go.Value.slice Option.none 0 0), (Go.Value.slice Option.none 0 0)])) fun c6 => S.bd (stl c6 0 3 r5.1) fun c7 => S.bd (lcl c7 0) fun x8 => S.bd (lcl c7 0) fun x9 => S.bd (alv r5.2 (Go.Value.agg #[(Go.Value.int Go.IntKind.i64 0), (Go.Value.int Go.IntKind.i64 0), (Go.Value.int Go.IntKind.i64 0), (Go.Value.int Go.IntKind.u64 0), (Go.Value.int Go.IntKind.i64 0), (Go.Value.int Go.IntKind.u64 0), (Go.Value.int Go.IntKind.i64 0), (Go.Value.int Go.IntKind.u64 0)])) fun _ => S.bd (leapfrogref12x_Head.r x9 r5.2) fun x10 => S.bd (alv r5.2 (Go.Value.agg #[(Go.Value.int Go.IntKind.i64 0), (Go.Value.int Go.IntKind.i64 0), (Go.Value.int Go.IntKind.i64 0), (Go.Value.int Go.IntKind.u64 0), (Go.Value.int Go.IntKind.i64 0), (Go.Value.int Go.IntKind.u64 0), (Go.Value.int Go.IntKind.i64 0), (Go.Value.int Go.IntKind.u64 0)])) fun _ => S.bd (leapfrogref02x_At.r a4 r5.2) fun x11 => S.bd (bld [(Go.Value.int Go.IntKind.i64 0), (Go.Value.int Go.IntKind.i64 0), (Go.Value.int Go.IntKind.i64 0), (Go.Value.int Go.IntKind.u64 0), (Go.Value.int Go.IntKind.i64 0), (Go.Value.int Go.IntKind.u64 0), (Go.Value.int Go.IntKind.i64 0), (Go.Value.int Go.IntKind.u64 0)] [(0, 1, x8), (1, 5, x10), (6, 2, x11)]) fun x12 => S.bd (alv r5.2 (Go.Value.agg #[(Go.Value.int Go.IntKind.i64 0), (Go.Value.int Go.IntKind.i64 0), (Go.Value.int Go.IntKind.i64 0), (Go.Value.int Go.IntKind.u64 0), (Go.Value.int Go.IntKind.i64 0), (Go.Value.int Go.IntKind.u64 0), (Go.Value.int Go.IntKind.i64 0), (Go.Value.int Go.IntKind.u64 0)])) fun r13 => S.bd (stv r13.2 8 r13.1 x12) fun s14 => S.bd (lal c7 0 3) fun x15 => S.bd (lda s14 8 r13.1) fun x16 => S.bd (leapfroglaw12x_World_play.v x15 x16 s14) fun r17 => S.bd (xtr 0 r17.1) fun x18 => leapfroglaw12x_SeekDead.t.p1 S r17 x18 r13 c7

def leapfroglaw12x_SeekDead.t (S : Sig) (a0 a1 a2 a3 a4 : Value) (s : St) : Option (Value × St) :=
  S.bd (leapfroglaw12x_awakeC.r  s) fun x1 => S.bd (un .not x1) fun x2 => S.cnd x2 (some ((Go.Value.bool Bool.false), s)) (leapfroglaw12x_SeekDead.t.p2 S a0 a1 a2 a3 s a4)
def leapfroglaw12x_SeekDead.v (a0 a1 a2 a3 a4 : Value) (s : St) : Option (Value × St) := leapfroglaw12x_SeekDead.t std a0 a1 a2 a3 a4 s
def leapfroglaw12x_SeekDead.w : List Value → St → Option (Value × St)
  | [a0, a1, a2, a3, a4], s => leapfroglaw12x_SeekDead.v a0 a1 a2 a3 a4 s
  | _, _ => none
def leapfroglaw12x_SeekDead.an : An := ⟨78, false, [11, 13], [(10, ⟨[.p 11 11 0, .v 12, .p 13 13 0, .v 15, .v 16, .l 11, .l 13], [(.exit 0, [.p 11 11 0, .v 12, .p 13 13 0, .v 15, .l 11, .l 13])]⟩)], [], [(4, [(0, 0, [], []), (1, 89, [], []), (2, 0, [], []), (3, 89, [], []), (5, 0, [], []), (4, 3, [], [8]), (6, 3, [], [8]), (7, 0, [], []), (8, 3, [], []), (9, 4, [], [])])]⟩
theorem leapfroglaw12x_SeekDead.ok (S : Sig) (a0 a1 a2 a3 a4 : Value) (s : St) : evF S Try.prog leapfroglaw12x_SeekDead.ctx leapfroglaw12x_SeekDead.an Try.f4 [a0, a1, a2, a3, a4] s = leapfroglaw12x_SeekDead.t S a0 a1 a2 a3 a4 s := by kernel_rfl
theorem leapfroglaw12x_SeekDead.cok : CtxOk Try.prog leapfroglaw12x_SeekDead.ctx := .cons leapfroglaw12x_awakeC.sound leapfroglaw12x_awakeC.can <| .cons leapfroglaw12x_Make.sound leapfroglaw12x_Make.can <| .cons leapfrogref12x_Head.sound leapfrogref12x_Head.can <| .cons leapfrogref02x_At.sound leapfrogref02x_At.can <| .cons leapfroglaw12x_World_play.sound leapfroglaw12x_World_play.can <| .cons leapfroglaw12x_World_rightQ.sound leapfroglaw12x_World_rightQ.can <| .nil
theorem leapfroglaw12x_SeekDead.draws : fnDraws leapfroglaw12x_SeekDead.an Try.f4 = true := by kernel_rfl
theorem leapfroglaw12x_SeekDead.can : callOk Try.prog 4 = true := by kernel_rfl
theorem leapfroglaw12x_SeekDead.sound : FnOk Try.prog 4 (.st leapfroglaw12x_SeekDead.w) := FnOk.st_of (evF_ok leapfroglaw12x_SeekDead.cok mixed (f := 4) (fn := Try.f4) (by kernel_rfl) leapfroglaw12x_SeekDead.draws) fun args s r h => by
  unfold leapfroglaw12x_SeekDead.w at h; split at h
  · rw [leapfroglaw12x_SeekDead.ok std]; exact h
  · simp at h

/-! ### (*leapfrog/seek.Seek).Tries: function 20 -/
def seek_Seek_Tries.ctx : Ctx := [(36, .rd seek_Seek_is.w)]
def seek_Seek_Tries.t (S : Sig) (a0 : Value) (s : St) : Option Value :=
  S.bd (seek_Seek_is.r a0 s) fun x1 => S.bd (un .not x1) fun x2 => S.cnd x2 (some ((Go.Value.int Go.IntKind.i64 0))) (S.bd (nck a0) fun x3 => S.bd (fld 23 x3) fun x4 => S.bd (ldc s x4) fun x5 => some (x5))
def seek_Seek_Tries.r (a0 : Value) (s : St) : Option Value := seek_Seek_Tries.t std a0 s
def seek_Seek_Tries.w : List Value → St → Option Value
  | [a0], s => seek_Seek_Tries.r a0 s
  | _, _ => none
def seek_Seek_Tries.an : An := ⟨10, true, [], [], [], []⟩
theorem seek_Seek_Tries.ok (S : Sig) (a0 : Value) (s : St) : evG S Try.prog seek_Seek_Tries.ctx seek_Seek_Tries.an Try.f20 [a0] s = seek_Seek_Tries.t S a0 s := by kernel_rfl
theorem seek_Seek_Tries.cok : CtxOk Try.prog seek_Seek_Tries.ctx := .cons seek_Seek_is.sound seek_Seek_is.can <| .nil
theorem seek_Seek_Tries.draws : fnDraws seek_Seek_Tries.an Try.f20 = true := by kernel_rfl
theorem seek_Seek_Tries.can : callOk Try.prog 20 = true := by kernel_rfl
theorem seek_Seek_Tries.sound : FnOk Try.prog 20 (.rd seek_Seek_Tries.w) := FnOk.rd_of (evG_ok seek_Seek_Tries.cok mixed (f := 20) (fn := Try.f20) (by kernel_rfl) seek_Seek_Tries.draws) fun args s r h => by
  unfold seek_Seek_Tries.w at h; split at h
  · rw [seek_Seek_Tries.ok std]; exact h
  · simp at h

/-! ### leapfrog/leapfroglaw12.SeekEnds: function 5 -/
def leapfroglaw12x_SeekEnds.ctx : Ctx := [(10, .rd leapfroglaw12x_awakeC.w), (17, .st seek_New.w), (18, .st seek_Seek_Tell.w), (19, .rd seek_Seek_Next.w), (20, .rd seek_Seek_Tries.w)]
def leapfroglaw12x_SeekEnds.l7 (S : Sig) (rec28 : List Value → St → Option Cut) (xs26 : List Value) (s27 : St) : Option Cut :=
  S.bd (bin .lss (xs26.getD 2 undef) (Go.Value.int Go.IntKind.i64 64)) fun x29 => S.cnd x29 (S.bd (cvi .i64 (xs26.getD 0 undef)) fun x30 => S.bd (bin .rem x30 (Go.Value.int Go.IntKind.i64 4)) fun x31 => S.bd (bin .add (Go.Value.int Go.IntKind.i64 2) x31) fun x32 => S.bd (bld [(Go.Value.int Go.IntKind.i64 0), (Go.Value.bool Bool.false), (Go.Value.int Go.IntKind.i64 0), (Go.Value.int Go.IntKind.i64 0), (Go.Value.int Go.IntKind.u64 0), (Go.Value.int Go.IntKind.i64 0), (Go.Value.int Go.IntKind.u64 0), (Go.Value.int Go.IntKind.i64 0), (Go.Value.int Go.IntKind.i64 0), (Go.Value.int Go.IntKind.u64 0), (Go.Value.int Go.IntKind.i64 0), (Go.Value.int Go.IntKind.u64 0), (Go.Value.slice Option.none 0 0)] [(0, 1, x32)]) fun x33 => S.bd (seek_Seek_Tell.v (xs26.getD 1 undef) x33 s27) fun r34 => S.bd (seek_Seek_Next.r (xs26.getD 1 undef) r34.2) fun x35 => S.bd (prt 0 1 false x35) fun x36 => S.bd (eqb [1] false true x36 (Go.Value.int Go.IntKind.i64 1)) fun x37 => S.bd (S.gd x37 false (some (xs26.getD 1 undef))) fun x38 => S.bd (S.gd x37 false (seek_Seek_Tries.r x38 r34.2)) fun x39 => S.bd (S.gd x37 false (some (xs26.getD 2 undef))) fun x40 => S.bd (S.gd x37 false (bin .add x40 (Go.Value.int Go.IntKind.i64 1))) fun x41 => S.bd (S.gd x37 false (eqb [1] false true x39 x41)) fun x42 => S.bd (pik x37 (Go.Value.bool Bool.true) x42) fun x43 => S.cnd x43 (some (1, [(Go.Value.bool Bool.false)], r34.2)) (S.bd (bin .add (xs26.getD 2 undef) (Go.Value.int Go.IntKind.i64 1)) fun x44 => rec28 [(xs26.getD 0 undef), (xs26.getD 1 undef), x44] r34.2)) (some (0, [(xs26.getD 0 undef), (xs26.getD 1 undef)], s27))

def leapfroglaw12x_SeekEnds.t.p1 (S : Sig) (r45 : Cut) : Option (Value × St) :=
  S.bd (cvi .i64 (r45.2.1.getD 0 undef)) fun x46 => S.bd (bin .rem x46 (Go.Value.int Go.IntKind.i64 4)) fun x47 => S.bd (bin .add (Go.Value.int Go.IntKind.i64 2) x47) fun x48 => S.bd (bld [(Go.Value.int Go.IntKind.i64 0), (Go.Value.bool Bool.false), (Go.Value.int Go.IntKind.i64 0), (Go.Value.int Go.IntKind.i64 0), (Go.Value.int Go.IntKind.u64 0), (Go.Value.int Go.IntKind.i64 0), (Go.Value.int Go.IntKind.u64 0), (Go.Value.int Go.IntKind.i64 0), (Go.Value.int Go.IntKind.i64 0), (Go.Value.int Go.IntKind.u64 0), (Go.Value.int Go.IntKind.i64 0), (Go.Value.int Go.IntKind.u64 0), (Go.Value.slice Option.none 0 0)] [(0, 1, x48)]) fun x49 => S.bd (seek_Seek_Tell.v (r45.2.1.getD 1 undef) x49 r45.2.2) fun r50 => S.bd (seek_Seek_Next.r (r45.2.1.getD 1 undef) r50.2) fun x51 => S.bd (bx (Go.Value.agg #[(Go.Value.int Go.IntKind.i64 0), (Go.Value.int Go.IntKind.i64 0), (Go.Value.int Go.IntKind.i64 0), (Go.Value.int Go.IntKind.u64 0), (Go.Value.int Go.IntKind.i64 0), (Go.Value.int Go.IntKind.u64 0), (Go.Value.int Go.IntKind.i64 0), (Go.Value.int Go.IntKind.i64 0), (Go.Value.int Go.IntKind.u64 0), (Go.Value.int Go.IntKind.i64 0), (Go.Value.int Go.IntKind.i64 0), (Go.Value.int Go.IntKind.u64 0), (Go.Value.int Go.IntKind.i64 0), (Go.Value.int Go.IntKind.u64 0), (Go.Value.int Go.IntKind.i64 0), (Go.Value.int Go.IntKind.i64 0), (Go.Value.int Go.IntKind.u64 0), (Go.Value.int Go.IntKind.i64 0), (Go.Value.int Go.IntKind.u64 0), (Go.Value.int Go.IntKind.i64 0), (Go.Value.int Go.IntKind.i64 0), (Go.Value.int Go.IntKind.i64 0), (Go.Value.int Go.IntKind.u64 0), (Go.Value.slice Option.none 0 0), (Go.Value.slice Option.none 0 0), (Go.Value.int Go.IntKind.i64 0), (Go.Value.int Go.IntKind.i64 0), (Go.Value.int Go.IntKind.u64 0), (Go.Value.int Go.IntKind.i64 0), (Go.Value.int Go.IntKind.u64 0), (Go.Value.int Go.IntKind.i64 0), (Go.Value.int Go.IntKind.i64 0), (Go.Value.int Go.IntKind.u64 0), (Go.Value.int Go.IntKind.i64 0), (Go.Value.int Go.IntKind.u64 0), (Go.Value.bool Bool.false)])) fun c52 => S.bd (stl c52 0 36 x51) fun c53 => S.bd (lcl c53 0) fun x54 => S.bd (eqb [1] false false x54 (Go.Value.int Go.IntKind.i64 3)) fun x55 => S.bd (S.gd x55 true (lcl c53 21)) fun x56 => S.bd (S.gd x55 true (eqb [1] false false x56 (Go.Value.int Go.IntKind.i64 121))) fun x57 => S.bd (pik x55 x57 (Go.Value.bool Bool.false)) fun x58 => some (x58, r50.2)

def leapfroglaw12x_SeekEnds.t (S : Sig) (a0 a1 : Value) (s : St) : Option (Value × St) :=
  S.bd (bx a0) fun c1 => S.bd (leapfroglaw12x_awakeC.r  s) fun x2 => S.bd (un .not x2) fun x3 => S.cnd x3 (some ((Go.Value.bool Bool.false), s)) (S.bd (lal c1 0 8) fun x4 => S.bd (seek_New.v x4 s) fun r5 => S.bd (xtr 0 r5.1) fun x6 => S.bd (xtr 1 r5.1) fun x7 => S.bd (eqb [1] false true x7 (Go.Value.int Go.IntKind.i64 0)) fun x8 => S.cnd x8 (S.bd (eqb [3] false false x6 (Go.Value.pointer Option.none)) fun x9 => some (x9, r5.2)) (S.bd (S.it (leapfroglaw12x_SeekEnds.l7 S) [a1, x6, (Go.Value.int Go.IntKind.i64 0)] r5.2) fun r45 => if r45.1 = 0 then (leapfroglaw12x_SeekEnds.t.p1 S r45) else (some ((r45.2.1.getD 0 undef), r45.2.2))))
def leapfroglaw12x_SeekEnds.v (a0 a1 : Value) (s : St) : Option (Value × St) := leapfroglaw12x_SeekEnds.t std a0 a1 s
def leapfroglaw12x_SeekEnds.w : List Value → St → Option (Value × St)
  | [a0, a1], s => leapfroglaw12x_SeekEnds.v a0 a1 s
  | _, _ => none
def leapfroglaw12x_SeekEnds.an : An := ⟨60, false, [2, 8], [(7, ⟨[.v 1, .v 5, .v 7], [(.exit 0, [.v 1, .v 5]), (.ret, [.v 4])]⟩)], [], []⟩
theorem leapfroglaw12x_SeekEnds.ok (S : Sig) (a0 a1 : Value) (s : St) : evF S Try.prog leapfroglaw12x_SeekEnds.ctx leapfroglaw12x_SeekEnds.an Try.f5 [a0, a1] s = leapfroglaw12x_SeekEnds.t S a0 a1 s := by kernel_rfl
theorem leapfroglaw12x_SeekEnds.cok : CtxOk Try.prog leapfroglaw12x_SeekEnds.ctx := .cons leapfroglaw12x_awakeC.sound leapfroglaw12x_awakeC.can <| .cons seek_New.sound seek_New.can <| .cons seek_Seek_Tell.sound seek_Seek_Tell.can <| .cons seek_Seek_Next.sound seek_Seek_Next.can <| .cons seek_Seek_Tries.sound seek_Seek_Tries.can <| .nil
theorem leapfroglaw12x_SeekEnds.draws : fnDraws leapfroglaw12x_SeekEnds.an Try.f5 = true := by kernel_rfl
theorem leapfroglaw12x_SeekEnds.can : callOk Try.prog 5 = true := by kernel_rfl
theorem leapfroglaw12x_SeekEnds.sound : FnOk Try.prog 5 (.st leapfroglaw12x_SeekEnds.w) := FnOk.st_of (evF_ok leapfroglaw12x_SeekEnds.cok mixed (f := 5) (fn := Try.f5) (by kernel_rfl) leapfroglaw12x_SeekEnds.draws) fun args s r h => by
  unfold leapfroglaw12x_SeekEnds.w at h; split at h
  · rw [leapfroglaw12x_SeekEnds.ok std]; exact h
  · simp at h

/-! ### leapfrog/leapfroglaw12.SeekRises: function 6 -/
def leapfroglaw12x_SeekRises.ctx : Ctx := [(10, .rd leapfroglaw12x_awakeC.w), (17, .st seek_New.w), (19, .rd seek_Seek_Next.w), (18, .st seek_Seek_Tell.w), (20, .rd seek_Seek_Tries.w), (21, .rd leapfrogref02x_Less.w)]
def leapfroglaw12x_SeekRises.l8.p1 (S : Sig) (xs56 : List Value) (r66 : Value × St) (c69 : List Value) (rec58 : List Value → St → Option Cut) : Option Cut :=
  S.bd (seek_Seek_Tries.r (xs56.getD 1 undef) r66.2) fun x74 => S.bd (eqb [1] false true x74 (xs56.getD 2 undef)) fun x75 => S.cnd x75 (S.bd (lal c69 1 5) fun x76 => S.bd (seek_Seek_Tries.r (xs56.getD 1 undef) r66.2) fun x77 => S.bd (stl (cellsA (xs56.getD 6 undef)) 0 5 x76) fun c78 => S.bd (bin .add (xs56.getD 4 undef) (Go.Value.int Go.IntKind.i64 1)) fun x79 => rec58 [(xs56.getD 0 undef), (xs56.getD 1 undef), x77, (Go.Value.bool Bool.false), x79, (Value.agg ⟨(cellsA (xs56.getD 5 undef))⟩), (Value.agg ⟨c78⟩)] r66.2) (S.bd (lal c69 2 2) fun x80 => S.bd (lal (cellsA (xs56.getD 6 undef)) 1 2) fun x81 => S.bd (leapfrogref02x_Less.r x80 x81 r66.2) fun x82 => S.bd (S.gd x82 true (some (xs56.getD 3 undef))) fun x83 => S.bd (pik x82 x83 (Go.Value.bool Bool.false)) fun x84 => S.bd (S.gd x84 false (lal c69 2 2)) fun x85 => S.bd (S.gd x84 false (lal (cellsA (xs56.getD 5 undef)) 6 2)) fun x86 => S.bd (S.gd x84 false (leapfrogref02x_Less.r x85 x86 r66.2)) fun x87 => S.bd (S.gd x84 false (un .not x87)) fun x88 => S.bd (S.gd x84 false (some x88)) fun x89 => S.bd (S.gd x89 true (lal (cellsA (xs56.getD 6 undef)) 1 2)) fun x90 => S.bd (S.gd x89 true (lal c69 2 2)) fun x91 => S.bd (S.gd x89 true (leapfrogref02x_Less.r x90 x91 r66.2)) fun x92 => S.bd (S.gd x84 false (pik x89 x92 (Go.Value.bool Bool.false))) fun x93 => S.bd (pik x84 (Go.Value.bool Bool.true) x93) fun x94 => S.cnd x94 (some (1, [(Go.Value.bool Bool.false)], r66.2)) (S.bd (S.gd (xs56.getD 3 undef) false (lal (cellsA (xs56.getD 6 undef)) 1 2)) fun x95 => S.bd (S.gd (xs56.getD 3 undef) false (lal c69 2 2)) fun x96 => S.bd (S.gd (xs56.getD 3 undef) false (leapfrogref02x_Less.r x95 x96 r66.2)) fun x97 => S.bd (pik (xs56.getD 3 undef) (Go.Value.bool Bool.true) x97) fun x98 => S.bd (lal c69 1 5) fun x99 => S.bd (stl (cellsA (xs56.getD 6 undef)) 0 5 x99) fun c100 => S.bd (bin .add (xs56.getD 4 undef) (Go.Value.int Go.IntKind.i64 1)) fun x101 => rec58 [(xs56.getD 0 undef), (xs56.getD 1 undef), (xs56.getD 2 undef), x98, x101, (Value.agg ⟨(cellsA (xs56.getD 5 undef))⟩), (Value.agg ⟨c100⟩)] r66.2))

def leapfroglaw12x_SeekRises.l8 (S : Sig) (rec58 : List Value → St → Option Cut) (xs56 : List Value) (s57 : St) : Option Cut :=
  S.bd (lenL (xs56.getD 0 undef)) fun x59 => S.bd (bin .lss (xs56.getD 4 undef) x59) fun x60 => S.bd (S.gd x60 true (some (xs56.getD 4 undef))) fun x61 => S.bd (S.gd x60 true (bin .lss x61 (Go.Value.int Go.IntKind.i64 300))) fun x62 => S.bd (pik x60 x62 (Go.Value.bool Bool.false)) fun x63 => S.cnd x63 (S.bd (idx s57 13 (xs56.getD 0 undef) (xs56.getD 4 undef)) fun x64 => S.bd (lda s57 13 x64) fun x65 => S.bd (seek_Seek_Tell.v (xs56.getD 1 undef) x65 s57) fun r66 => S.bd (seek_Seek_Next.r (xs56.getD 1 undef) r66.2) fun x67 => S.bd (bx (Go.Value.agg #[(Go.Value.int Go.IntKind.i64 0), (Go.Value.int Go.IntKind.i64 0), (Go.Value.int Go.IntKind.i64 0), (Go.Value.int Go.IntKind.u64 0), (Go.Value.int Go.IntKind.i64 0), (Go.Value.int Go.IntKind.u64 0), (Go.Value.int Go.IntKind.i64 0), (Go.Value.int Go.IntKind.i64 0), (Go.Value.int Go.IntKind.u64 0), (Go.Value.int Go.IntKind.i64 0), (Go.Value.int Go.IntKind.i64 0), (Go.Value.int Go.IntKind.u64 0), (Go.Value.int Go.IntKind.i64 0), (Go.Value.int Go.IntKind.u64 0), (Go.Value.int Go.IntKind.i64 0), (Go.Value.int Go.IntKind.i64 0), (Go.Value.int Go.IntKind.u64 0), (Go.Value.int Go.IntKind.i64 0), (Go.Value.int Go.IntKind.u64 0), (Go.Value.int Go.IntKind.i64 0), (Go.Value.int Go.IntKind.i64 0), (Go.Value.int Go.IntKind.i64 0), (Go.Value.int Go.IntKind.u64 0), (Go.Value.slice Option.none 0 0), (Go.Value.slice Option.none 0 0), (Go.Value.int Go.IntKind.i64 0), (Go.Value.int Go.IntKind.i64 0), (Go.Value.int Go.IntKind.u64 0), (Go.Value.int Go.IntKind.i64 0), (Go.Value.int Go.IntKind.u64 0), (Go.Value.int Go.IntKind.i64 0), (Go.Value.int Go.IntKind.i64 0), (Go.Value.int Go.IntKind.u64 0), (Go.Value.int Go.IntKind.i64 0), (Go.Value.int Go.IntKind.u64 0), (Go.Value.bool Bool.false)])) fun c68 => S.bd (stl c68 0 36 x67) fun c69 => S.bd (lcl c69 0) fun x70 => S.bd (eqb [1] false true x70 (Go.Value.int Go.IntKind.i64 1)) fun x71 => S.cnd x71 (S.bd (lcl c69 0) fun x72 => S.bd (eqb [1] false false x72 (Go.Value.int Go.IntKind.i64 3)) fun x73 => some (1, [x73], r66.2)) (leapfroglaw12x_SeekRises.l8.p1 S xs56 r66 c69 rec58)) (some (0, [], s57))

def leapfroglaw12x_SeekRises.t (S : Sig) (a0 a1 : Value) (s : St) : Option (Value × St) :=
  S.bd (bx a0) fun c1 => S.bd (leapfroglaw12x_awakeC.r  s) fun x2 => S.bd (un .not x2) fun x3 => S.cnd x3 (some ((Go.Value.bool Bool.false), s)) (S.bd (lal c1 0 8) fun x4 => S.bd (seek_New.v x4 s) fun r5 => S.bd (xtr 0 r5.1) fun x6 => S.bd (xtr 1 r5.1) fun x7 => S.bd (eqb [1] false true x7 (Go.Value.int Go.IntKind.i64 0)) fun x8 => S.cnd x8 (some ((Go.Value.bool Bool.true), r5.2)) (S.bd (seek_Seek_Next.r x6 r5.2) fun x9 => S.bd (prt 1 5 true x9) fun x10 => S.bd (bx (Go.Value.agg #[(Go.Value.int Go.IntKind.i64 0), (Go.Value.int Go.IntKind.i64 0), (Go.Value.int Go.IntKind.u64 0), (Go.Value.int Go.IntKind.i64 0), (Go.Value.int Go.IntKind.u64 0)])) fun c11 => S.bd (stl c11 0 5 x10) fun c12 => S.bd (S.it (leapfroglaw12x_SeekRises.l8 S) [a1, x6, (Go.Value.int Go.IntKind.i64 0), (Go.Value.bool Bool.false), (Go.Value.int Go.IntKind.i64 0), (Value.agg ⟨c1⟩), (Value.agg ⟨c12⟩)] r5.2) fun r102 => if r102.1 = 0 then (some ((Go.Value.bool Bool.true), r102.2.2)) else (some ((r102.2.1.getD 0 undef), r102.2.2))))
def leapfroglaw12x_SeekRises.v (a0 a1 : Value) (s : St) : Option (Value × St) := leapfroglaw12x_SeekRises.t std a0 a1 s
def leapfroglaw12x_SeekRises.w : List Value → St → Option (Value × St)
  | [a0, a1], s => leapfroglaw12x_SeekRises.v a0 a1 s
  | _, _ => none
def leapfroglaw12x_SeekRises.an : An := ⟨93, false, [2, 7, 11], [(8, ⟨[.v 1, .p 2 2 0, .v 5, .p 7 7 0, .v 8, .v 9, .v 10, .l 2, .l 7], [(.exit 0, []), (.ret, [.v 4])]⟩)], [], [(15, [(0, 0, [], []), (1, 89, [], []), (2, 0, [], []), (3, 3, [], []), (4, 61, [], []), (5, 0, [], []), (6, 0, [], [])])]⟩
theorem leapfroglaw12x_SeekRises.ok (S : Sig) (a0 a1 : Value) (s : St) : evF S Try.prog leapfroglaw12x_SeekRises.ctx leapfroglaw12x_SeekRises.an Try.f6 [a0, a1] s = leapfroglaw12x_SeekRises.t S a0 a1 s := by kernel_rfl
theorem leapfroglaw12x_SeekRises.cok : CtxOk Try.prog leapfroglaw12x_SeekRises.ctx := .cons leapfroglaw12x_awakeC.sound leapfroglaw12x_awakeC.can <| .cons seek_New.sound seek_New.can <| .cons seek_Seek_Next.sound seek_Seek_Next.can <| .cons seek_Seek_Tell.sound seek_Seek_Tell.can <| .cons seek_Seek_Tries.sound seek_Seek_Tries.can <| .cons leapfrogref02x_Less.sound leapfrogref02x_Less.can <| .nil
theorem leapfroglaw12x_SeekRises.draws : fnDraws leapfroglaw12x_SeekRises.an Try.f6 = true := by kernel_rfl
theorem leapfroglaw12x_SeekRises.can : callOk Try.prog 6 = true := by kernel_rfl
theorem leapfroglaw12x_SeekRises.sound : FnOk Try.prog 6 (.st leapfroglaw12x_SeekRises.w) := FnOk.st_of (evF_ok leapfroglaw12x_SeekRises.cok mixed (f := 6) (fn := Try.f6) (by kernel_rfl) leapfroglaw12x_SeekRises.draws) fun args s r h => by
  unfold leapfroglaw12x_SeekRises.w at h; split at h
  · rw [leapfroglaw12x_SeekRises.ok std]; exact h
  · simp at h

/-! ### (*leapfrog/seek.Seek).Dead: function 24 -/
def seek_Seek_Dead.ctx : Ctx := [(36, .rd seek_Seek_is.w), (40, .st seek_Seek_keep.w), (41, .st seek_Seek_counts.w)]
def seek_Seek_Dead.t (S : Sig) (a0 a1 : Value) (s : St) : Option (Value × St) :=
  S.bd (bx a1) fun c1 => S.bd (seek_Seek_is.r a0 s) fun x2 => S.bd (un .not x2) fun x3 => S.bd (S.gd x3 false (some a0)) fun x4 => S.bd (S.gd x3 false (nck x4)) fun x5 => S.bd (S.gd x3 false (fld 24 x5)) fun x6 => S.bd (S.gd x3 false (ldc s x6)) fun x7 => S.bd (S.gd x3 false (un .not x7)) fun x8 => S.bd (pik x3 (Go.Value.bool Bool.true) x8) fun x9 => S.bd (S.gd x9 false (some a0)) fun x10 => S.bd (S.gd x9 false (nck x10)) fun x11 => S.bd (S.gd x9 false (fld 25 x11)) fun x12 => S.bd (S.gd x9 false (fld 0 x12)) fun x13 => S.bd (S.gd x9 false (ldc s x13)) fun x14 => S.bd (S.gd x9 false (eqb [1] false true x14 (Go.Value.int Go.IntKind.i64 0))) fun x15 => S.bd (pik x9 (Go.Value.bool Bool.true) x15) fun x16 => S.cnd x16 (some ((Value.tuple ⟨[]⟩), s)) (S.bd (nck a0) fun x17 => S.bd (fld 25 x17) fun x18 => S.bd (fld 9 x18) fun x19 => S.bd (lda s 5 x19) fun x20 => S.bd (lal c1 0 13) fun x21 => S.bd (seek_Seek_keep.v a0 x20 x21 s) fun r22 => S.bd (bld [(Go.Value.int Go.IntKind.i64 0), (Go.Value.int Go.IntKind.u64 0), (Go.Value.slice Option.none 0 0), (Go.Value.slice Option.none 0 0), (Go.Value.int Go.IntKind.i64 0), (Go.Value.int Go.IntKind.i64 0), (Go.Value.int Go.IntKind.u64 0), (Go.Value.int Go.IntKind.i64 0), (Go.Value.int Go.IntKind.u64 0), (Go.Value.int Go.IntKind.i64 0), (Go.Value.int Go.IntKind.i64 0), (Go.Value.int Go.IntKind.u64 0), (Go.Value.int Go.IntKind.i64 0), (Go.Value.int Go.IntKind.u64 0), (Go.Value.bool Bool.false)] []) fun x23 => S.bd (nck a0) fun x24 => S.bd (fld 24 x24) fun x25 => S.bd (stv r22.2 1 x25 (Go.Value.bool Bool.false)) fun s26 => S.bd (nck a0) fun x27 => S.bd (fld 25 x27) fun x28 => S.bd (stv s26 15 x28 x23) fun s29 => S.bd (seek_Seek_counts.v a0 s29) fun r30 => some ((Value.tuple ⟨[]⟩), r30.2))
def seek_Seek_Dead.v (a0 a1 : Value) (s : St) : Option (Value × St) := seek_Seek_Dead.t std a0 a1 s
def seek_Seek_Dead.w : List Value → St → Option (Value × St)
  | [a0, a1], s => seek_Seek_Dead.v a0 a1 s
  | _, _ => none
def seek_Seek_Dead.an : An := ⟨39, false, [3], [], [], [(2, [(0, 0, [], []), (1, 0, [], []), (2, 0, [], []), (3, 0, [], []), (4, 0, [], []), (5, 2, [], []), (6, 25, [], []), (7, 4, [], [])])]⟩
theorem seek_Seek_Dead.ok (S : Sig) (a0 a1 : Value) (s : St) : evF S Try.prog seek_Seek_Dead.ctx seek_Seek_Dead.an Try.f24 [a0, a1] s = seek_Seek_Dead.t S a0 a1 s := by kernel_rfl
theorem seek_Seek_Dead.cok : CtxOk Try.prog seek_Seek_Dead.ctx := .cons seek_Seek_is.sound seek_Seek_is.can <| .cons seek_Seek_keep.sound seek_Seek_keep.can <| .cons seek_Seek_counts.sound seek_Seek_counts.can <| .nil
theorem seek_Seek_Dead.draws : fnDraws seek_Seek_Dead.an Try.f24 = true := by kernel_rfl
theorem seek_Seek_Dead.can : callOk Try.prog 24 = true := by kernel_rfl
theorem seek_Seek_Dead.sound : FnOk Try.prog 24 (.st seek_Seek_Dead.w) := FnOk.st_of (evF_ok seek_Seek_Dead.cok mixed (f := 24) (fn := Try.f24) (by kernel_rfl) seek_Seek_Dead.draws) fun args s r h => by
  unfold seek_Seek_Dead.w at h; split at h
  · rw [seek_Seek_Dead.ok std]; exact h
  · simp at h

/-! ### leapfrog/leapfroglaw12.SeekPasses: function 7 -/
def leapfroglaw12x_SeekPasses.ctx : Ctx := [(10, .rd leapfroglaw12x_awakeC.w), (11, .st leapfroglaw12x_Make.w), (12, .rd leapfrogref12x_Head.w), (13, .rd leapfrogref02x_At.w), (17, .st seek_New.w), (19, .rd seek_Seek_Next.w), (22, .st leapfroglaw12x_World_Answer.w), (18, .st seek_Seek_Tell.w), (23, .rd leapfroglaw12x_World_gone.w), (24, .st seek_Seek_Dead.w), (16, .rd leapfroglaw12x_World_rightQ.w)]
def leapfroglaw12x_SeekPasses.l6 (S : Sig) (rec19 : List Value → St → Option Cut) (xs17 : List Value) (s18 : St) : Option Cut :=
  S.bd (lcl (cellsA (xs17.getD 3 undef)) 2) fun x20 => S.bd (lenL x20) fun x21 => S.bd (bin .lss (xs17.getD 2 undef) x21) fun x22 => S.cnd x22 (S.bd (lcl (cellsA (xs17.getD 3 undef)) 2) fun x23 => S.bd (idx s18 1 x23 (xs17.getD 2 undef)) fun x24 => S.bd (ldc s18 x24) fun x25 => S.cnd x25 (S.bd (bin .add (xs17.getD 1 undef) (Go.Value.int Go.IntKind.i64 1)) fun x26 => S.bd (bin .add (xs17.getD 2 undef) (Go.Value.int Go.IntKind.i64 1)) fun x27 => rec19 [(xs17.getD 0 undef), x26, x27, (Value.agg ⟨(cellsA (xs17.getD 3 undef))⟩)] s18) (S.bd (bin .add (xs17.getD 2 undef) (Go.Value.int Go.IntKind.i64 1)) fun x28 => rec19 [(xs17.getD 0 undef), (xs17.getD 1 undef), x28, (Value.agg ⟨(cellsA (xs17.getD 3 undef))⟩)] s18)) (some (0, [(xs17.getD 0 undef), (xs17.getD 1 undef), (Value.agg ⟨(cellsA (xs17.getD 3 undef))⟩)], s18))

def leapfroglaw12x_SeekPasses.l14.p1 (S : Sig) (xs77 : List Value) (s78 : St) (rec79 : List Value → St → Option Cut) : Option Cut :=
  S.bd (seek_Seek_Next.r (xs77.getD 2 undef) s78) fun x81 => S.bd (bx (Go.Value.agg #[(Go.Value.int Go.IntKind.i64 0), (Go.Value.int Go.IntKind.i64 0), (Go.Value.int Go.IntKind.i64 0), (Go.Value.int Go.IntKind.u64 0), (Go.Value.int Go.IntKind.i64 0), (Go.Value.int Go.IntKind.u64 0), (Go.Value.int Go.IntKind.i64 0), (Go.Value.int Go.IntKind.i64 0), (Go.Value.int Go.IntKind.u64 0), (Go.Value.int Go.IntKind.i64 0), (Go.Value.int Go.IntKind.i64 0), (Go.Value.int Go.IntKind.u64 0), (Go.Value.int Go.IntKind.i64 0), (Go.Value.int Go.IntKind.u64 0), (Go.Value.int Go.IntKind.i64 0), (Go.Value.int Go.IntKind.i64 0), (Go.Value.int Go.IntKind.u64 0), (Go.Value.int Go.IntKind.i64 0), (Go.Value.int Go.IntKind.u64 0), (Go.Value.int Go.IntKind.i64 0), (Go.Value.int Go.IntKind.i64 0), (Go.Value.int Go.IntKind.i64 0), (Go.Value.int Go.IntKind.u64 0), (Go.Value.slice Option.none 0 0), (Go.Value.slice Option.none 0 0), (Go.Value.int Go.IntKind.i64 0), (Go.Value.int Go.IntKind.i64 0), (Go.Value.int Go.IntKind.u64 0), (Go.Value.int Go.IntKind.i64 0), (Go.Value.int Go.IntKind.u64 0), (Go.Value.int Go.IntKind.i64 0), (Go.Value.int Go.IntKind.i64 0), (Go.Value.int Go.IntKind.u64 0), (Go.Value.int Go.IntKind.i64 0), (Go.Value.int Go.IntKind.u64 0), (Go.Value.bool Bool.false)])) fun c82 => S.bd (stl c82 0 36 x81) fun c83 => S.bd (lcl c83 0) fun x84 => S.bd (eqb [1] false false x84 (Go.Value.int Go.IntKind.i64 1)) fun x85 => S.cnd x85 (S.bd (lal (cellsA (xs77.getD 4 undef)) 0 3) fun x86 => S.bd (lal c83 1 5) fun x87 => S.bd (lal c83 7 2) fun x88 => S.bd (leapfroglaw12x_World_Answer.v x86 x87 x88 s78) fun r89 => S.bd (seek_Seek_Tell.v (xs77.getD 2 undef) r89.1 r89.2) fun r90 => S.bd (bin .add (xs77.getD 3 undef) (Go.Value.int Go.IntKind.i64 1)) fun x91 => rec79 [(xs77.getD 0 undef), (xs77.getD 1 undef), (xs77.getD 2 undef), x91, (Value.agg ⟨(cellsA (xs77.getD 4 undef))⟩)] r90.2) (S.bd (lcl c83 21) fun x92 => S.bd (eqb [1] false true x92 (Go.Value.int Go.IntKind.i64 0)) fun x93 => S.cnd x93 (S.bd (lcl c83 21) fun x94 => S.bd (eqb [1] false false x94 (Go.Value.int Go.IntKind.i64 121)) fun x95 => S.bd (S.gd x95 true (some (xs77.getD 1 undef))) fun x96 => S.bd (S.gd x95 true (lcl (cellsA (xs77.getD 4 undef)) 0)) fun x97 => S.bd (S.gd x95 true (bin .add x97 (Go.Value.int Go.IntKind.i64 2))) fun x98 => S.bd (S.gd x95 true (bin .mul x96 x98)) fun x99 => S.bd (S.gd x95 true (bin .gtr x99 (Go.Value.int Go.IntKind.i64 64))) fun x100 => S.bd (pik x95 x100 (Go.Value.bool Bool.false)) fun x101 => some (1, [x101], s78)) (S.bd (lal (cellsA (xs77.getD 4 undef)) 0 3) fun x102 => S.bd (lcl c83 30) fun x103 => S.bd (leapfroglaw12x_World_gone.r x102 x103 s78) fun x104 => S.cnd x104 (S.bd (lal (cellsA (xs77.getD 4 undef)) 0 3) fun x105 => S.bd (lal c83 30 5) fun x106 => S.bd (bld [(Go.Value.int Go.IntKind.i64 0), (Go.Value.int Go.IntKind.u64 0)] []) fun x107 => S.bd (leapfroglaw12x_World_Answer.v x105 x106 x107 s78) fun r108 => S.bd (seek_Seek_Dead.v (xs77.getD 2 undef) r108.1 r108.2) fun r109 => S.bd (bin .add (xs77.getD 3 undef) (Go.Value.int Go.IntKind.i64 1)) fun x110 => rec79 [(xs77.getD 0 undef), (xs77.getD 1 undef), (xs77.getD 2 undef), x110, (Value.agg ⟨(cellsA (xs77.getD 4 undef))⟩)] r109.2) (S.bd (lal (cellsA (xs77.getD 4 undef)) 0 3) fun x111 => S.bd (lal c83 0 36) fun x112 => S.bd (leapfrogref02x_At.r (xs77.getD 0 undef) s78) fun x113 => S.bd (leapfroglaw12x_World_rightQ.r x111 x112 x113 s78) fun x114 => some (1, [x114], s78))))

def leapfroglaw12x_SeekPasses.l14 (S : Sig) (rec79 : List Value → St → Option Cut) (xs77 : List Value) (s78 : St) : Option Cut :=
  S.bd (bin .lss (xs77.getD 3 undef) (Go.Value.int Go.IntKind.i64 20000)) fun x80 => S.cnd x80 (leapfroglaw12x_SeekPasses.l14.p1 S xs77 s78 rec79) (some (0, [], s78))

def leapfroglaw12x_SeekPasses.t (S : Sig) (a0 a1 a2 a3 a4 : Value) (s : St) : Option (Value × St) :=
  S.bd (leapfroglaw12x_awakeC.r  s) fun x1 => S.bd (un .not x1) fun x2 => S.cnd x2 (some ((Go.Value.bool Bool.false), s)) (S.bd (cvi .i64 a0) fun x3 => S.bd (bin .rem x3 (Go.Value.int Go.IntKind.i64 4)) fun x4 => S.bd (leapfroglaw12x_Make.v x4 a1 a2 a3 s) fun r5 => S.bd (bx (Go.Value.agg #[(Go.Value.int Go.IntKind.i64 0), (Go.Value.slice Option.none 0 0), (Go.Value.slice Option.none 0 0)])) fun c6 => S.bd (stl c6 0 3 r5.1) fun c7 => S.bd (S.it (leapfroglaw12x_SeekPasses.l6 S) [a4, (Go.Value.int Go.IntKind.i64 0), (Go.Value.int Go.IntKind.i64 0), (Value.agg ⟨c7⟩)] r5.2) fun r29 => S.bd (lcl (cellsA (r29.2.1.getD 2 undef)) 0) fun x30 => S.bd (lcl (cellsA (r29.2.1.getD 2 undef)) 0) fun x31 => S.bd (leapfrogref12x_Head.r x31 r29.2.2) fun x32 => S.bd (leapfrogref02x_At.r (r29.2.1.getD 0 undef) r29.2.2) fun x33 => S.bd (bld [(Go.Value.int Go.IntKind.i64 0), (Go.Value.int Go.IntKind.i64 0), (Go.Value.int Go.IntKind.i64 0), (Go.Value.int Go.IntKind.u64 0), (Go.Value.int Go.IntKind.i64 0), (Go.Value.int Go.IntKind.u64 0), (Go.Value.int Go.IntKind.i64 0), (Go.Value.int Go.IntKind.u64 0)] [(0, 1, x30), (1, 5, x32), (6, 2, x33)]) fun x34 => S.bd (seek_New.v x34 r29.2.2) fun r35 => S.bd (xtr 0 r35.1) fun x36 => S.bd (xtr 1 r35.1) fun x37 => S.bd (eqb [1] false true x37 (Go.Value.int Go.IntKind.i64 0)) fun x38 => S.bd (S.gd x38 false (some x36)) fun x39 => S.bd (S.gd x38 false (eqb [3] false false x39 (Go.Value.pointer Option.none))) fun x40 => S.bd (pik x38 (Go.Value.bool Bool.true) x40) fun x41 => S.cnd x41 (some ((Go.Value.bool Bool.false), r35.2)) (S.bd (S.it (leapfroglaw12x_SeekPasses.l14 S) [(r29.2.1.getD 0 undef), (r29.2.1.getD 1 undef), x36, (Go.Value.int Go.IntKind.i64 0), (Value.agg ⟨(cellsA (r29.2.1.getD 2 undef))⟩)] r35.2) fun r115 => if r115.1 = 0 then (some ((Go.Value.bool Bool.false), r115.2.2)) else (some ((r115.2.1.getD 0 undef), r115.2.2))))
def leapfroglaw12x_SeekPasses.v (a0 a1 a2 a3 a4 : Value) (s : St) : Option (Value × St) := leapfroglaw12x_SeekPasses.t std a0 a1 a2 a3 a4 s
def leapfroglaw12x_SeekPasses.w : List Value → St → Option (Value × St)
  | [a0, a1, a2, a3, a4], s => leapfroglaw12x_SeekPasses.v a0 a1 a2 a3 a4 s
  | _, _ => none
def leapfroglaw12x_SeekPasses.an : An := ⟨115, false, [11, 17], [(6, ⟨[.v 4, .p 11 11 0, .v 12, .v 13, .l 11], [(.exit 0, [.v 4, .p 11 11 0, .v 12, .l 11])]⟩), (14, ⟨[.v 4, .p 11 11 0, .v 12, .v 14, .v 16, .l 11], [(.exit 2, []), (.ret, [.v 10])]⟩)], [], [(10, [(0, 0, [], []), (1, 89, [], []), (2, 0, [], []), (3, 89, [], []), (5, 0, [], []), (4, 3, [], []), (6, 3, [], []), (7, 0, [], []), (8, 4, [], []), (9, 0, [], []), (10, 0, [], []), (11, 0, [], []), (12, 0, [], []), (13, 0, [], [])]), (17, [(0, 89, [], []), (1, 137, [], []), (2, 0, [], []), (3, 3, [], []), (4, 3, [], []), (5, 0, [], [])])]⟩
theorem leapfroglaw12x_SeekPasses.ok (S : Sig) (a0 a1 a2 a3 a4 : Value) (s : St) : evF S Try.prog leapfroglaw12x_SeekPasses.ctx leapfroglaw12x_SeekPasses.an Try.f7 [a0, a1, a2, a3, a4] s = leapfroglaw12x_SeekPasses.t S a0 a1 a2 a3 a4 s := by kernel_rfl
theorem leapfroglaw12x_SeekPasses.cok : CtxOk Try.prog leapfroglaw12x_SeekPasses.ctx := .cons leapfroglaw12x_awakeC.sound leapfroglaw12x_awakeC.can <| .cons leapfroglaw12x_Make.sound leapfroglaw12x_Make.can <| .cons leapfrogref12x_Head.sound leapfrogref12x_Head.can <| .cons leapfrogref02x_At.sound leapfrogref02x_At.can <| .cons seek_New.sound seek_New.can <| .cons seek_Seek_Next.sound seek_Seek_Next.can <| .cons leapfroglaw12x_World_Answer.sound leapfroglaw12x_World_Answer.can <| .cons seek_Seek_Tell.sound seek_Seek_Tell.can <| .cons leapfroglaw12x_World_gone.sound leapfroglaw12x_World_gone.can <| .cons seek_Seek_Dead.sound seek_Seek_Dead.can <| .cons leapfroglaw12x_World_rightQ.sound leapfroglaw12x_World_rightQ.can <| .nil
theorem leapfroglaw12x_SeekPasses.draws : fnDraws leapfroglaw12x_SeekPasses.an Try.f7 = true := by kernel_rfl
theorem leapfroglaw12x_SeekPasses.can : callOk Try.prog 7 = true := by kernel_rfl
theorem leapfroglaw12x_SeekPasses.sound : FnOk Try.prog 7 (.st leapfroglaw12x_SeekPasses.w) := FnOk.st_of (evF_ok leapfroglaw12x_SeekPasses.cok mixed (f := 7) (fn := Try.f7) (by kernel_rfl) leapfroglaw12x_SeekPasses.draws) fun args s r h => by
  unfold leapfroglaw12x_SeekPasses.w at h; split at h
  · rw [leapfroglaw12x_SeekPasses.ok std]; exact h
  · simp at h

/-! ### leapfrog/leapfrogref02.Check: function 43 -/
def leapfrogref02x_Check.ctx : Ctx := []
def leapfrogref02x_Check.t (S : Sig) (a0 : Value) (s : St) : Option Value :=
  S.bd (bx a0) fun c1 => S.bd (lcl c1 0) fun x2 => S.bd (eqb [1] false false x2 (Go.Value.int Go.IntKind.i64 2)) fun x3 => S.bd (S.gd x3 false (lcl c1 0)) fun x4 => S.bd (S.gd x3 false (eqb [1] false false x4 (Go.Value.int Go.IntKind.i64 1))) fun x5 => S.bd (S.gd x3 false (some x5)) fun x6 => S.bd (S.gd x6 false (lcl c1 0)) fun x7 => S.bd (S.gd x6 false (eqb [1] false false x7 (Go.Value.int Go.IntKind.i64 3))) fun x8 => S.bd (S.gd x3 false (pik x6 (Go.Value.bool Bool.true) x8)) fun x9 => S.bd (S.gd x3 false (some x9)) fun x10 => S.bd (S.gd x10 true (lcl c1 1)) fun x11 => S.bd (S.gd x10 true (eqb [1] false false x11 (Go.Value.int Go.IntKind.u64 0))) fun x12 => S.bd (S.gd x3 false (pik x10 x12 (Go.Value.bool Bool.false))) fun x13 => S.bd (pik x3 (Go.Value.bool Bool.true) x13) fun x14 => S.cnd x14 (some ((Go.Value.int Go.IntKind.i64 0))) (some ((Go.Value.int Go.IntKind.i64 20)))
def leapfrogref02x_Check.r (a0 : Value) (s : St) : Option Value := leapfrogref02x_Check.t std a0 s
def leapfrogref02x_Check.w : List Value → St → Option Value
  | [a0], s => leapfrogref02x_Check.r a0 s
  | _, _ => none
def leapfrogref02x_Check.an : An := ⟨21, true, [1], [], [], []⟩
theorem leapfrogref02x_Check.ok (S : Sig) (a0 : Value) (s : St) : evG S Try.prog leapfrogref02x_Check.ctx leapfrogref02x_Check.an Try.f43 [a0] s = leapfrogref02x_Check.t S a0 s := by kernel_rfl
theorem leapfrogref02x_Check.cok : CtxOk Try.prog leapfrogref02x_Check.ctx := .nil
theorem leapfrogref02x_Check.draws : fnDraws leapfrogref02x_Check.an Try.f43 = true := by kernel_rfl
theorem leapfrogref02x_Check.can : callOk Try.prog 43 = true := by kernel_rfl
theorem leapfrogref02x_Check.sound : FnOk Try.prog 43 (.rd leapfrogref02x_Check.w) := FnOk.rd_of (evG_ok leapfrogref02x_Check.cok mixed (f := 43) (fn := Try.f43) (by kernel_rfl) leapfrogref02x_Check.draws) fun args s r h => by
  unfold leapfrogref02x_Check.w at h; split at h
  · rw [leapfrogref02x_Check.ok std]; exact h
  · simp at h

/-! ### leapfrog/leapfrogref12.Right: function 42 -/
def leapfrogref12x_Right.ctx : Ctx := [(43, .rd leapfrogref02x_Check.w), (55, .rd leapfrogref01x_Right.w)]
def leapfrogref12x_Right.t (S : Sig) (a0 a1 : Value) (s : St) : Option Value :=
  S.bd (bx a0) fun c1 => S.bd (lal c1 1 2) fun x2 => S.bd (leapfrogref02x_Check.r x2 s) fun x3 => S.bd (eqb [1] false false x3 (Go.Value.int Go.IntKind.i64 0)) fun x4 => S.bd (S.gd x4 true (lal c1 3 2)) fun x5 => S.bd (S.gd x4 true (leapfrogref01x_Right.r x5 s)) fun x6 => S.bd (pik x4 x6 (Go.Value.bool Bool.false)) fun x7 => S.bd (S.gd x7 true (lcl c1 3)) fun x8 => S.bd (S.gd x7 true (some a1)) fun x9 => S.bd (S.gd x7 true (eqb [1] false false x8 x9)) fun x10 => S.bd (pik x7 x10 (Go.Value.bool Bool.false)) fun x11 => some (x11)
def leapfrogref12x_Right.r (a0 a1 : Value) (s : St) : Option Value := leapfrogref12x_Right.t std a0 a1 s
def leapfrogref12x_Right.w : List Value → St → Option Value
  | [a0, a1], s => leapfrogref12x_Right.r a0 a1 s
  | _, _ => none
def leapfrogref12x_Right.an : An := ⟨21, true, [2], [], [], []⟩
theorem leapfrogref12x_Right.ok (S : Sig) (a0 a1 : Value) (s : St) : evG S Try.prog leapfrogref12x_Right.ctx leapfrogref12x_Right.an Try.f42 [a0, a1] s = leapfrogref12x_Right.t S a0 a1 s := by kernel_rfl
theorem leapfrogref12x_Right.cok : CtxOk Try.prog leapfrogref12x_Right.ctx := .cons leapfrogref02x_Check.sound leapfrogref02x_Check.can <| .cons leapfrogref01x_Right.sound leapfrogref01x_Right.can <| .nil
theorem leapfrogref12x_Right.draws : fnDraws leapfrogref12x_Right.an Try.f42 = true := by kernel_rfl
theorem leapfrogref12x_Right.can : callOk Try.prog 42 = true := by kernel_rfl
theorem leapfrogref12x_Right.sound : FnOk Try.prog 42 (.rd leapfrogref12x_Right.w) := FnOk.rd_of (evG_ok leapfrogref12x_Right.cok mixed (f := 42) (fn := Try.f42) (by kernel_rfl) leapfrogref12x_Right.draws) fun args s r h => by
  unfold leapfrogref12x_Right.w at h; split at h
  · rw [leapfrogref12x_Right.ok std]; exact h
  · simp at h

/-! ### leapfrog/leapfrogref12.New: function 25 -/
def leapfrogref12x_New.ctx : Ctx := [(42, .rd leapfrogref12x_Right.w), (43, .rd leapfrogref02x_Check.w)]
def leapfrogref12x_New.t.p1 (S : Sig) (x6 : Value) (x9 : Value) (c1 : List Value) (s : St) : Option (Value × St) :=
  S.bd (S.gd x6 false (un .not x9)) fun x10 => S.bd (pik x6 (Go.Value.bool Bool.true) x10) fun x11 => S.bd (S.gd x11 false (lal c1 6 2)) fun x12 => S.bd (S.gd x11 false (leapfrogref02x_Check.r x12 s)) fun x13 => S.bd (S.gd x11 false (eqb [1] false true x13 (Go.Value.int Go.IntKind.i64 0))) fun x14 => S.bd (pik x11 (Go.Value.bool Bool.true) x14) fun x15 => S.bd (S.gd x15 false (lcl c1 6)) fun x16 => S.bd (S.gd x15 false (eqb [1] false false x16 (Go.Value.int Go.IntKind.i64 1))) fun x17 => S.bd (pik x15 (Go.Value.bool Bool.true) x17) fun x18 => S.cnd x18 (some ((Value.tuple ⟨[(Go.Value.pointer Option.none), (Go.Value.int Go.IntKind.i64 120)]⟩), s)) (S.bd (lal c1 0 8) fun x19 => S.bd (lal c1 1 5) fun x20 => S.bd (lal c1 4 2) fun x21 => S.bd (bld [(Go.Value.int Go.IntKind.i64 0), (Go.Value.int Go.IntKind.i64 0), (Go.Value.int Go.IntKind.i64 0), (Go.Value.int Go.IntKind.u64 0), (Go.Value.int Go.IntKind.i64 0), (Go.Value.int Go.IntKind.u64 0), (Go.Value.int Go.IntKind.i64 0), (Go.Value.int Go.IntKind.u64 0), (Go.Value.int Go.IntKind.i64 0), (Go.Value.int Go.IntKind.i64 0), (Go.Value.int Go.IntKind.u64 0), (Go.Value.int Go.IntKind.i64 0), (Go.Value.int Go.IntKind.u64 0), (Go.Value.int Go.IntKind.i64 0), (Go.Value.int Go.IntKind.u64 0), (Go.Value.bool Bool.false), (Go.Value.int Go.IntKind.i64 0), (Go.Value.int Go.IntKind.i64 0), (Go.Value.int Go.IntKind.u64 0), (Go.Value.int Go.IntKind.i64 0), (Go.Value.int Go.IntKind.u64 0), (Go.Value.slice Option.none 0 0), (Go.Value.int Go.IntKind.i64 0), (Go.Value.bool Bool.false), (Go.Value.int Go.IntKind.i64 0), (Go.Value.int Go.IntKind.u64 0), (Go.Value.slice Option.none 0 0), (Go.Value.slice Option.none 0 0), (Go.Value.int Go.IntKind.i64 0), (Go.Value.int Go.IntKind.i64 0), (Go.Value.int Go.IntKind.u64 0), (Go.Value.int Go.IntKind.i64 0), (Go.Value.int Go.IntKind.u64 0), (Go.Value.int Go.IntKind.i64 0), (Go.Value.int Go.IntKind.i64 0), (Go.Value.int Go.IntKind.u64 0), (Go.Value.int Go.IntKind.i64 0), (Go.Value.int Go.IntKind.u64 0), (Go.Value.bool Bool.false)] [(0, 8, x19), (8, 5, x20), (13, 2, x21)]) fun x22 => S.bd (alv s x22) fun r23 => some ((Value.tuple ⟨[r23.1, (Go.Value.int Go.IntKind.i64 0)]⟩), r23.2))

def leapfrogref12x_New.t (S : Sig) (a0 : Value) (s : St) : Option (Value × St) :=
  S.bd (bx a0) fun c1 => S.bd (lcl c1 0) fun x2 => S.bd (bin .lss x2 (Go.Value.int Go.IntKind.i64 0)) fun x3 => S.bd (S.gd x3 false (lcl c1 0)) fun x4 => S.bd (S.gd x3 false (bin .gtr x4 (Go.Value.int Go.IntKind.i64 32))) fun x5 => S.bd (pik x3 (Go.Value.bool Bool.true) x5) fun x6 => S.bd (S.gd x6 false (lal c1 1 5)) fun x7 => S.bd (S.gd x6 false (lcl c1 0)) fun x8 => S.bd (S.gd x6 false (leapfrogref12x_Right.r x7 x8 s)) fun x9 => leapfrogref12x_New.t.p1 S x6 x9 c1 s
def leapfrogref12x_New.v (a0 : Value) (s : St) : Option (Value × St) := leapfrogref12x_New.t std a0 s
def leapfrogref12x_New.w : List Value → St → Option (Value × St)
  | [a0], s => leapfrogref12x_New.v a0 s
  | _, _ => none
def leapfrogref12x_New.an : An := ⟨40, false, [1], [], [], []⟩
theorem leapfrogref12x_New.ok (S : Sig) (a0 : Value) (s : St) : evF S Try.prog leapfrogref12x_New.ctx leapfrogref12x_New.an Try.f25 [a0] s = leapfrogref12x_New.t S a0 s := by kernel_rfl
theorem leapfrogref12x_New.cok : CtxOk Try.prog leapfrogref12x_New.ctx := .cons leapfrogref12x_Right.sound leapfrogref12x_Right.can <| .cons leapfrogref02x_Check.sound leapfrogref02x_Check.can <| .nil
theorem leapfrogref12x_New.draws : fnDraws leapfrogref12x_New.an Try.f25 = true := by kernel_rfl
theorem leapfrogref12x_New.can : callOk Try.prog 25 = true := by kernel_rfl
theorem leapfrogref12x_New.sound : FnOk Try.prog 25 (.st leapfrogref12x_New.w) := FnOk.st_of (evF_ok leapfrogref12x_New.cok mixed (f := 25) (fn := Try.f25) (by kernel_rfl) leapfrogref12x_New.draws) fun args s r h => by
  unfold leapfrogref12x_New.w at h; split at h
  · rw [leapfrogref12x_New.ok std]; exact h
  · simp at h

/-! ### (*leapfrog/leapfrogref12.Seek).end: function 58 -/
def leapfrogref12x_Seek_end.ctx : Ctx := []
def leapfrogref12x_Seek_end.t (S : Sig) (a0 a1 : Value) (s : St) : Option (Value × St) :=
  S.bd (bx a1) fun c1 => S.bd (lal c1 0 15) fun x2 => S.bd (nck a0) fun x3 => S.bd (fld 23 x3) fun x4 => S.bd (stv s 1 x4 (Go.Value.bool Bool.true)) fun s5 => S.bd (nck a0) fun x6 => S.bd (fld 24 x6) fun x7 => S.bd (stv s5 15 x7 x2) fun s8 => some ((Value.tuple ⟨[]⟩), s8)
def leapfrogref12x_Seek_end.v (a0 a1 : Value) (s : St) : Option (Value × St) := leapfrogref12x_Seek_end.t std a0 a1 s
def leapfrogref12x_Seek_end.w : List Value → St → Option (Value × St)
  | [a0, a1], s => leapfrogref12x_Seek_end.v a0 a1 s
  | _, _ => none
def leapfrogref12x_Seek_end.an : An := ⟨11, false, [3], [], [], [(1, [(0, 0, [], []), (1, 0, [], []), (2, 25, [], []), (3, 0, [], []), (4, 0, [], []), (5, 4, [], []), (6, 0, [], []), (7, 0, [], []), (8, 4, [], [])])]⟩
theorem leapfrogref12x_Seek_end.ok (S : Sig) (a0 a1 : Value) (s : St) : evF S Try.prog leapfrogref12x_Seek_end.ctx leapfrogref12x_Seek_end.an Try.f58 [a0, a1] s = leapfrogref12x_Seek_end.t S a0 a1 s := by kernel_rfl
theorem leapfrogref12x_Seek_end.cok : CtxOk Try.prog leapfrogref12x_Seek_end.ctx := .nil
theorem leapfrogref12x_Seek_end.draws : fnDraws leapfrogref12x_Seek_end.an Try.f58 = true := by kernel_rfl
theorem leapfrogref12x_Seek_end.can : callOk Try.prog 58 = true := by kernel_rfl
theorem leapfrogref12x_Seek_end.sound : FnOk Try.prog 58 (.st leapfrogref12x_Seek_end.w) := FnOk.st_of (evF_ok leapfrogref12x_Seek_end.cok mixed (f := 58) (fn := Try.f58) (by kernel_rfl) leapfrogref12x_Seek_end.draws) fun args s r h => by
  unfold leapfrogref12x_Seek_end.w at h; split at h
  · rw [leapfrogref12x_Seek_end.ok std]; exact h
  · simp at h

/-! ### (*leapfrog/leapfrogref12.Seek).counts: function 48 -/
def leapfrogref12x_Seek_counts.ctx : Ctx := [(58, .st leapfrogref12x_Seek_end.w)]
def leapfrogref12x_Seek_counts.t (S : Sig) (a0 : Value) (s : St) : Option (Value × St) :=
  S.bd (nck a0) fun x1 => S.bd (fld 22 x1) fun x2 => S.bd (ldc s x2) fun x3 => S.bd (bin .geq x3 (Go.Value.int Go.IntKind.i64 64)) fun x4 => S.cnd x4 (S.bd (bld [(Go.Value.int Go.IntKind.i64 0), (Go.Value.int Go.IntKind.u64 0), (Go.Value.slice Option.none 0 0), (Go.Value.slice Option.none 0 0), (Go.Value.int Go.IntKind.i64 0), (Go.Value.int Go.IntKind.i64 0), (Go.Value.int Go.IntKind.u64 0), (Go.Value.int Go.IntKind.i64 0), (Go.Value.int Go.IntKind.u64 0), (Go.Value.int Go.IntKind.i64 0), (Go.Value.int Go.IntKind.i64 0), (Go.Value.int Go.IntKind.u64 0), (Go.Value.int Go.IntKind.i64 0), (Go.Value.int Go.IntKind.u64 0), (Go.Value.bool Bool.false)] [(0, 1, (Go.Value.int Go.IntKind.i64 121))]) fun x5 => S.bd (leapfrogref12x_Seek_end.v a0 x5 s) fun r6 => some ((Go.Value.bool Bool.false), r6.2)) (S.bd (nck a0) fun x7 => S.bd (fld 22 x7) fun x8 => S.bd (ldc s x8) fun x9 => S.bd (bin .add x9 (Go.Value.int Go.IntKind.i64 1)) fun x10 => S.bd (nck a0) fun x11 => S.bd (fld 22 x11) fun x12 => S.bd (stv s 1 x12 x10) fun s13 => some ((Go.Value.bool Bool.true), s13))
def leapfrogref12x_Seek_counts.v (a0 : Value) (s : St) : Option (Value × St) := leapfrogref12x_Seek_counts.t std a0 s
def leapfrogref12x_Seek_counts.w : List Value → St → Option (Value × St)
  | [a0], s => leapfrogref12x_Seek_counts.v a0 s
  | _, _ => none
def leapfrogref12x_Seek_counts.an : An := ⟨18, false, [], [], [], []⟩
theorem leapfrogref12x_Seek_counts.ok (S : Sig) (a0 : Value) (s : St) : evF S Try.prog leapfrogref12x_Seek_counts.ctx leapfrogref12x_Seek_counts.an Try.f48 [a0] s = leapfrogref12x_Seek_counts.t S a0 s := by kernel_rfl
theorem leapfrogref12x_Seek_counts.cok : CtxOk Try.prog leapfrogref12x_Seek_counts.ctx := .cons leapfrogref12x_Seek_end.sound leapfrogref12x_Seek_end.can <| .nil
theorem leapfrogref12x_Seek_counts.draws : fnDraws leapfrogref12x_Seek_counts.an Try.f48 = true := by kernel_rfl
theorem leapfrogref12x_Seek_counts.can : callOk Try.prog 48 = true := by kernel_rfl
theorem leapfrogref12x_Seek_counts.sound : FnOk Try.prog 48 (.st leapfrogref12x_Seek_counts.w) := FnOk.st_of (evF_ok leapfrogref12x_Seek_counts.cok mixed (f := 48) (fn := Try.f48) (by kernel_rfl) leapfrogref12x_Seek_counts.draws) fun args s r h => by
  unfold leapfrogref12x_Seek_counts.w at h; split at h
  · rw [leapfrogref12x_Seek_counts.ok std]; exact h
  · simp at h

/-! ### (*leapfrog/leapfrogref12.Seek).again: function 47 -/
def leapfrogref12x_Seek_again.ctx : Ctx := [(48, .st leapfrogref12x_Seek_counts.w), (12, .rd leapfrogref12x_Head.w)]
def leapfrogref12x_Seek_again.t (S : Sig) (a0 : Value) (s : St) : Option (Value × St) :=
  S.bd (leapfrogref12x_Seek_counts.v a0 s) fun r1 => S.cnd r1.1 (S.bd (nck a0) fun x2 => S.bd (fld 0 x2) fun x3 => S.bd (fld 0 x3) fun x4 => S.bd (ldc r1.2 x4) fun x5 => S.bd (nck a0) fun x6 => S.bd (fld 0 x6) fun x7 => S.bd (fld 0 x7) fun x8 => S.bd (ldc r1.2 x8) fun x9 => S.bd (bld [(Go.Value.int Go.IntKind.i64 0), (Go.Value.int Go.IntKind.u64 0)] [(0, 1, x9)]) fun x10 => S.bd (leapfrogref12x_Head.r x5 r1.2) fun x11 => S.bd (nck a0) fun x12 => S.bd (fld 8 x12) fun x13 => S.bd (stv r1.2 5 x13 x11) fun s14 => S.bd (nck a0) fun x15 => S.bd (fld 13 x15) fun x16 => S.bd (stv s14 2 x16 x10) fun s17 => S.bd (nck a0) fun x18 => S.bd (fld 15 x18) fun x19 => S.bd (stv s17 1 x19 (Go.Value.bool Bool.false)) fun s20 => some ((Value.tuple ⟨[]⟩), s20)) (some ((Value.tuple ⟨[]⟩), r1.2))
def leapfrogref12x_Seek_again.v (a0 : Value) (s : St) : Option (Value × St) := leapfrogref12x_Seek_again.t std a0 s
def leapfrogref12x_Seek_again.w : List Value → St → Option (Value × St)
  | [a0], s => leapfrogref12x_Seek_again.v a0 s
  | _, _ => none
def leapfrogref12x_Seek_again.an : An := ⟨25, false, [], [], [], [(1, [(0, 0, [], []), (1, 0, [], []), (2, 0, [], []), (3, 0, [], []), (4, 0, [], []), (5, 0, [], []), (6, 0, [], []), (7, 2, [], []), (9, 0, [], []), (10, 0, [], []), (11, 0, [], []), (12, 0, [], []), (13, 2, [], []), (14, 0, [], []), (8, 3, [], []), (15, 0, [], []), (16, 0, [], []), (17, 4, [], []), (18, 0, [], []), (19, 0, [], []), (20, 4, [], []), (21, 0, [], []), (22, 0, [], []), (23, 4, [], [])])]⟩
theorem leapfrogref12x_Seek_again.ok (S : Sig) (a0 : Value) (s : St) : evF S Try.prog leapfrogref12x_Seek_again.ctx leapfrogref12x_Seek_again.an Try.f47 [a0] s = leapfrogref12x_Seek_again.t S a0 s := by kernel_rfl
theorem leapfrogref12x_Seek_again.cok : CtxOk Try.prog leapfrogref12x_Seek_again.ctx := .cons leapfrogref12x_Seek_counts.sound leapfrogref12x_Seek_counts.can <| .cons leapfrogref12x_Head.sound leapfrogref12x_Head.can <| .nil
theorem leapfrogref12x_Seek_again.draws : fnDraws leapfrogref12x_Seek_again.an Try.f47 = true := by kernel_rfl
theorem leapfrogref12x_Seek_again.can : callOk Try.prog 47 = true := by kernel_rfl
theorem leapfrogref12x_Seek_again.sound : FnOk Try.prog 47 (.st leapfrogref12x_Seek_again.w) := FnOk.st_of (evF_ok leapfrogref12x_Seek_again.cok mixed (f := 47) (fn := Try.f47) (by kernel_rfl) leapfrogref12x_Seek_again.draws) fun args s r h => by
  unfold leapfrogref12x_Seek_again.w at h; split at h
  · rw [leapfrogref12x_Seek_again.ok std]; exact h
  · simp at h

/-! ### (*leapfrog/leapfrogref12.Seek).known: function 56 -/
def leapfrogref12x_Seek_known.ctx : Ctx := []
def leapfrogref12x_Seek_known.l2 (S : Sig) (rec32 : List Value → St → Option Cut) (xs30 : List Value) (s31 : St) : Option Cut :=
  S.bd (nck (xs30.getD 0 undef)) fun x33 => S.bd (fld 21 x33) fun x34 => S.bd (ldc s31 x34) fun x35 => S.bd (lenL x35) fun x36 => S.bd (bin .lss (xs30.getD 1 undef) x36) fun x37 => S.cnd x37 (S.bd (nck (xs30.getD 0 undef)) fun x38 => S.bd (fld 21 x38) fun x39 => S.bd (ldc s31 x39) fun x40 => S.bd (idx s31 13 x40 (xs30.getD 1 undef)) fun x41 => S.bd (fld 0 x41) fun x42 => S.bd (ldc s31 x42) fun x43 => S.bd (lcl (cellsA (xs30.getD 2 undef)) 0) fun x44 => S.bd (eqb [1] false false x43 x44) fun x45 => S.bd (S.gd x45 true (some (xs30.getD 0 undef))) fun x46 => S.bd (S.gd x45 true (nck x46)) fun x47 => S.bd (S.gd x45 true (fld 21 x47)) fun x48 => S.bd (S.gd x45 true (ldc s31 x48)) fun x49 => S.bd (S.gd x45 true (some (xs30.getD 1 undef))) fun x50 => S.bd (S.gd x45 true (idx s31 13 x49 x50)) fun x51 => S.bd (S.gd x45 true (fld 1 x51)) fun x52 => S.bd (S.gd x45 true (lda s31 2 x52)) fun x53 => S.bd (S.gd x45 true (some (xs30.getD 0 undef))) fun x54 => S.bd (S.gd x45 true (nck x54)) fun x55 => S.bd (S.gd x45 true (fld 13 x55)) fun x56 => S.bd (S.gd x45 true (lda s31 2 x56)) fun x57 => S.bd (S.gd x45 true (eqb [1, 1] true false x53 x57)) fun x58 => S.bd (pik x45 x58 (Go.Value.bool Bool.false)) fun x59 => S.cnd x59 (some (1, [(xs30.getD 1 undef)], s31)) (S.bd (bin .add (xs30.getD 1 undef) (Go.Value.int Go.IntKind.i64 1)) fun x60 => rec32 [(xs30.getD 0 undef), x60, (Value.agg ⟨(cellsA (xs30.getD 2 undef))⟩)] s31)) (some (0, [], s31))

def leapfrogref12x_Seek_known.t (S : Sig) (a0 a1 : Value) (s : St) : Option Value :=
  S.bd (bx a1) fun c1 => S.bd (S.it (leapfrogref12x_Seek_known.l2 S) [a0, (Go.Value.int Go.IntKind.i64 0), (Value.agg ⟨c1⟩)] s) fun r61 => if r61.1 = 0 then (some ((Go.Value.int Go.IntKind.i64 (-1)))) else (some ((r61.2.1.getD 0 undef)))
def leapfrogref12x_Seek_known.r (a0 a1 : Value) (s : St) : Option Value := leapfrogref12x_Seek_known.t std a0 a1 s
def leapfrogref12x_Seek_known.w : List Value → St → Option Value
  | [a0, a1], s => leapfrogref12x_Seek_known.r a0 a1 s
  | _, _ => none
def leapfrogref12x_Seek_known.an : An := ⟨42, true, [3], [(2, ⟨[.v 0, .p 3 3 0, .v 5, .l 3], [(.exit 0, []), (.ret, [.v 4])]⟩)], [], [(4, [(0, 0, [], []), (1, 0, [], []), (2, 0, [], []), (3, 2, [], []), (4, 0, [], []), (5, 2, [], []), (6, 0, [], []), (7, 2, [], []), (8, 0, [], []), (9, 25, [], []), (10, 0, [], []), (11, 0, [], []), (12, 0, [], []), (13, 0, [], []), (14, 0, [], []), (15, 2, [], []), (16, 0, [], []), (17, 2, [], []), (18, 0, [], []), (19, 2, [], []), (20, 0, [], []), (21, 0, [], []), (22, 0, [], []), (23, 2, [], []), (24, 0, [], []), (25, 0, [], [])])]⟩
theorem leapfrogref12x_Seek_known.ok (S : Sig) (a0 a1 : Value) (s : St) : evG S Try.prog leapfrogref12x_Seek_known.ctx leapfrogref12x_Seek_known.an Try.f56 [a0, a1] s = leapfrogref12x_Seek_known.t S a0 a1 s := by kernel_rfl
theorem leapfrogref12x_Seek_known.cok : CtxOk Try.prog leapfrogref12x_Seek_known.ctx := .nil
theorem leapfrogref12x_Seek_known.draws : fnDraws leapfrogref12x_Seek_known.an Try.f56 = true := by kernel_rfl
theorem leapfrogref12x_Seek_known.can : callOk Try.prog 56 = true := by kernel_rfl
theorem leapfrogref12x_Seek_known.sound : FnOk Try.prog 56 (.rd leapfrogref12x_Seek_known.w) := FnOk.rd_of (evG_ok leapfrogref12x_Seek_known.cok mixed (f := 56) (fn := Try.f56) (by kernel_rfl) leapfrogref12x_Seek_known.draws) fun args s r h => by
  unfold leapfrogref12x_Seek_known.w at h; split at h
  · rw [leapfrogref12x_Seek_known.ok std]; exact h
  · simp at h

/-! ### leapfrog/leapfrogref01.Of: function 65 -/
def leapfrogref01x_Of.ctx : Ctx := []
def leapfrogref01x_Of.l3 (S : Sig) (rec18 : List Value → St → Option Cut) (xs16 : List Value) (s17 : St) : Option Cut :=
  S.bd (lenL (xs16.getD 0 undef)) fun x19 => S.bd (bin .lss (xs16.getD 1 undef) x19) fun x20 => S.cnd x20 (S.bd (lcl (cellsA (xs16.getD 3 undef)) 1) fun x21 => S.bd (bin .mul x21 (Go.Value.int Go.IntKind.u64 2)) fun x22 => S.bd (idx s17 1 (xs16.getD 0 undef) (xs16.getD 1 undef)) fun x23 => S.bd (ldc s17 x23) fun x24 => S.bd (cvi .u64 x24) fun x25 => S.bd (bin .add x22 x25) fun x26 => S.bd (stl (cellsA (xs16.getD 3 undef)) 1 1 x26) fun c27 => S.bd (bin .add (xs16.getD 1 undef) (Go.Value.int Go.IntKind.i64 1)) fun x28 => rec18 [(xs16.getD 0 undef), x28, (Value.agg ⟨(cellsA (xs16.getD 2 undef))⟩), (Value.agg ⟨c27⟩)] s17) (some (0, [(Value.agg ⟨(cellsA (xs16.getD 2 undef))⟩), (Value.agg ⟨(cellsA (xs16.getD 3 undef))⟩)], s17))

def leapfrogref01x_Of.t (S : Sig) (a0 : Value) (s : St) : Option Value :=
  S.bd (bx (Go.Value.agg #[(Go.Value.int Go.IntKind.i64 0), (Go.Value.int Go.IntKind.u64 0)])) fun c1 => S.bd (lenL a0) fun x2 => S.bd (bld [(Go.Value.int Go.IntKind.i64 0), (Go.Value.int Go.IntKind.u64 0)] [(0, 1, x2)]) fun x3 => S.bd (bx (Go.Value.agg #[(Go.Value.int Go.IntKind.i64 0), (Go.Value.int Go.IntKind.u64 0)])) fun c4 => S.bd (stl c4 0 2 x3) fun c5 => S.bd (S.it (leapfrogref01x_Of.l3 S) [a0, (Go.Value.int Go.IntKind.i64 0), (Value.agg ⟨c1⟩), (Value.agg ⟨c5⟩)] s) fun r29 => S.bd (lal (cellsA (r29.2.1.getD 1 undef)) 0 2) fun x30 => S.bd (stl (cellsA (r29.2.1.getD 0 undef)) 0 2 x30) fun c31 => S.bd (lal c31 0 2) fun x32 => some (x32)
def leapfrogref01x_Of.r (a0 : Value) (s : St) : Option Value := leapfrogref01x_Of.t std a0 s
def leapfrogref01x_Of.w : List Value → St → Option Value
  | [a0], s => leapfrogref01x_Of.r a0 s
  | _, _ => none
def leapfrogref01x_Of.an : An := ⟨25, true, [2, 3], [(3, ⟨[.v 0, .p 2 2 0, .p 3 3 0, .v 4, .l 2, .l 3], [(.exit 0, [.p 2 2 0, .p 3 3 0, .l 2, .l 3])]⟩)], [], [(5, [(0, 0, [], []), (1, 25, [], []), (2, 0, [], []), (3, 0, [], []), (4, 0, [], []), (5, 2, [], []), (6, 2, [], []), (7, 0, [], []), (8, 0, [], []), (9, 0, [], []), (10, 29, [], [])])]⟩
theorem leapfrogref01x_Of.ok (S : Sig) (a0 : Value) (s : St) : evG S Try.prog leapfrogref01x_Of.ctx leapfrogref01x_Of.an Try.f65 [a0] s = leapfrogref01x_Of.t S a0 s := by kernel_rfl
theorem leapfrogref01x_Of.cok : CtxOk Try.prog leapfrogref01x_Of.ctx := .nil
theorem leapfrogref01x_Of.draws : fnDraws leapfrogref01x_Of.an Try.f65 = true := by kernel_rfl
theorem leapfrogref01x_Of.can : callOk Try.prog 65 = true := by kernel_rfl
theorem leapfrogref01x_Of.sound : FnOk Try.prog 65 (.rd leapfrogref01x_Of.w) := FnOk.rd_of (evG_ok leapfrogref01x_Of.cok mixed (f := 65) (fn := Try.f65) (by kernel_rfl) leapfrogref01x_Of.draws) fun args s r h => by
  unfold leapfrogref01x_Of.w at h; split at h
  · rw [leapfrogref01x_Of.ok std]; exact h
  · simp at h

/-! ### leapfrog/leapfrogref01.Prefix: function 57 -/
def leapfrogref01x_Prefix.ctx : Ctx := [(55, .rd leapfrogref01x_Right.w), (60, .st leapfrogref01x_Bits.w), (65, .rd leapfrogref01x_Of.w)]
def leapfrogref01x_Prefix.t (S : Sig) (a0 a1 : Value) (s : St) : Option (Value × St) :=
  S.bd (bx a0) fun c1 => S.bd (bx (Go.Value.agg #[(Go.Value.int Go.IntKind.i64 0), (Go.Value.int Go.IntKind.u64 0)])) fun c2 => S.bd (lal c1 0 2) fun x3 => S.bd (leapfrogref01x_Right.r x3 s) fun x4 => S.bd (un .not x4) fun x5 => S.cnd x5 (S.bd (bld [(Go.Value.int Go.IntKind.i64 0), (Go.Value.int Go.IntKind.u64 0)] []) fun x6 => S.bd (stl c2 0 2 x6) fun c7 => S.bd (lal c7 0 2) fun x8 => some ((Value.tuple ⟨[x8, (Go.Value.int Go.IntKind.i64 10)]⟩), s)) (S.bd (bin .lss a1 (Go.Value.int Go.IntKind.i64 0)) fun x9 => S.bd (S.gd x9 false (some a1)) fun x10 => S.bd (S.gd x9 false (lcl c1 0)) fun x11 => S.bd (S.gd x9 false (bin .gtr x10 x11)) fun x12 => S.bd (pik x9 (Go.Value.bool Bool.true) x12) fun x13 => S.cnd x13 (S.bd (bld [(Go.Value.int Go.IntKind.i64 0), (Go.Value.int Go.IntKind.u64 0)] []) fun x14 => S.bd (stl c2 0 2 x14) fun c15 => S.bd (lal c15 0 2) fun x16 => some ((Value.tuple ⟨[x16, (Go.Value.int Go.IntKind.i64 5)]⟩), s)) (S.bd (lal c1 0 2) fun x17 => S.bd (leapfrogref01x_Bits.v x17 s) fun r18 => S.bd (slc r18.2 1 r18.1 none (some a1) none) fun x19 => S.bd (leapfrogref01x_Of.r x19 r18.2) fun x20 => S.bd (stl c2 0 2 x20) fun c21 => S.bd (lal c21 0 2) fun x22 => some ((Value.tuple ⟨[x22, (Go.Value.int Go.IntKind.i64 0)]⟩), r18.2)))
def leapfrogref01x_Prefix.v (a0 a1 : Value) (s : St) : Option (Value × St) := leapfrogref01x_Prefix.t std a0 a1 s
def leapfrogref01x_Prefix.w : List Value → St → Option (Value × St)
  | [a0, a1], s => leapfrogref01x_Prefix.v a0 a1 s
  | _, _ => none
def leapfrogref01x_Prefix.an : An := ⟨24, false, [2, 4], [], [], []⟩
theorem leapfrogref01x_Prefix.ok (S : Sig) (a0 a1 : Value) (s : St) : evF S Try.prog leapfrogref01x_Prefix.ctx leapfrogref01x_Prefix.an Try.f57 [a0, a1] s = leapfrogref01x_Prefix.t S a0 a1 s := by kernel_rfl
theorem leapfrogref01x_Prefix.cok : CtxOk Try.prog leapfrogref01x_Prefix.ctx := .cons leapfrogref01x_Right.sound leapfrogref01x_Right.can <| .cons leapfrogref01x_Bits.sound leapfrogref01x_Bits.can <| .cons leapfrogref01x_Of.sound leapfrogref01x_Of.can <| .nil
theorem leapfrogref01x_Prefix.draws : fnDraws leapfrogref01x_Prefix.an Try.f57 = true := by kernel_rfl
theorem leapfrogref01x_Prefix.can : callOk Try.prog 57 = true := by kernel_rfl
theorem leapfrogref01x_Prefix.sound : FnOk Try.prog 57 (.st leapfrogref01x_Prefix.w) := FnOk.st_of (evF_ok leapfrogref01x_Prefix.cok mixed (f := 57) (fn := Try.f57) (by kernel_rfl) leapfrogref01x_Prefix.draws) fun args s r h => by
  unfold leapfrogref01x_Prefix.w at h; split at h
  · rw [leapfrogref01x_Prefix.ok std]; exact h
  · simp at h

/-! ### leapfrog/leapfrogref01.Prefix: function 57, as a reading -/
def leapfrogref01x_PrefixQ.r (a0 a1 : Value) (s : St) : Option Value := frzR (fun s => leapfrogref01x_Prefix.v a0 a1 s) s
def leapfrogref01x_PrefixQ.w : List Value → St → Option Value := fun args s => frzR (leapfrogref01x_Prefix.w args) s
theorem leapfrogref01x_PrefixQ.can : callOk Try.prog 57 = true := leapfrogref01x_Prefix.can
theorem leapfrogref01x_PrefixQ.sound : FnOk Try.prog 57 (.rd leapfrogref01x_PrefixQ.w) := FnOk.frozen leapfrogref01x_Prefix.sound

/-! ### (*leapfrog/leapfrogref12.Seek).right: function 45 -/
def leapfrogref12x_Seek_right.ctx : Ctx := [(43, .rd leapfrogref02x_Check.w), (21, .rd leapfrogref02x_Less.w), (47, .st leapfrogref12x_Seek_again.w), (56, .rd leapfrogref12x_Seek_known.w), (57, .rd leapfrogref01x_PrefixQ.w), (58, .st leapfrogref12x_Seek_end.w)]
def leapfrogref12x_Seek_right.l2 (S : Sig) (rec31 : List Value → St → Option Cut) (xs29 : List Value) (s30 : St) : Option Cut :=
  S.bd (lal (cellsA (xs29.getD 1 undef)) 1 2) fun x32 => S.bd (leapfrogref02x_Check.r x32 s30) fun x33 => S.bd (eqb [1] false true x33 (Go.Value.int Go.IntKind.i64 0)) fun x34 => S.bd (S.gd x34 false (lal (cellsA (xs29.getD 2 undef)) 0 2)) fun x35 => S.bd (S.gd x34 false (lal (cellsA (xs29.getD 1 undef)) 1 2)) fun x36 => S.bd (S.gd x34 false (leapfrogref02x_Less.r x35 x36 s30)) fun x37 => S.bd (S.gd x34 false (un .not x37)) fun x38 => S.bd (pik x34 (Go.Value.bool Bool.true) x38) fun x39 => S.cnd x39 (S.bd (leapfrogref12x_Seek_again.v (xs29.getD 0 undef) s30) fun r40 => some (1, [], r40.2)) (S.bd (lal (cellsA (xs29.getD 1 undef)) 0 5) fun x41 => S.bd (leapfrogref12x_Seek_known.r (xs29.getD 0 undef) x41 s30) fun x42 => S.bd (bin .lss x42 (Go.Value.int Go.IntKind.i64 0)) fun x43 => S.cnd x43 (some (0, [(xs29.getD 0 undef), (Value.agg ⟨(cellsA (xs29.getD 1 undef))⟩)], s30)) (S.bd (lal (cellsA (xs29.getD 1 undef)) 1 2) fun x44 => S.bd (nck (xs29.getD 0 undef)) fun x45 => S.bd (fld 21 x45) fun x46 => S.bd (ldc s30 x46) fun x47 => S.bd (idx s30 13 x47 x42) fun x48 => S.bd (fld 8 x48) fun x49 => S.bd (lda s30 5 x49) fun x50 => S.bd (stl (cellsA (xs29.getD 2 undef)) 0 2 x44) fun c51 => S.bd (stl (cellsA (xs29.getD 1 undef)) 0 5 x50) fun c52 => rec31 [(xs29.getD 0 undef), (Value.agg ⟨c52⟩), (Value.agg ⟨c51⟩)] s30))

def leapfrogref12x_Seek_right.t.p1 (S : Sig) (r53 : Cut) : Option (Value × St) :=
  S.bd (nck (r53.2.1.getD 0 undef)) fun x67 => S.bd (fld 13 x67) fun x68 => S.bd (fld 0 x68) fun x69 => S.bd (ldc r53.2.2 x69) fun x70 => S.bd (bin .gtr x70 (Go.Value.int Go.IntKind.i64 0)) fun x71 => S.cnd x71 (S.bd (nck (r53.2.1.getD 0 undef)) fun x72 => S.bd (fld 13 x72) fun x73 => S.bd (lda r53.2.2 2 x73) fun x74 => S.bd (nck (r53.2.1.getD 0 undef)) fun x75 => S.bd (fld 13 x75) fun x76 => S.bd (fld 0 x76) fun x77 => S.bd (ldc r53.2.2 x77) fun x78 => S.bd (bin .sub x78 (Go.Value.int Go.IntKind.i64 1)) fun x79 => S.bd (leapfrogref01x_PrefixQ.r x74 x79 r53.2.2) fun x80 => S.bd (xtr 0 x80) fun x81 => S.bd (xtr 1 x80) fun x82 => S.bd (nck (r53.2.1.getD 0 undef)) fun x83 => S.bd (fld 13 x83) fun x84 => S.bd (stv r53.2.2 2 x84 x81) fun s85 => S.bd (nck (r53.2.1.getD 0 undef)) fun x86 => S.bd (fld 15 x86) fun x87 => S.bd (stv s85 1 x87 (Go.Value.bool Bool.false)) fun s88 => some ((Value.tuple ⟨[]⟩), s88)) (S.bd (nck (r53.2.1.getD 0 undef)) fun x89 => S.bd (fld 8 x89) fun x90 => S.bd (lda r53.2.2 5 x90) fun x91 => S.bd (lal (cellsA (r53.2.1.getD 1 undef)) 0 5) fun x92 => S.bd (lal (cellsA (r53.2.1.getD 1 undef)) 1 2) fun x93 => S.bd (nck (r53.2.1.getD 0 undef)) fun x94 => S.bd (fld 0 x94) fun x95 => S.bd (fld 6 x95) fun x96 => S.bd (lda r53.2.2 2 x96) fun x97 => S.bd (eqb [1, 1] true false x93 x97) fun x98 => S.bd (bld [(Go.Value.int Go.IntKind.i64 0), (Go.Value.int Go.IntKind.u64 0), (Go.Value.slice Option.none 0 0), (Go.Value.slice Option.none 0 0), (Go.Value.int Go.IntKind.i64 0), (Go.Value.int Go.IntKind.i64 0), (Go.Value.int Go.IntKind.u64 0), (Go.Value.int Go.IntKind.i64 0), (Go.Value.int Go.IntKind.u64 0), (Go.Value.int Go.IntKind.i64 0), (Go.Value.int Go.IntKind.i64 0), (Go.Value.int Go.IntKind.u64 0), (Go.Value.int Go.IntKind.i64 0), (Go.Value.int Go.IntKind.u64 0), (Go.Value.bool Bool.false)] [(4, 5, x91), (9, 5, x92), (14, 1, x98)]) fun x99 => S.bd (leapfrogref12x_Seek_end.v (r53.2.1.getD 0 undef) x99 r53.2.2) fun r100 => S.bd (lda r100.2 5 x90) fun x101 => S.cnd (Value.bool (sameV x101 x91)) (S.bd (lda r100.2 2 x96) fun x102 => S.cnd (Value.bool (sameV x102 x97)) (some ((Value.tuple ⟨[]⟩), r100.2)) (none)) (none))

def leapfrogref12x_Seek_right.t (S : Sig) (a0 a1 : Value) (s : St) : Option (Value × St) :=
  S.bd (bx a1) fun c1 => S.bd (nck a0) fun x2 => S.bd (fld 8 x2) fun x3 => S.bd (fld 1 x3) fun x4 => S.bd (lda s 2 x4) fun x5 => S.bd (bx (Go.Value.agg #[(Go.Value.int Go.IntKind.i64 0), (Go.Value.int Go.IntKind.u64 0)])) fun c6 => S.bd (stl c6 0 2 x5) fun c7 => S.bd (S.it (leapfrogref12x_Seek_right.l2 S) [a0, (Value.agg ⟨c1⟩), (Value.agg ⟨c7⟩)] s) fun r53 => if r53.1 = 0 then (S.bd (lal (cellsA (r53.2.1.getD 1 undef)) 1 2) fun x54 => S.bd (nck (r53.2.1.getD 0 undef)) fun x55 => S.bd (fld 0 x55) fun x56 => S.bd (fld 6 x56) fun x57 => S.bd (lda r53.2.2 2 x57) fun x58 => S.bd (leapfrogref02x_Less.r x54 x58 r53.2.2) fun x59 => S.cnd x59 (S.bd (lal (cellsA (r53.2.1.getD 1 undef)) 0 5) fun x60 => S.bd (nck (r53.2.1.getD 0 undef)) fun x61 => S.bd (fld 15 x61) fun x62 => S.bd (stv r53.2.2 1 x62 (Go.Value.bool Bool.true)) fun s63 => S.bd (nck (r53.2.1.getD 0 undef)) fun x64 => S.bd (fld 16 x64) fun x65 => S.bd (stv s63 5 x65 x60) fun s66 => some ((Value.tuple ⟨[]⟩), s66)) (leapfrogref12x_Seek_right.t.p1 S r53)) else (some ((Value.tuple ⟨[]⟩), r53.2.2))
def leapfrogref12x_Seek_right.v (a0 a1 : Value) (s : St) : Option (Value × St) := leapfrogref12x_Seek_right.t std a0 a1 s
def leapfrogref12x_Seek_right.w : List Value → St → Option (Value × St)
  | [a0, a1], s => leapfrogref12x_Seek_right.v a0 a1 s
  | _, _ => none
def leapfrogref12x_Seek_right.an : An := ⟨98, false, [3, 4], [(2, ⟨[.v 0, .p 3 3 0, .p 4 4 0, .l 3, .l 4], [(.exit 0, [.v 0, .p 3 3 0, .l 3]), (.ret, [])]⟩)], [], [(6, [(0, 0, [], []), (1, 25, [], []), (2, 0, [], []), (3, 0, [], []), (4, 0, [], []), (5, 2, [], []), (6, 0, [], []), (7, 2, [], []), (8, 0, [], []), (9, 2, [], []), (10, 37, [], []), (11, 29, [], [])]), (8, [(0, 0, [], []), (1, 25, [], []), (2, 0, [], []), (3, 0, [], []), (4, 0, [], []), (5, 0, [], []), (6, 2, [], []), (7, 3, [], []), (8, 0, [], [])]), (9, [(0, 0, [], []), (1, 0, [], []), (2, 25, [], []), (3, 0, [], []), (4, 0, [], []), (5, 4, [], []), (6, 0, [], []), (7, 0, [], []), (8, 4, [], [])]), (11, [(0, 0, [], []), (1, 0, [], []), (2, 0, [], []), (3, 0, [], []), (4, 2, [], []), (5, 0, [], []), (6, 0, [], []), (7, 0, [], []), (8, 0, [], []), (9, 2, [], []), (10, 0, [], []), (11, 3, [], []), (12, 0, [], []), (13, 0, [], []), (14, 0, [], []), (15, 0, [], []), (16, 0, [], []), (17, 4, [], [])]), (7, [(0, 0, [], []), (1, 0, [], []), (2, 0, [], []), (3, 0, [], []), (4, 2, [], []), (5, 25, [], []), (6, 0, [], []), (7, 25, [], []), (8, 0, [], []), (9, 0, [], []), (10, 0, [], []), (11, 0, [], []), (12, 2, [], []), (13, 0, [], []), (14, 0, [], []), (15, 4, [4, 12], [])])]⟩
theorem leapfrogref12x_Seek_right.ok (S : Sig) (a0 a1 : Value) (s : St) : evF S Try.prog leapfrogref12x_Seek_right.ctx leapfrogref12x_Seek_right.an Try.f45 [a0, a1] s = leapfrogref12x_Seek_right.t S a0 a1 s := by kernel_rfl
theorem leapfrogref12x_Seek_right.cok : CtxOk Try.prog leapfrogref12x_Seek_right.ctx := .cons leapfrogref02x_Check.sound leapfrogref02x_Check.can <| .cons leapfrogref02x_Less.sound leapfrogref02x_Less.can <| .cons leapfrogref12x_Seek_again.sound leapfrogref12x_Seek_again.can <| .cons leapfrogref12x_Seek_known.sound leapfrogref12x_Seek_known.can <| .cons leapfrogref01x_PrefixQ.sound leapfrogref01x_PrefixQ.can <| .cons leapfrogref12x_Seek_end.sound leapfrogref12x_Seek_end.can <| .nil
theorem leapfrogref12x_Seek_right.draws : fnDraws leapfrogref12x_Seek_right.an Try.f45 = true := by kernel_rfl
theorem leapfrogref12x_Seek_right.can : callOk Try.prog 45 = true := by kernel_rfl
theorem leapfrogref12x_Seek_right.sound : FnOk Try.prog 45 (.st leapfrogref12x_Seek_right.w) := FnOk.st_of (evF_ok leapfrogref12x_Seek_right.cok mixed (f := 45) (fn := Try.f45) (by kernel_rfl) leapfrogref12x_Seek_right.draws) fun args s r h => by
  unfold leapfrogref12x_Seek_right.w at h; split at h
  · rw [leapfrogref12x_Seek_right.ok std]; exact h
  · simp at h

/-! ### (*leapfrog/leapfrogref12.Seek).keep: function 46 -/
def leapfrogref12x_Seek_keep.ctx : Ctx := [(56, .rd leapfrogref12x_Seek_known.w)]
def leapfrogref12x_Seek_keep.t.p1 (S : Sig) (c2 : List Value) (x5 : Value) (x8 : Value) (x9 : Value) (x4 : Value) (a0 : Value) (s : St) : Option (Value × St) :=
  S.bd (lal c2 7 5) fun x10 => S.bd (bld [(Go.Value.int Go.IntKind.i64 0), (Go.Value.int Go.IntKind.i64 0), (Go.Value.int Go.IntKind.u64 0), (Go.Value.int Go.IntKind.i64 0), (Go.Value.int Go.IntKind.i64 0), (Go.Value.int Go.IntKind.u64 0), (Go.Value.int Go.IntKind.i64 0), (Go.Value.int Go.IntKind.u64 0), (Go.Value.int Go.IntKind.i64 0), (Go.Value.int Go.IntKind.i64 0), (Go.Value.int Go.IntKind.u64 0), (Go.Value.int Go.IntKind.i64 0), (Go.Value.int Go.IntKind.u64 0)] [(0, 1, x5), (1, 2, x8), (3, 5, x9), (8, 5, x10)]) fun x11 => S.bd (bx (Go.Value.agg #[(Go.Value.int Go.IntKind.i64 0), (Go.Value.int Go.IntKind.i64 0), (Go.Value.int Go.IntKind.u64 0), (Go.Value.int Go.IntKind.i64 0), (Go.Value.int Go.IntKind.i64 0), (Go.Value.int Go.IntKind.u64 0), (Go.Value.int Go.IntKind.i64 0), (Go.Value.int Go.IntKind.u64 0), (Go.Value.int Go.IntKind.i64 0), (Go.Value.int Go.IntKind.i64 0), (Go.Value.int Go.IntKind.u64 0), (Go.Value.int Go.IntKind.i64 0), (Go.Value.int Go.IntKind.u64 0)])) fun c12 => S.bd (stl c12 0 13 x11) fun c13 => S.bd (bin .geq x4 (Go.Value.int Go.IntKind.i64 0)) fun x14 => S.cnd x14 (S.bd (nck a0) fun x15 => S.bd (fld 21 x15) fun x16 => S.bd (ldc s x16) fun x17 => S.bd (lal c13 0 13) fun x18 => S.bd (idx s 13 x17 x4) fun x19 => S.bd (stv s 13 x19 x18) fun s20 => some ((Value.tuple ⟨[]⟩), s20)) (S.bd (nck a0) fun x21 => S.bd (fld 21 x21) fun x22 => S.bd (ldc s x22) fun x23 => S.bd (lal c13 0 13) fun x24 => S.bd (S.bd (bls 13 (List.replicate 1 [(Go.Value.int Go.IntKind.i64 0), (Go.Value.int Go.IntKind.i64 0), (Go.Value.int Go.IntKind.u64 0), (Go.Value.int Go.IntKind.i64 0), (Go.Value.int Go.IntKind.i64 0), (Go.Value.int Go.IntKind.u64 0), (Go.Value.int Go.IntKind.i64 0), (Go.Value.int Go.IntKind.u64 0), (Go.Value.int Go.IntKind.i64 0), (Go.Value.int Go.IntKind.i64 0), (Go.Value.int Go.IntKind.u64 0), (Go.Value.int Go.IntKind.i64 0), (Go.Value.int Go.IntKind.u64 0)]) [(0, x24)]) fun rows => als s 13 1 rows) fun r25 => S.bd (app r25.2 13 104 x23 r25.1) fun r26 => S.bd (nck a0) fun x27 => S.bd (fld 21 x27) fun x28 => S.bd (stv r26.2 1 x28 r26.1) fun s29 => some ((Value.tuple ⟨[]⟩), s29))

def leapfrogref12x_Seek_keep.t (S : Sig) (a0 a1 a2 : Value) (s : St) : Option (Value × St) :=
  S.bd (bx a1) fun c1 => S.bd (bx a2) fun c2 => S.bd (lal c1 0 5) fun x3 => S.bd (leapfrogref12x_Seek_known.r a0 x3 s) fun x4 => S.bd (lcl c1 0) fun x5 => S.bd (nck a0) fun x6 => S.bd (fld 13 x6) fun x7 => S.bd (lda s 2 x7) fun x8 => S.bd (lal c2 2 5) fun x9 => leapfrogref12x_Seek_keep.t.p1 S c2 x5 x8 x9 x4 a0 s
def leapfrogref12x_Seek_keep.v (a0 a1 a2 : Value) (s : St) : Option (Value × St) := leapfrogref12x_Seek_keep.t std a0 a1 a2 s
def leapfrogref12x_Seek_keep.w : List Value → St → Option (Value × St)
  | [a0, a1, a2], s => leapfrogref12x_Seek_keep.v a0 a1 a2 s
  | _, _ => none
def leapfrogref12x_Seek_keep.an : An := ⟨41, false, [4, 5, 7], [], [], [(2, [(0, 0, [], []), (1, 33, [], []), (2, 0, [], []), (3, 0, [], []), (4, 0, [], []), (5, 2, [], []), (6, 0, [], []), (7, 41, [], []), (8, 0, [], []), (9, 41, [], []), (10, 0, [], []), (11, 6, [], []), (12, 61, [], [])]), (4, [(0, 0, [], []), (1, 0, [], []), (2, 0, [], []), (3, 2, [], []), (4, 0, [], []), (5, 57, [], []), (6, 2, [], []), (7, 4, [], [])]), (5, [(0, 0, [], []), (1, 0, [], []), (2, 0, [], []), (3, 0, [], []), (4, 2, [], []), (5, 57, [], []), (6, 3, [], []), (7, 4, [], []), (8, 0, [], []), (9, 0, [], []), (10, 4, [], [])])]⟩
theorem leapfrogref12x_Seek_keep.ok (S : Sig) (a0 a1 a2 : Value) (s : St) : evF S Try.prog leapfrogref12x_Seek_keep.ctx leapfrogref12x_Seek_keep.an Try.f46 [a0, a1, a2] s = leapfrogref12x_Seek_keep.t S a0 a1 a2 s := by kernel_rfl
theorem leapfrogref12x_Seek_keep.cok : CtxOk Try.prog leapfrogref12x_Seek_keep.ctx := .cons leapfrogref12x_Seek_known.sound leapfrogref12x_Seek_known.can <| .nil
theorem leapfrogref12x_Seek_keep.draws : fnDraws leapfrogref12x_Seek_keep.an Try.f46 = true := by kernel_rfl
theorem leapfrogref12x_Seek_keep.can : callOk Try.prog 46 = true := by kernel_rfl
theorem leapfrogref12x_Seek_keep.sound : FnOk Try.prog 46 (.st leapfrogref12x_Seek_keep.w) := FnOk.st_of (evF_ok leapfrogref12x_Seek_keep.cok mixed (f := 46) (fn := Try.f46) (by kernel_rfl) leapfrogref12x_Seek_keep.draws) fun args s r h => by
  unfold leapfrogref12x_Seek_keep.w at h; split at h
  · rw [leapfrogref12x_Seek_keep.ok std]; exact h
  · simp at h

/-! ### (*leapfrog/leapfrogref12.Seek).looked: function 44 -/
def leapfrogref12x_Seek_looked.ctx : Ctx := [(45, .st leapfrogref12x_Seek_right.w), (46, .st leapfrogref12x_Seek_keep.w), (48, .st leapfrogref12x_Seek_counts.w), (47, .st leapfrogref12x_Seek_again.w)]
def leapfrogref12x_Seek_looked.t (S : Sig) (a0 a1 : Value) (s : St) : Option (Value × St) :=
  S.bd (bx a1) fun c1 => S.bd (lcl c1 0) fun x2 => S.bd (eqb [1] false false x2 (Go.Value.int Go.IntKind.i64 1)) fun x3 => S.cnd x3 (S.bd (nck a0) fun x4 => S.bd (fld 16 x4) fun x5 => S.bd (lda s 5 x5) fun x6 => S.bd (nck a0) fun x7 => S.bd (fld 8 x7) fun x8 => S.bd (stv s 5 x8 x6) fun s9 => S.bd (nck a0) fun x10 => S.bd (fld 15 x10) fun x11 => S.bd (stv s9 1 x11 (Go.Value.bool Bool.false)) fun s12 => S.bd (lal c1 7 5) fun x13 => S.bd (leapfrogref12x_Seek_right.v a0 x13 s12) fun r14 => some ((Value.tuple ⟨[]⟩), r14.2)) (S.bd (eqb [1] false false x2 (Go.Value.int Go.IntKind.i64 3)) fun x15 => S.cnd x15 (S.bd (nck a0) fun x16 => S.bd (fld 16 x16) fun x17 => S.bd (lda s 5 x17) fun x18 => S.bd (lal c1 0 13) fun x19 => S.bd (leapfrogref12x_Seek_keep.v a0 x18 x19 s) fun r20 => S.bd (leapfrogref12x_Seek_counts.v a0 r20.2) fun r21 => S.cnd r21.1 (S.bd (nck a0) fun x22 => S.bd (fld 15 x22) fun x23 => S.bd (stv r21.2 1 x23 (Go.Value.bool Bool.false)) fun s24 => some ((Value.tuple ⟨[]⟩), s24)) (some ((Value.tuple ⟨[]⟩), r21.2))) (S.bd (leapfrogref12x_Seek_again.v a0 s) fun r25 => some ((Value.tuple ⟨[]⟩), r25.2)))
def leapfrogref12x_Seek_looked.v (a0 a1 : Value) (s : St) : Option (Value × St) := leapfrogref12x_Seek_looked.t std a0 a1 s
def leapfrogref12x_Seek_looked.w : List Value → St → Option (Value × St)
  | [a0, a1], s => leapfrogref12x_Seek_looked.v a0 a1 s
  | _, _ => none
def leapfrogref12x_Seek_looked.an : An := ⟨38, false, [3], [], [], [(7, [(0, 0, [], []), (1, 0, [], []), (2, 0, [], []), (3, 0, [], []), (4, 2, [], []), (5, 25, [], []), (6, 4, [], [])])]⟩
theorem leapfrogref12x_Seek_looked.ok (S : Sig) (a0 a1 : Value) (s : St) : evF S Try.prog leapfrogref12x_Seek_looked.ctx leapfrogref12x_Seek_looked.an Try.f44 [a0, a1] s = leapfrogref12x_Seek_looked.t S a0 a1 s := by kernel_rfl
theorem leapfrogref12x_Seek_looked.cok : CtxOk Try.prog leapfrogref12x_Seek_looked.ctx := .cons leapfrogref12x_Seek_right.sound leapfrogref12x_Seek_right.can <| .cons leapfrogref12x_Seek_keep.sound leapfrogref12x_Seek_keep.can <| .cons leapfrogref12x_Seek_counts.sound leapfrogref12x_Seek_counts.can <| .cons leapfrogref12x_Seek_again.sound leapfrogref12x_Seek_again.can <| .nil
theorem leapfrogref12x_Seek_looked.draws : fnDraws leapfrogref12x_Seek_looked.an Try.f44 = true := by kernel_rfl
theorem leapfrogref12x_Seek_looked.can : callOk Try.prog 44 = true := by kernel_rfl
theorem leapfrogref12x_Seek_looked.sound : FnOk Try.prog 44 (.st leapfrogref12x_Seek_looked.w) := FnOk.st_of (evF_ok leapfrogref12x_Seek_looked.cok mixed (f := 44) (fn := Try.f44) (by kernel_rfl) leapfrogref12x_Seek_looked.draws) fun args s r h => by
  unfold leapfrogref12x_Seek_looked.w at h; split at h
  · rw [leapfrogref12x_Seek_looked.ok std]; exact h
  · simp at h

/-! ### (*leapfrog/leapfrogref12.Seek).Tell: function 26 -/
def leapfrogref12x_Seek_Tell.ctx : Ctx := [(44, .st leapfrogref12x_Seek_looked.w), (21, .rd leapfrogref02x_Less.w), (45, .st leapfrogref12x_Seek_right.w), (43, .rd leapfrogref02x_Check.w), (46, .st leapfrogref12x_Seek_keep.w), (47, .st leapfrogref12x_Seek_again.w)]
def leapfrogref12x_Seek_Tell.t.p1 (S : Sig) (c1 : List Value) (a0 : Value) (s : St) : Option (Value × St) :=
  S.bd (lcl c1 0) fun x10 => S.bd (eqb [1] false false x10 (Go.Value.int Go.IntKind.i64 1)) fun x11 => S.bd (S.gd x11 true (some a0)) fun x12 => S.bd (S.gd x11 true (nck x12)) fun x13 => S.bd (S.gd x11 true (fld 8 x13)) fun x14 => S.bd (S.gd x11 true (fld 1 x14)) fun x15 => S.bd (S.gd x11 true (lda s 2 x15)) fun x16 => S.bd (S.gd x11 true (some a0)) fun x17 => S.bd (S.gd x11 true (nck x17)) fun x18 => S.bd (S.gd x11 true (fld 0 x18)) fun x19 => S.bd (S.gd x11 true (fld 6 x19)) fun x20 => S.bd (S.gd x11 true (lda s 2 x20)) fun x21 => S.bd (S.gd x11 true (leapfrogref02x_Less.r x16 x21 s)) fun x22 => S.bd (pik x11 x22 (Go.Value.bool Bool.false)) fun x23 => S.cnd x23 (S.bd (lal c1 7 5) fun x24 => S.bd (leapfrogref12x_Seek_right.v a0 x24 s) fun r25 => some ((Value.tuple ⟨[]⟩), r25.2)) (S.bd (lcl c1 0) fun x26 => S.bd (eqb [1] false false x26 (Go.Value.int Go.IntKind.i64 1)) fun x27 => S.bd (S.gd x27 true (lal c1 3 2)) fun x28 => S.bd (S.gd x27 true (leapfrogref02x_Check.r x28 s)) fun x29 => S.bd (S.gd x27 true (eqb [1] false false x29 (Go.Value.int Go.IntKind.i64 0))) fun x30 => S.bd (pik x27 x30 (Go.Value.bool Bool.false)) fun x31 => S.bd (S.gd x31 true (lal c1 3 2)) fun x32 => S.bd (S.gd x31 true (some a0)) fun x33 => S.bd (S.gd x31 true (nck x33)) fun x34 => S.bd (S.gd x31 true (fld 8 x34)) fun x35 => S.bd (S.gd x31 true (fld 1 x35)) fun x36 => S.bd (S.gd x31 true (lda s 2 x36)) fun x37 => S.bd (S.gd x31 true (leapfrogref02x_Less.r x32 x37 s)) fun x38 => S.bd (pik x31 x38 (Go.Value.bool Bool.false)) fun x39 => S.cnd x39 (S.bd (lal c1 2 5) fun x40 => S.bd (nck a0) fun x41 => S.bd (fld 8 x41) fun x42 => S.bd (stv s 5 x42 x40) fun s43 => some ((Value.tuple ⟨[]⟩), s43)) (S.bd (lcl c1 0) fun x44 => S.bd (eqb [1] false false x44 (Go.Value.int Go.IntKind.i64 3)) fun x45 => S.cnd x45 (S.bd (nck a0) fun x46 => S.bd (fld 8 x46) fun x47 => S.bd (lda s 5 x47) fun x48 => S.bd (lal c1 0 13) fun x49 => S.bd (leapfrogref12x_Seek_keep.v a0 x48 x49 s) fun r50 => S.bd (leapfrogref12x_Seek_again.v a0 r50.2) fun r51 => some ((Value.tuple ⟨[]⟩), r51.2)) (S.bd (leapfrogref12x_Seek_again.v a0 s) fun r52 => some ((Value.tuple ⟨[]⟩), r52.2))))

def leapfrogref12x_Seek_Tell.t (S : Sig) (a0 a1 : Value) (s : St) : Option (Value × St) :=
  S.bd (bx a1) fun c1 => S.bd (nck a0) fun x2 => S.bd (fld 23 x2) fun x3 => S.bd (ldc s x3) fun x4 => S.cnd x4 (some ((Value.tuple ⟨[]⟩), s)) (S.bd (nck a0) fun x5 => S.bd (fld 15 x5) fun x6 => S.bd (ldc s x6) fun x7 => S.cnd x7 (S.bd (lal c1 0 13) fun x8 => S.bd (leapfrogref12x_Seek_looked.v a0 x8 s) fun r9 => some ((Value.tuple ⟨[]⟩), r9.2)) (leapfrogref12x_Seek_Tell.t.p1 S c1 a0 s))
def leapfrogref12x_Seek_Tell.v (a0 a1 : Value) (s : St) : Option (Value × St) := leapfrogref12x_Seek_Tell.t std a0 a1 s
def leapfrogref12x_Seek_Tell.w : List Value → St → Option (Value × St)
  | [a0, a1], s => leapfrogref12x_Seek_Tell.v a0 a1 s
  | _, _ => none
def leapfrogref12x_Seek_Tell.an : An := ⟨77, false, [3], [], [], [(7, [(0, 0, [], []), (1, 25, [], []), (2, 0, [], []), (3, 0, [], []), (4, 0, [], []), (5, 0, [], []), (6, 0, [], []), (7, 0, [], []), (8, 2, [], []), (9, 0, [], []), (10, 0, [], []), (11, 0, [], []), (12, 0, [], []), (13, 2, [], []), (14, 3, [], []), (15, 0, [], []), (16, 0, [], [])]), (9, [(0, 0, [], []), (1, 25, [], []), (2, 0, [], []), (3, 0, [], []), (4, 0, [], []), (5, 0, [], []), (6, 25, [], []), (7, 3, [], []), (8, 0, [], []), (9, 0, [], []), (10, 0, [], []), (11, 0, [], []), (12, 0, [], []), (13, 25, [], []), (14, 0, [], []), (15, 0, [], []), (16, 0, [], []), (17, 0, [], []), (18, 2, [], []), (19, 3, [], []), (20, 0, [], []), (21, 0, [], [])]), (2, [(0, 0, [], []), (1, 0, [], []), (2, 0, [], []), (3, 0, [], []), (4, 2, [], []), (5, 25, [], []), (6, 4, [], [])])]⟩
theorem leapfrogref12x_Seek_Tell.ok (S : Sig) (a0 a1 : Value) (s : St) : evF S Try.prog leapfrogref12x_Seek_Tell.ctx leapfrogref12x_Seek_Tell.an Try.f26 [a0, a1] s = leapfrogref12x_Seek_Tell.t S a0 a1 s := by kernel_rfl
theorem leapfrogref12x_Seek_Tell.cok : CtxOk Try.prog leapfrogref12x_Seek_Tell.ctx := .cons leapfrogref12x_Seek_looked.sound leapfrogref12x_Seek_looked.can <| .cons leapfrogref02x_Less.sound leapfrogref02x_Less.can <| .cons leapfrogref12x_Seek_right.sound leapfrogref12x_Seek_right.can <| .cons leapfrogref02x_Check.sound leapfrogref02x_Check.can <| .cons leapfrogref12x_Seek_keep.sound leapfrogref12x_Seek_keep.can <| .cons leapfrogref12x_Seek_again.sound leapfrogref12x_Seek_again.can <| .nil
theorem leapfrogref12x_Seek_Tell.draws : fnDraws leapfrogref12x_Seek_Tell.an Try.f26 = true := by kernel_rfl
theorem leapfrogref12x_Seek_Tell.can : callOk Try.prog 26 = true := by kernel_rfl
theorem leapfrogref12x_Seek_Tell.sound : FnOk Try.prog 26 (.st leapfrogref12x_Seek_Tell.w) := FnOk.st_of (evF_ok leapfrogref12x_Seek_Tell.cok mixed (f := 26) (fn := Try.f26) (by kernel_rfl) leapfrogref12x_Seek_Tell.draws) fun args s r h => by
  unfold leapfrogref12x_Seek_Tell.w at h; split at h
  · rw [leapfrogref12x_Seek_Tell.ok std]; exact h
  · simp at h

/-! ### (*leapfrog/seek.Seek).Wake: function 27 -/
def seek_Seek_Wake.ctx : Ctx := []
def seek_Seek_Wake.t (S : Sig) (a0 : Value) (s : St) : Option Value :=
  some ((Value.tuple ⟨[]⟩))
def seek_Seek_Wake.r (a0 : Value) (s : St) : Option Value := seek_Seek_Wake.t std a0 s
def seek_Seek_Wake.w : List Value → St → Option Value
  | [a0], s => seek_Seek_Wake.r a0 s
  | _, _ => none
def seek_Seek_Wake.an : An := ⟨2, true, [], [], [], []⟩
theorem seek_Seek_Wake.ok (S : Sig) (a0 : Value) (s : St) : evG S Try.prog seek_Seek_Wake.ctx seek_Seek_Wake.an Try.f27 [a0] s = seek_Seek_Wake.t S a0 s := by kernel_rfl
theorem seek_Seek_Wake.cok : CtxOk Try.prog seek_Seek_Wake.ctx := .nil
theorem seek_Seek_Wake.draws : fnDraws seek_Seek_Wake.an Try.f27 = true := by kernel_rfl
theorem seek_Seek_Wake.can : callOk Try.prog 27 = true := by kernel_rfl
theorem seek_Seek_Wake.sound : FnOk Try.prog 27 (.rd seek_Seek_Wake.w) := FnOk.rd_of (evG_ok seek_Seek_Wake.cok mixed (f := 27) (fn := Try.f27) (by kernel_rfl) seek_Seek_Wake.draws) fun args s r h => by
  unfold seek_Seek_Wake.w at h; split at h
  · rw [seek_Seek_Wake.ok std]; exact h
  · simp at h

/-! ### (*leapfrog/leapfrogref12.Seek).Dead: function 28 -/
def leapfrogref12x_Seek_Dead.ctx : Ctx := [(46, .st leapfrogref12x_Seek_keep.w), (48, .st leapfrogref12x_Seek_counts.w)]
def leapfrogref12x_Seek_Dead.t (S : Sig) (a0 a1 : Value) (s : St) : Option (Value × St) :=
  S.bd (bx a1) fun c1 => S.bd (nck a0) fun x2 => S.bd (fld 23 x2) fun x3 => S.bd (ldc s x3) fun x4 => S.bd (un .not x4) fun x5 => S.bd (S.gd x5 false (some a0)) fun x6 => S.bd (S.gd x5 false (nck x6)) fun x7 => S.bd (S.gd x5 false (fld 24 x7)) fun x8 => S.bd (S.gd x5 false (fld 0 x8)) fun x9 => S.bd (S.gd x5 false (ldc s x9)) fun x10 => S.bd (S.gd x5 false (eqb [1] false true x10 (Go.Value.int Go.IntKind.i64 0))) fun x11 => S.bd (pik x5 (Go.Value.bool Bool.true) x11) fun x12 => S.cnd x12 (some ((Value.tuple ⟨[]⟩), s)) (S.bd (nck a0) fun x13 => S.bd (fld 24 x13) fun x14 => S.bd (fld 9 x14) fun x15 => S.bd (lda s 5 x15) fun x16 => S.bd (bx (Go.Value.agg #[(Go.Value.int Go.IntKind.i64 0), (Go.Value.int Go.IntKind.i64 0), (Go.Value.int Go.IntKind.u64 0), (Go.Value.int Go.IntKind.i64 0), (Go.Value.int Go.IntKind.u64 0)])) fun c17 => S.bd (stl c17 0 5 x16) fun c18 => S.bd (bld [(Go.Value.int Go.IntKind.i64 0), (Go.Value.int Go.IntKind.u64 0), (Go.Value.slice Option.none 0 0), (Go.Value.slice Option.none 0 0), (Go.Value.int Go.IntKind.i64 0), (Go.Value.int Go.IntKind.i64 0), (Go.Value.int Go.IntKind.u64 0), (Go.Value.int Go.IntKind.i64 0), (Go.Value.int Go.IntKind.u64 0), (Go.Value.int Go.IntKind.i64 0), (Go.Value.int Go.IntKind.i64 0), (Go.Value.int Go.IntKind.u64 0), (Go.Value.int Go.IntKind.i64 0), (Go.Value.int Go.IntKind.u64 0), (Go.Value.bool Bool.false)] []) fun x19 => S.bd (nck a0) fun x20 => S.bd (fld 23 x20) fun x21 => S.bd (stv s 1 x21 (Go.Value.bool Bool.false)) fun s22 => S.bd (nck a0) fun x23 => S.bd (fld 24 x23) fun x24 => S.bd (stv s22 15 x24 x19) fun s25 => S.bd (lal c18 0 5) fun x26 => S.bd (lal c1 0 13) fun x27 => S.bd (leapfrogref12x_Seek_keep.v a0 x26 x27 s25) fun r28 => S.bd (leapfrogref12x_Seek_counts.v a0 r28.2) fun r29 => S.cnd r29.1 (S.bd (nck a0) fun x30 => S.bd (fld 15 x30) fun x31 => S.bd (stv r29.2 1 x31 (Go.Value.bool Bool.false)) fun s32 => some ((Value.tuple ⟨[]⟩), s32)) (some ((Value.tuple ⟨[]⟩), r29.2)))
def leapfrogref12x_Seek_Dead.v (a0 a1 : Value) (s : St) : Option (Value × St) := leapfrogref12x_Seek_Dead.t std a0 a1 s
def leapfrogref12x_Seek_Dead.w : List Value → St → Option (Value × St)
  | [a0, a1], s => leapfrogref12x_Seek_Dead.v a0 a1 s
  | _, _ => none
def leapfrogref12x_Seek_Dead.an : An := ⟨39, false, [3, 4], [], [], []⟩
theorem leapfrogref12x_Seek_Dead.ok (S : Sig) (a0 a1 : Value) (s : St) : evF S Try.prog leapfrogref12x_Seek_Dead.ctx leapfrogref12x_Seek_Dead.an Try.f28 [a0, a1] s = leapfrogref12x_Seek_Dead.t S a0 a1 s := by kernel_rfl
theorem leapfrogref12x_Seek_Dead.cok : CtxOk Try.prog leapfrogref12x_Seek_Dead.ctx := .cons leapfrogref12x_Seek_keep.sound leapfrogref12x_Seek_keep.can <| .cons leapfrogref12x_Seek_counts.sound leapfrogref12x_Seek_counts.can <| .nil
theorem leapfrogref12x_Seek_Dead.draws : fnDraws leapfrogref12x_Seek_Dead.an Try.f28 = true := by kernel_rfl
theorem leapfrogref12x_Seek_Dead.can : callOk Try.prog 28 = true := by kernel_rfl
theorem leapfrogref12x_Seek_Dead.sound : FnOk Try.prog 28 (.st leapfrogref12x_Seek_Dead.w) := FnOk.st_of (evF_ok leapfrogref12x_Seek_Dead.cok mixed (f := 28) (fn := Try.f28) (by kernel_rfl) leapfrogref12x_Seek_Dead.draws) fun args s r h => by
  unfold leapfrogref12x_Seek_Dead.w at h; split at h
  · rw [leapfrogref12x_Seek_Dead.ok std]; exact h
  · simp at h

/-! ### (*leapfrog/leapfrogref12.Seek).Next: function 30 -/
def leapfrogref12x_Seek_Next.ctx : Ctx := []
def leapfrogref12x_Seek_Next.t.p1 (S : Sig) (a0 : Value) (s : St) (c1 : List Value) : Option Value :=
  S.bd (nck a0) fun x11 => S.bd (fld 8 x11) fun x12 => S.bd (lda s 5 x12) fun x13 => S.bd (nck a0) fun x14 => S.bd (fld 13 x14) fun x15 => S.bd (lda s 2 x15) fun x16 => S.bd (bld [(Go.Value.int Go.IntKind.i64 0), (Go.Value.int Go.IntKind.i64 0), (Go.Value.int Go.IntKind.u64 0), (Go.Value.int Go.IntKind.i64 0), (Go.Value.int Go.IntKind.i64 0), (Go.Value.int Go.IntKind.u64 0), (Go.Value.int Go.IntKind.i64 0), (Go.Value.int Go.IntKind.u64 0), (Go.Value.int Go.IntKind.i64 0), (Go.Value.int Go.IntKind.i64 0), (Go.Value.int Go.IntKind.u64 0), (Go.Value.int Go.IntKind.i64 0), (Go.Value.int Go.IntKind.u64 0), (Go.Value.int Go.IntKind.i64 0), (Go.Value.int Go.IntKind.i64 0)] [(0, 1, (Go.Value.int Go.IntKind.i64 1)), (1, 2, x16)]) fun x17 => S.bd (bld [(Go.Value.int Go.IntKind.i64 0), (Go.Value.int Go.IntKind.i64 0), (Go.Value.int Go.IntKind.i64 0), (Go.Value.int Go.IntKind.u64 0), (Go.Value.int Go.IntKind.i64 0), (Go.Value.int Go.IntKind.u64 0), (Go.Value.int Go.IntKind.i64 0), (Go.Value.int Go.IntKind.i64 0), (Go.Value.int Go.IntKind.u64 0), (Go.Value.int Go.IntKind.i64 0), (Go.Value.int Go.IntKind.i64 0), (Go.Value.int Go.IntKind.u64 0), (Go.Value.int Go.IntKind.i64 0), (Go.Value.int Go.IntKind.u64 0), (Go.Value.int Go.IntKind.i64 0), (Go.Value.int Go.IntKind.i64 0), (Go.Value.int Go.IntKind.u64 0), (Go.Value.int Go.IntKind.i64 0), (Go.Value.int Go.IntKind.u64 0), (Go.Value.int Go.IntKind.i64 0), (Go.Value.int Go.IntKind.i64 0), (Go.Value.int Go.IntKind.i64 0), (Go.Value.int Go.IntKind.u64 0), (Go.Value.slice Option.none 0 0), (Go.Value.slice Option.none 0 0), (Go.Value.int Go.IntKind.i64 0), (Go.Value.int Go.IntKind.i64 0), (Go.Value.int Go.IntKind.u64 0), (Go.Value.int Go.IntKind.i64 0), (Go.Value.int Go.IntKind.u64 0), (Go.Value.int Go.IntKind.i64 0), (Go.Value.int Go.IntKind.i64 0), (Go.Value.int Go.IntKind.u64 0), (Go.Value.int Go.IntKind.i64 0), (Go.Value.int Go.IntKind.u64 0), (Go.Value.bool Bool.false)] [(0, 1, (Go.Value.int Go.IntKind.i64 1)), (1, 5, x13), (6, 15, x17)]) fun x18 => S.bd (bx (Go.Value.agg #[(Go.Value.int Go.IntKind.i64 0), (Go.Value.int Go.IntKind.i64 0), (Go.Value.int Go.IntKind.i64 0), (Go.Value.int Go.IntKind.u64 0), (Go.Value.int Go.IntKind.i64 0), (Go.Value.int Go.IntKind.u64 0), (Go.Value.int Go.IntKind.i64 0), (Go.Value.int Go.IntKind.i64 0), (Go.Value.int Go.IntKind.u64 0), (Go.Value.int Go.IntKind.i64 0), (Go.Value.int Go.IntKind.i64 0), (Go.Value.int Go.IntKind.u64 0), (Go.Value.int Go.IntKind.i64 0), (Go.Value.int Go.IntKind.u64 0), (Go.Value.int Go.IntKind.i64 0), (Go.Value.int Go.IntKind.i64 0), (Go.Value.int Go.IntKind.u64 0), (Go.Value.int Go.IntKind.i64 0), (Go.Value.int Go.IntKind.u64 0), (Go.Value.int Go.IntKind.i64 0), (Go.Value.int Go.IntKind.i64 0), (Go.Value.int Go.IntKind.i64 0), (Go.Value.int Go.IntKind.u64 0), (Go.Value.slice Option.none 0 0), (Go.Value.slice Option.none 0 0), (Go.Value.int Go.IntKind.i64 0), (Go.Value.int Go.IntKind.i64 0), (Go.Value.int Go.IntKind.u64 0), (Go.Value.int Go.IntKind.i64 0), (Go.Value.int Go.IntKind.u64 0), (Go.Value.int Go.IntKind.i64 0), (Go.Value.int Go.IntKind.i64 0), (Go.Value.int Go.IntKind.u64 0), (Go.Value.int Go.IntKind.i64 0), (Go.Value.int Go.IntKind.u64 0), (Go.Value.bool Bool.false)])) fun c19 => S.bd (stl c19 0 36 x18) fun c20 => S.bd (nck a0) fun x21 => S.bd (fld 15 x21) fun x22 => S.bd (ldc s x22) fun x23 => S.cnd x23 (S.bd (nck a0) fun x24 => S.bd (fld 16 x24) fun x25 => S.bd (lda s 5 x25) fun x26 => S.bd (stl c20 1 5 x26) fun c27 => S.bd (lal c27 0 36) fun x28 => S.bd (stl c1 0 36 x28) fun c29 => S.bd (lal c29 0 36) fun x30 => some (x30)) (S.bd (lal c20 0 36) fun x31 => S.bd (stl c1 0 36 x31) fun c32 => S.bd (lal c32 0 36) fun x33 => some (x33))

def leapfrogref12x_Seek_Next.t (S : Sig) (a0 : Value) (s : St) : Option Value :=
  S.bd (bx (Go.Value.agg #[(Go.Value.int Go.IntKind.i64 0), (Go.Value.int Go.IntKind.i64 0), (Go.Value.int Go.IntKind.i64 0), (Go.Value.int Go.IntKind.u64 0), (Go.Value.int Go.IntKind.i64 0), (Go.Value.int Go.IntKind.u64 0), (Go.Value.int Go.IntKind.i64 0), (Go.Value.int Go.IntKind.i64 0), (Go.Value.int Go.IntKind.u64 0), (Go.Value.int Go.IntKind.i64 0), (Go.Value.int Go.IntKind.i64 0), (Go.Value.int Go.IntKind.u64 0), (Go.Value.int Go.IntKind.i64 0), (Go.Value.int Go.IntKind.u64 0), (Go.Value.int Go.IntKind.i64 0), (Go.Value.int Go.IntKind.i64 0), (Go.Value.int Go.IntKind.u64 0), (Go.Value.int Go.IntKind.i64 0), (Go.Value.int Go.IntKind.u64 0), (Go.Value.int Go.IntKind.i64 0), (Go.Value.int Go.IntKind.i64 0), (Go.Value.int Go.IntKind.i64 0), (Go.Value.int Go.IntKind.u64 0), (Go.Value.slice Option.none 0 0), (Go.Value.slice Option.none 0 0), (Go.Value.int Go.IntKind.i64 0), (Go.Value.int Go.IntKind.i64 0), (Go.Value.int Go.IntKind.u64 0), (Go.Value.int Go.IntKind.i64 0), (Go.Value.int Go.IntKind.u64 0), (Go.Value.int Go.IntKind.i64 0), (Go.Value.int Go.IntKind.i64 0), (Go.Value.int Go.IntKind.u64 0), (Go.Value.int Go.IntKind.i64 0), (Go.Value.int Go.IntKind.u64 0), (Go.Value.bool Bool.false)])) fun c1 => S.bd (nck a0) fun x2 => S.bd (fld 23 x2) fun x3 => S.bd (ldc s x3) fun x4 => S.cnd x4 (S.bd (nck a0) fun x5 => S.bd (fld 24 x5) fun x6 => S.bd (lda s 15 x6) fun x7 => S.bd (bld [(Go.Value.int Go.IntKind.i64 0), (Go.Value.int Go.IntKind.i64 0), (Go.Value.int Go.IntKind.i64 0), (Go.Value.int Go.IntKind.u64 0), (Go.Value.int Go.IntKind.i64 0), (Go.Value.int Go.IntKind.u64 0), (Go.Value.int Go.IntKind.i64 0), (Go.Value.int Go.IntKind.i64 0), (Go.Value.int Go.IntKind.u64 0), (Go.Value.int Go.IntKind.i64 0), (Go.Value.int Go.IntKind.i64 0), (Go.Value.int Go.IntKind.u64 0), (Go.Value.int Go.IntKind.i64 0), (Go.Value.int Go.IntKind.u64 0), (Go.Value.int Go.IntKind.i64 0), (Go.Value.int Go.IntKind.i64 0), (Go.Value.int Go.IntKind.u64 0), (Go.Value.int Go.IntKind.i64 0), (Go.Value.int Go.IntKind.u64 0), (Go.Value.int Go.IntKind.i64 0), (Go.Value.int Go.IntKind.i64 0), (Go.Value.int Go.IntKind.i64 0), (Go.Value.int Go.IntKind.u64 0), (Go.Value.slice Option.none 0 0), (Go.Value.slice Option.none 0 0), (Go.Value.int Go.IntKind.i64 0), (Go.Value.int Go.IntKind.i64 0), (Go.Value.int Go.IntKind.u64 0), (Go.Value.int Go.IntKind.i64 0), (Go.Value.int Go.IntKind.u64 0), (Go.Value.int Go.IntKind.i64 0), (Go.Value.int Go.IntKind.i64 0), (Go.Value.int Go.IntKind.u64 0), (Go.Value.int Go.IntKind.i64 0), (Go.Value.int Go.IntKind.u64 0), (Go.Value.bool Bool.false)] [(0, 1, (Go.Value.int Go.IntKind.i64 3)), (21, 15, x7)]) fun x8 => S.bd (stl c1 0 36 x8) fun c9 => S.bd (lal c9 0 36) fun x10 => some (x10)) (leapfrogref12x_Seek_Next.t.p1 S a0 s c1)
def leapfrogref12x_Seek_Next.r (a0 : Value) (s : St) : Option Value := leapfrogref12x_Seek_Next.t std a0 s
def leapfrogref12x_Seek_Next.w : List Value → St → Option Value
  | [a0], s => leapfrogref12x_Seek_Next.r a0 s
  | _, _ => none
def leapfrogref12x_Seek_Next.an : An := ⟨33, true, [2, 3], [], [], [(3, [(0, 0, [], []), (1, 0, [], []), (2, 0, [], []), (3, 2, [], []), (4, 0, [], []), (5, 0, [], []), (6, 0, [], []), (7, 2, [], []), (8, 0, [], []), (9, 0, [], []), (10, 6, [], []), (11, 29, [], [])])]⟩
theorem leapfrogref12x_Seek_Next.ok (S : Sig) (a0 : Value) (s : St) : evG S Try.prog leapfrogref12x_Seek_Next.ctx leapfrogref12x_Seek_Next.an Try.f30 [a0] s = leapfrogref12x_Seek_Next.t S a0 s := by kernel_rfl
theorem leapfrogref12x_Seek_Next.cok : CtxOk Try.prog leapfrogref12x_Seek_Next.ctx := .nil
theorem leapfrogref12x_Seek_Next.draws : fnDraws leapfrogref12x_Seek_Next.an Try.f30 = true := by kernel_rfl
theorem leapfrogref12x_Seek_Next.can : callOk Try.prog 30 = true := by kernel_rfl
theorem leapfrogref12x_Seek_Next.sound : FnOk Try.prog 30 (.rd leapfrogref12x_Seek_Next.w) := FnOk.rd_of (evG_ok leapfrogref12x_Seek_Next.cok mixed (f := 30) (fn := Try.f30) (by kernel_rfl) leapfrogref12x_Seek_Next.draws) fun args s r h => by
  unfold leapfrogref12x_Seek_Next.w at h; split at h
  · rw [leapfrogref12x_Seek_Next.ok std]; exact h
  · simp at h


end
end Go.Proofs.Ytonnegfkokghdaa
