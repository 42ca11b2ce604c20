/-
  What the functions answer that SpliceIn, SpliceFrees reaches (part 0): for each function of the program a plain function over abstract values, and that the model answers as it does.
-/
import Derived.Test.YteiagjbjokldgaaSimZ
import Derived.Test.YteiagjbjokldgaaProg
import Derived.KernelRfl
set_option linter.unusedVariables false
set_option maxRecDepth 100000
namespace Go.Proofs.Yteiagjbjokldgaa
open Go.Sim
noncomputable section
theorem mixed : Try.prog.follows .mixedOrders = true := by kernel_rfl
/-! ### (*leapfrog/splice.Splice).end: function 47 -/
def splice_Splice_end.ctx : Ctx := []
def splice_Splice_end.t (S : Sig) (a0 a1 : Value) (s : St) : Option (Value × St) :=
  S.bd (bx a1) fun c1 => S.bd (lal c1 0 15) fun x2 => S.bd (nck a0) fun x3 => S.bd (fld 14 x3) fun x4 => S.bd (stv s 1 x4 (Go.Value.int Go.IntKind.i64 10)) fun s5 => S.bd (nck a0) fun x6 => S.bd (fld 29 x6) fun x7 => S.bd (stv s5 15 x7 x2) fun s8 => some ((Value.tuple ⟨[]⟩), s8)
def splice_Splice_end.v (a0 a1 : Value) (s : St) : Option (Value × St) := splice_Splice_end.t std a0 a1 s
def splice_Splice_end.w : List Value → St → Option (Value × St)
  | [a0, a1], s => splice_Splice_end.v a0 a1 s
  | _, _ => none
def splice_Splice_end.an : An := ⟨11, false, [3], [], [], [(1, [(0, 0, [], []), (1, 0, [], []), (2, 25, [], []), (3, 0, [], []), (4, 0, [], []), (5, 4, [], []), (6, 0, [], []), (7, 0, [], []), (8, 4, [], [])])], [], []⟩
theorem splice_Splice_end.ok (S : Sig) (a0 a1 : Value) (s : St) : evF S Try.prog splice_Splice_end.ctx splice_Splice_end.an Try.f47 [a0, a1] s = splice_Splice_end.t S a0 a1 s := by kernel_rfl
theorem splice_Splice_end.cok : CtxOk Try.prog splice_Splice_end.ctx := .nil
theorem splice_Splice_end.draws : fnDraws splice_Splice_end.an Try.f47 = true := by kernel_rfl
theorem splice_Splice_end.can : callOk Try.prog 47 = true := by kernel_rfl
theorem splice_Splice_end.sound : FnOk Try.prog 47 (.st splice_Splice_end.w) := FnOk.st_of (evF_ok splice_Splice_end.cok mixed (f := 47) (fn := Try.f47) (by kernel_rfl) splice_Splice_end.draws) fun args s r h => by
  unfold splice_Splice_end.w at h; split at h
  · rw [splice_Splice_end.ok std]; exact h
  · simp at h

/-! ### (*leapfrog/splice.Splice).Tell$1: function 46 -/
def splice_Splice_Tell_fn1.ctx : Ctx := [(47, .st splice_Splice_end.w)]
def splice_Splice_Tell_fn1.t (S : Sig) (a0 : Value) (s : St) : Option (Value × St) :=
  S.bd (ldc s a0) fun x1 => S.bd (ldc s a0) fun x2 => S.bd (nck x2) fun x3 => S.bd (fld 15 x3) fun x4 => S.bd (lda s 5 x4) fun x5 => S.bd (ldc s a0) fun x6 => S.bd (nck x6) fun x7 => S.bd (fld 21 x7) fun x8 => S.bd (lda s 5 x8) fun x9 => S.bd (bld [(Go.Value.int Go.IntKind.i64 0), (Go.Value.int Go.IntKind.u64 0), (Go.Value.slice Option.none 0 0), (Go.Value.slice Option.none 0 0), (Go.Value.int Go.IntKind.i64 0), (Go.Value.int Go.IntKind.i64 0), (Go.Value.int Go.IntKind.u64 0), (Go.Value.int Go.IntKind.i64 0), (Go.Value.int Go.IntKind.u64 0), (Go.Value.int Go.IntKind.i64 0), (Go.Value.int Go.IntKind.i64 0), (Go.Value.int Go.IntKind.u64 0), (Go.Value.int Go.IntKind.i64 0), (Go.Value.int Go.IntKind.u64 0), (Go.Value.bool Bool.false)] [(0, 1, (Go.Value.int Go.IntKind.i64 100)), (4, 5, x5), (9, 5, x9)]) fun x10 => S.bd (splice_Splice_end.v x1 x10 s) fun r11 => S.bd (ldc r11.2 a0) fun x12 => S.cnd (Value.bool (sameV x12 x2)) (S.bd (lda r11.2 5 x4) fun x13 => S.cnd (Value.bool (sameV x13 x5)) (S.bd (ldc r11.2 a0) fun x14 => S.cnd (Value.bool (sameV x14 x6)) (S.bd (lda r11.2 5 x8) fun x15 => S.cnd (Value.bool (sameV x15 x9)) (some ((Value.tuple ⟨[]⟩), r11.2)) (none)) (none)) (none)) (none)
def splice_Splice_Tell_fn1.v (a0 : Value) (s : St) : Option (Value × St) := splice_Splice_Tell_fn1.t std a0 s
def splice_Splice_Tell_fn1.w : List Value → St → Option (Value × St)
  | [a0], s => splice_Splice_Tell_fn1.v a0 s
  | _, _ => none
def splice_Splice_Tell_fn1.an : An := ⟨12, false, [], [], [], [(0, [(0, 2, [], []), (1, 2, [], []), (2, 0, [], []), (3, 0, [], []), (4, 2, [], []), (5, 2, [], []), (6, 0, [], []), (7, 0, [], []), (8, 2, [], []), (9, 0, [], []), (10, 4, [1, 4, 5, 8], [])])], [], []⟩
theorem splice_Splice_Tell_fn1.ok (S : Sig) (a0 : Value) (s : St) : evF S Try.prog splice_Splice_Tell_fn1.ctx splice_Splice_Tell_fn1.an Try.f46 [a0] s = splice_Splice_Tell_fn1.t S a0 s := by kernel_rfl
theorem splice_Splice_Tell_fn1.cok : CtxOk Try.prog splice_Splice_Tell_fn1.ctx := .cons splice_Splice_end.sound splice_Splice_end.can <| .nil
theorem splice_Splice_Tell_fn1.draws : fnDraws splice_Splice_Tell_fn1.an Try.f46 = true := by kernel_rfl
theorem splice_Splice_Tell_fn1.can : callOk Try.prog 46 = true := by kernel_rfl
theorem splice_Splice_Tell_fn1.sound : FnOk Try.prog 46 (.st splice_Splice_Tell_fn1.w) := FnOk.st_of (evF_ok splice_Splice_Tell_fn1.cok mixed (f := 46) (fn := Try.f46) (by kernel_rfl) splice_Splice_Tell_fn1.draws) fun args s r h => by
  unfold splice_Splice_Tell_fn1.w at h; split at h
  · rw [splice_Splice_Tell_fn1.ok std]; exact h
  · simp at h

/-! ### (*leapfrog/splice.Splice).wait$1: function 80 -/
def splice_Splice_wait_fn1.ctx : Ctx := []
def splice_Splice_wait_fn1.t (S : Sig) (a0 : Value) (s : St) : Option (Value × St) :=
  S.bd (ldc s a0) fun x1 => S.bd (nck x1) fun x2 => S.bd (fld 14 x2) fun x3 => S.bd (stv s 1 x3 (Go.Value.int Go.IntKind.i64 9)) fun s4 => some ((Value.tuple ⟨[]⟩), s4)
def splice_Splice_wait_fn1.v (a0 : Value) (s : St) : Option (Value × St) := splice_Splice_wait_fn1.t std a0 s
def splice_Splice_wait_fn1.w : List Value → St → Option (Value × St)
  | [a0], s => splice_Splice_wait_fn1.v a0 s
  | _, _ => none
def splice_Splice_wait_fn1.an : An := ⟨4, false, [], [], [], [], [], []⟩
theorem splice_Splice_wait_fn1.ok (S : Sig) (a0 : Value) (s : St) : evF S Try.prog splice_Splice_wait_fn1.ctx splice_Splice_wait_fn1.an Try.f80 [a0] s = splice_Splice_wait_fn1.t S a0 s := by kernel_rfl
theorem splice_Splice_wait_fn1.cok : CtxOk Try.prog splice_Splice_wait_fn1.ctx := .nil
theorem splice_Splice_wait_fn1.draws : fnDraws splice_Splice_wait_fn1.an Try.f80 = true := by kernel_rfl
theorem splice_Splice_wait_fn1.can : callOk Try.prog 80 = true := by kernel_rfl
theorem splice_Splice_wait_fn1.sound : FnOk Try.prog 80 (.st splice_Splice_wait_fn1.w) := FnOk.st_of (evF_ok splice_Splice_wait_fn1.cok mixed (f := 80) (fn := Try.f80) (by kernel_rfl) splice_Splice_wait_fn1.draws) fun args s r h => by
  unfold splice_Splice_wait_fn1.w at h; split at h
  · rw [splice_Splice_wait_fn1.ok std]; exact h
  · simp at h

/-! ### (*leapfrog/splice.Splice).done$1: function 81 -/
def splice_Splice_done_fn1.ctx : Ctx := [(47, .st splice_Splice_end.w)]
def splice_Splice_done_fn1.t (S : Sig) (a0 a1 : Value) (s : St) : Option (Value × St) :=
  S.bd (ldc s a0) fun x1 => S.bd (lda s 15 a1) fun x2 => S.bd (splice_Splice_end.v x1 x2 s) fun r3 => some ((Value.tuple ⟨[]⟩), r3.2)
def splice_Splice_done_fn1.v (a0 a1 : Value) (s : St) : Option (Value × St) := splice_Splice_done_fn1.t std a0 a1 s
def splice_Splice_done_fn1.w : List Value → St → Option (Value × St)
  | [a0, a1], s => splice_Splice_done_fn1.v a0 a1 s
  | _, _ => none
def splice_Splice_done_fn1.an : An := ⟨5, false, [], [], [], [], [], []⟩
theorem splice_Splice_done_fn1.ok (S : Sig) (a0 a1 : Value) (s : St) : evF S Try.prog splice_Splice_done_fn1.ctx splice_Splice_done_fn1.an Try.f81 [a0, a1] s = splice_Splice_done_fn1.t S a0 a1 s := by kernel_rfl
theorem splice_Splice_done_fn1.cok : CtxOk Try.prog splice_Splice_done_fn1.ctx := .cons splice_Splice_end.sound splice_Splice_end.can <| .nil
theorem splice_Splice_done_fn1.draws : fnDraws splice_Splice_done_fn1.an Try.f81 = true := by kernel_rfl
theorem splice_Splice_done_fn1.can : callOk Try.prog 81 = true := by kernel_rfl
theorem splice_Splice_done_fn1.sound : FnOk Try.prog 81 (.st splice_Splice_done_fn1.w) := FnOk.st_of (evF_ok splice_Splice_done_fn1.cok mixed (f := 81) (fn := Try.f81) (by kernel_rfl) splice_Splice_done_fn1.draws) fun args s r h => by
  unfold splice_Splice_done_fn1.w at h; split at h
  · rw [splice_Splice_done_fn1.ok std]; exact h
  · simp at h

/-! ### (*leapfrog/splice.Splice).fail$1: function 82 -/
def splice_Splice_fail_fn1.ctx : Ctx := [(47, .st splice_Splice_end.w)]
def splice_Splice_fail_fn1.t (S : Sig) (a0 a1 : Value) (s : St) : Option (Value × St) :=
  S.bd (ldc s a0) fun x1 => S.bd (ldc s a1) fun x2 => S.bd (bld [(Go.Value.int Go.IntKind.i64 0), (Go.Value.int Go.IntKind.u64 0), (Go.Value.slice Option.none 0 0), (Go.Value.slice Option.none 0 0), (Go.Value.int Go.IntKind.i64 0), (Go.Value.int Go.IntKind.i64 0), (Go.Value.int Go.IntKind.u64 0), (Go.Value.int Go.IntKind.i64 0), (Go.Value.int Go.IntKind.u64 0), (Go.Value.int Go.IntKind.i64 0), (Go.Value.int Go.IntKind.i64 0), (Go.Value.int Go.IntKind.u64 0), (Go.Value.int Go.IntKind.i64 0), (Go.Value.int Go.IntKind.u64 0), (Go.Value.bool Bool.false)] [(0, 1, x2)]) fun x3 => S.bd (splice_Splice_end.v x1 x3 s) fun r4 => some ((Value.tuple ⟨[]⟩), r4.2)
def splice_Splice_fail_fn1.v (a0 a1 : Value) (s : St) : Option (Value × St) := splice_Splice_fail_fn1.t std a0 a1 s
def splice_Splice_fail_fn1.w : List Value → St → Option (Value × St)
  | [a0, a1], s => splice_Splice_fail_fn1.v a0 a1 s
  | _, _ => none
def splice_Splice_fail_fn1.an : An := ⟨6, false, [], [], [], [], [], []⟩
theorem splice_Splice_fail_fn1.ok (S : Sig) (a0 a1 : Value) (s : St) : evF S Try.prog splice_Splice_fail_fn1.ctx splice_Splice_fail_fn1.an Try.f82 [a0, a1] s = splice_Splice_fail_fn1.t S a0 a1 s := by kernel_rfl
theorem splice_Splice_fail_fn1.cok : CtxOk Try.prog splice_Splice_fail_fn1.ctx := .cons splice_Splice_end.sound splice_Splice_end.can <| .nil
theorem splice_Splice_fail_fn1.draws : fnDraws splice_Splice_fail_fn1.an Try.f82 = true := by kernel_rfl
theorem splice_Splice_fail_fn1.can : callOk Try.prog 82 = true := by kernel_rfl
theorem splice_Splice_fail_fn1.sound : FnOk Try.prog 82 (.st splice_Splice_fail_fn1.w) := FnOk.st_of (evF_ok splice_Splice_fail_fn1.cok mixed (f := 82) (fn := Try.f82) (by kernel_rfl) splice_Splice_fail_fn1.draws) fun args s r h => by
  unfold splice_Splice_fail_fn1.w at h; split at h
  · rw [splice_Splice_fail_fn1.ok std]; exact h
  · simp at h

/-! ### (*leapfrog/splice.Splice).look$1: function 101 -/
def splice_Splice_look_fn1.ctx : Ctx := []
def splice_Splice_look_fn1.t (S : Sig) (a0 : Value) (s : St) : Option (Value × St) :=
  S.bd (ldc s a0) fun x1 => S.bd (nck x1) fun x2 => S.bd (fld 15 x2) fun x3 => S.bd (lda s 5 x3) fun x4 => S.bd (alv s (Go.Value.agg #[(Go.Value.int Go.IntKind.i64 0), (Go.Value.int Go.IntKind.i64 0), (Go.Value.int Go.IntKind.u64 0), (Go.Value.int Go.IntKind.i64 0), (Go.Value.int Go.IntKind.u64 0)])) fun r5 => S.bd (stv r5.2 5 r5.1 x4) fun s6 => S.bd (ldc s6 a0) fun x7 => S.bd (ldc s6 a0) fun x8 => S.bd (ldc s6 a0) fun x9 => S.bd (ldc s6 a0) fun x10 => S.bd (nck x10) fun x11 => S.bd (fld 21 x11) fun x12 => S.bd (lda s6 5 x12) fun x13 => S.bd (nck x7) fun x14 => S.bd (fld 20 x14) fun x15 => S.bd (stv s6 1 x15 r5.1) fun s16 => S.bd (ldc s16 a0) fun x17 => S.cnd (Value.bool (sameV x17 x8)) (S.bd (ldc s16 a0) fun x18 => S.cnd (Value.bool (sameV x18 x9)) (S.bd (ldc s16 a0) fun x19 => S.cnd (Value.bool (sameV x19 x10)) (S.bd (nck x8) fun x20 => S.bd (fld 15 x20) fun x21 => S.bd (stv s16 5 x21 x13) fun s22 => S.bd (ldc s22 a0) fun x23 => S.cnd (Value.bool (sameV x23 x9)) (S.bd (nck x9) fun x24 => S.bd (fld 14 x24) fun x25 => S.bd (stv s22 1 x25 (Go.Value.int Go.IntKind.i64 1)) fun s26 => some ((Value.tuple ⟨[]⟩), s26)) (none)) (none)) (none)) (none)
def splice_Splice_look_fn1.v (a0 : Value) (s : St) : Option (Value × St) := splice_Splice_look_fn1.t std a0 s
def splice_Splice_look_fn1.w : List Value → St → Option (Value × St)
  | [a0], s => splice_Splice_look_fn1.v a0 s
  | _, _ => none
def splice_Splice_look_fn1.an : An := ⟨19, false, [], [], [], [(1, [(0, 2, [], []), (1, 2, [], []), (2, 2, [], []), (3, 2, [], []), (4, 0, [], []), (5, 0, [], []), (6, 2, [], []), (7, 0, [], []), (8, 0, [], []), (9, 4, [1, 2, 3], []), (10, 0, [], []), (11, 0, [], []), (12, 4, [2], []), (13, 0, [], []), (14, 0, [], []), (15, 4, [], [])])], [], []⟩
theorem splice_Splice_look_fn1.ok (S : Sig) (a0 : Value) (s : St) : evF S Try.prog splice_Splice_look_fn1.ctx splice_Splice_look_fn1.an Try.f101 [a0] s = splice_Splice_look_fn1.t S a0 s := by kernel_rfl
theorem splice_Splice_look_fn1.cok : CtxOk Try.prog splice_Splice_look_fn1.ctx := .nil
theorem splice_Splice_look_fn1.draws : fnDraws splice_Splice_look_fn1.an Try.f101 = true := by kernel_rfl
theorem splice_Splice_look_fn1.can : callOk Try.prog 101 = true := by kernel_rfl
theorem splice_Splice_look_fn1.sound : FnOk Try.prog 101 (.st splice_Splice_look_fn1.w) := FnOk.st_of (evF_ok splice_Splice_look_fn1.cok mixed (f := 101) (fn := Try.f101) (by kernel_rfl) splice_Splice_look_fn1.draws) fun args s r h => by
  unfold splice_Splice_look_fn1.w at h; split at h
  · rw [splice_Splice_look_fn1.ok std]; exact h
  · simp at h

/-! ### leapfrog/leapfrogref01.Power: function 61 -/
def leapfrogref01x_Power.ctx : Ctx := []
def leapfrogref01x_Power.l2 (S : Sig) (rec6 : List Value → St → Option Cut) (xs4 : List Value) (s5 : St) : Option Cut :=
  S.bd (bin .gtr (xs4.getD 0 undef) (Go.Value.int Go.IntKind.i64 0)) fun x7 => S.cnd x7 (S.bd (bin .mul (xs4.getD 1 undef) (Go.Value.int Go.IntKind.u64 2)) fun x8 => S.bd (bin .sub (xs4.getD 0 undef) (Go.Value.int Go.IntKind.i64 1)) fun x9 => rec6 [x9, x8] s5) (some (0, [(xs4.getD 1 undef)], s5))

def leapfrogref01x_Power.t (S : Sig) (a0 : Value) (s : St) : Option Value :=
  S.bd (S.it (leapfrogref01x_Power.l2 S) [a0, (Go.Value.int Go.IntKind.u64 1)] s) fun r10 => some ((r10.2.1.getD 0 undef))
def leapfrogref01x_Power.r (a0 : Value) (s : St) : Option Value := leapfrogref01x_Power.t std a0 s
def leapfrogref01x_Power.w : List Value → St → Option Value
  | [a0], s => leapfrogref01x_Power.r a0 s
  | _, _ => none
def leapfrogref01x_Power.an : An := ⟨11, true, [], [(2, ⟨[.v 0, .v 3], [(.exit 0, [.v 3])]⟩)], [], [], [], []⟩
theorem leapfrogref01x_Power.ok (S : Sig) (a0 : Value) (s : St) : evG S Try.prog leapfrogref01x_Power.ctx leapfrogref01x_Power.an Try.f61 [a0] s = leapfrogref01x_Power.t S a0 s := by kernel_rfl
theorem leapfrogref01x_Power.cok : CtxOk Try.prog leapfrogref01x_Power.ctx := .nil
theorem leapfrogref01x_Power.draws : fnDraws leapfrogref01x_Power.an Try.f61 = true := by kernel_rfl
theorem leapfrogref01x_Power.can : callOk Try.prog 61 = true := by kernel_rfl
theorem leapfrogref01x_Power.sound : FnOk Try.prog 61 (.rd leapfrogref01x_Power.w) := FnOk.rd_of (evG_ok leapfrogref01x_Power.cok mixed (f := 61) (fn := Try.f61) (by kernel_rfl) leapfrogref01x_Power.draws) fun args s r h => by
  unfold leapfrogref01x_Power.w at h; split at h
  · rw [leapfrogref01x_Power.ok std]; exact h
  · simp at h

/-! ### leapfrog/leapfrogref01.Right: function 27 -/
def leapfrogref01x_Right.ctx : Ctx := [(61, .rd leapfrogref01x_Power.w)]
def leapfrogref01x_Right.t (S : Sig) (a0 : Value) (s : St) : Option Value :=
  S.bd (bx a0) fun c1 => S.bd (lcl c1 0) fun x2 => S.bd (bin .geq x2 (Go.Value.int Go.IntKind.i64 0)) fun x3 => S.bd (S.gd x3 true (lcl c1 0)) fun x4 => S.bd (S.gd x3 true (bin .leq x4 (Go.Value.int Go.IntKind.i64 32))) fun x5 => S.bd (pik x3 x5 (Go.Value.bool Bool.false)) fun x6 => S.bd (S.gd x6 true (lcl c1 1)) fun x7 => S.bd (S.gd x6 true (lcl c1 0)) fun x8 => S.bd (S.gd x6 true (leapfrogref01x_Power.r x8 s)) fun x9 => S.bd (S.gd x6 true (bin .lss x7 x9)) fun x10 => S.bd (pik x6 x10 (Go.Value.bool Bool.false)) fun x11 => some (x11)
def leapfrogref01x_Right.r (a0 : Value) (s : St) : Option Value := leapfrogref01x_Right.t std a0 s
def leapfrogref01x_Right.w : List Value → St → Option Value
  | [a0], s => leapfrogref01x_Right.r a0 s
  | _, _ => none
def leapfrogref01x_Right.an : An := ⟨19, true, [1], [], [], [(1, [(0, 0, [], []), (1, 9, [], []), (2, 0, [], []), (3, 0, [], []), (4, 0, [], []), (5, 9, [], []), (6, 0, [], []), (7, 0, [], []), (8, 0, [], []), (9, 0, [], []), (10, 9, [], []), (11, 0, [], []), (12, 9, [], []), (13, 3, [], []), (14, 0, [], []), (15, 0, [], []), (16, 0, [], [])])], [], []⟩
theorem leapfrogref01x_Right.ok (S : Sig) (a0 : Value) (s : St) : evG S Try.prog leapfrogref01x_Right.ctx leapfrogref01x_Right.an Try.f27 [a0] s = leapfrogref01x_Right.t S a0 s := by kernel_rfl
theorem leapfrogref01x_Right.cok : CtxOk Try.prog leapfrogref01x_Right.ctx := .cons leapfrogref01x_Power.sound leapfrogref01x_Power.can <| .nil
theorem leapfrogref01x_Right.draws : fnDraws leapfrogref01x_Right.an Try.f27 = true := by kernel_rfl
theorem leapfrogref01x_Right.can : callOk Try.prog 27 = true := by kernel_rfl
theorem leapfrogref01x_Right.sound : FnOk Try.prog 27 (.rd leapfrogref01x_Right.w) := FnOk.rd_of (evG_ok leapfrogref01x_Right.cok mixed (f := 27) (fn := Try.f27) (by kernel_rfl) leapfrogref01x_Right.draws) fun args s r h => by
  unfold leapfrogref01x_Right.w at h; split at h
  · rw [leapfrogref01x_Right.ok std]; exact h
  · simp at h

/-! ### leapfrog/leapfrogref01.Bits: function 29 -/
def leapfrogref01x_Bits.ctx : Ctx := []
def leapfrogref01x_Bits.l4 (S : Sig) (rec16 : List Value → St → Option Cut) (xs14 : List Value) (s15 : St) : Option Cut :=
  S.bd (bin .geq (xs14.getD 2 undef) (Go.Value.int Go.IntKind.i64 0)) fun x17 => S.cnd x17 (S.bd (bin .rem (xs14.getD 1 undef) (Go.Value.int Go.IntKind.u64 2)) fun x18 => S.bd (cvi .i64 x18) fun x19 => S.bd (idx s15 1 (xs14.getD 0 undef) (xs14.getD 2 undef)) fun x20 => S.bd (stv s15 1 x20 x19) fun s21 => S.bd (bin .quo (xs14.getD 1 undef) (Go.Value.int Go.IntKind.u64 2)) fun x22 => S.bd (bin .sub (xs14.getD 2 undef) (Go.Value.int Go.IntKind.i64 1)) fun x23 => rec16 [(xs14.getD 0 undef), x22, x23] s21) (some (0, [(xs14.getD 0 undef)], s15))

def leapfrogref01x_Bits.t (S : Sig) (a0 : Value) (s : St) : Option (Value × St) :=
  S.bd (bx a0) fun c1 => S.bd (lcl c1 0) fun x2 => S.bd (mks s 1 8 [(Go.Value.int Go.IntKind.i64 0)] x2 x2) fun r3 => S.bd (lcl c1 1) fun x4 => S.bd (lcl c1 0) fun x5 => S.bd (bin .sub x5 (Go.Value.int Go.IntKind.i64 1)) fun x6 => S.bd (S.it (leapfrogref01x_Bits.l4 S) [r3.1, x4, x6] r3.2) fun r24 => some ((r24.2.1.getD 0 undef), r24.2.2)
def leapfrogref01x_Bits.v (a0 : Value) (s : St) : Option (Value × St) := leapfrogref01x_Bits.t std a0 s
def leapfrogref01x_Bits.w : List Value → St → Option (Value × St)
  | [a0], s => leapfrogref01x_Bits.v a0 s
  | _, _ => none
def leapfrogref01x_Bits.an : An := ⟨27, false, [1], [(4, ⟨[.v 3, .v 4, .v 5], [(.exit 0, [.v 3])]⟩)], [], [], [], []⟩
theorem leapfrogref01x_Bits.ok (S : Sig) (a0 : Value) (s : St) : evF S Try.prog leapfrogref01x_Bits.ctx leapfrogref01x_Bits.an Try.f29 [a0] s = leapfrogref01x_Bits.t S a0 s := by kernel_rfl
theorem leapfrogref01x_Bits.cok : CtxOk Try.prog leapfrogref01x_Bits.ctx := .nil
theorem leapfrogref01x_Bits.draws : fnDraws leapfrogref01x_Bits.an Try.f29 = true := by kernel_rfl
theorem leapfrogref01x_Bits.can : callOk Try.prog 29 = true := by kernel_rfl
theorem leapfrogref01x_Bits.sound : FnOk Try.prog 29 (.st leapfrogref01x_Bits.w) := FnOk.st_of (evF_ok leapfrogref01x_Bits.cok mixed (f := 29) (fn := Try.f29) (by kernel_rfl) leapfrogref01x_Bits.draws) fun args s r h => by
  unfold leapfrogref01x_Bits.w at h; split at h
  · rw [leapfrogref01x_Bits.ok std]; exact h
  · simp at h

/-! ### leapfrog/leapfrogref01.Of: function 28 -/
def leapfrogref01x_Of.ctx : Ctx := []
def leapfrogref01x_Of.l3 (S : Sig) (rec18 : List Value → St → Option Cut) (xs16 : List Value) (s17 : St) : Option Cut :=
  S.bd (lenL (xs16.getD 0 undef)) fun x19 => S.bd (bin .lss (xs16.getD 1 undef) x19) fun x20 => S.cnd x20 (S.bd (lcl (cellsA (xs16.getD 3 undef)) 1) fun x21 => S.bd (bin .mul x21 (Go.Value.int Go.IntKind.u64 2)) fun x22 => S.bd (idx s17 1 (xs16.getD 0 undef) (xs16.getD 1 undef)) fun x23 => S.bd (ldc s17 x23) fun x24 => S.bd (cvi .u64 x24) fun x25 => S.bd (bin .add x22 x25) fun x26 => S.bd (stl (cellsA (xs16.getD 3 undef)) 1 1 x26) fun c27 => S.bd (bin .add (xs16.getD 1 undef) (Go.Value.int Go.IntKind.i64 1)) fun x28 => rec18 [(xs16.getD 0 undef), x28, (Value.agg ⟨(cellsA (xs16.getD 2 undef))⟩), (Value.agg ⟨c27⟩)] s17) (some (0, [(Value.agg ⟨(cellsA (xs16.getD 2 undef))⟩), (Value.agg ⟨(cellsA (xs16.getD 3 undef))⟩)], s17))

def leapfrogref01x_Of.t (S : Sig) (a0 : Value) (s : St) : Option Value :=
  S.bd (bx (Go.Value.agg #[(Go.Value.int Go.IntKind.i64 0), (Go.Value.int Go.IntKind.u64 0)])) fun c1 => S.bd (lenL a0) fun x2 => S.bd (bld [(Go.Value.int Go.IntKind.i64 0), (Go.Value.int Go.IntKind.u64 0)] [(0, 1, x2)]) fun x3 => S.bd (bx (Go.Value.agg #[(Go.Value.int Go.IntKind.i64 0), (Go.Value.int Go.IntKind.u64 0)])) fun c4 => S.bd (stl c4 0 2 x3) fun c5 => S.bd (S.it (leapfrogref01x_Of.l3 S) [a0, (Go.Value.int Go.IntKind.i64 0), (Value.agg ⟨c1⟩), (Value.agg ⟨c5⟩)] s) fun r29 => S.bd (lal (cellsA (r29.2.1.getD 1 undef)) 0 2) fun x30 => S.bd (stl (cellsA (r29.2.1.getD 0 undef)) 0 2 x30) fun c31 => S.bd (lal c31 0 2) fun x32 => some (x32)
def leapfrogref01x_Of.r (a0 : Value) (s : St) : Option Value := leapfrogref01x_Of.t std a0 s
def leapfrogref01x_Of.w : List Value → St → Option Value
  | [a0], s => leapfrogref01x_Of.r a0 s
  | _, _ => none
def leapfrogref01x_Of.an : An := ⟨25, true, [2, 3], [(3, ⟨[.v 0, .p 2 2 0, .p 3 3 0, .v 4, .l 2, .l 3], [(.exit 0, [.p 2 2 0, .p 3 3 0, .l 2, .l 3])]⟩)], [], [(5, [(0, 0, [], []), (1, 25, [], []), (2, 0, [], []), (3, 0, [], []), (4, 0, [], []), (5, 2, [], []), (6, 2, [], []), (7, 0, [], []), (8, 0, [], []), (9, 0, [], []), (10, 29, [], [])])], [], []⟩
theorem leapfrogref01x_Of.ok (S : Sig) (a0 : Value) (s : St) : evG S Try.prog leapfrogref01x_Of.ctx leapfrogref01x_Of.an Try.f28 [a0] s = leapfrogref01x_Of.t S a0 s := by kernel_rfl
theorem leapfrogref01x_Of.cok : CtxOk Try.prog leapfrogref01x_Of.ctx := .nil
theorem leapfrogref01x_Of.draws : fnDraws leapfrogref01x_Of.an Try.f28 = true := by kernel_rfl
theorem leapfrogref01x_Of.can : callOk Try.prog 28 = true := by kernel_rfl
theorem leapfrogref01x_Of.sound : FnOk Try.prog 28 (.rd leapfrogref01x_Of.w) := FnOk.rd_of (evG_ok leapfrogref01x_Of.cok mixed (f := 28) (fn := Try.f28) (by kernel_rfl) leapfrogref01x_Of.draws) fun args s r h => by
  unfold leapfrogref01x_Of.w at h; split at h
  · rw [leapfrogref01x_Of.ok std]; exact h
  · simp at h

/-! ### leapfrog/leapfrogref01.Prefix: function 8 -/
def leapfrogref01x_Prefix.ctx : Ctx := [(27, .rd leapfrogref01x_Right.w), (29, .st leapfrogref01x_Bits.w), (28, .rd leapfrogref01x_Of.w)]
def leapfrogref01x_Prefix.t (S : Sig) (a0 a1 : Value) (s : St) : Option (Value × St) :=
  S.bd (bx a0) fun c1 => S.bd (bx (Go.Value.agg #[(Go.Value.int Go.IntKind.i64 0), (Go.Value.int Go.IntKind.u64 0)])) fun c2 => S.bd (lal c1 0 2) fun x3 => S.bd (leapfrogref01x_Right.r x3 s) fun x4 => S.bd (un .not x4) fun x5 => S.cnd x5 (S.bd (bld [(Go.Value.int Go.IntKind.i64 0), (Go.Value.int Go.IntKind.u64 0)] []) fun x6 => S.bd (stl c2 0 2 x6) fun c7 => S.bd (lal c7 0 2) fun x8 => some ((Value.tuple ⟨[x8, (Go.Value.int Go.IntKind.i64 10)]⟩), s)) (S.bd (bin .lss a1 (Go.Value.int Go.IntKind.i64 0)) fun x9 => S.bd (S.gd x9 false (some a1)) fun x10 => S.bd (S.gd x9 false (lcl c1 0)) fun x11 => S.bd (S.gd x9 false (bin .gtr x10 x11)) fun x12 => S.bd (pik x9 (Go.Value.bool Bool.true) x12) fun x13 => S.cnd x13 (S.bd (bld [(Go.Value.int Go.IntKind.i64 0), (Go.Value.int Go.IntKind.u64 0)] []) fun x14 => S.bd (stl c2 0 2 x14) fun c15 => S.bd (lal c15 0 2) fun x16 => some ((Value.tuple ⟨[x16, (Go.Value.int Go.IntKind.i64 5)]⟩), s)) (S.bd (lal c1 0 2) fun x17 => S.bd (leapfrogref01x_Bits.v x17 s) fun r18 => S.bd (slc r18.2 1 r18.1 none (some a1) none) fun x19 => S.bd (leapfrogref01x_Of.r x19 r18.2) fun x20 => S.bd (stl c2 0 2 x20) fun c21 => S.bd (lal c21 0 2) fun x22 => some ((Value.tuple ⟨[x22, (Go.Value.int Go.IntKind.i64 0)]⟩), r18.2)))
def leapfrogref01x_Prefix.v (a0 a1 : Value) (s : St) : Option (Value × St) := leapfrogref01x_Prefix.t std a0 a1 s
def leapfrogref01x_Prefix.w : List Value → St → Option (Value × St)
  | [a0, a1], s => leapfrogref01x_Prefix.v a0 a1 s
  | _, _ => none
def leapfrogref01x_Prefix.an : An := ⟨24, false, [2, 4], [], [], [], [], []⟩
theorem leapfrogref01x_Prefix.ok (S : Sig) (a0 a1 : Value) (s : St) : evF S Try.prog leapfrogref01x_Prefix.ctx leapfrogref01x_Prefix.an Try.f8 [a0, a1] s = leapfrogref01x_Prefix.t S a0 a1 s := by kernel_rfl
theorem leapfrogref01x_Prefix.cok : CtxOk Try.prog leapfrogref01x_Prefix.ctx := .cons leapfrogref01x_Right.sound leapfrogref01x_Right.can <| .cons leapfrogref01x_Bits.sound leapfrogref01x_Bits.can <| .cons leapfrogref01x_Of.sound leapfrogref01x_Of.can <| .nil
theorem leapfrogref01x_Prefix.draws : fnDraws leapfrogref01x_Prefix.an Try.f8 = true := by kernel_rfl
theorem leapfrogref01x_Prefix.can : callOk Try.prog 8 = true := by kernel_rfl
theorem leapfrogref01x_Prefix.sound : FnOk Try.prog 8 (.st leapfrogref01x_Prefix.w) := FnOk.st_of (evF_ok leapfrogref01x_Prefix.cok mixed (f := 8) (fn := Try.f8) (by kernel_rfl) leapfrogref01x_Prefix.draws) fun args s r h => by
  unfold leapfrogref01x_Prefix.w at h; split at h
  · rw [leapfrogref01x_Prefix.ok std]; exact h
  · simp at h

/-! ### leapfrog/leapfrogref01.Prefix: function 8, as a reading -/
def leapfrogref01x_PrefixQ.r (a0 a1 : Value) (s : St) : Option Value := frzR (fun s => leapfrogref01x_Prefix.v a0 a1 s) s
def leapfrogref01x_PrefixQ.w : List Value → St → Option Value := fun args s => frzR (leapfrogref01x_Prefix.w args) s
theorem leapfrogref01x_PrefixQ.can : callOk Try.prog 8 = true := leapfrogref01x_Prefix.can
theorem leapfrogref01x_PrefixQ.sound : FnOk Try.prog 8 (.rd leapfrogref01x_PrefixQ.w) := FnOk.frozen leapfrogref01x_Prefix.sound

/-! ### leapfrog/leapfrogref11.Check: function 9 -/
def leapfrogref11x_Check.ctx : Ctx := [(27, .rd leapfrogref01x_Right.w)]
def leapfrogref11x_Check.l10 (S : Sig) (rec93 : List Value → St → Option Cut) (xs91 : List Value) (s92 : St) : Option Cut :=
  S.bd (bin .lss (xs91.getD 3 undef) (xs91.getD 2 undef)) fun x94 => S.cnd x94 (S.bd (idx s92 5 (xs91.getD 1 undef) (xs91.getD 3 undef)) fun x95 => S.bd (fld 0 x95) fun x96 => S.bd (ldc s92 x96) fun x97 => S.bd (lcl (cellsA (xs91.getD 14 undef)) 0) fun x98 => S.bd (eqb [1] false false x97 x98) fun x99 => S.bd (S.gd x99 false (some (xs91.getD 1 undef))) fun x100 => S.bd (S.gd x99 false (some (xs91.getD 3 undef))) fun x101 => S.bd (S.gd x99 false (idx s92 5 x100 x101)) fun x102 => S.bd (S.gd x99 false (fld 1 x102)) fun x103 => S.bd (S.gd x99 false (lda s92 2 x103)) fun x104 => S.bd (S.gd x99 false (lal (cellsA (xs91.getD 14 undef)) 1 2)) fun x105 => S.bd (S.gd x99 false (eqb [1, 1] true false x104 x105)) fun x106 => S.bd (pik x99 (Go.Value.bool Bool.true) x106) fun x107 => S.cnd x107 (some (1, [(Go.Value.int Go.IntKind.i64 110)], s92)) (S.bd (bin .add (xs91.getD 3 undef) (Go.Value.int Go.IntKind.i64 1)) fun x108 => rec93 [(xs91.getD 0 undef), (xs91.getD 1 undef), (xs91.getD 2 undef), x108, (xs91.getD 4 undef), (xs91.getD 5 undef), (xs91.getD 6 undef), (xs91.getD 7 undef), (xs91.getD 8 undef), (xs91.getD 9 undef), (xs91.getD 10 undef), (xs91.getD 11 undef), (xs91.getD 12 undef), (xs91.getD 13 undef), (Value.agg ⟨(cellsA (xs91.getD 14 undef))⟩)] s92)) (some (0, [(xs91.getD 0 undef), (xs91.getD 1 undef), (xs91.getD 2 undef), (xs91.getD 4 undef), (xs91.getD 5 undef), (xs91.getD 6 undef), (xs91.getD 7 undef), (xs91.getD 8 undef), (xs91.getD 9 undef), (xs91.getD 10 undef), (xs91.getD 11 undef), (xs91.getD 12 undef), (xs91.getD 13 undef)], s92))

def leapfrogref11x_Check.l4 (S : Sig) (rec68 : List Value → St → Option Cut) (xs66 : List Value) (s67 : St) : Option Cut :=
  S.bd (lenL (xs66.getD 1 undef)) fun x69 => S.bd (bin .lss (xs66.getD 2 undef) x69) fun x70 => S.cnd x70 (S.bd (idx s67 5 (xs66.getD 1 undef) (xs66.getD 2 undef)) fun x71 => S.bd (lda s67 5 x71) fun x72 => S.bd (bx (Go.Value.agg #[(Go.Value.int Go.IntKind.i64 0), (Go.Value.int Go.IntKind.i64 0), (Go.Value.int Go.IntKind.u64 0), (Go.Value.int Go.IntKind.i64 0), (Go.Value.int Go.IntKind.u64 0)])) fun c73 => S.bd (stl c73 0 5 x72) fun c74 => S.bd (lcl c74 0) fun x75 => S.bd (bin .lss x75 (Go.Value.int Go.IntKind.i64 2)) fun x76 => S.bd (S.gd x76 false (lcl c74 0)) fun x77 => S.bd (S.gd x76 false (bin .geq x77 (Go.Value.int Go.IntKind.i64 1024))) fun x78 => S.bd (pik x76 (Go.Value.bool Bool.true) x78) fun x79 => S.bd (S.gd x79 false (lcl c74 1)) fun x80 => S.bd (S.gd x79 false (eqb [1] false true x80 (Go.Value.int Go.IntKind.i64 2))) fun x81 => S.bd (pik x79 (Go.Value.bool Bool.true) x81) fun x82 => S.bd (S.gd x82 false (lal c74 3 2)) fun x83 => S.bd (S.gd x82 false (leapfrogref01x_Right.r x83 s67)) fun x84 => S.bd (S.gd x82 false (un .not x84)) fun x85 => S.bd (pik x82 (Go.Value.bool Bool.true) x85) fun x86 => S.bd (S.gd x86 false (lcl c74 3)) fun x87 => S.bd (S.gd x86 false (some (xs66.getD 0 undef))) fun x88 => S.bd (S.gd x86 false (eqb [1] false true x87 x88)) fun x89 => S.bd (pik x86 (Go.Value.bool Bool.true) x89) fun x90 => S.cnd x90 (some (1, [(Go.Value.int Go.IntKind.i64 110)], s67)) (S.bd (S.it (leapfrogref11x_Check.l10 S) [(xs66.getD 0 undef), (xs66.getD 1 undef), (xs66.getD 2 undef), (Go.Value.int Go.IntKind.i64 0), x77, x78, x80, x81, x83, x84, x85, x87, x88, x89, (Value.agg ⟨c74⟩)] s67) fun r109 => if r109.1 = 0 then (S.bd (bin .add (r109.2.1.getD 2 undef) (Go.Value.int Go.IntKind.i64 1)) fun x110 => rec68 [(r109.2.1.getD 0 undef), (r109.2.1.getD 1 undef), x110] r109.2.2) else (some (1, [(r109.2.1.getD 0 undef)], r109.2.2)))) (some (0, [], s67))

def leapfrogref11x_Check.t (S : Sig) (a0 a1 : Value) (s : St) : Option Value :=
  S.bd (bin .lss a0 (Go.Value.int Go.IntKind.i64 0)) fun x1 => S.bd (S.gd x1 false (some a0)) fun x2 => S.bd (S.gd x1 false (bin .gtr x2 (Go.Value.int Go.IntKind.i64 32))) fun x3 => S.bd (pik x1 (Go.Value.bool Bool.true) x3) fun x4 => S.bd (S.gd x4 false (some a1)) fun x5 => S.bd (S.gd x4 false (lenL x5)) fun x6 => S.bd (S.gd x4 false (bin .gtr x6 (Go.Value.int Go.IntKind.i64 1022))) fun x7 => S.bd (pik x4 (Go.Value.bool Bool.true) x7) fun x8 => S.cnd x8 (some ((Go.Value.int Go.IntKind.i64 110))) (S.bd (S.it (leapfrogref11x_Check.l4 S) [a0, a1, (Go.Value.int Go.IntKind.i64 0)] s) fun r111 => if r111.1 = 0 then (some ((Go.Value.int Go.IntKind.i64 0))) else (some ((r111.2.1.getD 0 undef))))
def leapfrogref11x_Check.r (a0 a1 : Value) (s : St) : Option Value := leapfrogref11x_Check.t std a0 a1 s
def leapfrogref11x_Check.w : List Value → St → Option Value
  | [a0, a1], s => leapfrogref11x_Check.r a0 a1 s
  | _, _ => none
def leapfrogref11x_Check.an : An := ⟨79, true, [6], [(10, ⟨[.v 0, .v 1, .v 5, .p 6 6 0, .v 7, .v 34, .v 35, .v 40, .v 41, .v 45, .v 46, .v 47, .v 52, .v 53, .v 54, .l 6], [(.exit 2, [.v 0, .v 1, .v 5, .v 34, .v 35, .v 40, .v 41, .v 45, .v 46, .v 47, .v 52, .v 53, .v 54]), (.ret, [.v 4])]⟩), (4, ⟨[.v 0, .v 1, .v 5], [(.exit 0, []), (.ret, [.v 4])]⟩)], [], [(12, [(0, 0, [], []), (1, 0, [], []), (2, 2, [], []), (3, 0, [], []), (4, 2, [], []), (5, 0, [], []), (6, 49, [], []), (7, 0, [], []), (8, 0, [], []), (9, 0, [], []), (10, 0, [], []), (11, 2, [], []), (12, 0, [], []), (13, 2, [], []), (14, 0, [], []), (15, 49, [], []), (16, 0, [], []), (17, 0, [], [])])], [], []⟩
theorem leapfrogref11x_Check.ok (S : Sig) (a0 a1 : Value) (s : St) : evG S Try.prog leapfrogref11x_Check.ctx leapfrogref11x_Check.an Try.f9 [a0, a1] s = leapfrogref11x_Check.t S a0 a1 s := by kernel_rfl
theorem leapfrogref11x_Check.cok : CtxOk Try.prog leapfrogref11x_Check.ctx := .cons leapfrogref01x_Right.sound leapfrogref01x_Right.can <| .nil
theorem leapfrogref11x_Check.draws : fnDraws leapfrogref11x_Check.an Try.f9 = true := by kernel_rfl
theorem leapfrogref11x_Check.can : callOk Try.prog 9 = true := by kernel_rfl
theorem leapfrogref11x_Check.sound : FnOk Try.prog 9 (.rd leapfrogref11x_Check.w) := FnOk.rd_of (evG_ok leapfrogref11x_Check.cok mixed (f := 9) (fn := Try.f9) (by kernel_rfl) leapfrogref11x_Check.draws) fun args s r h => by
  unfold leapfrogref11x_Check.w at h; split at h
  · rw [leapfrogref11x_Check.ok std]; exact h
  · simp at h

/-! ### leapfrog/leapfrogref09.Head: function 42 -/
def leapfrogref09x_Head.ctx : Ctx := []
def leapfrogref09x_Head.t (S : Sig) (a0 : Value) (s : St) : Option Value :=
  S.bd (bx (Go.Value.agg #[(Go.Value.int Go.IntKind.i64 0), (Go.Value.int Go.IntKind.i64 0), (Go.Value.int Go.IntKind.u64 0), (Go.Value.int Go.IntKind.i64 0), (Go.Value.int Go.IntKind.u64 0)])) fun c1 => S.bd (bin .lss a0 (Go.Value.int Go.IntKind.i64 0)) fun x2 => S.bd (S.gd x2 false (some a0)) fun x3 => S.bd (S.gd x2 false (bin .gtr x3 (Go.Value.int Go.IntKind.i64 32))) fun x4 => S.bd (pik x2 (Go.Value.bool Bool.true) x4) fun x5 => S.cnd x5 (S.bd (bld [(Go.Value.int Go.IntKind.i64 0), (Go.Value.int Go.IntKind.i64 0), (Go.Value.int Go.IntKind.u64 0), (Go.Value.int Go.IntKind.i64 0), (Go.Value.int Go.IntKind.u64 0)] []) fun x6 => S.bd (stl c1 0 5 x6) fun c7 => S.bd (lal c7 0 5) fun x8 => some ((Value.tuple ⟨[x8, (Go.Value.int Go.IntKind.i64 90)]⟩))) (S.bd (bld [(Go.Value.int Go.IntKind.i64 0), (Go.Value.int Go.IntKind.u64 0)] [(0, 1, (Go.Value.int Go.IntKind.i64 1))]) fun x9 => S.bd (bld [(Go.Value.int Go.IntKind.i64 0), (Go.Value.int Go.IntKind.u64 0)] [(0, 1, a0)]) fun x10 => S.bd (bld [(Go.Value.int Go.IntKind.i64 0), (Go.Value.int Go.IntKind.i64 0), (Go.Value.int Go.IntKind.u64 0), (Go.Value.int Go.IntKind.i64 0), (Go.Value.int Go.IntKind.u64 0)] [(0, 1, (Go.Value.int Go.IntKind.i64 0)), (1, 2, x9), (3, 2, x10)]) fun x11 => S.bd (stl c1 0 5 x11) fun c12 => S.bd (lal c12 0 5) fun x13 => some ((Value.tuple ⟨[x13, (Go.Value.int Go.IntKind.i64 0)]⟩)))
def leapfrogref09x_Head.r (a0 : Value) (s : St) : Option Value := leapfrogref09x_Head.t std a0 s
def leapfrogref09x_Head.w : List Value → St → Option Value
  | [a0], s => leapfrogref09x_Head.r a0 s
  | _, _ => none
def leapfrogref09x_Head.an : An := ⟨15, true, [2], [], [], [], [], []⟩
theorem leapfrogref09x_Head.ok (S : Sig) (a0 : Value) (s : St) : evG S Try.prog leapfrogref09x_Head.ctx leapfrogref09x_Head.an Try.f42 [a0] s = leapfrogref09x_Head.t S a0 s := by kernel_rfl
theorem leapfrogref09x_Head.cok : CtxOk Try.prog leapfrogref09x_Head.ctx := .nil
theorem leapfrogref09x_Head.draws : fnDraws leapfrogref09x_Head.an Try.f42 = true := by kernel_rfl
theorem leapfrogref09x_Head.can : callOk Try.prog 42 = true := by kernel_rfl
theorem leapfrogref09x_Head.sound : FnOk Try.prog 42 (.rd leapfrogref09x_Head.w) := FnOk.rd_of (evG_ok leapfrogref09x_Head.cok mixed (f := 42) (fn := Try.f42) (by kernel_rfl) leapfrogref09x_Head.draws) fun args s r h => by
  unfold leapfrogref09x_Head.w at h; split at h
  · rw [leapfrogref09x_Head.ok std]; exact h
  · simp at h

/-! ### leapfrog/leapfroglaw13.at: function 62 -/
def leapfroglaw13x_at.ctx : Ctx := []
def leapfroglaw13x_at.t (S : Sig) (a0 : Value) (s : St) : Option Value :=
  S.bd (bx (Go.Value.agg #[(Go.Value.int Go.IntKind.i64 0), (Go.Value.int Go.IntKind.u64 0)])) fun c1 => S.bd (bld [(Go.Value.int Go.IntKind.i64 0), (Go.Value.int Go.IntKind.u64 0)] [(0, 1, (Go.Value.int Go.IntKind.i64 2)), (1, 1, a0)]) fun x2 => S.bd (stl c1 0 2 x2) fun c3 => S.bd (lal c3 0 2) fun x4 => some (x4)
def leapfroglaw13x_at.r (a0 : Value) (s : St) : Option Value := leapfroglaw13x_at.t std a0 s
def leapfroglaw13x_at.w : List Value → St → Option Value
  | [a0], s => leapfroglaw13x_at.r a0 s
  | _, _ => none
def leapfroglaw13x_at.an : An := ⟨5, true, [2], [], [], [], [], []⟩
theorem leapfroglaw13x_at.ok (S : Sig) (a0 : Value) (s : St) : evG S Try.prog leapfroglaw13x_at.ctx leapfroglaw13x_at.an Try.f62 [a0] s = leapfroglaw13x_at.t S a0 s := by kernel_rfl
theorem leapfroglaw13x_at.cok : CtxOk Try.prog leapfroglaw13x_at.ctx := .nil
theorem leapfroglaw13x_at.draws : fnDraws leapfroglaw13x_at.an Try.f62 = true := by kernel_rfl
theorem leapfroglaw13x_at.can : callOk Try.prog 62 = true := by kernel_rfl
theorem leapfroglaw13x_at.sound : FnOk Try.prog 62 (.rd leapfroglaw13x_at.w) := FnOk.rd_of (evG_ok leapfroglaw13x_at.cok mixed (f := 62) (fn := Try.f62) (by kernel_rfl) leapfroglaw13x_at.draws) fun args s r h => by
  unfold leapfroglaw13x_at.w at h; split at h
  · rw [leapfroglaw13x_at.ok std]; exact h
  · simp at h

/-! ### leapfrog/leapfroglaw13.conf: function 30 -/
def leapfroglaw13x_conf.ctx : Ctx := [(42, .rd leapfrogref09x_Head.w), (62, .rd leapfroglaw13x_at.w)]
def leapfroglaw13x_conf.t (S : Sig) (s : St) : Option Value :=
  S.bd (bx (Go.Value.agg #[(Go.Value.int Go.IntKind.i64 0), (Go.Value.int Go.IntKind.u64 0), (Go.Value.int Go.IntKind.i64 0), (Go.Value.int Go.IntKind.i64 0), (Go.Value.int Go.IntKind.u64 0), (Go.Value.int Go.IntKind.i64 0), (Go.Value.int Go.IntKind.u64 0), (Go.Value.int Go.IntKind.i64 0), (Go.Value.int Go.IntKind.i64 0), (Go.Value.int Go.IntKind.u64 0), (Go.Value.int Go.IntKind.i64 0), (Go.Value.int Go.IntKind.u64 0), (Go.Value.int Go.IntKind.i64 0), (Go.Value.int Go.IntKind.i64 0)])) fun c1 => S.bd (leapfrogref09x_Head.r (Go.Value.int Go.IntKind.i64 0) s) fun x2 => S.bd (xtr 0 x2) fun x3 => S.bd (xtr 1 x2) fun x4 => S.bd (bx (Go.Value.agg #[(Go.Value.int Go.IntKind.i64 0), (Go.Value.int Go.IntKind.i64 0), (Go.Value.int Go.IntKind.u64 0), (Go.Value.int Go.IntKind.i64 0), (Go.Value.int Go.IntKind.u64 0)])) fun c5 => S.bd (stl c5 0 5 x3) fun c6 => S.bd (lal c6 0 5) fun x7 => S.bd (bld [(Go.Value.int Go.IntKind.i64 0), (Go.Value.int Go.IntKind.i64 0)] [(1, 1, (Go.Value.int Go.IntKind.i64 1))]) fun x8 => S.bd (leapfroglaw13x_at.r (Go.Value.int Go.IntKind.u64 5) s) fun x9 => S.bd (bld [(Go.Value.int Go.IntKind.i64 0), (Go.Value.int Go.IntKind.i64 0), (Go.Value.int Go.IntKind.u64 0), (Go.Value.int Go.IntKind.i64 0), (Go.Value.int Go.IntKind.u64 0)] [(0, 1, (Go.Value.int Go.IntKind.i64 2)), (1, 2, x9)]) fun x10 => S.bd (bld [(Go.Value.int Go.IntKind.i64 0), (Go.Value.int Go.IntKind.u64 0), (Go.Value.int Go.IntKind.i64 0), (Go.Value.int Go.IntKind.i64 0), (Go.Value.int Go.IntKind.u64 0), (Go.Value.int Go.IntKind.i64 0), (Go.Value.int Go.IntKind.u64 0), (Go.Value.int Go.IntKind.i64 0), (Go.Value.int Go.IntKind.i64 0), (Go.Value.int Go.IntKind.u64 0), (Go.Value.int Go.IntKind.i64 0), (Go.Value.int Go.IntKind.u64 0), (Go.Value.int Go.IntKind.i64 0), (Go.Value.int Go.IntKind.i64 0)] [(2, 5, x10), (7, 5, x7), (12, 2, x8)]) fun x11 => S.bd (stl c1 0 14 x11) fun c12 => S.bd (lal c12 0 14) fun x13 => some (x13)
def leapfroglaw13x_conf.r (s : St) : Option Value := leapfroglaw13x_conf.t std  s
def leapfroglaw13x_conf.w : List Value → St → Option Value
  | [], s => leapfroglaw13x_conf.r  s
  | _, _ => none
def leapfroglaw13x_conf.an : An := ⟨12, true, [0, 1], [], [], [(2, [(2, 9, [], []), (3, 0, [], []), (0, 3, [], []), (1, 0, [], []), (4, 0, [], []), (5, 5, [], [])])], [], []⟩
theorem leapfroglaw13x_conf.ok (S : Sig) (s : St) : evG S Try.prog leapfroglaw13x_conf.ctx leapfroglaw13x_conf.an Try.f30 [] s = leapfroglaw13x_conf.t S  s := by kernel_rfl
theorem leapfroglaw13x_conf.cok : CtxOk Try.prog leapfroglaw13x_conf.ctx := .cons leapfrogref09x_Head.sound leapfrogref09x_Head.can <| .cons leapfroglaw13x_at.sound leapfroglaw13x_at.can <| .nil
theorem leapfroglaw13x_conf.draws : fnDraws leapfroglaw13x_conf.an Try.f30 = true := by kernel_rfl
theorem leapfroglaw13x_conf.can : callOk Try.prog 30 = true := by kernel_rfl
theorem leapfroglaw13x_conf.sound : FnOk Try.prog 30 (.rd leapfroglaw13x_conf.w) := FnOk.rd_of (evG_ok leapfroglaw13x_conf.cok mixed (f := 30) (fn := Try.f30) (by kernel_rfl) leapfroglaw13x_conf.draws) fun args s r h => by
  unfold leapfroglaw13x_conf.w at h; split at h
  · rw [leapfroglaw13x_conf.ok std]; exact h
  · simp at h

/-! ### leapfrog/vec.low: function 77 -/
def vec_low.ctx : Ctx := []
def vec_low.t (S : Sig) (a0 : Value) (s : St) : Option Value :=
  S.bd (cvi .u64 a0) fun x1 => S.bd (bin .shl (Go.Value.int Go.IntKind.u64 1) x1) fun x2 => S.bd (bin .sub x2 (Go.Value.int Go.IntKind.u64 1)) fun x3 => some (x3)
def vec_low.r (a0 : Value) (s : St) : Option Value := vec_low.t std a0 s
def vec_low.w : List Value → St → Option Value
  | [a0], s => vec_low.r a0 s
  | _, _ => none
def vec_low.an : An := ⟨7, true, [], [], [], [], [], []⟩
theorem vec_low.ok (S : Sig) (a0 : Value) (s : St) : evG S Try.prog vec_low.ctx vec_low.an Try.f77 [a0] s = vec_low.t S a0 s := by kernel_rfl
theorem vec_low.cok : CtxOk Try.prog vec_low.ctx := .nil
theorem vec_low.draws : fnDraws vec_low.an Try.f77 = true := by kernel_rfl
theorem vec_low.can : callOk Try.prog 77 = true := by kernel_rfl
theorem vec_low.sound : FnOk Try.prog 77 (.rd vec_low.w) := FnOk.rd_of (evG_ok vec_low.cok mixed (f := 77) (fn := Try.f77) (by kernel_rfl) vec_low.draws) fun args s r h => by
  unfold vec_low.w at h; split at h
  · rw [vec_low.ok std]; exact h
  · simp at h

/-! ### leapfrog/vec.Right: function 37 -/
def vec_Right.ctx : Ctx := [(77, .rd vec_low.w)]
def vec_Right.t (S : Sig) (a0 : Value) (s : St) : Option Value :=
  S.bd (bx a0) fun c1 => S.bd (lcl c1 0) fun x2 => S.bd (bin .lss x2 (Go.Value.int Go.IntKind.i64 0)) fun x3 => S.bd (S.gd x3 false (lcl c1 0)) fun x4 => S.bd (S.gd x3 false (bin .gtr x4 (Go.Value.int Go.IntKind.i64 32))) fun x5 => S.bd (pik x3 (Go.Value.bool Bool.true) x5) fun x6 => S.bd (S.gd x6 false (lcl c1 1)) fun x7 => S.bd (S.gd x6 false (lcl c1 0)) fun x8 => S.bd (S.gd x6 false (vec_low.r x8 s)) fun x9 => S.bd (S.gd x6 false (bin .gtr x7 x9)) fun x10 => S.bd (pik x6 (Go.Value.bool Bool.true) x10) fun x11 => S.cnd x11 (some ((Go.Value.int Go.IntKind.i64 10))) (some ((Go.Value.int Go.IntKind.i64 0)))
def vec_Right.r (a0 : Value) (s : St) : Option Value := vec_Right.t std a0 s
def vec_Right.w : List Value → St → Option Value
  | [a0], s => vec_Right.r a0 s
  | _, _ => none
def vec_Right.an : An := ⟨19, true, [1], [], [], [(1, [(0, 0, [], []), (1, 9, [], []), (2, 0, [], []), (3, 0, [], []), (4, 0, [], []), (5, 9, [], []), (6, 0, [], []), (7, 0, [], []), (8, 0, [], []), (9, 0, [], []), (10, 9, [], []), (11, 0, [], []), (12, 9, [], []), (13, 3, [], []), (14, 0, [], []), (15, 0, [], [])])], [], []⟩
theorem vec_Right.ok (S : Sig) (a0 : Value) (s : St) : evG S Try.prog vec_Right.ctx vec_Right.an Try.f37 [a0] s = vec_Right.t S a0 s := by kernel_rfl
theorem vec_Right.cok : CtxOk Try.prog vec_Right.ctx := .cons vec_low.sound vec_low.can <| .nil
theorem vec_Right.draws : fnDraws vec_Right.an Try.f37 = true := by kernel_rfl
theorem vec_Right.can : callOk Try.prog 37 = true := by kernel_rfl
theorem vec_Right.sound : FnOk Try.prog 37 (.rd vec_Right.w) := FnOk.rd_of (evG_ok vec_Right.cok mixed (f := 37) (fn := Try.f37) (by kernel_rfl) vec_Right.draws) fun args s r h => by
  unfold vec_Right.w at h; split at h
  · rw [vec_Right.ok std]; exact h
  · simp at h

/-! ### leapfrog/vec.prefix: function 75 -/
def vec_prefix.ctx : Ctx := []
def vec_prefix.t (S : Sig) (a0 a1 : Value) (s : St) : Option Value :=
  S.bd (bx a0) fun c1 => S.bd (bx (Go.Value.agg #[(Go.Value.int Go.IntKind.i64 0), (Go.Value.int Go.IntKind.u64 0)])) fun c2 => S.bd (lcl c1 1) fun x3 => S.bd (lcl c1 0) fun x4 => S.bd (bin .sub x4 a1) fun x5 => S.bd (cvi .u64 x5) fun x6 => S.bd (bin .shr x3 x6) fun x7 => S.bd (bld [(Go.Value.int Go.IntKind.i64 0), (Go.Value.int Go.IntKind.u64 0)] [(0, 1, a1), (1, 1, x7)]) fun x8 => S.bd (stl c2 0 2 x8) fun c9 => S.bd (lal c9 0 2) fun x10 => some (x10)
def vec_prefix.r (a0 a1 : Value) (s : St) : Option Value := vec_prefix.t std a0 a1 s
def vec_prefix.w : List Value → St → Option Value
  | [a0, a1], s => vec_prefix.r a0 a1 s
  | _, _ => none
def vec_prefix.an : An := ⟨15, true, [2, 4], [], [], [], [], []⟩
theorem vec_prefix.ok (S : Sig) (a0 a1 : Value) (s : St) : evG S Try.prog vec_prefix.ctx vec_prefix.an Try.f75 [a0, a1] s = vec_prefix.t S a0 a1 s := by kernel_rfl
theorem vec_prefix.cok : CtxOk Try.prog vec_prefix.ctx := .nil
theorem vec_prefix.draws : fnDraws vec_prefix.an Try.f75 = true := by kernel_rfl
theorem vec_prefix.can : callOk Try.prog 75 = true := by kernel_rfl
theorem vec_prefix.sound : FnOk Try.prog 75 (.rd vec_prefix.w) := FnOk.rd_of (evG_ok vec_prefix.cok mixed (f := 75) (fn := Try.f75) (by kernel_rfl) vec_prefix.draws) fun args s r h => by
  unfold vec_prefix.w at h; split at h
  · rw [vec_prefix.ok std]; exact h
  · simp at h

/-! ### leapfrog/vec.Begins: function 34 -/
def vec_Begins.ctx : Ctx := [(37, .rd vec_Right.w), (75, .rd vec_prefix.w)]
def vec_Begins.t (S : Sig) (a0 a1 : Value) (s : St) : Option Value :=
  S.bd (bx a0) fun c1 => S.bd (bx a1) fun c2 => S.bd (lal c1 0 2) fun x3 => S.bd (vec_Right.r x3 s) fun x4 => S.bd (eqb [1] false false x4 (Go.Value.int Go.IntKind.i64 0)) fun x5 => S.bd (S.gd x5 true (lal c2 0 2)) fun x6 => S.bd (S.gd x5 true (vec_Right.r x6 s)) fun x7 => S.bd (S.gd x5 true (eqb [1] false false x7 (Go.Value.int Go.IntKind.i64 0))) fun x8 => S.bd (pik x5 x8 (Go.Value.bool Bool.false)) fun x9 => S.bd (S.gd x9 true (lcl c2 0)) fun x10 => S.bd (S.gd x9 true (lcl c1 0)) fun x11 => S.bd (S.gd x9 true (bin .leq x10 x11)) fun x12 => S.bd (pik x9 x12 (Go.Value.bool Bool.false)) fun x13 => S.bd (S.gd x13 true (lal c1 0 2)) fun x14 => S.bd (S.gd x13 true (lcl c2 0)) fun x15 => S.bd (S.gd x13 true (lal c2 0 2)) fun x16 => S.bd (S.gd x13 true (vec_prefix.r x14 x15 s)) fun x17 => S.bd (S.gd x13 true (eqb [1, 1] true false x17 x16)) fun x18 => S.bd (pik x13 x18 (Go.Value.bool Bool.false)) fun x19 => some (x19)
def vec_Begins.r (a0 a1 : Value) (s : St) : Option Value := vec_Begins.t std a0 a1 s
def vec_Begins.w : List Value → St → Option Value
  | [a0, a1], s => vec_Begins.r a0 a1 s
  | _, _ => none
def vec_Begins.an : An := ⟨28, true, [2, 3], [], [], [(1, [(0, 17, [], []), (1, 3, [], []), (2, 0, [], []), (3, 0, [], []), (4, 25, [], []), (5, 3, [], []), (6, 0, [], []), (7, 0, [], []), (8, 0, [], []), (9, 0, [], []), (10, 25, [], []), (11, 0, [], []), (12, 17, [], []), (13, 0, [], []), (14, 0, [], []), (15, 0, [], []), (16, 17, [], []), (17, 0, [], []), (18, 25, [], []), (20, 25, [], []), (19, 3, [], []), (21, 0, [], []), (22, 0, [], []), (23, 0, [], [])])], [], []⟩
theorem vec_Begins.ok (S : Sig) (a0 a1 : Value) (s : St) : evG S Try.prog vec_Begins.ctx vec_Begins.an Try.f34 [a0, a1] s = vec_Begins.t S a0 a1 s := by kernel_rfl
theorem vec_Begins.cok : CtxOk Try.prog vec_Begins.ctx := .cons vec_Right.sound vec_Right.can <| .cons vec_prefix.sound vec_prefix.can <| .nil
theorem vec_Begins.draws : fnDraws vec_Begins.an Try.f34 = true := by kernel_rfl
theorem vec_Begins.can : callOk Try.prog 34 = true := by kernel_rfl
theorem vec_Begins.sound : FnOk Try.prog 34 (.rd vec_Begins.w) := FnOk.rd_of (evG_ok vec_Begins.cok mixed (f := 34) (fn := Try.f34) (by kernel_rfl) vec_Begins.draws) fun args s r h => by
  unfold vec_Begins.w at h; split at h
  · rw [vec_Begins.ok std]; exact h
  · simp at h

/-! ### leapfrog/key.Check: function 35 -/
def key_Check.ctx : Ctx := []
def key_Check.t (S : Sig) (a0 : Value) (s : St) : Option Value :=
  S.bd (bx a0) fun c1 => S.bd (lcl c1 0) fun x2 => S.bd (eqb [1] false false x2 (Go.Value.int Go.IntKind.i64 2)) fun x3 => S.bd (S.gd x3 false (lcl c1 0)) fun x4 => S.bd (S.gd x3 false (eqb [1] false false x4 (Go.Value.int Go.IntKind.i64 1))) fun x5 => S.bd (S.gd x3 false (some x5)) fun x6 => S.bd (S.gd x6 false (lcl c1 0)) fun x7 => S.bd (S.gd x6 false (eqb [1] false false x7 (Go.Value.int Go.IntKind.i64 3))) fun x8 => S.bd (S.gd x3 false (pik x6 (Go.Value.bool Bool.true) x8)) fun x9 => S.bd (S.gd x3 false (some x9)) fun x10 => S.bd (S.gd x10 true (lcl c1 1)) fun x11 => S.bd (S.gd x10 true (eqb [1] false false x11 (Go.Value.int Go.IntKind.u64 0))) fun x12 => S.bd (S.gd x3 false (pik x10 x12 (Go.Value.bool Bool.false))) fun x13 => S.bd (pik x3 (Go.Value.bool Bool.true) x13) fun x14 => S.cnd x14 (some ((Go.Value.int Go.IntKind.i64 0))) (some ((Go.Value.int Go.IntKind.i64 20)))
def key_Check.r (a0 : Value) (s : St) : Option Value := key_Check.t std a0 s
def key_Check.w : List Value → St → Option Value
  | [a0], s => key_Check.r a0 s
  | _, _ => none
def key_Check.an : An := ⟨21, true, [1], [], [], [], [], []⟩
theorem key_Check.ok (S : Sig) (a0 : Value) (s : St) : evG S Try.prog key_Check.ctx key_Check.an Try.f35 [a0] s = key_Check.t S a0 s := by kernel_rfl
theorem key_Check.cok : CtxOk Try.prog key_Check.ctx := .nil
theorem key_Check.draws : fnDraws key_Check.an Try.f35 = true := by kernel_rfl
theorem key_Check.can : callOk Try.prog 35 = true := by kernel_rfl
theorem key_Check.sound : FnOk Try.prog 35 (.rd key_Check.w) := FnOk.rd_of (evG_ok key_Check.cok mixed (f := 35) (fn := Try.f35) (by kernel_rfl) key_Check.draws) fun args s r h => by
  unfold key_Check.w at h; split at h
  · rw [key_Check.ok std]; exact h
  · simp at h

/-! ### cmp.isNaN[leapfrog/api.Rank]: function 105 -/
def cmp_isNaN_api_Rank.ctx : Ctx := []
def cmp_isNaN_api_Rank.t (S : Sig) (a0 : Value) (s : St) : Option Value :=
  S.bd (eqb [1] false true a0 a0) fun x1 => some (x1)
def cmp_isNaN_api_Rank.r (a0 : Value) (s : St) : Option Value := cmp_isNaN_api_Rank.t std a0 s
def cmp_isNaN_api_Rank.w : List Value → St → Option Value
  | [a0], s => cmp_isNaN_api_Rank.r a0 s
  | _, _ => none
def cmp_isNaN_api_Rank.an : An := ⟨6, true, [], [], [], [], [], []⟩
theorem cmp_isNaN_api_Rank.ok (S : Sig) (a0 : Value) (s : St) : evG S Try.prog cmp_isNaN_api_Rank.ctx cmp_isNaN_api_Rank.an Try.f105 [a0] s = cmp_isNaN_api_Rank.t S a0 s := by kernel_rfl
theorem cmp_isNaN_api_Rank.cok : CtxOk Try.prog cmp_isNaN_api_Rank.ctx := .nil
theorem cmp_isNaN_api_Rank.draws : fnDraws cmp_isNaN_api_Rank.an Try.f105 = true := by kernel_rfl
theorem cmp_isNaN_api_Rank.can : callOk Try.prog 105 = true := by kernel_rfl
theorem cmp_isNaN_api_Rank.sound : FnOk Try.prog 105 (.rd cmp_isNaN_api_Rank.w) := FnOk.rd_of (evG_ok cmp_isNaN_api_Rank.cok mixed (f := 105) (fn := Try.f105) (by kernel_rfl) cmp_isNaN_api_Rank.draws) fun args s r h => by
  unfold cmp_isNaN_api_Rank.w at h; split at h
  · rw [cmp_isNaN_api_Rank.ok std]; exact h
  · simp at h

/-! ### cmp.Compare[leapfrog/api.Rank]: function 99 -/
def cmp_Compare_api_Rank.ctx : Ctx := [(105, .rd cmp_isNaN_api_Rank.w)]
def cmp_Compare_api_Rank.t (S : Sig) (a0 a1 : Value) (s : St) : Option Value :=
  S.bd (cmp_isNaN_api_Rank.r a0 s) fun x1 => S.bd (cmp_isNaN_api_Rank.r a1 s) fun x2 => S.cnd x1 (S.cnd x2 (some ((Go.Value.int Go.IntKind.i64 0))) (some ((Go.Value.int Go.IntKind.i64 (-1))))) (S.cnd x2 (some ((Go.Value.int Go.IntKind.i64 1))) (S.bd (bin .lss a0 a1) fun x3 => S.cnd x3 (some ((Go.Value.int Go.IntKind.i64 (-1)))) (S.bd (bin .gtr a0 a1) fun x4 => S.cnd x4 (some ((Go.Value.int Go.IntKind.i64 1))) (some ((Go.Value.int Go.IntKind.i64 0))))))
def cmp_Compare_api_Rank.r (a0 a1 : Value) (s : St) : Option Value := cmp_Compare_api_Rank.t std a0 a1 s
def cmp_Compare_api_Rank.w : List Value → St → Option Value
  | [a0, a1], s => cmp_Compare_api_Rank.r a0 a1 s
  | _, _ => none
def cmp_Compare_api_Rank.an : An := ⟨20, true, [], [], [], [], [], []⟩
theorem cmp_Compare_api_Rank.ok (S : Sig) (a0 a1 : Value) (s : St) : evG S Try.prog cmp_Compare_api_Rank.ctx cmp_Compare_api_Rank.an Try.f99 [a0, a1] s = cmp_Compare_api_Rank.t S a0 a1 s := by kernel_rfl
theorem cmp_Compare_api_Rank.cok : CtxOk Try.prog cmp_Compare_api_Rank.ctx := .cons cmp_isNaN_api_Rank.sound cmp_isNaN_api_Rank.can <| .nil
theorem cmp_Compare_api_Rank.draws : fnDraws cmp_Compare_api_Rank.an Try.f99 = true := by kernel_rfl
theorem cmp_Compare_api_Rank.can : callOk Try.prog 99 = true := by kernel_rfl
theorem cmp_Compare_api_Rank.sound : FnOk Try.prog 99 (.rd cmp_Compare_api_Rank.w) := FnOk.rd_of (evG_ok cmp_Compare_api_Rank.cok mixed (f := 99) (fn := Try.f99) (by kernel_rfl) cmp_Compare_api_Rank.draws) fun args s r h => by
  unfold cmp_Compare_api_Rank.w at h; split at h
  · rw [cmp_Compare_api_Rank.ok std]; exact h
  · simp at h

/-! ### cmp.isNaN[uint64]: function 106 -/
def cmp_isNaN_uint64.ctx : Ctx := []
def cmp_isNaN_uint64.t (S : Sig) (a0 : Value) (s : St) : Option Value :=
  S.bd (eqb [1] false true a0 a0) fun x1 => some (x1)
def cmp_isNaN_uint64.r (a0 : Value) (s : St) : Option Value := cmp_isNaN_uint64.t std a0 s
def cmp_isNaN_uint64.w : List Value → St → Option Value
  | [a0], s => cmp_isNaN_uint64.r a0 s
  | _, _ => none
def cmp_isNaN_uint64.an : An := ⟨6, true, [], [], [], [], [], []⟩
theorem cmp_isNaN_uint64.ok (S : Sig) (a0 : Value) (s : St) : evG S Try.prog cmp_isNaN_uint64.ctx cmp_isNaN_uint64.an Try.f106 [a0] s = cmp_isNaN_uint64.t S a0 s := by kernel_rfl
theorem cmp_isNaN_uint64.cok : CtxOk Try.prog cmp_isNaN_uint64.ctx := .nil
theorem cmp_isNaN_uint64.draws : fnDraws cmp_isNaN_uint64.an Try.f106 = true := by kernel_rfl
theorem cmp_isNaN_uint64.can : callOk Try.prog 106 = true := by kernel_rfl
theorem cmp_isNaN_uint64.sound : FnOk Try.prog 106 (.rd cmp_isNaN_uint64.w) := FnOk.rd_of (evG_ok cmp_isNaN_uint64.cok mixed (f := 106) (fn := Try.f106) (by kernel_rfl) cmp_isNaN_uint64.draws) fun args s r h => by
  unfold cmp_isNaN_uint64.w at h; split at h
  · rw [cmp_isNaN_uint64.ok std]; exact h
  · simp at h

/-! ### cmp.Compare[uint64]: function 100 -/
def cmp_Compare_uint64.ctx : Ctx := [(106, .rd cmp_isNaN_uint64.w)]
def cmp_Compare_uint64.t (S : Sig) (a0 a1 : Value) (s : St) : Option Value :=
  S.bd (cmp_isNaN_uint64.r a0 s) fun x1 => S.bd (cmp_isNaN_uint64.r a1 s) fun x2 => S.cnd x1 (S.cnd x2 (some ((Go.Value.int Go.IntKind.i64 0))) (some ((Go.Value.int Go.IntKind.i64 (-1))))) (S.cnd x2 (some ((Go.Value.int Go.IntKind.i64 1))) (S.bd (bin .lss a0 a1) fun x3 => S.cnd x3 (some ((Go.Value.int Go.IntKind.i64 (-1)))) (S.bd (bin .gtr a0 a1) fun x4 => S.cnd x4 (some ((Go.Value.int Go.IntKind.i64 1))) (some ((Go.Value.int Go.IntKind.i64 0))))))
def cmp_Compare_uint64.r (a0 a1 : Value) (s : St) : Option Value := cmp_Compare_uint64.t std a0 a1 s
def cmp_Compare_uint64.w : List Value → St → Option Value
  | [a0, a1], s => cmp_Compare_uint64.r a0 a1 s
  | _, _ => none
def cmp_Compare_uint64.an : An := ⟨20, true, [], [], [], [], [], []⟩
theorem cmp_Compare_uint64.ok (S : Sig) (a0 a1 : Value) (s : St) : evG S Try.prog cmp_Compare_uint64.ctx cmp_Compare_uint64.an Try.f100 [a0, a1] s = cmp_Compare_uint64.t S a0 a1 s := by kernel_rfl
theorem cmp_Compare_uint64.cok : CtxOk Try.prog cmp_Compare_uint64.ctx := .cons cmp_isNaN_uint64.sound cmp_isNaN_uint64.can <| .nil
theorem cmp_Compare_uint64.draws : fnDraws cmp_Compare_uint64.an Try.f100 = true := by kernel_rfl
theorem cmp_Compare_uint64.can : callOk Try.prog 100 = true := by kernel_rfl
theorem cmp_Compare_uint64.sound : FnOk Try.prog 100 (.rd cmp_Compare_uint64.w) := FnOk.rd_of (evG_ok cmp_Compare_uint64.cok mixed (f := 100) (fn := Try.f100) (by kernel_rfl) cmp_Compare_uint64.draws) fun args s r h => by
  unfold cmp_Compare_uint64.w at h; split at h
  · rw [cmp_Compare_uint64.ok std]; exact h
  · simp at h

/-! ### cmp.Or[int]: function 98 -/
def cmp_Or_int.ctx : Ctx := []
def cmp_Or_int.l3 (S : Sig) (rec9 : List Value → St → Option Cut) (xs7 : List Value) (s8 : St) : Option Cut :=
  S.bd (bin .lss (xs7.getD 3 undef) (xs7.getD 2 undef)) fun x10 => S.cnd x10 (S.bd (idx s8 1 (xs7.getD 1 undef) (xs7.getD 3 undef)) fun x11 => S.bd (ldc s8 x11) fun x12 => S.bd (eqb [1] false true x12 (xs7.getD 0 undef)) fun x13 => S.cnd x13 (some (1, [x12], s8)) (S.bd (bin .add (xs7.getD 3 undef) (Go.Value.int Go.IntKind.i64 1)) fun x14 => rec9 [(xs7.getD 0 undef), (xs7.getD 1 undef), (xs7.getD 2 undef), x14] s8)) (some (0, [(xs7.getD 0 undef)], s8))

def cmp_Or_int.t (S : Sig) (a0 : Value) (s : St) : Option Value :=
  S.bd (lenL a0) fun x1 => S.bd (S.it (cmp_Or_int.l3 S) [(Go.Value.int Go.IntKind.i64 0), a0, x1, (Go.Value.int Go.IntKind.i64 0)] s) fun r15 => if r15.1 = 0 then (some ((r15.2.1.getD 0 undef))) else (some ((r15.2.1.getD 0 undef)))
def cmp_Or_int.r (a0 : Value) (s : St) : Option Value := cmp_Or_int.t std a0 s
def cmp_Or_int.w : List Value → St → Option Value
  | [a0], s => cmp_Or_int.r a0 s
  | _, _ => none
def cmp_Or_int.an : An := ⟨18, true, [], [(3, ⟨[.v 3, .v 6, .v 7, .v 8], [(.exit 0, [.v 3]), (.ret, [.v 2])]⟩)], [], [], [], []⟩
theorem cmp_Or_int.ok (S : Sig) (a0 : Value) (s : St) : evG S Try.prog cmp_Or_int.ctx cmp_Or_int.an Try.f98 [a0] s = cmp_Or_int.t S a0 s := by kernel_rfl
theorem cmp_Or_int.cok : CtxOk Try.prog cmp_Or_int.ctx := .nil
theorem cmp_Or_int.draws : fnDraws cmp_Or_int.an Try.f98 = true := by kernel_rfl
theorem cmp_Or_int.can : callOk Try.prog 98 = true := by kernel_rfl
theorem cmp_Or_int.sound : FnOk Try.prog 98 (.rd cmp_Or_int.w) := FnOk.rd_of (evG_ok cmp_Or_int.cok mixed (f := 98) (fn := Try.f98) (by kernel_rfl) cmp_Or_int.draws) fun args s r h => by
  unfold cmp_Or_int.w at h; split at h
  · rw [cmp_Or_int.ok std]; exact h
  · simp at h

/-! ### leapfrog/key.Compare: function 76 -/
def key_Compare.ctx : Ctx := [(99, .rd cmp_Compare_api_Rank.w), (100, .rd cmp_Compare_uint64.w), (98, .rd cmp_Or_int.w)]
def key_Compare.t (S : Sig) (a0 a1 : Value) (s : St) : Option (Value × St) :=
  S.bd (bx a0) fun c1 => S.bd (bx a1) fun c2 => S.bd (lcl c1 0) fun x3 => S.bd (lcl c2 0) fun x4 => S.bd (lcl c1 1) fun x5 => S.bd (lcl c2 1) fun x6 => S.bd (cmp_Compare_api_Rank.r x3 x4 s) fun x7 => S.bd (cmp_Compare_uint64.r x5 x6 s) fun x8 => S.bd (S.bd (bls 1 (List.replicate 2 [(Go.Value.int Go.IntKind.i64 0)]) [(0, x7), (1, x8)]) fun rows => als s 1 2 rows) fun r9 => S.bd (cmp_Or_int.r r9.1 r9.2) fun x10 => some (x10, r9.2)
def key_Compare.v (a0 a1 : Value) (s : St) : Option (Value × St) := key_Compare.t std a0 a1 s
def key_Compare.w : List Value → St → Option (Value × St)
  | [a0, a1], s => key_Compare.v a0 a1 s
  | _, _ => none
def key_Compare.an : An := ⟨17, false, [2, 3], [], [], [(1, [(0, 0, [], []), (1, 17, [], []), (2, 0, [], []), (3, 25, [], []), (5, 0, [], []), (6, 17, [], []), (7, 0, [], []), (8, 25, [], []), (4, 3, [], []), (9, 3, [], []), (10, 3, [], []), (11, 3, [], []), (12, 0, [], [])])], [], []⟩
theorem key_Compare.ok (S : Sig) (a0 a1 : Value) (s : St) : evF S Try.prog key_Compare.ctx key_Compare.an Try.f76 [a0, a1] s = key_Compare.t S a0 a1 s := by kernel_rfl
theorem key_Compare.cok : CtxOk Try.prog key_Compare.ctx := .cons cmp_Compare_api_Rank.sound cmp_Compare_api_Rank.can <| .cons cmp_Compare_uint64.sound cmp_Compare_uint64.can <| .cons cmp_Or_int.sound cmp_Or_int.can <| .nil
theorem key_Compare.draws : fnDraws key_Compare.an Try.f76 = true := by kernel_rfl
theorem key_Compare.can : callOk Try.prog 76 = true := by kernel_rfl
theorem key_Compare.sound : FnOk Try.prog 76 (.st key_Compare.w) := FnOk.st_of (evF_ok key_Compare.cok mixed (f := 76) (fn := Try.f76) (by kernel_rfl) key_Compare.draws) fun args s r h => by
  unfold key_Compare.w at h; split at h
  · rw [key_Compare.ok std]; exact h
  · simp at h

/-! ### leapfrog/key.Compare: function 76, as a reading -/
def key_CompareQ.r (a0 a1 : Value) (s : St) : Option Value := frzR (fun s => key_Compare.v a0 a1 s) s
def key_CompareQ.w : List Value → St → Option Value := fun args s => frzR (key_Compare.w args) s
theorem key_CompareQ.can : callOk Try.prog 76 = true := key_Compare.can
theorem key_CompareQ.sound : FnOk Try.prog 76 (.rd key_CompareQ.w) := FnOk.frozen key_Compare.sound

/-! ### leapfrog/key.Less: function 36 -/
def key_Less.ctx : Ctx := [(76, .rd key_CompareQ.w)]
def key_Less.t (S : Sig) (a0 a1 : Value) (s : St) : Option Value :=
  S.bd (bx a0) fun c1 => S.bd (bx a1) fun c2 => S.bd (lal c1 0 2) fun x3 => S.bd (lal c2 0 2) fun x4 => S.bd (key_CompareQ.r x3 x4 s) fun x5 => S.bd (bin .lss x5 (Go.Value.int Go.IntKind.i64 0)) fun x6 => some (x6)
def key_Less.r (a0 a1 : Value) (s : St) : Option Value := key_Less.t std a0 a1 s
def key_Less.w : List Value → St → Option Value
  | [a0, a1], s => key_Less.r a0 a1 s
  | _, _ => none
def key_Less.an : An := ⟨9, true, [2, 3], [], [], [], [], []⟩
theorem key_Less.ok (S : Sig) (a0 a1 : Value) (s : St) : evG S Try.prog key_Less.ctx key_Less.an Try.f36 [a0, a1] s = key_Less.t S a0 a1 s := by kernel_rfl
theorem key_Less.cok : CtxOk Try.prog key_Less.ctx := .cons key_CompareQ.sound key_CompareQ.can <| .nil
theorem key_Less.draws : fnDraws key_Less.an Try.f36 = true := by kernel_rfl
theorem key_Less.can : callOk Try.prog 36 = true := by kernel_rfl
theorem key_Less.sound : FnOk Try.prog 36 (.rd key_Less.w) := FnOk.rd_of (evG_ok key_Less.cok mixed (f := 36) (fn := Try.f36) (by kernel_rfl) key_Less.draws) fun args s r h => by
  unfold key_Less.w at h; split at h
  · rw [key_Less.ok std]; exact h
  · simp at h

/-! ### leapfrog/lock.Check: function 38 -/
def lock_Check.ctx : Ctx := []
def lock_Check.t (S : Sig) (a0 : Value) (s : St) : Option Value :=
  S.bd (bx a0) fun c1 => S.bd (lcl c1 0) fun x2 => S.bd (bin .lss x2 (Go.Value.int Go.IntKind.i64 0)) fun x3 => S.bd (S.gd x3 false (lcl c1 0)) fun x4 => S.bd (S.gd x3 false (bin .geq x4 (Go.Value.int Go.IntKind.i64 1024))) fun x5 => S.bd (pik x3 (Go.Value.bool Bool.true) x5) fun x6 => S.bd (S.gd x6 false (lcl c1 1)) fun x7 => S.bd (S.gd x6 false (bin .lss x7 (Go.Value.int Go.IntKind.i64 1))) fun x8 => S.bd (pik x6 (Go.Value.bool Bool.true) x8) fun x9 => S.bd (S.gd x9 false (lcl c1 1)) fun x10 => S.bd (S.gd x9 false (bin .gtr x10 (Go.Value.int Go.IntKind.i64 1073741824))) fun x11 => S.bd (pik x9 (Go.Value.bool Bool.true) x11) fun x12 => S.cnd x12 (some ((Go.Value.int Go.IntKind.i64 70))) (some ((Go.Value.int Go.IntKind.i64 0)))
def lock_Check.r (a0 : Value) (s : St) : Option Value := lock_Check.t std a0 s
def lock_Check.w : List Value → St → Option Value
  | [a0], s => lock_Check.r a0 s
  | _, _ => none
def lock_Check.an : An := ⟨21, true, [1], [], [], [], [], []⟩
theorem lock_Check.ok (S : Sig) (a0 : Value) (s : St) : evG S Try.prog lock_Check.ctx lock_Check.an Try.f38 [a0] s = lock_Check.t S a0 s := by kernel_rfl
theorem lock_Check.cok : CtxOk Try.prog lock_Check.ctx := .nil
theorem lock_Check.draws : fnDraws lock_Check.an Try.f38 = true := by kernel_rfl
theorem lock_Check.can : callOk Try.prog 38 = true := by kernel_rfl
theorem lock_Check.sound : FnOk Try.prog 38 (.rd lock_Check.w) := FnOk.rd_of (evG_ok lock_Check.cok mixed (f := 38) (fn := Try.f38) (by kernel_rfl) lock_Check.draws) fun args s r h => by
  unfold lock_Check.w at h; split at h
  · rw [lock_Check.ok std]; exact h
  · simp at h

/-! ### leapfrog/splice.New: function 14 -/
def splice_New.ctx : Ctx := [(34, .rd vec_Begins.w), (35, .rd key_Check.w), (36, .rd key_Less.w), (37, .rd vec_Right.w), (38, .rd lock_Check.w)]
def splice_New.t.p1 (S : Sig) (x18 : Value) (c1 : List Value) (s : St) : Option (Value × St) :=
  S.bd (S.gd x18 false (lal c1 0 2)) fun x19 => S.bd (S.gd x18 false (vec_Right.r x19 s)) fun x20 => S.bd (S.gd x18 false (eqb [1] false true x20 (Go.Value.int Go.IntKind.i64 0))) fun x21 => S.bd (pik x18 (Go.Value.bool Bool.true) x21) fun x22 => S.bd (S.gd x22 false (lal c1 12 2)) fun x23 => S.bd (S.gd x22 false (lock_Check.r x23 s)) fun x24 => S.bd (S.gd x22 false (eqb [1] false true x24 (Go.Value.int Go.IntKind.i64 0))) fun x25 => S.bd (pik x22 (Go.Value.bool Bool.true) x25) fun x26 => S.cnd x26 (some ((Value.tuple ⟨[(Go.Value.pointer Option.none), (Go.Value.int Go.IntKind.i64 130)]⟩), s)) (S.bd (lal c1 0 14) fun x27 => S.bd (lal c1 7 5) fun x28 => S.bd (bld [(Go.Value.int Go.IntKind.i64 0), (Go.Value.int Go.IntKind.u64 0), (Go.Value.int Go.IntKind.i64 0), (Go.Value.int Go.IntKind.i64 0), (Go.Value.int Go.IntKind.u64 0), (Go.Value.int Go.IntKind.i64 0), (Go.Value.int Go.IntKind.u64 0), (Go.Value.int Go.IntKind.i64 0), (Go.Value.int Go.IntKind.i64 0), (Go.Value.int Go.IntKind.u64 0), (Go.Value.int Go.IntKind.i64 0), (Go.Value.int Go.IntKind.u64 0), (Go.Value.int Go.IntKind.i64 0), (Go.Value.int Go.IntKind.i64 0), (Go.Value.int Go.IntKind.i64 0), (Go.Value.int Go.IntKind.i64 0), (Go.Value.int Go.IntKind.i64 0), (Go.Value.int Go.IntKind.u64 0), (Go.Value.int Go.IntKind.i64 0), (Go.Value.int Go.IntKind.u64 0), (Go.Value.pointer Option.none), (Go.Value.int Go.IntKind.i64 0), (Go.Value.int Go.IntKind.i64 0), (Go.Value.int Go.IntKind.u64 0), (Go.Value.int Go.IntKind.i64 0), (Go.Value.int Go.IntKind.u64 0), (Go.Value.bool Bool.false), (Go.Value.bool Bool.false), Go.Value.nilFunc, (Go.Value.int Go.IntKind.i64 0), (Go.Value.int Go.IntKind.u64 0), (Go.Value.slice Option.none 0 0), (Go.Value.slice Option.none 0 0), (Go.Value.int Go.IntKind.i64 0), (Go.Value.int Go.IntKind.i64 0), (Go.Value.int Go.IntKind.u64 0), (Go.Value.int Go.IntKind.i64 0), (Go.Value.int Go.IntKind.u64 0), (Go.Value.int Go.IntKind.i64 0), (Go.Value.int Go.IntKind.i64 0), (Go.Value.int Go.IntKind.u64 0), (Go.Value.int Go.IntKind.i64 0), (Go.Value.int Go.IntKind.u64 0), (Go.Value.bool Bool.false)] [(0, 14, x27), (14, 1, (Go.Value.int Go.IntKind.i64 1)), (15, 5, x28)]) fun x29 => S.bd (alv s x29) fun r30 => some ((Value.tuple ⟨[r30.1, (Go.Value.int Go.IntKind.i64 0)]⟩), r30.2))

def splice_New.t (S : Sig) (a0 : Value) (s : St) : Option (Value × St) :=
  S.bd (bx a0) fun c1 => S.bd (lcl c1 3) fun x2 => S.bd (eqb [1] false false x2 (Go.Value.int Go.IntKind.i64 2)) fun x3 => S.bd (S.gd x3 true (lal c1 5 2)) fun x4 => S.bd (S.gd x3 true (lal c1 0 2)) fun x5 => S.bd (S.gd x3 true (vec_Begins.r x4 x5 s)) fun x6 => S.bd (pik x3 x6 (Go.Value.bool Bool.false)) fun x7 => S.bd (lal c1 8 2) fun x8 => S.bd (key_Check.r x8 s) fun x9 => S.bd (eqb [1] false false x9 (Go.Value.int Go.IntKind.i64 0)) fun x10 => S.bd (S.gd x10 true (lal c1 8 2)) fun x11 => S.bd (S.gd x10 true (lal c1 3 2)) fun x12 => S.bd (S.gd x10 true (key_Less.r x11 x12 s)) fun x13 => S.bd (pik x10 x13 (Go.Value.bool Bool.false)) fun x14 => S.bd (un .not x7) fun x15 => S.bd (S.gd x15 false (some x14)) fun x16 => S.bd (S.gd x15 false (un .not x16)) fun x17 => S.bd (pik x15 (Go.Value.bool Bool.true) x17) fun x18 => splice_New.t.p1 S x18 c1 s
def splice_New.v (a0 : Value) (s : St) : Option (Value × St) := splice_New.t std a0 s
def splice_New.w : List Value → St → Option (Value × St)
  | [a0], s => splice_New.v a0 s
  | _, _ => none
def splice_New.an : An := ⟨56, false, [1], [], [], [], [], []⟩
theorem splice_New.ok (S : Sig) (a0 : Value) (s : St) : evF S Try.prog splice_New.ctx splice_New.an Try.f14 [a0] s = splice_New.t S a0 s := by kernel_rfl
theorem splice_New.cok : CtxOk Try.prog splice_New.ctx := .cons vec_Begins.sound vec_Begins.can <| .cons key_Check.sound key_Check.can <| .cons key_Less.sound key_Less.can <| .cons vec_Right.sound vec_Right.can <| .cons lock_Check.sound lock_Check.can <| .nil
theorem splice_New.draws : fnDraws splice_New.an Try.f14 = true := by kernel_rfl
theorem splice_New.can : callOk Try.prog 14 = true := by kernel_rfl
theorem splice_New.sound : FnOk Try.prog 14 (.st splice_New.w) := FnOk.st_of (evF_ok splice_New.cok mixed (f := 14) (fn := Try.f14) (by kernel_rfl) splice_New.draws) fun args s r h => by
  unfold splice_New.w at h; split at h
  · rw [splice_New.ok std]; exact h
  · simp at h

/-! ### leapfrog/leapfrogref09.Tail: function 31 -/
def leapfrogref09x_Tail.ctx : Ctx := []
def leapfrogref09x_Tail.t (S : Sig) (a0 : Value) (s : St) : Option Value :=
  S.bd (bx (Go.Value.agg #[(Go.Value.int Go.IntKind.i64 0), (Go.Value.int Go.IntKind.i64 0), (Go.Value.int Go.IntKind.u64 0), (Go.Value.int Go.IntKind.i64 0), (Go.Value.int Go.IntKind.u64 0)])) fun c1 => S.bd (bin .lss a0 (Go.Value.int Go.IntKind.i64 0)) fun x2 => S.bd (S.gd x2 false (some a0)) fun x3 => S.bd (S.gd x2 false (bin .gtr x3 (Go.Value.int Go.IntKind.i64 32))) fun x4 => S.bd (pik x2 (Go.Value.bool Bool.true) x4) fun x5 => S.cnd x5 (S.bd (bld [(Go.Value.int Go.IntKind.i64 0), (Go.Value.int Go.IntKind.i64 0), (Go.Value.int Go.IntKind.u64 0), (Go.Value.int Go.IntKind.i64 0), (Go.Value.int Go.IntKind.u64 0)] []) fun x6 => S.bd (stl c1 0 5 x6) fun c7 => S.bd (lal c7 0 5) fun x8 => some ((Value.tuple ⟨[x8, (Go.Value.int Go.IntKind.i64 90)]⟩))) (S.bd (bld [(Go.Value.int Go.IntKind.i64 0), (Go.Value.int Go.IntKind.u64 0)] [(0, 1, (Go.Value.int Go.IntKind.i64 3))]) fun x9 => S.bd (bld [(Go.Value.int Go.IntKind.i64 0), (Go.Value.int Go.IntKind.u64 0)] [(0, 1, a0)]) fun x10 => S.bd (bld [(Go.Value.int Go.IntKind.i64 0), (Go.Value.int Go.IntKind.i64 0), (Go.Value.int Go.IntKind.u64 0), (Go.Value.int Go.IntKind.i64 0), (Go.Value.int Go.IntKind.u64 0)] [(0, 1, (Go.Value.int Go.IntKind.i64 1)), (1, 2, x9), (3, 2, x10)]) fun x11 => S.bd (stl c1 0 5 x11) fun c12 => S.bd (lal c12 0 5) fun x13 => some ((Value.tuple ⟨[x13, (Go.Value.int Go.IntKind.i64 0)]⟩)))
def leapfrogref09x_Tail.r (a0 : Value) (s : St) : Option Value := leapfrogref09x_Tail.t std a0 s
def leapfrogref09x_Tail.w : List Value → St → Option Value
  | [a0], s => leapfrogref09x_Tail.r a0 s
  | _, _ => none
def leapfrogref09x_Tail.an : An := ⟨15, true, [2], [], [], [], [], []⟩
theorem leapfrogref09x_Tail.ok (S : Sig) (a0 : Value) (s : St) : evG S Try.prog leapfrogref09x_Tail.ctx leapfrogref09x_Tail.an Try.f31 [a0] s = leapfrogref09x_Tail.t S a0 s := by kernel_rfl
theorem leapfrogref09x_Tail.cok : CtxOk Try.prog leapfrogref09x_Tail.ctx := .nil
theorem leapfrogref09x_Tail.draws : fnDraws leapfrogref09x_Tail.an Try.f31 = true := by kernel_rfl
theorem leapfrogref09x_Tail.can : callOk Try.prog 31 = true := by kernel_rfl
theorem leapfrogref09x_Tail.sound : FnOk Try.prog 31 (.rd leapfrogref09x_Tail.w) := FnOk.rd_of (evG_ok leapfrogref09x_Tail.cok mixed (f := 31) (fn := Try.f31) (by kernel_rfl) leapfrogref09x_Tail.draws) fun args s r h => by
  unfold leapfrogref09x_Tail.w at h; split at h
  · rw [leapfrogref09x_Tail.ok std]; exact h
  · simp at h

/-! ### (*leapfrog/splice.Splice).ask: function 39 -/
def splice_Splice_ask.ctx : Ctx := []
def splice_Splice_ask.t (S : Sig) (a0 a1 a2 : Value) (s : St) : Option Value :=
  S.bd (bx a1) fun c1 => S.bd (bx a2) fun c2 => S.bd (bx (Go.Value.agg #[(Go.Value.int Go.IntKind.i64 0), (Go.Value.int Go.IntKind.i64 0), (Go.Value.int Go.IntKind.i64 0), (Go.Value.int Go.IntKind.u64 0), (Go.Value.int Go.IntKind.i64 0), (Go.Value.int Go.IntKind.u64 0), (Go.Value.int Go.IntKind.i64 0), (Go.Value.int Go.IntKind.i64 0), (Go.Value.int Go.IntKind.u64 0), (Go.Value.int Go.IntKind.i64 0), (Go.Value.int Go.IntKind.i64 0), (Go.Value.int Go.IntKind.u64 0), (Go.Value.int Go.IntKind.i64 0), (Go.Value.int Go.IntKind.u64 0), (Go.Value.int Go.IntKind.i64 0), (Go.Value.int Go.IntKind.i64 0), (Go.Value.int Go.IntKind.u64 0), (Go.Value.int Go.IntKind.i64 0), (Go.Value.int Go.IntKind.u64 0), (Go.Value.int Go.IntKind.i64 0), (Go.Value.int Go.IntKind.i64 0), (Go.Value.int Go.IntKind.i64 0), (Go.Value.int Go.IntKind.u64 0), (Go.Value.slice Option.none 0 0), (Go.Value.slice Option.none 0 0), (Go.Value.int Go.IntKind.i64 0), (Go.Value.int Go.IntKind.i64 0), (Go.Value.int Go.IntKind.u64 0), (Go.Value.int Go.IntKind.i64 0), (Go.Value.int Go.IntKind.u64 0), (Go.Value.int Go.IntKind.i64 0), (Go.Value.int Go.IntKind.i64 0), (Go.Value.int Go.IntKind.u64 0), (Go.Value.int Go.IntKind.i64 0), (Go.Value.int Go.IntKind.u64 0), (Go.Value.bool Bool.false)])) fun c3 => S.bd (nck a0) fun x4 => S.bd (fld 0 x4) fun x5 => S.bd (fld 0 x5) fun x6 => S.bd (lda s 2 x6) fun x7 => S.bd (stl c2 1 2 x7) fun c8 => S.bd (lal c1 0 5) fun x9 => S.bd (lal c8 0 15) fun x10 => S.bd (bld [(Go.Value.int Go.IntKind.i64 0), (Go.Value.int Go.IntKind.i64 0), (Go.Value.int Go.IntKind.i64 0), (Go.Value.int Go.IntKind.u64 0), (Go.Value.int Go.IntKind.i64 0), (Go.Value.int Go.IntKind.u64 0), (Go.Value.int Go.IntKind.i64 0), (Go.Value.int Go.IntKind.i64 0), (Go.Value.int Go.IntKind.u64 0), (Go.Value.int Go.IntKind.i64 0), (Go.Value.int Go.IntKind.i64 0), (Go.Value.int Go.IntKind.u64 0), (Go.Value.int Go.IntKind.i64 0), (Go.Value.int Go.IntKind.u64 0), (Go.Value.int Go.IntKind.i64 0), (Go.Value.int Go.IntKind.i64 0), (Go.Value.int Go.IntKind.u64 0), (Go.Value.int Go.IntKind.i64 0), (Go.Value.int Go.IntKind.u64 0), (Go.Value.int Go.IntKind.i64 0), (Go.Value.int Go.IntKind.i64 0), (Go.Value.int Go.IntKind.i64 0), (Go.Value.int Go.IntKind.u64 0), (Go.Value.slice Option.none 0 0), (Go.Value.slice Option.none 0 0), (Go.Value.int Go.IntKind.i64 0), (Go.Value.int Go.IntKind.i64 0), (Go.Value.int Go.IntKind.u64 0), (Go.Value.int Go.IntKind.i64 0), (Go.Value.int Go.IntKind.u64 0), (Go.Value.int Go.IntKind.i64 0), (Go.Value.int Go.IntKind.i64 0), (Go.Value.int Go.IntKind.u64 0), (Go.Value.int Go.IntKind.i64 0), (Go.Value.int Go.IntKind.u64 0), (Go.Value.bool Bool.false)] [(0, 1, (Go.Value.int Go.IntKind.i64 1)), (1, 5, x9), (6, 15, x10)]) fun x11 => S.bd (stl c3 0 36 x11) fun c12 => S.bd (lal c12 0 36) fun x13 => some (x13)
def splice_Splice_ask.r (a0 a1 a2 : Value) (s : St) : Option Value := splice_Splice_ask.t std a0 a1 a2 s
def splice_Splice_ask.w : List Value → St → Option Value
  | [a0, a1, a2], s => splice_Splice_ask.r a0 a1 a2 s
  | _, _ => none
def splice_Splice_ask.an : An := ⟨16, true, [4, 5, 6], [], [], [], [], []⟩
theorem splice_Splice_ask.ok (S : Sig) (a0 a1 a2 : Value) (s : St) : evG S Try.prog splice_Splice_ask.ctx splice_Splice_ask.an Try.f39 [a0, a1, a2] s = splice_Splice_ask.t S a0 a1 a2 s := by kernel_rfl
theorem splice_Splice_ask.cok : CtxOk Try.prog splice_Splice_ask.ctx := .nil
theorem splice_Splice_ask.draws : fnDraws splice_Splice_ask.an Try.f39 = true := by kernel_rfl
theorem splice_Splice_ask.can : callOk Try.prog 39 = true := by kernel_rfl
theorem splice_Splice_ask.sound : FnOk Try.prog 39 (.rd splice_Splice_ask.w) := FnOk.rd_of (evG_ok splice_Splice_ask.cok mixed (f := 39) (fn := Try.f39) (by kernel_rfl) splice_Splice_ask.draws) fun args s r h => by
  unfold splice_Splice_ask.w at h; split at h
  · rw [splice_Splice_ask.ok std]; exact h
  · simp at h

/-! ### (*leapfrog/splice.Splice).Next: function 15 -/
def splice_Splice_Next.ctx : Ctx := [(39, .rd splice_Splice_ask.w)]
def splice_Splice_Next.t.p1 (S : Sig) (x8 : Value) (a0 : Value) (s : St) (c1 : List Value) : Option Value :=
  S.bd (eqb [1] false false x8 (Go.Value.int Go.IntKind.i64 10)) fun x118 => S.cnd x118 (S.bd (nck a0) fun x119 => S.bd (fld 29 x119) fun x120 => S.bd (lda s 15 x120) fun x121 => S.bd (bld [(Go.Value.int Go.IntKind.i64 0), (Go.Value.int Go.IntKind.i64 0), (Go.Value.int Go.IntKind.i64 0), (Go.Value.int Go.IntKind.u64 0), (Go.Value.int Go.IntKind.i64 0), (Go.Value.int Go.IntKind.u64 0), (Go.Value.int Go.IntKind.i64 0), (Go.Value.int Go.IntKind.i64 0), (Go.Value.int Go.IntKind.u64 0), (Go.Value.int Go.IntKind.i64 0), (Go.Value.int Go.IntKind.i64 0), (Go.Value.int Go.IntKind.u64 0), (Go.Value.int Go.IntKind.i64 0), (Go.Value.int Go.IntKind.u64 0), (Go.Value.int Go.IntKind.i64 0), (Go.Value.int Go.IntKind.i64 0), (Go.Value.int Go.IntKind.u64 0), (Go.Value.int Go.IntKind.i64 0), (Go.Value.int Go.IntKind.u64 0), (Go.Value.int Go.IntKind.i64 0), (Go.Value.int Go.IntKind.i64 0), (Go.Value.int Go.IntKind.i64 0), (Go.Value.int Go.IntKind.u64 0), (Go.Value.slice Option.none 0 0), (Go.Value.slice Option.none 0 0), (Go.Value.int Go.IntKind.i64 0), (Go.Value.int Go.IntKind.i64 0), (Go.Value.int Go.IntKind.u64 0), (Go.Value.int Go.IntKind.i64 0), (Go.Value.int Go.IntKind.u64 0), (Go.Value.int Go.IntKind.i64 0), (Go.Value.int Go.IntKind.i64 0), (Go.Value.int Go.IntKind.u64 0), (Go.Value.int Go.IntKind.i64 0), (Go.Value.int Go.IntKind.u64 0), (Go.Value.bool Bool.false)] [(0, 1, (Go.Value.int Go.IntKind.i64 3)), (21, 15, x121)]) fun x122 => S.bd (stl c1 0 36 x122) fun c123 => S.bd (lal c123 0 36) fun x124 => some (x124)) (S.bd (bld [(Go.Value.int Go.IntKind.i64 0), (Go.Value.int Go.IntKind.i64 0), (Go.Value.int Go.IntKind.i64 0), (Go.Value.int Go.IntKind.u64 0), (Go.Value.int Go.IntKind.i64 0), (Go.Value.int Go.IntKind.u64 0), (Go.Value.int Go.IntKind.i64 0), (Go.Value.int Go.IntKind.i64 0), (Go.Value.int Go.IntKind.u64 0), (Go.Value.int Go.IntKind.i64 0), (Go.Value.int Go.IntKind.i64 0), (Go.Value.int Go.IntKind.u64 0), (Go.Value.int Go.IntKind.i64 0), (Go.Value.int Go.IntKind.u64 0), (Go.Value.int Go.IntKind.i64 0), (Go.Value.int Go.IntKind.i64 0), (Go.Value.int Go.IntKind.u64 0), (Go.Value.int Go.IntKind.i64 0), (Go.Value.int Go.IntKind.u64 0), (Go.Value.int Go.IntKind.i64 0), (Go.Value.int Go.IntKind.i64 0), (Go.Value.int Go.IntKind.i64 0), (Go.Value.int Go.IntKind.u64 0), (Go.Value.slice Option.none 0 0), (Go.Value.slice Option.none 0 0), (Go.Value.int Go.IntKind.i64 0), (Go.Value.int Go.IntKind.i64 0), (Go.Value.int Go.IntKind.u64 0), (Go.Value.int Go.IntKind.i64 0), (Go.Value.int Go.IntKind.u64 0), (Go.Value.int Go.IntKind.i64 0), (Go.Value.int Go.IntKind.i64 0), (Go.Value.int Go.IntKind.u64 0), (Go.Value.int Go.IntKind.i64 0), (Go.Value.int Go.IntKind.u64 0), (Go.Value.bool Bool.false)] []) fun x125 => S.bd (stl c1 0 36 x125) fun c126 => S.bd (lal c126 0 36) fun x127 => some (x127))

def splice_Splice_Next.t.p2 (S : Sig) (x8 : Value) (a0 : Value) (s : St) (c1 : List Value) : Option Value :=
  S.bd (eqb [1] false false x8 (Go.Value.int Go.IntKind.i64 8)) fun x102 => S.cnd x102 (S.bd (nck a0) fun x103 => S.bd (fld 15 x103) fun x104 => S.bd (lda s 5 x104) fun x105 => S.bd (nck a0) fun x106 => S.bd (fld 0 x106) fun x107 => S.bd (fld 12 x107) fun x108 => S.bd (lda s 2 x108) fun x109 => S.bd (bld [(Go.Value.int Go.IntKind.i64 0), (Go.Value.int Go.IntKind.i64 0), (Go.Value.int Go.IntKind.u64 0), (Go.Value.int Go.IntKind.i64 0), (Go.Value.int Go.IntKind.i64 0), (Go.Value.int Go.IntKind.u64 0), (Go.Value.int Go.IntKind.i64 0), (Go.Value.int Go.IntKind.u64 0), (Go.Value.int Go.IntKind.i64 0), (Go.Value.int Go.IntKind.i64 0), (Go.Value.int Go.IntKind.u64 0), (Go.Value.int Go.IntKind.i64 0), (Go.Value.int Go.IntKind.u64 0), (Go.Value.int Go.IntKind.i64 0), (Go.Value.int Go.IntKind.i64 0)] [(0, 1, (Go.Value.int Go.IntKind.i64 4)), (13, 2, x109)]) fun x110 => S.bd (splice_Splice_ask.r a0 x105 x110 s) fun x111 => S.bd (stl c1 0 36 x111) fun c112 => S.bd (lal c112 0 36) fun x113 => some (x113)) (S.bd (eqb [1] false false x8 (Go.Value.int Go.IntKind.i64 9)) fun x114 => S.cnd x114 (S.bd (bld [(Go.Value.int Go.IntKind.i64 0), (Go.Value.int Go.IntKind.i64 0), (Go.Value.int Go.IntKind.i64 0), (Go.Value.int Go.IntKind.u64 0), (Go.Value.int Go.IntKind.i64 0), (Go.Value.int Go.IntKind.u64 0), (Go.Value.int Go.IntKind.i64 0), (Go.Value.int Go.IntKind.i64 0), (Go.Value.int Go.IntKind.u64 0), (Go.Value.int Go.IntKind.i64 0), (Go.Value.int Go.IntKind.i64 0), (Go.Value.int Go.IntKind.u64 0), (Go.Value.int Go.IntKind.i64 0), (Go.Value.int Go.IntKind.u64 0), (Go.Value.int Go.IntKind.i64 0), (Go.Value.int Go.IntKind.i64 0), (Go.Value.int Go.IntKind.u64 0), (Go.Value.int Go.IntKind.i64 0), (Go.Value.int Go.IntKind.u64 0), (Go.Value.int Go.IntKind.i64 0), (Go.Value.int Go.IntKind.i64 0), (Go.Value.int Go.IntKind.i64 0), (Go.Value.int Go.IntKind.u64 0), (Go.Value.slice Option.none 0 0), (Go.Value.slice Option.none 0 0), (Go.Value.int Go.IntKind.i64 0), (Go.Value.int Go.IntKind.i64 0), (Go.Value.int Go.IntKind.u64 0), (Go.Value.int Go.IntKind.i64 0), (Go.Value.int Go.IntKind.u64 0), (Go.Value.int Go.IntKind.i64 0), (Go.Value.int Go.IntKind.i64 0), (Go.Value.int Go.IntKind.u64 0), (Go.Value.int Go.IntKind.i64 0), (Go.Value.int Go.IntKind.u64 0), (Go.Value.bool Bool.false)] [(0, 1, (Go.Value.int Go.IntKind.i64 2))]) fun x115 => S.bd (stl c1 0 36 x115) fun c116 => S.bd (lal c116 0 36) fun x117 => some (x117)) (splice_Splice_Next.t.p1 S x8 a0 s c1))

def splice_Splice_Next.t.p3 (S : Sig) (x8 : Value) (a0 : Value) (s : St) (c1 : List Value) : Option Value :=
  S.bd (eqb [1] false false x8 (Go.Value.int Go.IntKind.i64 6)) fun x76 => S.cnd x76 (S.bd (nck a0) fun x77 => S.bd (fld 0 x77) fun x78 => S.bd (fld 2 x78) fun x79 => S.bd (lda s 5 x79) fun x80 => S.bd (nck a0) fun x81 => S.bd (fld 0 x81) fun x82 => S.bd (fld 12 x82) fun x83 => S.bd (lda s 2 x83) fun x84 => S.bd (bld [(Go.Value.int Go.IntKind.i64 0), (Go.Value.int Go.IntKind.i64 0), (Go.Value.int Go.IntKind.u64 0), (Go.Value.int Go.IntKind.i64 0), (Go.Value.int Go.IntKind.i64 0), (Go.Value.int Go.IntKind.u64 0), (Go.Value.int Go.IntKind.i64 0), (Go.Value.int Go.IntKind.u64 0), (Go.Value.int Go.IntKind.i64 0), (Go.Value.int Go.IntKind.i64 0), (Go.Value.int Go.IntKind.u64 0), (Go.Value.int Go.IntKind.i64 0), (Go.Value.int Go.IntKind.u64 0), (Go.Value.int Go.IntKind.i64 0), (Go.Value.int Go.IntKind.i64 0)] [(0, 1, (Go.Value.int Go.IntKind.i64 4)), (13, 2, x84)]) fun x85 => S.bd (splice_Splice_ask.r a0 x80 x85 s) fun x86 => S.bd (stl c1 0 36 x86) fun c87 => S.bd (lal c87 0 36) fun x88 => some (x88)) (S.bd (eqb [1] false false x8 (Go.Value.int Go.IntKind.i64 7)) fun x89 => S.cnd x89 (S.bd (nck a0) fun x90 => S.bd (fld 0 x90) fun x91 => S.bd (fld 2 x91) fun x92 => S.bd (lda s 5 x92) fun x93 => S.bd (nck a0) fun x94 => S.bd (fld 0 x94) fun x95 => S.bd (fld 12 x95) fun x96 => S.bd (lda s 2 x96) fun x97 => S.bd (bld [(Go.Value.int Go.IntKind.i64 0), (Go.Value.int Go.IntKind.i64 0), (Go.Value.int Go.IntKind.u64 0), (Go.Value.int Go.IntKind.i64 0), (Go.Value.int Go.IntKind.i64 0), (Go.Value.int Go.IntKind.u64 0), (Go.Value.int Go.IntKind.i64 0), (Go.Value.int Go.IntKind.u64 0), (Go.Value.int Go.IntKind.i64 0), (Go.Value.int Go.IntKind.i64 0), (Go.Value.int Go.IntKind.u64 0), (Go.Value.int Go.IntKind.i64 0), (Go.Value.int Go.IntKind.u64 0), (Go.Value.int Go.IntKind.i64 0), (Go.Value.int Go.IntKind.i64 0)] [(0, 1, (Go.Value.int Go.IntKind.i64 8)), (13, 2, x97)]) fun x98 => S.bd (splice_Splice_ask.r a0 x93 x98 s) fun x99 => S.bd (stl c1 0 36 x99) fun c100 => S.bd (lal c100 0 36) fun x101 => some (x101)) (splice_Splice_Next.t.p2 S x8 a0 s c1))

def splice_Splice_Next.t.p4 (S : Sig) (x8 : Value) (a0 : Value) (s : St) (c1 : List Value) : Option Value :=
  S.bd (eqb [1] false false x8 (Go.Value.int Go.IntKind.i64 4)) fun x48 => S.cnd x48 (S.bd (nck a0) fun x49 => S.bd (fld 15 x49) fun x50 => S.bd (lda s 5 x50) fun x51 => S.bd (nck a0) fun x52 => S.bd (fld 0 x52) fun x53 => S.bd (fld 2 x53) fun x54 => S.bd (lda s 5 x54) fun x55 => S.bd (nck a0) fun x56 => S.bd (fld 0 x56) fun x57 => S.bd (fld 12 x57) fun x58 => S.bd (lda s 2 x58) fun x59 => S.bd (bld [(Go.Value.int Go.IntKind.i64 0), (Go.Value.int Go.IntKind.i64 0), (Go.Value.int Go.IntKind.u64 0), (Go.Value.int Go.IntKind.i64 0), (Go.Value.int Go.IntKind.i64 0), (Go.Value.int Go.IntKind.u64 0), (Go.Value.int Go.IntKind.i64 0), (Go.Value.int Go.IntKind.u64 0), (Go.Value.int Go.IntKind.i64 0), (Go.Value.int Go.IntKind.i64 0), (Go.Value.int Go.IntKind.u64 0), (Go.Value.int Go.IntKind.i64 0), (Go.Value.int Go.IntKind.u64 0), (Go.Value.int Go.IntKind.i64 0), (Go.Value.int Go.IntKind.i64 0)] [(0, 1, (Go.Value.int Go.IntKind.i64 5)), (3, 5, x55), (13, 2, x59)]) fun x60 => S.bd (splice_Splice_ask.r a0 x51 x60 s) fun x61 => S.bd (stl c1 0 36 x61) fun c62 => S.bd (lal c62 0 36) fun x63 => some (x63)) (S.bd (eqb [1] false false x8 (Go.Value.int Go.IntKind.i64 5)) fun x64 => S.cnd x64 (S.bd (nck a0) fun x65 => S.bd (fld 21 x65) fun x66 => S.bd (lda s 5 x66) fun x67 => S.bd (nck a0) fun x68 => S.bd (fld 0 x68) fun x69 => S.bd (fld 2 x69) fun x70 => S.bd (lda s 5 x70) fun x71 => S.bd (bld [(Go.Value.int Go.IntKind.i64 0), (Go.Value.int Go.IntKind.i64 0), (Go.Value.int Go.IntKind.u64 0), (Go.Value.int Go.IntKind.i64 0), (Go.Value.int Go.IntKind.i64 0), (Go.Value.int Go.IntKind.u64 0), (Go.Value.int Go.IntKind.i64 0), (Go.Value.int Go.IntKind.u64 0), (Go.Value.int Go.IntKind.i64 0), (Go.Value.int Go.IntKind.i64 0), (Go.Value.int Go.IntKind.u64 0), (Go.Value.int Go.IntKind.i64 0), (Go.Value.int Go.IntKind.u64 0), (Go.Value.int Go.IntKind.i64 0), (Go.Value.int Go.IntKind.i64 0)] [(0, 1, (Go.Value.int Go.IntKind.i64 6)), (3, 5, x71)]) fun x72 => S.bd (splice_Splice_ask.r a0 x67 x72 s) fun x73 => S.bd (stl c1 0 36 x73) fun c74 => S.bd (lal c74 0 36) fun x75 => some (x75)) (splice_Splice_Next.t.p3 S x8 a0 s c1))

def splice_Splice_Next.t.p5 (S : Sig) (x8 : Value) (a0 : Value) (s : St) (c1 : List Value) : Option Value :=
  S.bd (eqb [1] false false x8 (Go.Value.int Go.IntKind.i64 2)) fun x21 => S.cnd x21 (S.bd (nck a0) fun x22 => S.bd (fld 21 x22) fun x23 => S.bd (lda s 5 x23) fun x24 => S.bd (bld [(Go.Value.int Go.IntKind.i64 0), (Go.Value.int Go.IntKind.i64 0), (Go.Value.int Go.IntKind.u64 0), (Go.Value.int Go.IntKind.i64 0), (Go.Value.int Go.IntKind.i64 0), (Go.Value.int Go.IntKind.u64 0), (Go.Value.int Go.IntKind.i64 0), (Go.Value.int Go.IntKind.u64 0), (Go.Value.int Go.IntKind.i64 0), (Go.Value.int Go.IntKind.i64 0), (Go.Value.int Go.IntKind.u64 0), (Go.Value.int Go.IntKind.i64 0), (Go.Value.int Go.IntKind.u64 0), (Go.Value.int Go.IntKind.i64 0), (Go.Value.int Go.IntKind.i64 0)] [(0, 1, (Go.Value.int Go.IntKind.i64 1))]) fun x25 => S.bd (splice_Splice_ask.r a0 x24 x25 s) fun x26 => S.bd (stl c1 0 36 x26) fun c27 => S.bd (lal c27 0 36) fun x28 => some (x28)) (S.bd (eqb [1] false false x8 (Go.Value.int Go.IntKind.i64 3)) fun x29 => S.cnd x29 (S.bd (nck a0) fun x30 => S.bd (fld 0 x30) fun x31 => S.bd (fld 2 x31) fun x32 => S.bd (lda s 5 x32) fun x33 => S.bd (nck a0) fun x34 => S.bd (fld 15 x34) fun x35 => S.bd (lda s 5 x35) fun x36 => S.bd (nck a0) fun x37 => S.bd (fld 21 x37) fun x38 => S.bd (lda s 5 x38) fun x39 => S.bd (nck a0) fun x40 => S.bd (fld 0 x40) fun x41 => S.bd (fld 12 x41) fun x42 => S.bd (lda s 2 x42) fun x43 => S.bd (bld [(Go.Value.int Go.IntKind.i64 0), (Go.Value.int Go.IntKind.i64 0), (Go.Value.int Go.IntKind.u64 0), (Go.Value.int Go.IntKind.i64 0), (Go.Value.int Go.IntKind.i64 0), (Go.Value.int Go.IntKind.u64 0), (Go.Value.int Go.IntKind.i64 0), (Go.Value.int Go.IntKind.u64 0), (Go.Value.int Go.IntKind.i64 0), (Go.Value.int Go.IntKind.i64 0), (Go.Value.int Go.IntKind.u64 0), (Go.Value.int Go.IntKind.i64 0), (Go.Value.int Go.IntKind.u64 0), (Go.Value.int Go.IntKind.i64 0), (Go.Value.int Go.IntKind.i64 0)] [(0, 1, (Go.Value.int Go.IntKind.i64 7)), (3, 5, x36), (8, 5, x39), (13, 2, x43)]) fun x44 => S.bd (splice_Splice_ask.r a0 x33 x44 s) fun x45 => S.bd (stl c1 0 36 x45) fun c46 => S.bd (lal c46 0 36) fun x47 => some (x47)) (splice_Splice_Next.t.p4 S x8 a0 s c1))

def splice_Splice_Next.t (S : Sig) (a0 : Value) (s : St) : Option Value :=
  S.bd (bx (Go.Value.agg #[(Go.Value.int Go.IntKind.i64 0), (Go.Value.int Go.IntKind.i64 0), (Go.Value.int Go.IntKind.i64 0), (Go.Value.int Go.IntKind.u64 0), (Go.Value.int Go.IntKind.i64 0), (Go.Value.int Go.IntKind.u64 0), (Go.Value.int Go.IntKind.i64 0), (Go.Value.int Go.IntKind.i64 0), (Go.Value.int Go.IntKind.u64 0), (Go.Value.int Go.IntKind.i64 0), (Go.Value.int Go.IntKind.i64 0), (Go.Value.int Go.IntKind.u64 0), (Go.Value.int Go.IntKind.i64 0), (Go.Value.int Go.IntKind.u64 0), (Go.Value.int Go.IntKind.i64 0), (Go.Value.int Go.IntKind.i64 0), (Go.Value.int Go.IntKind.u64 0), (Go.Value.int Go.IntKind.i64 0), (Go.Value.int Go.IntKind.u64 0), (Go.Value.int Go.IntKind.i64 0), (Go.Value.int Go.IntKind.i64 0), (Go.Value.int Go.IntKind.i64 0), (Go.Value.int Go.IntKind.u64 0), (Go.Value.slice Option.none 0 0), (Go.Value.slice Option.none 0 0), (Go.Value.int Go.IntKind.i64 0), (Go.Value.int Go.IntKind.i64 0), (Go.Value.int Go.IntKind.u64 0), (Go.Value.int Go.IntKind.i64 0), (Go.Value.int Go.IntKind.u64 0), (Go.Value.int Go.IntKind.i64 0), (Go.Value.int Go.IntKind.i64 0), (Go.Value.int Go.IntKind.u64 0), (Go.Value.int Go.IntKind.i64 0), (Go.Value.int Go.IntKind.u64 0), (Go.Value.bool Bool.false)])) fun c1 => S.bd (eqb [3] false false a0 (Go.Value.pointer Option.none)) fun x2 => S.cnd x2 (S.bd (bld [(Go.Value.int Go.IntKind.i64 0), (Go.Value.int Go.IntKind.i64 0), (Go.Value.int Go.IntKind.i64 0), (Go.Value.int Go.IntKind.u64 0), (Go.Value.int Go.IntKind.i64 0), (Go.Value.int Go.IntKind.u64 0), (Go.Value.int Go.IntKind.i64 0), (Go.Value.int Go.IntKind.i64 0), (Go.Value.int Go.IntKind.u64 0), (Go.Value.int Go.IntKind.i64 0), (Go.Value.int Go.IntKind.i64 0), (Go.Value.int Go.IntKind.u64 0), (Go.Value.int Go.IntKind.i64 0), (Go.Value.int Go.IntKind.u64 0), (Go.Value.int Go.IntKind.i64 0), (Go.Value.int Go.IntKind.i64 0), (Go.Value.int Go.IntKind.u64 0), (Go.Value.int Go.IntKind.i64 0), (Go.Value.int Go.IntKind.u64 0), (Go.Value.int Go.IntKind.i64 0), (Go.Value.int Go.IntKind.i64 0), (Go.Value.int Go.IntKind.i64 0), (Go.Value.int Go.IntKind.u64 0), (Go.Value.slice Option.none 0 0), (Go.Value.slice Option.none 0 0), (Go.Value.int Go.IntKind.i64 0), (Go.Value.int Go.IntKind.i64 0), (Go.Value.int Go.IntKind.u64 0), (Go.Value.int Go.IntKind.i64 0), (Go.Value.int Go.IntKind.u64 0), (Go.Value.int Go.IntKind.i64 0), (Go.Value.int Go.IntKind.i64 0), (Go.Value.int Go.IntKind.u64 0), (Go.Value.int Go.IntKind.i64 0), (Go.Value.int Go.IntKind.u64 0), (Go.Value.bool Bool.false)] []) fun x3 => S.bd (stl c1 0 36 x3) fun c4 => S.bd (lal c4 0 36) fun x5 => some (x5)) (S.bd (nck a0) fun x6 => S.bd (fld 14 x6) fun x7 => S.bd (ldc s x7) fun x8 => S.bd (eqb [1] false false x8 (Go.Value.int Go.IntKind.i64 1)) fun x9 => S.cnd x9 (S.bd (nck a0) fun x10 => S.bd (fld 15 x10) fun x11 => S.bd (lda s 5 x11) fun x12 => S.bd (nck a0) fun x13 => S.bd (fld 0 x13) fun x14 => S.bd (fld 12 x14) fun x15 => S.bd (lda s 2 x15) fun x16 => S.bd (bld [(Go.Value.int Go.IntKind.i64 0), (Go.Value.int Go.IntKind.i64 0), (Go.Value.int Go.IntKind.u64 0), (Go.Value.int Go.IntKind.i64 0), (Go.Value.int Go.IntKind.i64 0), (Go.Value.int Go.IntKind.u64 0), (Go.Value.int Go.IntKind.i64 0), (Go.Value.int Go.IntKind.u64 0), (Go.Value.int Go.IntKind.i64 0), (Go.Value.int Go.IntKind.i64 0), (Go.Value.int Go.IntKind.u64 0), (Go.Value.int Go.IntKind.i64 0), (Go.Value.int Go.IntKind.u64 0), (Go.Value.int Go.IntKind.i64 0), (Go.Value.int Go.IntKind.i64 0)] [(0, 1, (Go.Value.int Go.IntKind.i64 3)), (13, 2, x16)]) fun x17 => S.bd (splice_Splice_ask.r a0 x12 x17 s) fun x18 => S.bd (stl c1 0 36 x18) fun c19 => S.bd (lal c19 0 36) fun x20 => some (x20)) (splice_Splice_Next.t.p5 S x8 a0 s c1))
def splice_Splice_Next.r (a0 : Value) (s : St) : Option Value := splice_Splice_Next.t std a0 s
def splice_Splice_Next.w : List Value → St → Option Value
  | [a0], s => splice_Splice_Next.r a0 s
  | _, _ => none
def splice_Splice_Next.an : An := ⟨144, true, [2], [], [], [(5, [(0, 0, [], []), (1, 0, [], []), (2, 0, [], []), (3, 0, [], []), (4, 2, [], []), (5, 0, [], []), (6, 0, [], []), (7, 0, [], []), (8, 0, [], []), (9, 2, [], []), (10, 0, [], []), (11, 3, [], []), (12, 21, [], [])]), (9, [(0, 0, [], []), (1, 0, [], []), (2, 0, [], []), (3, 0, [], []), (4, 0, [], []), (5, 2, [], []), (6, 0, [], []), (7, 0, [], []), (8, 0, [], []), (9, 2, [], []), (10, 0, [], []), (11, 0, [], []), (12, 0, [], []), (13, 2, [], []), (14, 0, [], []), (15, 0, [], []), (16, 0, [], []), (17, 0, [], []), (18, 2, [], []), (19, 0, [], []), (20, 3, [], []), (21, 21, [], [])]), (11, [(0, 0, [], []), (1, 0, [], []), (2, 0, [], []), (3, 0, [], []), (4, 2, [], []), (5, 0, [], []), (6, 0, [], []), (7, 0, [], []), (8, 0, [], []), (9, 2, [], []), (10, 0, [], []), (11, 0, [], []), (12, 0, [], []), (13, 0, [], []), (14, 2, [], []), (15, 0, [], []), (16, 3, [], []), (17, 21, [], [])]), (13, [(0, 0, [], []), (1, 0, [], []), (2, 0, [], []), (3, 0, [], []), (4, 2, [], []), (5, 0, [], []), (6, 0, [], []), (7, 0, [], []), (8, 0, [], []), (9, 2, [], []), (10, 0, [], []), (11, 3, [], []), (12, 21, [], [])]), (15, [(0, 0, [], []), (1, 0, [], []), (2, 0, [], []), (3, 0, [], []), (4, 0, [], []), (5, 2, [], []), (6, 0, [], []), (7, 0, [], []), (8, 0, [], []), (9, 0, [], []), (10, 2, [], []), (11, 0, [], []), (12, 3, [], []), (13, 21, [], [])]), (17, [(0, 0, [], []), (1, 0, [], []), (2, 0, [], []), (3, 0, [], []), (4, 0, [], []), (5, 2, [], []), (6, 0, [], []), (7, 0, [], []), (8, 0, [], []), (9, 0, [], []), (10, 2, [], []), (11, 0, [], []), (12, 3, [], []), (13, 21, [], [])]), (19, [(0, 0, [], []), (1, 0, [], []), (2, 0, [], []), (3, 0, [], []), (4, 2, [], []), (5, 0, [], []), (6, 0, [], []), (7, 0, [], []), (8, 0, [], []), (9, 2, [], []), (10, 0, [], []), (11, 3, [], []), (12, 21, [], [])])], [], []⟩
theorem splice_Splice_Next.ok (S : Sig) (a0 : Value) (s : St) : evG S Try.prog splice_Splice_Next.ctx splice_Splice_Next.an Try.f15 [a0] s = splice_Splice_Next.t S a0 s := by kernel_rfl
theorem splice_Splice_Next.cok : CtxOk Try.prog splice_Splice_Next.ctx := .cons splice_Splice_ask.sound splice_Splice_ask.can <| .nil
theorem splice_Splice_Next.draws : fnDraws splice_Splice_Next.an Try.f15 = true := by kernel_rfl
theorem splice_Splice_Next.can : callOk Try.prog 15 = true := by kernel_rfl
theorem splice_Splice_Next.sound : FnOk Try.prog 15 (.rd splice_Splice_Next.w) := FnOk.rd_of (evG_ok splice_Splice_Next.cok mixed (f := 15) (fn := Try.f15) (by kernel_rfl) splice_Splice_Next.draws) fun args s r h => by
  unfold splice_Splice_Next.w at h; split at h
  · rw [splice_Splice_Next.ok std]; exact h
  · simp at h

/-! ### (*leapfrog/splice.Splice).free: function 45 -/
def splice_Splice_free.ctx : Ctx := [(46, .st splice_Splice_Tell_fn1.w), (80, .st splice_Splice_wait_fn1.w), (81, .st splice_Splice_done_fn1.w), (82, .st splice_Splice_fail_fn1.w), (101, .st splice_Splice_look_fn1.w)]
def splice_Splice_free.t (S : Sig) (a0 a1 : Value) (s : St) : Option (Value × St) :=
  S.bd (nck a0) fun x1 => S.bd (fld 26 x1) fun x2 => S.bd (ldc s x2) fun x3 => S.cnd x3 (S.bd (callV (splice_Splice_free.ctx) a1 [] s) fun r4 => some ((Value.tuple ⟨[]⟩), r4.2)) (S.bd (nck a0) fun x5 => S.bd (fld 14 x5) fun x6 => S.bd (stv s 1 x6 (Go.Value.int Go.IntKind.i64 8)) fun s7 => S.bd (nck a0) fun x8 => S.bd (fld 28 x8) fun x9 => S.bd (stv s7 1 x9 a1) fun s10 => some ((Value.tuple ⟨[]⟩), s10))
def splice_Splice_free.v (a0 a1 : Value) (s : St) : Option (Value × St) := splice_Splice_free.t std a0 a1 s
def splice_Splice_free.w : List Value → St → Option (Value × St)
  | [a0, a1], s => splice_Splice_free.v a0 a1 s
  | _, _ => none
def splice_Splice_free.an : An := ⟨17, false, [], [], [], [], [], []⟩
theorem splice_Splice_free.ok (S : Sig) (a0 a1 : Value) (s : St) : evF S Try.prog splice_Splice_free.ctx splice_Splice_free.an Try.f45 [a0, a1] s = splice_Splice_free.t S a0 a1 s := by kernel_rfl
theorem splice_Splice_free.cok : CtxOk Try.prog splice_Splice_free.ctx := .cons splice_Splice_Tell_fn1.sound splice_Splice_Tell_fn1.can <| .cons splice_Splice_wait_fn1.sound splice_Splice_wait_fn1.can <| .cons splice_Splice_done_fn1.sound splice_Splice_done_fn1.can <| .cons splice_Splice_fail_fn1.sound splice_Splice_fail_fn1.can <| .cons splice_Splice_look_fn1.sound splice_Splice_look_fn1.can <| .nil
theorem splice_Splice_free.draws : fnDraws splice_Splice_free.an Try.f45 = true := by kernel_rfl
theorem splice_Splice_free.can : callOk Try.prog 45 = true := by kernel_rfl
theorem splice_Splice_free.sound : FnOk Try.prog 45 (.st splice_Splice_free.w) := FnOk.st_of (evF_ok splice_Splice_free.cok mixed (f := 45) (fn := Try.f45) (by kernel_rfl) splice_Splice_free.draws) fun args s r h => by
  unfold splice_Splice_free.w at h; split at h
  · rw [splice_Splice_free.ok std]; exact h
  · simp at h

/-! ### (*leapfrog/splice.Splice).fail: function 52 -/
def splice_Splice_fail.ctx : Ctx := [(45, .st splice_Splice_free.w)]
def splice_Splice_fail.t (S : Sig) (a0 a1 : Value) (s : St) : Option (Value × St) :=
  S.bd (alv s a0) fun r1 => S.bd (alv r1.2 a1) fun r2 => S.bd (ldc r2.2 r1.1) fun x3 => S.bd (splice_Splice_free.v x3 (Value.func (.func 82) ⟨[]⟩ ⟨[r1.1, r2.1]⟩) r2.2) fun r4 => some ((Value.tuple ⟨[]⟩), r4.2)
def splice_Splice_fail.v (a0 a1 : Value) (s : St) : Option (Value × St) := splice_Splice_fail.t std a0 a1 s
def splice_Splice_fail.w : List Value → St → Option (Value × St)
  | [a0, a1], s => splice_Splice_fail.v a0 a1 s
  | _, _ => none
def splice_Splice_fail.an : An := ⟨7, false, [], [], [], [], [], []⟩
theorem splice_Splice_fail.ok (S : Sig) (a0 a1 : Value) (s : St) : evF S Try.prog splice_Splice_fail.ctx splice_Splice_fail.an Try.f52 [a0, a1] s = splice_Splice_fail.t S a0 a1 s := by kernel_rfl
theorem splice_Splice_fail.cok : CtxOk Try.prog splice_Splice_fail.ctx := .cons splice_Splice_free.sound splice_Splice_free.can <| .nil
theorem splice_Splice_fail.draws : fnDraws splice_Splice_fail.an Try.f52 = true := by kernel_rfl
theorem splice_Splice_fail.can : callOk Try.prog 52 = true := by kernel_rfl
theorem splice_Splice_fail.sound : FnOk Try.prog 52 (.st splice_Splice_fail.w) := FnOk.st_of (evF_ok splice_Splice_fail.cok mixed (f := 52) (fn := Try.f52) (by kernel_rfl) splice_Splice_fail.draws) fun args s r h => by
  unfold splice_Splice_fail.w at h; split at h
  · rw [splice_Splice_fail.ok std]; exact h
  · simp at h

/-! ### (*leapfrog/splice.Splice).wait: function 48 -/
def splice_Splice_wait.ctx : Ctx := [(45, .st splice_Splice_free.w)]
def splice_Splice_wait.t (S : Sig) (a0 : Value) (s : St) : Option (Value × St) :=
  S.bd (alv s a0) fun r1 => S.bd (ldc r1.2 r1.1) fun x2 => S.bd (splice_Splice_free.v x2 (Value.func (.func 80) ⟨[]⟩ ⟨[r1.1]⟩) r1.2) fun r3 => some ((Value.tuple ⟨[]⟩), r3.2)
def splice_Splice_wait.v (a0 : Value) (s : St) : Option (Value × St) := splice_Splice_wait.t std a0 s
def splice_Splice_wait.w : List Value → St → Option (Value × St)
  | [a0], s => splice_Splice_wait.v a0 s
  | _, _ => none
def splice_Splice_wait.an : An := ⟨5, false, [], [], [], [], [], []⟩
theorem splice_Splice_wait.ok (S : Sig) (a0 : Value) (s : St) : evF S Try.prog splice_Splice_wait.ctx splice_Splice_wait.an Try.f48 [a0] s = splice_Splice_wait.t S a0 s := by kernel_rfl
theorem splice_Splice_wait.cok : CtxOk Try.prog splice_Splice_wait.ctx := .cons splice_Splice_free.sound splice_Splice_free.can <| .nil
theorem splice_Splice_wait.draws : fnDraws splice_Splice_wait.an Try.f48 = true := by kernel_rfl
theorem splice_Splice_wait.can : callOk Try.prog 48 = true := by kernel_rfl
theorem splice_Splice_wait.sound : FnOk Try.prog 48 (.st splice_Splice_wait.w) := FnOk.st_of (evF_ok splice_Splice_wait.cok mixed (f := 48) (fn := Try.f48) (by kernel_rfl) splice_Splice_wait.draws) fun args s r h => by
  unfold splice_Splice_wait.w at h; split at h
  · rw [splice_Splice_wait.ok std]; exact h
  · simp at h

/-! ### (*leapfrog/splice.Splice).look: function 79 -/
def splice_Splice_look.ctx : Ctx := [(36, .rd key_Less.w), (52, .st splice_Splice_fail.w), (45, .st splice_Splice_free.w), (48, .st splice_Splice_wait.w)]
def splice_Splice_look.t.p1 (S : Sig) (x9 : Value) (r1 : Value × St) (x6 : Value) : Option (Value × St) :=
  S.bd (fld 1 x9) fun x10 => S.bd (lda r1.2 2 x10) fun x11 => S.bd (key_Less.r x6 x11 r1.2) fun x12 => S.bd (un .not x12) fun x13 => S.cnd x13 (S.bd (ldc r1.2 r1.1) fun x14 => S.bd (splice_Splice_fail.v x14 (Go.Value.int Go.IntKind.i64 131) r1.2) fun r15 => some ((Value.tuple ⟨[]⟩), r15.2)) (S.bd (ldc r1.2 r1.1) fun x16 => S.bd (nck x16) fun x17 => S.bd (fld 21 x17) fun x18 => S.bd (fld 1 x18) fun x19 => S.bd (lda r1.2 2 x19) fun x20 => S.bd (ldc r1.2 r1.1) fun x21 => S.bd (nck x21) fun x22 => S.bd (fld 0 x22) fun x23 => S.bd (fld 2 x23) fun x24 => S.bd (fld 1 x24) fun x25 => S.bd (lda r1.2 2 x25) fun x26 => S.bd (key_Less.r x20 x26 r1.2) fun x27 => S.cnd x27 (S.bd (ldc r1.2 r1.1) fun x28 => S.bd (splice_Splice_free.v x28 (Value.func (.func 101) ⟨[]⟩ ⟨[r1.1]⟩) r1.2) fun r29 => some ((Value.tuple ⟨[]⟩), r29.2)) (S.bd (ldc r1.2 r1.1) fun x30 => S.bd (nck x30) fun x31 => S.bd (fld 21 x31) fun x32 => S.bd (fld 1 x32) fun x33 => S.bd (lda r1.2 2 x33) fun x34 => S.bd (ldc r1.2 r1.1) fun x35 => S.bd (nck x35) fun x36 => S.bd (fld 0 x36) fun x37 => S.bd (fld 2 x37) fun x38 => S.bd (fld 1 x38) fun x39 => S.bd (lda r1.2 2 x39) fun x40 => S.bd (eqb [1, 1] true true x34 x40) fun x41 => S.cnd x41 (S.bd (ldc r1.2 r1.1) fun x42 => S.bd (nck x42) fun x43 => S.bd (fld 14 x43) fun x44 => S.bd (stv r1.2 1 x44 (Go.Value.int Go.IntKind.i64 3)) fun s45 => some ((Value.tuple ⟨[]⟩), s45)) (S.bd (ldc r1.2 r1.1) fun x46 => S.bd (nck x46) fun x47 => S.bd (fld 0 x47) fun x48 => S.bd (fld 0 x48) fun x49 => S.bd (fld 0 x49) fun x50 => S.bd (ldc r1.2 x50) fun x51 => S.bd (bin .gtr x51 (Go.Value.int Go.IntKind.i64 0)) fun x52 => S.cnd x52 (S.bd (ldc r1.2 r1.1) fun x53 => S.bd (splice_Splice_wait.v x53 r1.2) fun r54 => some ((Value.tuple ⟨[]⟩), r54.2)) (S.bd (ldc r1.2 r1.1) fun x55 => S.bd (nck x55) fun x56 => S.bd (fld 14 x56) fun x57 => S.bd (stv r1.2 1 x57 (Go.Value.int Go.IntKind.i64 2)) fun s58 => some ((Value.tuple ⟨[]⟩), s58)))))

def splice_Splice_look.t (S : Sig) (a0 : Value) (s : St) : Option (Value × St) :=
  S.bd (alv s a0) fun r1 => S.bd (ldc r1.2 r1.1) fun x2 => S.bd (nck x2) fun x3 => S.bd (fld 15 x3) fun x4 => S.bd (fld 1 x4) fun x5 => S.bd (lda r1.2 2 x5) fun x6 => S.bd (ldc r1.2 r1.1) fun x7 => S.bd (nck x7) fun x8 => S.bd (fld 21 x8) fun x9 => splice_Splice_look.t.p1 S x9 r1 x6
def splice_Splice_look.v (a0 : Value) (s : St) : Option (Value × St) := splice_Splice_look.t std a0 s
def splice_Splice_look.w : List Value → St → Option (Value × St)
  | [a0], s => splice_Splice_look.v a0 s
  | _, _ => none
def splice_Splice_look.an : An := ⟨62, false, [], [], [], [(2, [(0, 2, [], []), (1, 0, [], []), (2, 0, [], []), (3, 0, [], []), (4, 2, [], []), (5, 2, [], []), (6, 0, [], []), (7, 0, [], []), (8, 0, [], []), (9, 2, [], []), (10, 3, [], []), (11, 0, [], []), (12, 0, [], [])]), (4, [(0, 2, [], []), (1, 0, [], []), (2, 0, [], []), (3, 0, [], []), (4, 2, [], []), (5, 2, [], []), (6, 0, [], []), (7, 0, [], []), (8, 0, [], []), (9, 0, [], []), (10, 2, [], []), (11, 3, [], []), (12, 0, [], [])]), (6, [(0, 2, [], []), (1, 0, [], []), (2, 0, [], []), (3, 0, [], []), (4, 2, [], []), (5, 2, [], []), (6, 0, [], []), (7, 0, [], []), (8, 0, [], []), (9, 0, [], []), (10, 2, [], []), (11, 0, [], []), (12, 0, [], [])])], [], []⟩
theorem splice_Splice_look.ok (S : Sig) (a0 : Value) (s : St) : evF S Try.prog splice_Splice_look.ctx splice_Splice_look.an Try.f79 [a0] s = splice_Splice_look.t S a0 s := by kernel_rfl
theorem splice_Splice_look.cok : CtxOk Try.prog splice_Splice_look.ctx := .cons key_Less.sound key_Less.can <| .cons splice_Splice_fail.sound splice_Splice_fail.can <| .cons splice_Splice_free.sound splice_Splice_free.can <| .cons splice_Splice_wait.sound splice_Splice_wait.can <| .nil
theorem splice_Splice_look.draws : fnDraws splice_Splice_look.an Try.f79 = true := by kernel_rfl
theorem splice_Splice_look.can : callOk Try.prog 79 = true := by kernel_rfl
theorem splice_Splice_look.sound : FnOk Try.prog 79 (.st splice_Splice_look.w) := FnOk.st_of (evF_ok splice_Splice_look.cok mixed (f := 79) (fn := Try.f79) (by kernel_rfl) splice_Splice_look.draws) fun args s r h => by
  unfold splice_Splice_look.w at h; split at h
  · rw [splice_Splice_look.ok std]; exact h
  · simp at h

/-! ### (*leapfrog/splice.Splice).locked: function 44 -/
def splice_Splice_locked.ctx : Ctx := [(79, .st splice_Splice_look.w), (47, .st splice_Splice_end.w)]
def splice_Splice_locked.t (S : Sig) (a0 a1 : Value) (s : St) : Option (Value × St) :=
  S.bd (bx a1) fun c1 => S.bd (lcl c1 0) fun x2 => S.bd (show Option Cut from S.bd (show Option Cut from S.bd (eqb [1] false false x2 (Go.Value.int Go.IntKind.i64 1)) fun x40 => S.cnd x40 (S.bd (lal c1 7 5) fun x41 => S.bd (nck a0) fun x42 => S.bd (fld 21 x42) fun x43 => S.bd (stv s 5 x43 x41) fun s44 => S.bd (splice_Splice_look.v a0 s44) fun r45 => some (0, [], r45.2)) (S.bd (eqb [1] false false x2 (Go.Value.int Go.IntKind.i64 2)) fun x46 => S.cnd x46 (some (2, [a0], s)) (S.bd (eqb [1] false false x2 (Go.Value.int Go.IntKind.i64 3)) fun x47 => S.cnd x47 (some (2, [a0], s)) (some (1, [a0], s))))) fun r48 => if r48.1 = 0 then (some (0, [], r48.2.2)) else (if r48.1 = 1 then (some (1, [(r48.2.1.getD 0 undef)], r48.2.2)) else (S.bd (nck (r48.2.1.getD 0 undef)) fun x49 => S.bd (fld 20 x49) fun x50 => S.bd (ldc r48.2.2 x50) fun x51 => S.bd (eqb [3] false false x51 (Go.Value.pointer Option.none)) fun x52 => S.cnd x52 (S.bd (bld [(Go.Value.int Go.IntKind.i64 0), (Go.Value.int Go.IntKind.u64 0), (Go.Value.slice Option.none 0 0), (Go.Value.slice Option.none 0 0), (Go.Value.int Go.IntKind.i64 0), (Go.Value.int Go.IntKind.i64 0), (Go.Value.int Go.IntKind.u64 0), (Go.Value.int Go.IntKind.i64 0), (Go.Value.int Go.IntKind.u64 0), (Go.Value.int Go.IntKind.i64 0), (Go.Value.int Go.IntKind.i64 0), (Go.Value.int Go.IntKind.u64 0), (Go.Value.int Go.IntKind.i64 0), (Go.Value.int Go.IntKind.u64 0), (Go.Value.bool Bool.false)] [(0, 1, (Go.Value.int Go.IntKind.i64 131))]) fun x53 => S.bd (splice_Splice_end.v (r48.2.1.getD 0 undef) x53 r48.2.2) fun r54 => some (2, [], r54.2)) (S.bd (nck (r48.2.1.getD 0 undef)) fun x55 => S.bd (fld 20 x55) fun x56 => S.bd (ldc r48.2.2 x56) fun x57 => S.bd (nck x57) fun x58 => S.bd (lda r48.2.2 5 x58) fun x59 => S.bd (nck (r48.2.1.getD 0 undef)) fun x60 => S.bd (fld 15 x60) fun x61 => S.bd (stv r48.2.2 5 x61 x59) fun s62 => S.bd (nck (r48.2.1.getD 0 undef)) fun x63 => S.bd (fld 20 x63) fun x64 => S.bd (stv s62 1 x64 (Go.Value.pointer Option.none)) fun s65 => S.bd (nck (r48.2.1.getD 0 undef)) fun x66 => S.bd (fld 14 x66) fun x67 => S.bd (stv s65 1 x67 (Go.Value.int Go.IntKind.i64 9)) fun s68 => some (0, [], s68))))) fun r69 => if r69.1 = 0 then (some ((Value.tuple ⟨[]⟩), r69.2.2)) else (if r69.1 = 1 then (S.bd (nck (r69.2.1.getD 0 undef)) fun x70 => S.bd (fld 14 x70) fun x71 => S.bd (stv r69.2.2 1 x71 (Go.Value.int Go.IntKind.i64 9)) fun s72 => some ((Value.tuple ⟨[]⟩), s72)) else (some ((Value.tuple ⟨[]⟩), r69.2.2)))
def splice_Splice_locked.v (a0 a1 : Value) (s : St) : Option (Value × St) := splice_Splice_locked.t std a0 a1 s
def splice_Splice_locked.w : List Value → St → Option (Value × St)
  | [a0, a1], s => splice_Splice_locked.v a0 a1 s
  | _, _ => none
def splice_Splice_locked.an : An := ⟨45, false, [3], [], [(7, ⟨[], [(.exit 0, []), (.exit 4, [.v 0]), (.normal, [.v 0])]⟩), (10, ⟨[], [(.exit 0, []), (.normal, [.v 0]), (.ret, [])]⟩)], [], [], []⟩
theorem splice_Splice_locked.ok (S : Sig) (a0 a1 : Value) (s : St) : evF S Try.prog splice_Splice_locked.ctx splice_Splice_locked.an Try.f44 [a0, a1] s = splice_Splice_locked.t S a0 a1 s := by kernel_rfl
theorem splice_Splice_locked.cok : CtxOk Try.prog splice_Splice_locked.ctx := .cons splice_Splice_look.sound splice_Splice_look.can <| .cons splice_Splice_end.sound splice_Splice_end.can <| .nil
theorem splice_Splice_locked.draws : fnDraws splice_Splice_locked.an Try.f44 = true := by kernel_rfl
theorem splice_Splice_locked.can : callOk Try.prog 44 = true := by kernel_rfl
theorem splice_Splice_locked.sound : FnOk Try.prog 44 (.st splice_Splice_locked.w) := FnOk.st_of (evF_ok splice_Splice_locked.cok mixed (f := 44) (fn := Try.f44) (by kernel_rfl) splice_Splice_locked.draws) fun args s r h => by
  unfold splice_Splice_locked.w at h; split at h
  · rw [splice_Splice_locked.ok std]; exact h
  · simp at h

/-! ### (*leapfrog/splice.Splice).entered: function 49 -/
def splice_Splice_entered.ctx : Ctx := [(52, .st splice_Splice_fail.w)]
def splice_Splice_entered.t (S : Sig) (a0 a1 : Value) (s : St) : Option (Value × St) :=
  S.bd (bx a1) fun c1 => S.bd (lcl c1 0) fun x2 => S.bd (eqb [1] false false x2 (Go.Value.int Go.IntKind.i64 1)) fun x3 => S.cnd x3 (S.bd (nck a0) fun x4 => S.bd (fld 14 x4) fun x5 => S.bd (stv s 1 x5 (Go.Value.int Go.IntKind.i64 4)) fun s6 => some ((Value.tuple ⟨[]⟩), s6)) (S.bd (eqb [1] false false x2 (Go.Value.int Go.IntKind.i64 3)) fun x7 => S.cnd x7 (S.bd (splice_Splice_fail.v a0 (Go.Value.int Go.IntKind.i64 132) s) fun r8 => some ((Value.tuple ⟨[]⟩), r8.2)) (S.bd (splice_Splice_fail.v a0 (Go.Value.int Go.IntKind.i64 133) s) fun r9 => some ((Value.tuple ⟨[]⟩), r9.2)))
def splice_Splice_entered.v (a0 a1 : Value) (s : St) : Option (Value × St) := splice_Splice_entered.t std a0 a1 s
def splice_Splice_entered.w : List Value → St → Option (Value × St)
  | [a0, a1], s => splice_Splice_entered.v a0 a1 s
  | _, _ => none
def splice_Splice_entered.an : An := ⟨17, false, [3], [], [], [], [], []⟩
theorem splice_Splice_entered.ok (S : Sig) (a0 a1 : Value) (s : St) : evF S Try.prog splice_Splice_entered.ctx splice_Splice_entered.an Try.f49 [a0, a1] s = splice_Splice_entered.t S a0 a1 s := by kernel_rfl
theorem splice_Splice_entered.cok : CtxOk Try.prog splice_Splice_entered.ctx := .cons splice_Splice_fail.sound splice_Splice_fail.can <| .nil
theorem splice_Splice_entered.draws : fnDraws splice_Splice_entered.an Try.f49 = true := by kernel_rfl
theorem splice_Splice_entered.can : callOk Try.prog 49 = true := by kernel_rfl
theorem splice_Splice_entered.sound : FnOk Try.prog 49 (.st splice_Splice_entered.w) := FnOk.st_of (evF_ok splice_Splice_entered.cok mixed (f := 49) (fn := Try.f49) (by kernel_rfl) splice_Splice_entered.draws) fun args s r h => by
  unfold splice_Splice_entered.w at h; split at h
  · rw [splice_Splice_entered.ok std]; exact h
  · simp at h

/-! ### (*leapfrog/splice.Splice).righted: function 50 -/
def splice_Splice_righted.ctx : Ctx := []
def splice_Splice_righted.t (S : Sig) (a0 a1 : Value) (s : St) : Option (Value × St) :=
  S.bd (bx a1) fun c1 => S.bd (lcl c1 0) fun x2 => S.bd (eqb [1] false false x2 (Go.Value.int Go.IntKind.i64 3)) fun x3 => S.bd (nck a0) fun x4 => S.bd (fld 26 x4) fun x5 => S.bd (stv s 1 x5 x3) fun s6 => S.bd (lcl c1 0) fun x7 => S.bd (eqb [1] false false x7 (Go.Value.int Go.IntKind.i64 1)) fun x8 => S.bd (S.gd x8 false (some a0)) fun x9 => S.bd (S.gd x8 false (nck x9)) fun x10 => S.bd (S.gd x8 false (fld 26 x10)) fun x11 => S.bd (S.gd x8 false (ldc s6 x11)) fun x12 => S.bd (S.gd x8 false (some x12)) fun x13 => S.bd (S.gd x13 true (lcl c1 7)) fun x14 => S.bd (S.gd x13 true (some a0)) fun x15 => S.bd (S.gd x13 true (nck x15)) fun x16 => S.bd (S.gd x13 true (fld 0 x16)) fun x17 => S.bd (S.gd x13 true (fld 2 x17)) fun x18 => S.bd (S.gd x13 true (fld 0 x18)) fun x19 => S.bd (S.gd x13 true (ldc s6 x19)) fun x20 => S.bd (S.gd x13 true (eqb [1] false false x14 x20)) fun x21 => S.bd (S.gd x8 false (pik x13 x21 (Go.Value.bool Bool.false))) fun x22 => S.bd (pik x8 (Go.Value.bool Bool.true) x22) fun x23 => S.cnd x23 (S.bd (nck a0) fun x24 => S.bd (fld 14 x24) fun x25 => S.bd (stv s6 1 x25 (Go.Value.int Go.IntKind.i64 5)) fun s26 => some ((Value.tuple ⟨[]⟩), s26)) (S.bd (nck a0) fun x27 => S.bd (fld 14 x27) fun x28 => S.bd (stv s6 1 x28 (Go.Value.int Go.IntKind.i64 7)) fun s29 => some ((Value.tuple ⟨[]⟩), s29))
def splice_Splice_righted.v (a0 a1 : Value) (s : St) : Option (Value × St) := splice_Splice_righted.t std a0 a1 s
def splice_Splice_righted.w : List Value → St → Option (Value × St)
  | [a0, a1], s => splice_Splice_righted.v a0 a1 s
  | _, _ => none
def splice_Splice_righted.an : An := ⟨37, false, [3], [], [], [(2, [(0, 0, [], []), (1, 25, [], []), (2, 0, [], []), (3, 0, [], []), (4, 0, [], []), (5, 0, [], []), (6, 0, [], []), (7, 2, [], []), (8, 0, [], []), (9, 0, [], []), (10, 0, [], []), (11, 25, [], []), (12, 0, [], []), (13, 0, [], []), (14, 0, [], []), (15, 0, [], []), (16, 0, [], []), (17, 2, [], []), (18, 0, [], []), (19, 0, [], []), (20, 0, [], [])])], [], []⟩
theorem splice_Splice_righted.ok (S : Sig) (a0 a1 : Value) (s : St) : evF S Try.prog splice_Splice_righted.ctx splice_Splice_righted.an Try.f50 [a0, a1] s = splice_Splice_righted.t S a0 a1 s := by kernel_rfl
theorem splice_Splice_righted.cok : CtxOk Try.prog splice_Splice_righted.ctx := .nil
theorem splice_Splice_righted.draws : fnDraws splice_Splice_righted.an Try.f50 = true := by kernel_rfl
theorem splice_Splice_righted.can : callOk Try.prog 50 = true := by kernel_rfl
theorem splice_Splice_righted.sound : FnOk Try.prog 50 (.st splice_Splice_righted.w) := FnOk.st_of (evF_ok splice_Splice_righted.cok mixed (f := 50) (fn := Try.f50) (by kernel_rfl) splice_Splice_righted.draws) fun args s r h => by
  unfold splice_Splice_righted.w at h; split at h
  · rw [splice_Splice_righted.ok std]; exact h
  · simp at h

/-! ### (*leapfrog/splice.Splice).done: function 51 -/
def splice_Splice_done.ctx : Ctx := [(45, .st splice_Splice_free.w)]
def splice_Splice_done.t.p1 (S : Sig) (x5 : Value) (x9 : Value) (r1 : Value × St) : Option (Value × St) :=
  S.bd (bld [(Go.Value.int Go.IntKind.i64 0), (Go.Value.int Go.IntKind.u64 0), (Go.Value.slice Option.none 0 0), (Go.Value.slice Option.none 0 0), (Go.Value.int Go.IntKind.i64 0), (Go.Value.int Go.IntKind.i64 0), (Go.Value.int Go.IntKind.u64 0), (Go.Value.int Go.IntKind.i64 0), (Go.Value.int Go.IntKind.u64 0), (Go.Value.int Go.IntKind.i64 0), (Go.Value.int Go.IntKind.i64 0), (Go.Value.int Go.IntKind.u64 0), (Go.Value.int Go.IntKind.i64 0), (Go.Value.int Go.IntKind.u64 0), (Go.Value.bool Bool.false)] [(4, 5, x5), (9, 5, x9)]) fun x10 => S.bd (alv r1.2 (Go.Value.agg #[(Go.Value.int Go.IntKind.i64 0), (Go.Value.int Go.IntKind.u64 0), (Go.Value.slice Option.none 0 0), (Go.Value.slice Option.none 0 0), (Go.Value.int Go.IntKind.i64 0), (Go.Value.int Go.IntKind.i64 0), (Go.Value.int Go.IntKind.u64 0), (Go.Value.int Go.IntKind.i64 0), (Go.Value.int Go.IntKind.u64 0), (Go.Value.int Go.IntKind.i64 0), (Go.Value.int Go.IntKind.i64 0), (Go.Value.int Go.IntKind.u64 0), (Go.Value.int Go.IntKind.i64 0), (Go.Value.int Go.IntKind.u64 0), (Go.Value.bool Bool.false)])) fun r11 => S.bd (stv r11.2 15 r11.1 x10) fun s12 => S.bd (ldc s12 r1.1) fun x13 => S.bd (nck x13) fun x14 => S.bd (fld 27 x14) fun x15 => S.bd (ldc s12 x15) fun x16 => S.cnd x16 (S.bd (bld [(Go.Value.int Go.IntKind.i64 0), (Go.Value.int Go.IntKind.u64 0), (Go.Value.slice Option.none 0 0), (Go.Value.slice Option.none 0 0), (Go.Value.int Go.IntKind.i64 0), (Go.Value.int Go.IntKind.i64 0), (Go.Value.int Go.IntKind.u64 0), (Go.Value.int Go.IntKind.i64 0), (Go.Value.int Go.IntKind.u64 0), (Go.Value.int Go.IntKind.i64 0), (Go.Value.int Go.IntKind.i64 0), (Go.Value.int Go.IntKind.u64 0), (Go.Value.int Go.IntKind.i64 0), (Go.Value.int Go.IntKind.u64 0), (Go.Value.bool Bool.false)] [(0, 1, (Go.Value.int Go.IntKind.i64 132))]) fun x17 => S.bd (stv s12 15 r11.1 x17) fun s18 => S.bd (ldc s18 r1.1) fun x19 => S.bd (splice_Splice_free.v x19 (Value.func (.func 81) ⟨[]⟩ ⟨[r1.1, r11.1]⟩) s18) fun r20 => some ((Value.tuple ⟨[]⟩), r20.2)) (S.bd (ldc s12 r1.1) fun x21 => S.bd (splice_Splice_free.v x21 (Value.func (.func 81) ⟨[]⟩ ⟨[r1.1, r11.1]⟩) s12) fun r22 => some ((Value.tuple ⟨[]⟩), r22.2))

def splice_Splice_done.t (S : Sig) (a0 : Value) (s : St) : Option (Value × St) :=
  S.bd (alv s a0) fun r1 => S.bd (ldc r1.2 r1.1) fun x2 => S.bd (nck x2) fun x3 => S.bd (fld 15 x3) fun x4 => S.bd (lda r1.2 5 x4) fun x5 => S.bd (ldc r1.2 r1.1) fun x6 => S.bd (nck x6) fun x7 => S.bd (fld 21 x7) fun x8 => S.bd (lda r1.2 5 x8) fun x9 => splice_Splice_done.t.p1 S x5 x9 r1
def splice_Splice_done.v (a0 : Value) (s : St) : Option (Value × St) := splice_Splice_done.t std a0 s
def splice_Splice_done.w : List Value → St → Option (Value × St)
  | [a0], s => splice_Splice_done.v a0 s
  | _, _ => none
def splice_Splice_done.an : An := ⟨20, false, [], [], [], [(1, [(0, 2, [], []), (1, 0, [], []), (2, 0, [], []), (3, 2, [], []), (4, 2, [], []), (5, 0, [], []), (6, 0, [], []), (7, 2, [], []), (8, 0, [], []), (9, 3, [], []), (10, 4, [], [])])], [], []⟩
theorem splice_Splice_done.ok (S : Sig) (a0 : Value) (s : St) : evF S Try.prog splice_Splice_done.ctx splice_Splice_done.an Try.f51 [a0] s = splice_Splice_done.t S a0 s := by kernel_rfl
theorem splice_Splice_done.cok : CtxOk Try.prog splice_Splice_done.ctx := .cons splice_Splice_free.sound splice_Splice_free.can <| .nil
theorem splice_Splice_done.draws : fnDraws splice_Splice_done.an Try.f51 = true := by kernel_rfl
theorem splice_Splice_done.can : callOk Try.prog 51 = true := by kernel_rfl
theorem splice_Splice_done.sound : FnOk Try.prog 51 (.st splice_Splice_done.w) := FnOk.st_of (evF_ok splice_Splice_done.cok mixed (f := 51) (fn := Try.f51) (by kernel_rfl) splice_Splice_done.draws) fun args s r h => by
  unfold splice_Splice_done.w at h; split at h
  · rw [splice_Splice_done.ok std]; exact h
  · simp at h

/-! ### (*leapfrog/splice.Splice).Tell: function 19 -/
def splice_Splice_Tell.ctx : Ctx := [(44, .st splice_Splice_locked.w), (45, .st splice_Splice_free.w), (48, .st splice_Splice_wait.w), (49, .st splice_Splice_entered.w), (50, .st splice_Splice_righted.w), (51, .st splice_Splice_done.w), (52, .st splice_Splice_fail.w), (46, .st splice_Splice_Tell_fn1.w), (80, .st splice_Splice_wait_fn1.w), (81, .st splice_Splice_done_fn1.w), (82, .st splice_Splice_fail_fn1.w), (101, .st splice_Splice_look_fn1.w)]
def splice_Splice_Tell.t.p1 (S : Sig) (x8 : Value) (r1 : Value × St) (c2 : List Value) : Option (Value × St) :=
  S.bd (eqb [1] false false x8 (Go.Value.int Go.IntKind.i64 3)) fun x23 => S.cnd x23 (S.bd (ldc r1.2 r1.1) fun x24 => S.bd (lal c2 0 13) fun x25 => S.bd (splice_Splice_entered.v x24 x25 r1.2) fun r26 => some ((Value.tuple ⟨[]⟩), r26.2)) (S.bd (eqb [1] false false x8 (Go.Value.int Go.IntKind.i64 4)) fun x27 => S.cnd x27 (S.bd (ldc r1.2 r1.1) fun x28 => S.bd (lal c2 0 13) fun x29 => S.bd (splice_Splice_righted.v x28 x29 r1.2) fun r30 => some ((Value.tuple ⟨[]⟩), r30.2)) (S.bd (eqb [1] false false x8 (Go.Value.int Go.IntKind.i64 5)) fun x31 => S.cnd x31 (S.bd (ldc r1.2 r1.1) fun x32 => S.bd (nck x32) fun x33 => S.bd (fld 14 x33) fun x34 => S.bd (stv r1.2 1 x34 (Go.Value.int Go.IntKind.i64 6)) fun s35 => some ((Value.tuple ⟨[]⟩), s35)) (S.bd (eqb [1] false false x8 (Go.Value.int Go.IntKind.i64 6)) fun x36 => S.cnd x36 (S.bd (ldc r1.2 r1.1) fun x37 => S.bd (lcl c2 0) fun x38 => S.bd (eqb [1] false false x38 (Go.Value.int Go.IntKind.i64 3)) fun x39 => S.bd (nck x37) fun x40 => S.bd (fld 27 x40) fun x41 => S.bd (stv r1.2 1 x41 x39) fun s42 => S.bd (ldc s42 r1.1) fun x43 => S.bd (splice_Splice_done.v x43 s42) fun r44 => some ((Value.tuple ⟨[]⟩), r44.2)) (S.bd (eqb [1] false false x8 (Go.Value.int Go.IntKind.i64 7)) fun x45 => S.cnd x45 (S.bd (lcl c2 0) fun x46 => S.bd (eqb [1] false false x46 (Go.Value.int Go.IntKind.i64 3)) fun x47 => S.cnd x47 (S.bd (ldc r1.2 r1.1) fun x48 => S.bd (splice_Splice_fail.v x48 (Go.Value.int Go.IntKind.i64 132) r1.2) fun r49 => some ((Value.tuple ⟨[]⟩), r49.2)) (S.bd (ldc r1.2 r1.1) fun x50 => S.bd (splice_Splice_fail.v x50 (Go.Value.int Go.IntKind.i64 131) r1.2) fun r51 => some ((Value.tuple ⟨[]⟩), r51.2))) (S.bd (eqb [1] false false x8 (Go.Value.int Go.IntKind.i64 8)) fun x52 => S.cnd x52 (S.bd (ldc r1.2 r1.1) fun x53 => S.bd (nck x53) fun x54 => S.bd (fld 28 x54) fun x55 => S.bd (ldc r1.2 x55) fun x56 => S.bd (callV (splice_Splice_Tell.ctx) x56 [] r1.2) fun r57 => some ((Value.tuple ⟨[]⟩), r57.2)) (some ((Value.tuple ⟨[]⟩), r1.2)))))))

def splice_Splice_Tell.t (S : Sig) (a0 a1 : Value) (s : St) : Option (Value × St) :=
  S.bd (alv s a0) fun r1 => S.bd (bx a1) fun c2 => S.bd (ldc r1.2 r1.1) fun x3 => S.bd (eqb [3] false false x3 (Go.Value.pointer Option.none)) fun x4 => S.cnd x4 (some ((Value.tuple ⟨[]⟩), r1.2)) (S.bd (ldc r1.2 r1.1) fun x5 => S.bd (nck x5) fun x6 => S.bd (fld 14 x6) fun x7 => S.bd (ldc r1.2 x7) fun x8 => S.bd (eqb [1] false false x8 (Go.Value.int Go.IntKind.i64 1)) fun x9 => S.cnd x9 (S.bd (ldc r1.2 r1.1) fun x10 => S.bd (lal c2 0 13) fun x11 => S.bd (splice_Splice_locked.v x10 x11 r1.2) fun r12 => some ((Value.tuple ⟨[]⟩), r12.2)) (S.bd (eqb [1] false false x8 (Go.Value.int Go.IntKind.i64 2)) fun x13 => S.cnd x13 (S.bd (lcl c2 0) fun x14 => S.bd (eqb [1] false false x14 (Go.Value.int Go.IntKind.i64 1)) fun x15 => S.bd (S.gd x15 true (lcl c2 1)) fun x16 => S.bd (S.gd x15 true (un .not x16)) fun x17 => S.bd (pik x15 x17 (Go.Value.bool Bool.false)) fun x18 => S.cnd x18 (S.bd (ldc r1.2 r1.1) fun x19 => S.bd (splice_Splice_free.v x19 (Value.func (.func 46) ⟨[]⟩ ⟨[r1.1]⟩) r1.2) fun r20 => some ((Value.tuple ⟨[]⟩), r20.2)) (S.bd (ldc r1.2 r1.1) fun x21 => S.bd (splice_Splice_wait.v x21 r1.2) fun r22 => some ((Value.tuple ⟨[]⟩), r22.2))) (splice_Splice_Tell.t.p1 S x8 r1 c2)))
def splice_Splice_Tell.v (a0 a1 : Value) (s : St) : Option (Value × St) := splice_Splice_Tell.t std a0 a1 s
def splice_Splice_Tell.w : List Value → St → Option (Value × St)
  | [a0, a1], s => splice_Splice_Tell.v a0 a1 s
  | _, _ => none
def splice_Splice_Tell.an : An := ⟨71, false, [3], [], [], [], [], []⟩
theorem splice_Splice_Tell.ok (S : Sig) (a0 a1 : Value) (s : St) : evF S Try.prog splice_Splice_Tell.ctx splice_Splice_Tell.an Try.f19 [a0, a1] s = splice_Splice_Tell.t S a0 a1 s := by kernel_rfl
theorem splice_Splice_Tell.cok : CtxOk Try.prog splice_Splice_Tell.ctx := .cons splice_Splice_locked.sound splice_Splice_locked.can <| .cons splice_Splice_free.sound splice_Splice_free.can <| .cons splice_Splice_wait.sound splice_Splice_wait.can <| .cons splice_Splice_entered.sound splice_Splice_entered.can <| .cons splice_Splice_righted.sound splice_Splice_righted.can <| .cons splice_Splice_done.sound splice_Splice_done.can <| .cons splice_Splice_fail.sound splice_Splice_fail.can <| .cons splice_Splice_Tell_fn1.sound splice_Splice_Tell_fn1.can <| .cons splice_Splice_wait_fn1.sound splice_Splice_wait_fn1.can <| .cons splice_Splice_done_fn1.sound splice_Splice_done_fn1.can <| .cons splice_Splice_fail_fn1.sound splice_Splice_fail_fn1.can <| .cons splice_Splice_look_fn1.sound splice_Splice_look_fn1.can <| .nil
theorem splice_Splice_Tell.draws : fnDraws splice_Splice_Tell.an Try.f19 = true := by kernel_rfl
theorem splice_Splice_Tell.can : callOk Try.prog 19 = true := by kernel_rfl
theorem splice_Splice_Tell.sound : FnOk Try.prog 19 (.st splice_Splice_Tell.w) := FnOk.st_of (evF_ok splice_Splice_Tell.cok mixed (f := 19) (fn := Try.f19) (by kernel_rfl) splice_Splice_Tell.draws) fun args s r h => by
  unfold splice_Splice_Tell.w at h; split at h
  · rw [splice_Splice_Tell.ok std]; exact h
  · simp at h

/-! ### leapfrog/leapfroglaw13.alive: function 10 -/
def leapfroglaw13x_alive.ctx : Ctx := [(30, .rd leapfroglaw13x_conf.w), (14, .st splice_New.w), (31, .rd leapfrogref09x_Tail.w), (15, .rd splice_Splice_Next.w), (19, .st splice_Splice_Tell.w)]
def leapfroglaw13x_alive.t.p1 (S : Sig) (x17 : Value) (x3 : Value) (r2 : Value × St) (c16 : List Value) (c13 : List Value) : Option (Value × St) :=
  S.bd (bld [(Go.Value.int Go.IntKind.i64 0), (Go.Value.bool Bool.false), (Go.Value.int Go.IntKind.i64 0), (Go.Value.int Go.IntKind.i64 0), (Go.Value.int Go.IntKind.u64 0), (Go.Value.int Go.IntKind.i64 0), (Go.Value.int Go.IntKind.u64 0), (Go.Value.int Go.IntKind.i64 0), (Go.Value.int Go.IntKind.i64 0), (Go.Value.int Go.IntKind.u64 0), (Go.Value.int Go.IntKind.i64 0), (Go.Value.int Go.IntKind.u64 0), (Go.Value.slice Option.none 0 0)] [(0, 1, (Go.Value.int Go.IntKind.i64 1)), (7, 5, x17)]) fun x18 => S.bd (splice_Splice_Tell.v x3 x18 r2.2) fun r19 => S.bd (splice_Splice_Next.r x3 r19.2) fun x20 => S.bd (bx (Go.Value.agg #[(Go.Value.int Go.IntKind.i64 0), (Go.Value.int Go.IntKind.i64 0), (Go.Value.int Go.IntKind.i64 0), (Go.Value.int Go.IntKind.u64 0), (Go.Value.int Go.IntKind.i64 0), (Go.Value.int Go.IntKind.u64 0), (Go.Value.int Go.IntKind.i64 0), (Go.Value.int Go.IntKind.i64 0), (Go.Value.int Go.IntKind.u64 0), (Go.Value.int Go.IntKind.i64 0), (Go.Value.int Go.IntKind.i64 0), (Go.Value.int Go.IntKind.u64 0), (Go.Value.int Go.IntKind.i64 0), (Go.Value.int Go.IntKind.u64 0), (Go.Value.int Go.IntKind.i64 0), (Go.Value.int Go.IntKind.i64 0), (Go.Value.int Go.IntKind.u64 0), (Go.Value.int Go.IntKind.i64 0), (Go.Value.int Go.IntKind.u64 0), (Go.Value.int Go.IntKind.i64 0), (Go.Value.int Go.IntKind.i64 0), (Go.Value.int Go.IntKind.i64 0), (Go.Value.int Go.IntKind.u64 0), (Go.Value.slice Option.none 0 0), (Go.Value.slice Option.none 0 0), (Go.Value.int Go.IntKind.i64 0), (Go.Value.int Go.IntKind.i64 0), (Go.Value.int Go.IntKind.u64 0), (Go.Value.int Go.IntKind.i64 0), (Go.Value.int Go.IntKind.u64 0), (Go.Value.int Go.IntKind.i64 0), (Go.Value.int Go.IntKind.i64 0), (Go.Value.int Go.IntKind.u64 0), (Go.Value.int Go.IntKind.i64 0), (Go.Value.int Go.IntKind.u64 0), (Go.Value.bool Bool.false)])) fun c21 => S.bd (stl c21 0 36 x20) fun c22 => S.bd (bld [(Go.Value.int Go.IntKind.i64 0), (Go.Value.bool Bool.false), (Go.Value.int Go.IntKind.i64 0), (Go.Value.int Go.IntKind.i64 0), (Go.Value.int Go.IntKind.u64 0), (Go.Value.int Go.IntKind.i64 0), (Go.Value.int Go.IntKind.u64 0), (Go.Value.int Go.IntKind.i64 0), (Go.Value.int Go.IntKind.i64 0), (Go.Value.int Go.IntKind.u64 0), (Go.Value.int Go.IntKind.i64 0), (Go.Value.int Go.IntKind.u64 0), (Go.Value.slice Option.none 0 0)] [(0, 1, (Go.Value.int Go.IntKind.i64 1))]) fun x23 => S.bd (splice_Splice_Tell.v x3 x23 r19.2) fun r24 => S.bd (splice_Splice_Next.r x3 r24.2) fun x25 => S.bd (bx (Go.Value.agg #[(Go.Value.int Go.IntKind.i64 0), (Go.Value.int Go.IntKind.i64 0), (Go.Value.int Go.IntKind.i64 0), (Go.Value.int Go.IntKind.u64 0), (Go.Value.int Go.IntKind.i64 0), (Go.Value.int Go.IntKind.u64 0), (Go.Value.int Go.IntKind.i64 0), (Go.Value.int Go.IntKind.i64 0), (Go.Value.int Go.IntKind.u64 0), (Go.Value.int Go.IntKind.i64 0), (Go.Value.int Go.IntKind.i64 0), (Go.Value.int Go.IntKind.u64 0), (Go.Value.int Go.IntKind.i64 0), (Go.Value.int Go.IntKind.u64 0), (Go.Value.int Go.IntKind.i64 0), (Go.Value.int Go.IntKind.i64 0), (Go.Value.int Go.IntKind.u64 0), (Go.Value.int Go.IntKind.i64 0), (Go.Value.int Go.IntKind.u64 0), (Go.Value.int Go.IntKind.i64 0), (Go.Value.int Go.IntKind.i64 0), (Go.Value.int Go.IntKind.i64 0), (Go.Value.int Go.IntKind.u64 0), (Go.Value.slice Option.none 0 0), (Go.Value.slice Option.none 0 0), (Go.Value.int Go.IntKind.i64 0), (Go.Value.int Go.IntKind.i64 0), (Go.Value.int Go.IntKind.u64 0), (Go.Value.int Go.IntKind.i64 0), (Go.Value.int Go.IntKind.u64 0), (Go.Value.int Go.IntKind.i64 0), (Go.Value.int Go.IntKind.i64 0), (Go.Value.int Go.IntKind.u64 0), (Go.Value.int Go.IntKind.i64 0), (Go.Value.int Go.IntKind.u64 0), (Go.Value.bool Bool.false)])) fun c26 => S.bd (stl c26 0 36 x25) fun c27 => S.bd (lcl c16 0) fun x28 => S.bd (eqb [1] false false x28 (Go.Value.int Go.IntKind.i64 1)) fun x29 => S.bd (S.gd x29 true (lcl c16 6)) fun x30 => S.bd (S.gd x29 true (eqb [1] false false x30 (Go.Value.int Go.IntKind.i64 3))) fun x31 => S.bd (pik x29 x31 (Go.Value.bool Bool.false)) fun x32 => S.bd (S.gd x32 true (lcl c16 1)) fun x33 => S.bd (S.gd x32 true (eqb [1] false false x33 (Go.Value.int Go.IntKind.i64 0))) fun x34 => S.bd (pik x32 x34 (Go.Value.bool Bool.false)) fun x35 => S.bd (S.gd x35 true (lcl c22 6)) fun x36 => S.bd (S.gd x35 true (eqb [1] false false x36 (Go.Value.int Go.IntKind.i64 7))) fun x37 => S.bd (pik x35 x37 (Go.Value.bool Bool.false)) fun x38 => S.bd (S.gd x38 true (lcl c22 1)) fun x39 => S.bd (S.gd x38 true (eqb [1] false false x39 (Go.Value.int Go.IntKind.i64 2))) fun x40 => S.bd (pik x38 x40 (Go.Value.bool Bool.false)) fun x41 => S.bd (S.gd x41 true (lal c22 14 5)) fun x42 => S.bd (S.gd x41 true (lal c13 0 5)) fun x43 => S.bd (S.gd x41 true (eqb [1, 1, 1, 1, 1] true false x42 x43)) fun x44 => S.bd (pik x41 x44 (Go.Value.bool Bool.false)) fun x45 => S.bd (S.gd x45 true (lcl c27 6)) fun x46 => S.bd (S.gd x45 true (eqb [1] false false x46 (Go.Value.int Go.IntKind.i64 5))) fun x47 => S.bd (pik x45 x47 (Go.Value.bool Bool.false)) fun x48 => S.bd (S.gd x48 true (lcl c27 1)) fun x49 => S.bd (S.gd x48 true (eqb [1] false false x49 (Go.Value.int Go.IntKind.i64 0))) fun x50 => S.bd (pik x48 x50 (Go.Value.bool Bool.false)) fun x51 => S.bd (S.gd x51 true (lcl c27 9)) fun x52 => S.bd (S.gd x51 true (eqb [1] false false x52 (Go.Value.int Go.IntKind.i64 2))) fun x53 => S.bd (pik x51 x53 (Go.Value.bool Bool.false)) fun x54 => some (x54, r24.2)

def leapfroglaw13x_alive.t (S : Sig) (s : St) : Option (Value × St) :=
  S.bd (leapfroglaw13x_conf.r  s) fun x1 => S.bd (splice_New.v x1 s) fun r2 => S.bd (xtr 0 r2.1) fun x3 => S.bd (xtr 1 r2.1) fun x4 => S.bd (eqb [1] false true x4 (Go.Value.int Go.IntKind.i64 0)) fun x5 => S.bd (S.gd x5 false (some x3)) fun x6 => S.bd (S.gd x5 false (eqb [3] false false x6 (Go.Value.pointer Option.none))) fun x7 => S.bd (pik x5 (Go.Value.bool Bool.true) x7) fun x8 => S.cnd x8 (some ((Go.Value.bool Bool.false), r2.2)) (S.bd (leapfrogref09x_Tail.r (Go.Value.int Go.IntKind.i64 0) r2.2) fun x9 => S.bd (xtr 0 x9) fun x10 => S.bd (xtr 1 x9) fun x11 => S.bd (bx (Go.Value.agg #[(Go.Value.int Go.IntKind.i64 0), (Go.Value.int Go.IntKind.i64 0), (Go.Value.int Go.IntKind.u64 0), (Go.Value.int Go.IntKind.i64 0), (Go.Value.int Go.IntKind.u64 0)])) fun c12 => S.bd (stl c12 0 5 x10) fun c13 => S.bd (splice_Splice_Next.r x3 r2.2) fun x14 => S.bd (bx (Go.Value.agg #[(Go.Value.int Go.IntKind.i64 0), (Go.Value.int Go.IntKind.i64 0), (Go.Value.int Go.IntKind.i64 0), (Go.Value.int Go.IntKind.u64 0), (Go.Value.int Go.IntKind.i64 0), (Go.Value.int Go.IntKind.u64 0), (Go.Value.int Go.IntKind.i64 0), (Go.Value.int Go.IntKind.i64 0), (Go.Value.int Go.IntKind.u64 0), (Go.Value.int Go.IntKind.i64 0), (Go.Value.int Go.IntKind.i64 0), (Go.Value.int Go.IntKind.u64 0), (Go.Value.int Go.IntKind.i64 0), (Go.Value.int Go.IntKind.u64 0), (Go.Value.int Go.IntKind.i64 0), (Go.Value.int Go.IntKind.i64 0), (Go.Value.int Go.IntKind.u64 0), (Go.Value.int Go.IntKind.i64 0), (Go.Value.int Go.IntKind.u64 0), (Go.Value.int Go.IntKind.i64 0), (Go.Value.int Go.IntKind.i64 0), (Go.Value.int Go.IntKind.i64 0), (Go.Value.int Go.IntKind.u64 0), (Go.Value.slice Option.none 0 0), (Go.Value.slice Option.none 0 0), (Go.Value.int Go.IntKind.i64 0), (Go.Value.int Go.IntKind.i64 0), (Go.Value.int Go.IntKind.u64 0), (Go.Value.int Go.IntKind.i64 0), (Go.Value.int Go.IntKind.u64 0), (Go.Value.int Go.IntKind.i64 0), (Go.Value.int Go.IntKind.i64 0), (Go.Value.int Go.IntKind.u64 0), (Go.Value.int Go.IntKind.i64 0), (Go.Value.int Go.IntKind.u64 0), (Go.Value.bool Bool.false)])) fun c15 => S.bd (stl c15 0 36 x14) fun c16 => S.bd (lal c13 0 5) fun x17 => leapfroglaw13x_alive.t.p1 S x17 x3 r2 c16 c13)
def leapfroglaw13x_alive.v (s : St) : Option (Value × St) := leapfroglaw13x_alive.t std  s
def leapfroglaw13x_alive.w : List Value → St → Option (Value × St)
  | [], s => leapfroglaw13x_alive.v  s
  | _, _ => none
def leapfroglaw13x_alive.an : An := ⟨89, false, [3, 5, 6, 7], [], [], [], [], []⟩
theorem leapfroglaw13x_alive.ok (S : Sig) (s : St) : evF S Try.prog leapfroglaw13x_alive.ctx leapfroglaw13x_alive.an Try.f10 [] s = leapfroglaw13x_alive.t S  s := by kernel_rfl
theorem leapfroglaw13x_alive.cok : CtxOk Try.prog leapfroglaw13x_alive.ctx := .cons leapfroglaw13x_conf.sound leapfroglaw13x_conf.can <| .cons splice_New.sound splice_New.can <| .cons leapfrogref09x_Tail.sound leapfrogref09x_Tail.can <| .cons splice_Splice_Next.sound splice_Splice_Next.can <| .cons splice_Splice_Tell.sound splice_Splice_Tell.can <| .nil
theorem leapfroglaw13x_alive.draws : fnDraws leapfroglaw13x_alive.an Try.f10 = true := by kernel_rfl
theorem leapfroglaw13x_alive.can : callOk Try.prog 10 = true := by kernel_rfl
theorem leapfroglaw13x_alive.sound : FnOk Try.prog 10 (.st leapfroglaw13x_alive.w) := FnOk.st_of (evF_ok leapfroglaw13x_alive.cok mixed (f := 10) (fn := Try.f10) (by kernel_rfl) leapfroglaw13x_alive.draws) fun args s r h => by
  unfold leapfroglaw13x_alive.w at h; split at h
  · rw [leapfroglaw13x_alive.ok std]; exact h
  · simp at h

/-! ### leapfrog/leapfroglaw13.alive: function 10, closed -/
def leapfroglaw13x_aliveC.r (s : St) : Option Value := some (Value.bool true)
def leapfroglaw13x_aliveC.w : List Value → St → Option Value := closedW (Value.bool true)
theorem leapfroglaw13x_aliveC.can : callOk Try.prog 10 = true := leapfroglaw13x_alive.can
theorem leapfroglaw13x_aliveC.sound : FnOk Try.prog 10 (.rd leapfroglaw13x_aliveC.w) := FnOk.closed leapfroglaw13x_alive.sound (by kernel_rfl) rfl

/-! ### leapfrog/leapfrogref01.common: function 83 -/
def leapfrogref01x_common.ctx : Ctx := []
def leapfrogref01x_common.l2 (S : Sig) (rec21 : List Value → St → Option Cut) (xs19 : List Value) (s20 : St) : Option Cut :=
  S.bd (lenL (xs19.getD 0 undef)) fun x22 => S.bd (bin .lss (xs19.getD 2 undef) x22) fun x23 => S.bd (S.gd x23 true (some (xs19.getD 2 undef))) fun x24 => S.bd (S.gd x23 true (some (xs19.getD 1 undef))) fun x25 => S.bd (S.gd x23 true (lenL x25)) fun x26 => S.bd (S.gd x23 true (bin .lss x24 x26)) fun x27 => S.bd (pik x23 x27 (Go.Value.bool Bool.false)) fun x28 => S.bd (S.gd x28 true (some (xs19.getD 0 undef))) fun x29 => S.bd (S.gd x28 true (some (xs19.getD 2 undef))) fun x30 => S.bd (S.gd x28 true (idx s20 1 x29 x30)) fun x31 => S.bd (S.gd x28 true (ldc s20 x31)) fun x32 => S.bd (S.gd x28 true (some (xs19.getD 1 undef))) fun x33 => S.bd (S.gd x28 true (some (xs19.getD 2 undef))) fun x34 => S.bd (S.gd x28 true (idx s20 1 x33 x34)) fun x35 => S.bd (S.gd x28 true (ldc s20 x35)) fun x36 => S.bd (S.gd x28 true (eqb [1] false false x32 x36)) fun x37 => S.bd (pik x28 x37 (Go.Value.bool Bool.false)) fun x38 => S.cnd x38 (S.bd (bin .add (xs19.getD 2 undef) (Go.Value.int Go.IntKind.i64 1)) fun x39 => rec21 [(xs19.getD 0 undef), (xs19.getD 1 undef), x39] s20) (some (0, [(xs19.getD 2 undef)], s20))

def leapfrogref01x_common.t (S : Sig) (a0 a1 : Value) (s : St) : Option Value :=
  S.bd (S.it (leapfrogref01x_common.l2 S) [a0, a1, (Go.Value.int Go.IntKind.i64 0)] s) fun r40 => some ((r40.2.1.getD 0 undef))
def leapfrogref01x_common.r (a0 a1 : Value) (s : St) : Option Value := leapfrogref01x_common.t std a0 a1 s
def leapfrogref01x_common.w : List Value → St → Option Value
  | [a0, a1], s => leapfrogref01x_common.r a0 a1 s
  | _, _ => none
def leapfrogref01x_common.an : An := ⟨30, true, [], [(2, ⟨[.v 0, .v 1, .v 5], [(.exit 0, [.v 5])]⟩)], [], [(2, [(0, 0, [], []), (1, 0, [], []), (2, 2, [], []), (3, 0, [], []), (4, 0, [], []), (5, 0, [], []), (6, 0, [], []), (7, 2, [], []), (8, 0, [], []), (9, 0, [], []), (10, 0, [], []), (11, 0, [], []), (12, 0, [], []), (13, 2, [], []), (14, 2, [], []), (15, 0, [], []), (16, 0, [], []), (17, 2, [], []), (18, 2, [], []), (19, 0, [], []), (20, 0, [], [])])], [], []⟩
theorem leapfrogref01x_common.ok (S : Sig) (a0 a1 : Value) (s : St) : evG S Try.prog leapfrogref01x_common.ctx leapfrogref01x_common.an Try.f83 [a0, a1] s = leapfrogref01x_common.t S a0 a1 s := by kernel_rfl
theorem leapfrogref01x_common.cok : CtxOk Try.prog leapfrogref01x_common.ctx := .nil
theorem leapfrogref01x_common.draws : fnDraws leapfrogref01x_common.an Try.f83 = true := by kernel_rfl
theorem leapfrogref01x_common.can : callOk Try.prog 83 = true := by kernel_rfl
theorem leapfrogref01x_common.sound : FnOk Try.prog 83 (.rd leapfrogref01x_common.w) := FnOk.rd_of (evG_ok leapfrogref01x_common.cok mixed (f := 83) (fn := Try.f83) (by kernel_rfl) leapfrogref01x_common.draws) fun args s r h => by
  unfold leapfrogref01x_common.w at h; split at h
  · rw [leapfrogref01x_common.ok std]; exact h
  · simp at h

/-! ### leapfrog/leapfrogref01.Begins: function 53 -/
def leapfrogref01x_Begins.ctx : Ctx := [(27, .rd leapfrogref01x_Right.w), (29, .st leapfrogref01x_Bits.w), (83, .rd leapfrogref01x_common.w)]
def leapfrogref01x_Begins.t (S : Sig) (a0 a1 : Value) (s : St) : Option (Value × St) :=
  S.bd (bx a0) fun c1 => S.bd (bx a1) fun c2 => S.bd (lal c1 0 2) fun x3 => S.bd (leapfrogref01x_Right.r x3 s) fun x4 => S.bd (S.gd x4 true (lal c2 0 2)) fun x5 => S.bd (S.gd x4 true (leapfrogref01x_Right.r x5 s)) fun x6 => S.bd (pik x4 x6 (Go.Value.bool Bool.false)) fun x7 => S.bd (S.gd x7 true (lal c1 0 2)) fun x8 => S.bd (S.gd x7 true (lal c2 0 2)) fun x9 => S.bd (S.gd x7 true (lcl c2 0)) fun x10 => S.bd (S.gdS x7 true (leapfrogref01x_Bits.v x8 s) s) fun r11 => S.bd (S.gdS x7 true (leapfrogref01x_Bits.v x9 r11.2) r11.2) fun r12 => S.bd (S.gd x7 true (leapfrogref01x_common.r r11.1 r12.1 r12.2)) fun x13 => S.bd (S.gd x7 true (eqb [1] false false x13 x10)) fun x14 => S.bd (pik x7 x14 (Go.Value.bool Bool.false)) fun x15 => some (x15, r12.2)
def leapfrogref01x_Begins.v (a0 a1 : Value) (s : St) : Option (Value × St) := leapfrogref01x_Begins.t std a0 a1 s
def leapfrogref01x_Begins.w : List Value → St → Option (Value × St)
  | [a0, a1], s => leapfrogref01x_Begins.v a0 a1 s
  | _, _ => none
def leapfrogref01x_Begins.an : An := ⟨21, false, [2, 3], [], [], [(1, [(0, 17, [], []), (1, 3, [], []), (2, 0, [], []), (3, 25, [], []), (4, 3, [], []), (5, 0, [], []), (6, 0, [], []), (7, 17, [], []), (9, 25, [], []), (12, 0, [], []), (13, 25, [], []), (8, 4, [], []), (10, 4, [], []), (11, 3, [], []), (14, 0, [], []), (15, 0, [], []), (16, 0, [], [])])], [], []⟩
theorem leapfrogref01x_Begins.ok (S : Sig) (a0 a1 : Value) (s : St) : evF S Try.prog leapfrogref01x_Begins.ctx leapfrogref01x_Begins.an Try.f53 [a0, a1] s = leapfrogref01x_Begins.t S a0 a1 s := by kernel_rfl
theorem leapfrogref01x_Begins.cok : CtxOk Try.prog leapfrogref01x_Begins.ctx := .cons leapfrogref01x_Right.sound leapfrogref01x_Right.can <| .cons leapfrogref01x_Bits.sound leapfrogref01x_Bits.can <| .cons leapfrogref01x_common.sound leapfrogref01x_common.can <| .nil
theorem leapfrogref01x_Begins.draws : fnDraws leapfrogref01x_Begins.an Try.f53 = true := by kernel_rfl
theorem leapfrogref01x_Begins.can : callOk Try.prog 53 = true := by kernel_rfl
theorem leapfrogref01x_Begins.sound : FnOk Try.prog 53 (.st leapfrogref01x_Begins.w) := FnOk.st_of (evF_ok leapfrogref01x_Begins.cok mixed (f := 53) (fn := Try.f53) (by kernel_rfl) leapfrogref01x_Begins.draws) fun args s r h => by
  unfold leapfrogref01x_Begins.w at h; split at h
  · rw [leapfrogref01x_Begins.ok std]; exact h
  · simp at h

/-! ### leapfrog/leapfrogref01.Begins: function 53, as a reading -/
def leapfrogref01x_BeginsQ.r (a0 a1 : Value) (s : St) : Option Value := frzR (fun s => leapfrogref01x_Begins.v a0 a1 s) s
def leapfrogref01x_BeginsQ.w : List Value → St → Option Value := fun args s => frzR (leapfrogref01x_Begins.w args) s
theorem leapfrogref01x_BeginsQ.can : callOk Try.prog 53 = true := leapfrogref01x_Begins.can
theorem leapfrogref01x_BeginsQ.sound : FnOk Try.prog 53 (.rd leapfrogref01x_BeginsQ.w) := FnOk.frozen leapfrogref01x_Begins.sound

/-! ### leapfrog/leapfrogref09.Less: function 12 -/
def leapfrogref09x_Less.ctx : Ctx := []
def leapfrogref09x_Less.t (S : Sig) (a0 a1 : Value) (s : St) : Option Value :=
  S.bd (bx a0) fun c1 => S.bd (bx a1) fun c2 => S.bd (lcl c1 0) fun x3 => S.bd (lcl c2 0) fun x4 => S.bd (bin .lss x3 x4) fun x5 => S.bd (S.gd x5 false (lcl c1 0)) fun x6 => S.bd (S.gd x5 false (lcl c2 0)) fun x7 => S.bd (S.gd x5 false (eqb [1] false false x6 x7)) fun x8 => S.bd (S.gd x5 false (some x8)) fun x9 => S.bd (S.gd x9 true (lcl c1 1)) fun x10 => S.bd (S.gd x9 true (lcl c2 1)) fun x11 => S.bd (S.gd x9 true (bin .lss x10 x11)) fun x12 => S.bd (S.gd x5 false (pik x9 x12 (Go.Value.bool Bool.false))) fun x13 => S.bd (pik x5 (Go.Value.bool Bool.true) x13) fun x14 => some (x14)
def leapfrogref09x_Less.r (a0 a1 : Value) (s : St) : Option Value := leapfrogref09x_Less.t std a0 a1 s
def leapfrogref09x_Less.w : List Value → St → Option Value
  | [a0, a1], s => leapfrogref09x_Less.r a0 a1 s
  | _, _ => none
def leapfrogref09x_Less.an : An := ⟨24, true, [2, 3], [], [], [], [], []⟩
theorem leapfrogref09x_Less.ok (S : Sig) (a0 a1 : Value) (s : St) : evG S Try.prog leapfrogref09x_Less.ctx leapfrogref09x_Less.an Try.f12 [a0, a1] s = leapfrogref09x_Less.t S a0 a1 s := by kernel_rfl
theorem leapfrogref09x_Less.cok : CtxOk Try.prog leapfrogref09x_Less.ctx := .nil
theorem leapfrogref09x_Less.draws : fnDraws leapfrogref09x_Less.an Try.f12 = true := by kernel_rfl
theorem leapfrogref09x_Less.can : callOk Try.prog 12 = true := by kernel_rfl
theorem leapfrogref09x_Less.sound : FnOk Try.prog 12 (.rd leapfrogref09x_Less.w) := FnOk.rd_of (evG_ok leapfrogref09x_Less.cok mixed (f := 12) (fn := Try.f12) (by kernel_rfl) leapfrogref09x_Less.draws) fun args s r h => by
  unfold leapfrogref09x_Less.w at h; split at h
  · rw [leapfrogref09x_Less.ok std]; exact h
  · simp at h

/-! ### leapfrog/leapfrogref11.sorted: function 78 -/
def leapfrogref11x_sorted.ctx : Ctx := [(12, .rd leapfrogref09x_Less.w)]
def leapfrogref11x_sorted.l6 (S : Sig) (rec60 : List Value → St → Option Cut) (xs58 : List Value) (s59 : St) : Option Cut :=
  S.bd (lenL (xs58.getD 1 undef)) fun x61 => S.bd (bin .lss (xs58.getD 3 undef) x61) fun x62 => S.bd (S.gd x62 true (some (xs58.getD 1 undef))) fun x63 => S.bd (S.gd x62 true (some (xs58.getD 3 undef))) fun x64 => S.bd (S.gd x62 true (idx s59 5 x63 x64)) fun x65 => S.bd (S.gd x62 true (fld 1 x65)) fun x66 => S.bd (S.gd x62 true (lda s59 2 x66)) fun x67 => S.bd (S.gd x62 true (some (xs58.getD 0 undef))) fun x68 => S.bd (S.gd x62 true (some (xs58.getD 2 undef))) fun x69 => S.bd (S.gd x62 true (idx s59 5 x68 x69)) fun x70 => S.bd (S.gd x62 true (fld 1 x70)) fun x71 => S.bd (S.gd x62 true (lda s59 2 x71)) fun x72 => S.bd (S.gd x62 true (leapfrogref09x_Less.r x67 x72 s59)) fun x73 => S.bd (pik x62 x73 (Go.Value.bool Bool.false)) fun x74 => S.cnd x74 (S.bd (bin .add (xs58.getD 3 undef) (Go.Value.int Go.IntKind.i64 1)) fun x75 => rec60 [(xs58.getD 0 undef), (xs58.getD 1 undef), (xs58.getD 2 undef), x75] s59) (some (0, [(xs58.getD 0 undef), (xs58.getD 1 undef), (xs58.getD 2 undef), (xs58.getD 3 undef), x63, x64, x65, x66, x67, x68, x69, x70, x71, x72, x73], s59))

def leapfrogref11x_sorted.l3.p1 (S : Sig) (xs53 : List Value) (s54 : St) (rec55 : List Value → St → Option Cut) : Option Cut :=
  S.bd (S.it (leapfrogref11x_sorted.l6 S) [(xs53.getD 0 undef), (xs53.getD 1 undef), (xs53.getD 2 undef), (Go.Value.int Go.IntKind.i64 0)] s54) fun r76 => S.bd (slc r76.2.2 5 (r76.2.1.getD 1 undef) none (some (r76.2.1.getD 3 undef)) none) fun x77 => S.bd (idx r76.2.2 5 (r76.2.1.getD 0 undef) (r76.2.1.getD 2 undef)) fun x78 => S.bd (lda r76.2.2 5 x78) fun x79 => S.bd (slc r76.2.2 5 (r76.2.1.getD 1 undef) (some (r76.2.1.getD 3 undef)) none none) fun x80 => S.bd (S.bd (bls 5 (List.replicate 1 [(Go.Value.int Go.IntKind.i64 0), (Go.Value.int Go.IntKind.i64 0), (Go.Value.int Go.IntKind.u64 0), (Go.Value.int Go.IntKind.i64 0), (Go.Value.int Go.IntKind.u64 0)]) [(0, x79)]) fun rows => als r76.2.2 5 1 rows) fun _ => S.bd (S.bd (bls 5 (List.replicate 0 [(Go.Value.int Go.IntKind.i64 0), (Go.Value.int Go.IntKind.i64 0), (Go.Value.int Go.IntKind.u64 0), (Go.Value.int Go.IntKind.i64 0), (Go.Value.int Go.IntKind.u64 0)]) []) fun rows => als r76.2.2 5 0 rows) fun r81 => S.bd (S.bd (bls 5 (List.replicate 1 [(Go.Value.int Go.IntKind.i64 0), (Go.Value.int Go.IntKind.i64 0), (Go.Value.int Go.IntKind.u64 0), (Go.Value.int Go.IntKind.i64 0), (Go.Value.int Go.IntKind.u64 0)]) [(0, x79)]) fun rows => als r81.2 5 1 rows) fun _ => S.bd (app r81.2 5 40 r81.1 x77) fun r82 => S.bd (idx r82.2 5 (r76.2.1.getD 0 undef) (r76.2.1.getD 2 undef)) fun x83 => S.cnd (Value.bool (sameV x83 x78)) (S.bd (lda r82.2 5 x78) fun x84 => S.cnd (Value.bool (sameV x84 x79)) (S.bd (slc r82.2 5 (r76.2.1.getD 1 undef) (some (r76.2.1.getD 3 undef)) none none) fun x85 => S.cnd (Value.bool (sameV x85 x80)) (S.bd (S.bd (bls 5 (List.replicate 1 [(Go.Value.int Go.IntKind.i64 0), (Go.Value.int Go.IntKind.i64 0), (Go.Value.int Go.IntKind.u64 0), (Go.Value.int Go.IntKind.i64 0), (Go.Value.int Go.IntKind.u64 0)]) [(0, x79)]) fun rows => als r82.2 5 1 rows) fun r86 => S.bd (app r86.2 5 40 r82.1 r86.1) fun r87 => S.bd (idx r87.2 5 (r76.2.1.getD 0 undef) (r76.2.1.getD 2 undef)) fun x88 => S.cnd (Value.bool (sameV x88 x78)) (S.bd (slc r87.2 5 (r76.2.1.getD 1 undef) (some (r76.2.1.getD 3 undef)) none none) fun x89 => S.cnd (Value.bool (sameV x89 x80)) (S.bd (app r87.2 5 40 r87.1 x80) fun r90 => S.bd (idx r90.2 5 (r76.2.1.getD 0 undef) (r76.2.1.getD 2 undef)) fun x91 => S.cnd (Value.bool (sameV x91 x78)) (S.bd (bin .add (r76.2.1.getD 2 undef) (Go.Value.int Go.IntKind.i64 1)) fun x92 => rec55 [(r76.2.1.getD 0 undef), r90.1, x92] r90.2) (none)) (none)) (none)) (none)) (none)) (none)

def leapfrogref11x_sorted.l3 (S : Sig) (rec55 : List Value → St → Option Cut) (xs53 : List Value) (s54 : St) : Option Cut :=
  S.bd (lenL (xs53.getD 0 undef)) fun x56 => S.bd (bin .lss (xs53.getD 2 undef) x56) fun x57 => S.cnd x57 (leapfrogref11x_sorted.l3.p1 S xs53 s54 rec55) (some (0, [(xs53.getD 1 undef)], s54))

def leapfrogref11x_sorted.t (S : Sig) (a0 : Value) (s : St) : Option (Value × St) :=
  S.bd (S.it (leapfrogref11x_sorted.l3 S) [a0, (Go.Value.slice Option.none 0 0), (Go.Value.int Go.IntKind.i64 0)] s) fun r93 => some ((r93.2.1.getD 0 undef), r93.2.2)
def leapfrogref11x_sorted.v (a0 : Value) (s : St) : Option (Value × St) := leapfrogref11x_sorted.t std a0 s
def leapfrogref11x_sorted.w : List Value → St → Option (Value × St)
  | [a0], s => leapfrogref11x_sorted.v a0 s
  | _, _ => none
def leapfrogref11x_sorted.an : An := ⟨47, false, [], [(6, ⟨[.v 0, .v 3, .v 4, .v 5], [(.exit 2, [.v 0, .v 3, .v 4, .v 5, .v 17, .v 18, .v 19, .v 20, .v 21, .v 22, .v 23, .v 24, .v 25, .v 26, .v 27])]⟩), (3, ⟨[.v 0, .v 3, .v 4], [(.exit 0, [.v 3])]⟩)], [], [(6, [(0, 0, [], []), (1, 0, [], []), (2, 2, [], []), (3, 0, [], []), (4, 0, [], []), (5, 0, [], []), (6, 0, [], []), (7, 2, [], []), (8, 0, [], []), (9, 2, [], []), (10, 0, [], []), (11, 0, [], []), (12, 2, [], []), (13, 0, [], []), (14, 2, [], []), (15, 3, [], []), (16, 0, [], [])]), (8, [(1, 0, [], []), (2, 0, [], []), (3, 2, [], []), (5, 0, [], []), (6, 0, [], []), (7, 2, [], []), (8, 2, [], []), (11, 0, [], []), (12, 0, [], []), (13, 2, [], []), (0, 3, [], [9]), (4, 4, [7, 8, 13], [9]), (9, 3, [], []), (10, 4, [7, 13], []), (14, 4, [7], []), (15, 3, [], [])])], [], []⟩
theorem leapfrogref11x_sorted.ok (S : Sig) (a0 : Value) (s : St) : evF S Try.prog leapfrogref11x_sorted.ctx leapfrogref11x_sorted.an Try.f78 [a0] s = leapfrogref11x_sorted.t S a0 s := by kernel_rfl
theorem leapfrogref11x_sorted.cok : CtxOk Try.prog leapfrogref11x_sorted.ctx := .cons leapfrogref09x_Less.sound leapfrogref09x_Less.can <| .nil
theorem leapfrogref11x_sorted.draws : fnDraws leapfrogref11x_sorted.an Try.f78 = true := by kernel_rfl
theorem leapfrogref11x_sorted.can : callOk Try.prog 78 = true := by kernel_rfl
theorem leapfrogref11x_sorted.sound : FnOk Try.prog 78 (.st leapfrogref11x_sorted.w) := FnOk.st_of (evF_ok leapfrogref11x_sorted.cok mixed (f := 78) (fn := Try.f78) (by kernel_rfl) leapfrogref11x_sorted.draws) fun args s r h => by
  unfold leapfrogref11x_sorted.w at h; split at h
  · rw [leapfrogref11x_sorted.ok std]; exact h
  · simp at h

/-! ### leapfrog/leapfrogref11.members: function 43 -/
def leapfrogref11x_members.ctx : Ctx := [(53, .rd leapfrogref01x_BeginsQ.w), (78, .st leapfrogref11x_sorted.w)]
def leapfrogref11x_members.l3 (S : Sig) (rec17 : List Value → St → Option Cut) (xs15 : List Value) (s16 : St) : Option Cut :=
  S.bd (lenL (xs15.getD 0 undef)) fun x18 => S.bd (bin .lss (xs15.getD 2 undef) x18) fun x19 => S.cnd x19 (S.bd (idx s16 5 (xs15.getD 0 undef) (xs15.getD 2 undef)) fun x20 => S.bd (fld 3 x20) fun x21 => S.bd (lda s16 2 x21) fun x22 => S.bd (lal (cellsA (xs15.getD 3 undef)) 0 2) fun x23 => S.bd (leapfrogref01x_BeginsQ.r x22 x23 s16) fun x24 => S.cnd x24 (S.bd (idx s16 5 (xs15.getD 0 undef) (xs15.getD 2 undef)) fun x25 => S.bd (lda s16 5 x25) fun x26 => S.bd (S.bd (bls 5 (List.replicate 1 [(Go.Value.int Go.IntKind.i64 0), (Go.Value.int Go.IntKind.i64 0), (Go.Value.int Go.IntKind.u64 0), (Go.Value.int Go.IntKind.i64 0), (Go.Value.int Go.IntKind.u64 0)]) [(0, x26)]) fun rows => als s16 5 1 rows) fun r27 => S.bd (app r27.2 5 40 (xs15.getD 1 undef) r27.1) fun r28 => S.bd (bin .add (xs15.getD 2 undef) (Go.Value.int Go.IntKind.i64 1)) fun x29 => rec17 [(xs15.getD 0 undef), r28.1, x29, (Value.agg ⟨(cellsA (xs15.getD 3 undef))⟩)] r28.2) (S.bd (bin .add (xs15.getD 2 undef) (Go.Value.int Go.IntKind.i64 1)) fun x30 => rec17 [(xs15.getD 0 undef), (xs15.getD 1 undef), x30, (Value.agg ⟨(cellsA (xs15.getD 3 undef))⟩)] s16)) (some (0, [(xs15.getD 1 undef)], s16))

def leapfrogref11x_members.t (S : Sig) (a0 a1 : Value) (s : St) : Option (Value × St) :=
  S.bd (bx a0) fun c1 => S.bd (S.it (leapfrogref11x_members.l3 S) [a1, (Go.Value.slice Option.none 0 0), (Go.Value.int Go.IntKind.i64 0), (Value.agg ⟨c1⟩)] s) fun r31 => S.bd (leapfrogref11x_sorted.v (r31.2.1.getD 0 undef) r31.2.2) fun r32 => some (r32.1, r32.2)
def leapfrogref11x_members.v (a0 a1 : Value) (s : St) : Option (Value × St) := leapfrogref11x_members.t std a0 a1 s
def leapfrogref11x_members.w : List Value → St → Option (Value × St)
  | [a0, a1], s => leapfrogref11x_members.v a0 a1 s
  | _, _ => none
def leapfrogref11x_members.an : An := ⟨29, false, [2], [(3, ⟨[.v 1, .p 2 2 0, .v 5, .v 6, .l 2], [(.exit 0, [.v 5])]⟩)], [], [(5, [(0, 0, [], []), (1, 0, [], []), (2, 2, [], []), (3, 0, [], []), (4, 2, [], []), (5, 17, [], []), (6, 3, [], [])])], [], []⟩
theorem leapfrogref11x_members.ok (S : Sig) (a0 a1 : Value) (s : St) : evF S Try.prog leapfrogref11x_members.ctx leapfrogref11x_members.an Try.f43 [a0, a1] s = leapfrogref11x_members.t S a0 a1 s := by kernel_rfl
theorem leapfrogref11x_members.cok : CtxOk Try.prog leapfrogref11x_members.ctx := .cons leapfrogref01x_BeginsQ.sound leapfrogref01x_BeginsQ.can <| .cons leapfrogref11x_sorted.sound leapfrogref11x_sorted.can <| .nil
theorem leapfrogref11x_members.draws : fnDraws leapfrogref11x_members.an Try.f43 = true := by kernel_rfl
theorem leapfrogref11x_members.can : callOk Try.prog 43 = true := by kernel_rfl
theorem leapfrogref11x_members.sound : FnOk Try.prog 43 (.st leapfrogref11x_members.w) := FnOk.st_of (evF_ok leapfrogref11x_members.cok mixed (f := 43) (fn := Try.f43) (by kernel_rfl) leapfrogref11x_members.draws) fun args s r h => by
  unfold leapfrogref11x_members.w at h; split at h
  · rw [leapfrogref11x_members.ok std]; exact h
  · simp at h

/-! ### leapfrog/leapfrogref11.Row: function 17 -/
def leapfrogref11x_Row.ctx : Ctx := [(42, .rd leapfrogref09x_Head.w), (31, .rd leapfrogref09x_Tail.w), (43, .st leapfrogref11x_members.w)]
def leapfrogref11x_Row.t.p1 (S : Sig) (x8 : Value) (c6 : List Value) (c1 : List Value) (s : St) (a2 : Value) : Option (Value × St) :=
  S.bd (bx (Go.Value.agg #[(Go.Value.int Go.IntKind.i64 0), (Go.Value.int Go.IntKind.i64 0), (Go.Value.int Go.IntKind.u64 0), (Go.Value.int Go.IntKind.i64 0), (Go.Value.int Go.IntKind.u64 0)])) fun c10 => S.bd (stl c10 0 5 x8) fun c11 => S.bd (lal c6 0 5) fun x12 => S.bd (lal c1 0 2) fun x13 => S.bd (lal c11 0 5) fun x14 => S.bd (S.bd (bls 5 (List.replicate 1 [(Go.Value.int Go.IntKind.i64 0), (Go.Value.int Go.IntKind.i64 0), (Go.Value.int Go.IntKind.u64 0), (Go.Value.int Go.IntKind.i64 0), (Go.Value.int Go.IntKind.u64 0)]) [(0, x12)]) fun rows => als s 5 1 rows) fun _ => S.bd (S.bd (bls 5 (List.replicate 1 [(Go.Value.int Go.IntKind.i64 0), (Go.Value.int Go.IntKind.i64 0), (Go.Value.int Go.IntKind.u64 0), (Go.Value.int Go.IntKind.i64 0), (Go.Value.int Go.IntKind.u64 0)]) [(0, x14)]) fun rows => als s 5 1 rows) fun _ => S.bd (leapfrogref11x_members.v x13 a2 s) fun r15 => S.bd (S.bd (bls 5 (List.replicate 1 [(Go.Value.int Go.IntKind.i64 0), (Go.Value.int Go.IntKind.i64 0), (Go.Value.int Go.IntKind.u64 0), (Go.Value.int Go.IntKind.i64 0), (Go.Value.int Go.IntKind.u64 0)]) [(0, x14)]) fun rows => als r15.2 5 1 rows) fun _ => S.bd (S.bd (bls 5 (List.replicate 1 [(Go.Value.int Go.IntKind.i64 0), (Go.Value.int Go.IntKind.i64 0), (Go.Value.int Go.IntKind.u64 0), (Go.Value.int Go.IntKind.i64 0), (Go.Value.int Go.IntKind.u64 0)]) [(0, x12)]) fun rows => als r15.2 5 1 rows) fun r16 => S.bd (S.bd (bls 5 (List.replicate 1 [(Go.Value.int Go.IntKind.i64 0), (Go.Value.int Go.IntKind.i64 0), (Go.Value.int Go.IntKind.u64 0), (Go.Value.int Go.IntKind.i64 0), (Go.Value.int Go.IntKind.u64 0)]) [(0, x14)]) fun rows => als r16.2 5 1 rows) fun _ => S.bd (app r16.2 5 40 r16.1 r15.1) fun r17 => S.bd (S.bd (bls 5 (List.replicate 1 [(Go.Value.int Go.IntKind.i64 0), (Go.Value.int Go.IntKind.i64 0), (Go.Value.int Go.IntKind.u64 0), (Go.Value.int Go.IntKind.i64 0), (Go.Value.int Go.IntKind.u64 0)]) [(0, x14)]) fun rows => als r17.2 5 1 rows) fun r18 => S.bd (app r18.2 5 40 r17.1 r18.1) fun r19 => some (r19.1, r19.2)

def leapfrogref11x_Row.t (S : Sig) (a0 a1 a2 : Value) (s : St) : Option (Value × St) :=
  S.bd (bx a1) fun c1 => S.bd (leapfrogref09x_Head.r a0 s) fun x2 => S.bd (xtr 0 x2) fun x3 => S.bd (xtr 1 x2) fun x4 => S.bd (bx (Go.Value.agg #[(Go.Value.int Go.IntKind.i64 0), (Go.Value.int Go.IntKind.i64 0), (Go.Value.int Go.IntKind.u64 0), (Go.Value.int Go.IntKind.i64 0), (Go.Value.int Go.IntKind.u64 0)])) fun c5 => S.bd (stl c5 0 5 x3) fun c6 => S.bd (leapfrogref09x_Tail.r a0 s) fun x7 => S.bd (xtr 0 x7) fun x8 => S.bd (xtr 1 x7) fun x9 => leapfrogref11x_Row.t.p1 S x8 c6 c1 s a2
def leapfrogref11x_Row.v (a0 a1 a2 : Value) (s : St) : Option (Value × St) := leapfrogref11x_Row.t std a0 a1 a2 s
def leapfrogref11x_Row.w : List Value → St → Option (Value × St)
  | [a0, a1, a2], s => leapfrogref11x_Row.v a0 a1 a2 s
  | _, _ => none
def leapfrogref11x_Row.an : An := ⟨30, false, [4, 7, 9], [], [], [(3, [(0, 57, [], []), (2, 33, [], []), (3, 0, [], []), (6, 73, [], []), (4, 4, [], [1, 7]), (1, 3, [], [7]), (5, 4, [], [7]), (7, 3, [], []), (8, 4, [], []), (9, 0, [], [])])], [], []⟩
theorem leapfrogref11x_Row.ok (S : Sig) (a0 a1 a2 : Value) (s : St) : evF S Try.prog leapfrogref11x_Row.ctx leapfrogref11x_Row.an Try.f17 [a0, a1, a2] s = leapfrogref11x_Row.t S a0 a1 a2 s := by kernel_rfl
theorem leapfrogref11x_Row.cok : CtxOk Try.prog leapfrogref11x_Row.ctx := .cons leapfrogref09x_Head.sound leapfrogref09x_Head.can <| .cons leapfrogref09x_Tail.sound leapfrogref09x_Tail.can <| .cons leapfrogref11x_members.sound leapfrogref11x_members.can <| .nil
theorem leapfrogref11x_Row.draws : fnDraws leapfrogref11x_Row.an Try.f17 = true := by kernel_rfl
theorem leapfrogref11x_Row.can : callOk Try.prog 17 = true := by kernel_rfl
theorem leapfrogref11x_Row.sound : FnOk Try.prog 17 (.st leapfrogref11x_Row.w) := FnOk.st_of (evF_ok leapfrogref11x_Row.cok mixed (f := 17) (fn := Try.f17) (by kernel_rfl) leapfrogref11x_Row.draws) fun args s r h => by
  unfold leapfrogref11x_Row.w at h; split at h
  · rw [leapfrogref11x_Row.ok std]; exact h
  · simp at h

/-! ### leapfrog/leapfrogref09.New: function 13 -/
def leapfrogref09x_New.ctx : Ctx := [(27, .rd leapfrogref01x_Right.w)]
def leapfrogref09x_New.t (S : Sig) (a0 a1 : Value) (s : St) : Option (Value × St) :=
  S.bd (bx a0) fun c1 => S.bd (lcl c1 1) fun x2 => S.bd (eqb [1] false true x2 (Go.Value.int Go.IntKind.i64 2)) fun x3 => S.bd (S.gd x3 false (lal c1 3 2)) fun x4 => S.bd (S.gd x3 false (leapfrogref01x_Right.r x4 s)) fun x5 => S.bd (S.gd x3 false (un .not x5)) fun x6 => S.bd (pik x3 (Go.Value.bool Bool.true) x6) fun x7 => S.bd (S.gd x7 false (lcl c1 0)) fun x8 => S.bd (S.gd x7 false (bin .lss x8 (Go.Value.int Go.IntKind.i64 2))) fun x9 => S.bd (pik x7 (Go.Value.bool Bool.true) x9) fun x10 => S.bd (S.gd x10 false (lcl c1 0)) fun x11 => S.bd (S.gd x10 false (bin .geq x11 (Go.Value.int Go.IntKind.i64 1024))) fun x12 => S.bd (pik x10 (Go.Value.bool Bool.true) x12) fun x13 => S.bd (S.gd x13 false (some a1)) fun x14 => S.bd (S.gd x13 false (lenL x14)) fun x15 => S.bd (S.gd x13 false (bin .gtr x15 (Go.Value.int Go.IntKind.i64 1024))) fun x16 => S.bd (pik x13 (Go.Value.bool Bool.true) x16) fun x17 => S.cnd x17 (some ((Value.tuple ⟨[(Go.Value.pointer Option.none), (Go.Value.int Go.IntKind.i64 90)]⟩), s)) (S.bd (lal c1 0 5) fun x18 => S.bd (S.bd (bls 1 (List.replicate 0 [(Go.Value.int Go.IntKind.u8 0)]) []) fun rows => als s 1 0 rows) fun r19 => S.bd (app r19.2 1 1 r19.1 a1) fun r20 => S.bd (bld [(Go.Value.int Go.IntKind.i64 0), (Go.Value.int Go.IntKind.i64 0), (Go.Value.int Go.IntKind.u64 0), (Go.Value.int Go.IntKind.i64 0), (Go.Value.int Go.IntKind.u64 0), (Go.Value.slice Option.none 0 0), (Go.Value.bool Bool.false), (Go.Value.bool Bool.false), (Go.Value.bool Bool.false), (Go.Value.slice Option.none 0 0), (Go.Value.slice Option.none 0 0)] [(0, 5, x18), (5, 1, r20.1)]) fun x21 => S.bd (alv r20.2 x21) fun r22 => some ((Value.tuple ⟨[r22.1, (Go.Value.int Go.IntKind.i64 0)]⟩), r22.2))
def leapfrogref09x_New.v (a0 a1 : Value) (s : St) : Option (Value × St) := leapfrogref09x_New.t std a0 a1 s
def leapfrogref09x_New.w : List Value → St → Option (Value × St)
  | [a0, a1], s => leapfrogref09x_New.v a0 a1 s
  | _, _ => none
def leapfrogref09x_New.an : An := ⟨37, false, [2], [], [], [(3, [(0, 17, [], []), (2, 0, [], []), (1, 3, [], []), (3, 4, [], []), (4, 0, [], []), (5, 3, [], []), (6, 0, [], []), (7, 0, [], [])])], [], []⟩
theorem leapfrogref09x_New.ok (S : Sig) (a0 a1 : Value) (s : St) : evF S Try.prog leapfrogref09x_New.ctx leapfrogref09x_New.an Try.f13 [a0, a1] s = leapfrogref09x_New.t S a0 a1 s := by kernel_rfl
theorem leapfrogref09x_New.cok : CtxOk Try.prog leapfrogref09x_New.ctx := .cons leapfrogref01x_Right.sound leapfrogref01x_Right.can <| .nil
theorem leapfrogref09x_New.draws : fnDraws leapfrogref09x_New.an Try.f13 = true := by kernel_rfl
theorem leapfrogref09x_New.can : callOk Try.prog 13 = true := by kernel_rfl
theorem leapfrogref09x_New.sound : FnOk Try.prog 13 (.st leapfrogref09x_New.w) := FnOk.st_of (evF_ok leapfrogref09x_New.cok mixed (f := 13) (fn := Try.f13) (by kernel_rfl) leapfrogref09x_New.draws) fun args s r h => by
  unfold leapfrogref09x_New.w at h; split at h
  · rw [leapfrogref09x_New.ok std]; exact h
  · simp at h

/-! ### leapfrog/leapfrogref09.NewEnd: function 32 -/
def leapfrogref09x_NewEnd.ctx : Ctx := [(42, .rd leapfrogref09x_Head.w), (31, .rd leapfrogref09x_Tail.w)]
def leapfrogref09x_NewEnd.t (S : Sig) (a0 a1 : Value) (s : St) : Option (Value × St) :=
  S.bd (leapfrogref09x_Head.r a1 s) fun x1 => S.bd (xtr 0 x1) fun x2 => S.bd (xtr 1 x1) fun x3 => S.bd (bx (Go.Value.agg #[(Go.Value.int Go.IntKind.i64 0), (Go.Value.int Go.IntKind.i64 0), (Go.Value.int Go.IntKind.u64 0), (Go.Value.int Go.IntKind.i64 0), (Go.Value.int Go.IntKind.u64 0)])) fun c4 => S.bd (stl c4 0 5 x2) fun c5 => S.bd (show Option Cut from S.cnd a0 (S.bd (leapfrogref09x_Tail.r a1 s) fun x10 => S.bd (xtr 0 x10) fun x11 => S.bd (xtr 1 x10) fun x12 => S.bd (stl c5 0 5 x11) fun c13 => some (0, [x12, (Value.agg ⟨c13⟩)], s)) (some (0, [x3, (Value.agg ⟨c5⟩)], s))) fun r14 => S.bd (eqb [1] false true (r14.2.1.getD 0 undef) (Go.Value.int Go.IntKind.i64 0)) fun x15 => S.cnd x15 (some ((Value.tuple ⟨[(Go.Value.pointer Option.none), (r14.2.1.getD 0 undef)]⟩), r14.2.2)) (S.bd (lal (cellsA (r14.2.1.getD 1 undef)) 0 5) fun x16 => S.bd (bld [(Go.Value.int Go.IntKind.i64 0), (Go.Value.int Go.IntKind.i64 0), (Go.Value.int Go.IntKind.u64 0), (Go.Value.int Go.IntKind.i64 0), (Go.Value.int Go.IntKind.u64 0), (Go.Value.slice Option.none 0 0), (Go.Value.bool Bool.false), (Go.Value.bool Bool.false), (Go.Value.bool Bool.false), (Go.Value.slice Option.none 0 0), (Go.Value.slice Option.none 0 0)] [(0, 5, x16), (6, 1, (Go.Value.bool Bool.true)), (7, 1, (Go.Value.bool Bool.true))]) fun x17 => S.bd (alv r14.2.2 x17) fun r18 => some ((Value.tuple ⟨[r18.1, (Go.Value.int Go.IntKind.i64 0)]⟩), r18.2))
def leapfrogref09x_NewEnd.v (a0 a1 : Value) (s : St) : Option (Value × St) := leapfrogref09x_NewEnd.t std a0 a1 s
def leapfrogref09x_NewEnd.w : List Value → St → Option (Value × St)
  | [a0, a1], s => leapfrogref09x_NewEnd.v a0 a1 s
  | _, _ => none
def leapfrogref09x_NewEnd.an : An := ⟨25, false, [6], [], [(4, ⟨[], [(.normal, [.p 6 6 0, .v 7, .l 6])]⟩)], [], [], []⟩
theorem leapfrogref09x_NewEnd.ok (S : Sig) (a0 a1 : Value) (s : St) : evF S Try.prog leapfrogref09x_NewEnd.ctx leapfrogref09x_NewEnd.an Try.f32 [a0, a1] s = leapfrogref09x_NewEnd.t S a0 a1 s := by kernel_rfl
theorem leapfrogref09x_NewEnd.cok : CtxOk Try.prog leapfrogref09x_NewEnd.ctx := .cons leapfrogref09x_Head.sound leapfrogref09x_Head.can <| .cons leapfrogref09x_Tail.sound leapfrogref09x_Tail.can <| .nil
theorem leapfrogref09x_NewEnd.draws : fnDraws leapfrogref09x_NewEnd.an Try.f32 = true := by kernel_rfl
theorem leapfrogref09x_NewEnd.can : callOk Try.prog 32 = true := by kernel_rfl
theorem leapfrogref09x_NewEnd.sound : FnOk Try.prog 32 (.st leapfrogref09x_NewEnd.w) := FnOk.st_of (evF_ok leapfrogref09x_NewEnd.cok mixed (f := 32) (fn := Try.f32) (by kernel_rfl) leapfrogref09x_NewEnd.draws) fun args s r h => by
  unfold leapfrogref09x_NewEnd.w at h; split at h
  · rw [leapfrogref09x_NewEnd.ok std]; exact h
  · simp at h

/-! ### leapfrog/leapfrogref04.has: function 85 -/
def leapfrogref04x_has.ctx : Ctx := []
def leapfrogref04x_has.t (S : Sig) (a0 : Value) (s : St) : Option Value :=
  S.bd (eqb [1] false false a0 (Go.Value.int Go.IntKind.i64 5)) fun x1 => S.bd (S.gd x1 false (some a0)) fun x2 => S.bd (S.gd x1 false (eqb [1] false false x2 (Go.Value.int Go.IntKind.i64 6))) fun x3 => S.bd (pik x1 (Go.Value.bool Bool.true) x3) fun x4 => S.bd (S.gd x4 false (some a0)) fun x5 => S.bd (S.gd x4 false (eqb [1] false false x5 (Go.Value.int Go.IntKind.i64 7))) fun x6 => S.bd (pik x4 (Go.Value.bool Bool.true) x6) fun x7 => S.bd (eqb [1] false false a0 (Go.Value.int Go.IntKind.i64 3)) fun x8 => S.bd (S.gd x8 false (some a0)) fun x9 => S.bd (S.gd x8 false (eqb [1] false false x9 (Go.Value.int Go.IntKind.i64 4))) fun x10 => S.bd (pik x8 (Go.Value.bool Bool.true) x10) fun x11 => S.bd (S.gd x11 false (some a0)) fun x12 => S.bd (S.gd x11 false (eqb [1] false false x12 (Go.Value.int Go.IntKind.i64 8))) fun x13 => S.bd (pik x11 (Go.Value.bool Bool.true) x13) fun x14 => S.bd (S.gd x14 false (some a0)) fun x15 => S.bd (S.gd x14 false (eqb [1] false false x15 (Go.Value.int Go.IntKind.i64 5))) fun x16 => S.bd (pik x14 (Go.Value.bool Bool.true) x16) fun x17 => S.bd (S.gd x17 false (some a0)) fun x18 => S.bd (S.gd x17 false (eqb [1] false false x18 (Go.Value.int Go.IntKind.i64 7))) fun x19 => S.bd (pik x17 (Go.Value.bool Bool.true) x19) fun x20 => S.bd (eqb [1] false false a0 (Go.Value.int Go.IntKind.i64 1)) fun x21 => S.bd (S.gd x21 false (some x7)) fun x22 => S.bd (pik x21 (Go.Value.bool Bool.true) x22) fun x23 => S.bd (S.gd x23 false (some x20)) fun x24 => S.bd (pik x23 (Go.Value.bool Bool.true) x24) fun x25 => S.bd (eqb [1] false false a0 (Go.Value.int Go.IntKind.i64 7)) fun x26 => some ((Value.tuple ⟨[x25, x7, x26, x20]⟩))
def leapfrogref04x_has.r (a0 : Value) (s : St) : Option Value := leapfrogref04x_has.t std a0 s
def leapfrogref04x_has.w : List Value → St → Option Value
  | [a0], s => leapfrogref04x_has.r a0 s
  | _, _ => none
def leapfrogref04x_has.an : An := ⟨48, true, [], [], [], [], [], []⟩
theorem leapfrogref04x_has.ok (S : Sig) (a0 : Value) (s : St) : evG S Try.prog leapfrogref04x_has.ctx leapfrogref04x_has.an Try.f85 [a0] s = leapfrogref04x_has.t S a0 s := by kernel_rfl
theorem leapfrogref04x_has.cok : CtxOk Try.prog leapfrogref04x_has.ctx := .nil
theorem leapfrogref04x_has.draws : fnDraws leapfrogref04x_has.an Try.f85 = true := by kernel_rfl
theorem leapfrogref04x_has.can : callOk Try.prog 85 = true := by kernel_rfl
theorem leapfrogref04x_has.sound : FnOk Try.prog 85 (.rd leapfrogref04x_has.w) := FnOk.rd_of (evG_ok leapfrogref04x_has.cok mixed (f := 85) (fn := Try.f85) (by kernel_rfl) leapfrogref04x_has.draws) fun args s r h => by
  unfold leapfrogref04x_has.w at h; split at h
  · rw [leapfrogref04x_has.ok std]; exact h
  · simp at h

/-! ### leapfrog/leapfrogref04.only: function 86 -/
def leapfrogref04x_only.ctx : Ctx := []
def leapfrogref04x_only.t.p1 (S : Sig) (r20 : Cut) : Option Value :=
  S.bd (eqb [1] false false (r20.2.1.getD 0 undef) (Go.Value.int Go.IntKind.i64 5)) fun x28 => S.cnd x28 (S.bd (lal (cellsA (r20.2.1.getD 2 undef)) 1 2) fun x29 => S.bd (lal (cellsA (r20.2.1.getD 2 undef)) 3 5) fun x30 => S.bd (lal (cellsA (r20.2.1.getD 2 undef)) 13 2) fun x31 => S.bd (stl (cellsA (r20.2.1.getD 4 undef)) 1 2 x29) fun c32 => S.bd (stl c32 3 5 x30) fun c33 => S.bd (stl c33 13 2 x31) fun c34 => S.bd (lal c34 0 15) fun x35 => S.bd (stl (cellsA (r20.2.1.getD 3 undef)) 0 15 x35) fun c36 => S.bd (lal c36 0 15) fun x37 => some (x37)) (S.bd (eqb [1] false false (r20.2.1.getD 0 undef) (Go.Value.int Go.IntKind.i64 6)) fun x38 => S.cnd x38 (S.bd (lal (cellsA (r20.2.1.getD 2 undef)) 1 2) fun x39 => S.bd (lal (cellsA (r20.2.1.getD 2 undef)) 3 5) fun x40 => S.bd (stl (cellsA (r20.2.1.getD 4 undef)) 1 2 x39) fun c41 => S.bd (stl c41 3 5 x40) fun c42 => S.bd (lal c42 0 15) fun x43 => S.bd (stl (cellsA (r20.2.1.getD 3 undef)) 0 15 x43) fun c44 => S.bd (lal c44 0 15) fun x45 => some (x45)) (S.bd (eqb [1] false false (r20.2.1.getD 0 undef) (Go.Value.int Go.IntKind.i64 7)) fun x46 => S.cnd x46 (S.bd (lal (cellsA (r20.2.1.getD 2 undef)) 1 2) fun x47 => S.bd (lal (cellsA (r20.2.1.getD 2 undef)) 3 5) fun x48 => S.bd (lal (cellsA (r20.2.1.getD 2 undef)) 8 5) fun x49 => S.bd (lal (cellsA (r20.2.1.getD 2 undef)) 13 2) fun x50 => S.bd (stl (cellsA (r20.2.1.getD 4 undef)) 1 2 x47) fun c51 => S.bd (stl c51 3 5 x48) fun c52 => S.bd (stl c52 8 5 x49) fun c53 => S.bd (stl c53 13 2 x50) fun c54 => S.bd (lal c54 0 15) fun x55 => S.bd (stl (cellsA (r20.2.1.getD 3 undef)) 0 15 x55) fun c56 => S.bd (lal c56 0 15) fun x57 => some (x57)) (S.bd (lal (cellsA (r20.2.1.getD 4 undef)) 0 15) fun x58 => S.bd (stl (cellsA (r20.2.1.getD 3 undef)) 0 15 x58) fun c59 => S.bd (lal c59 0 15) fun x60 => some (x60))))

def leapfrogref04x_only.t (S : Sig) (a0 : Value) (s : St) : Option Value :=
  S.bd (bx a0) fun c1 => S.bd (bx (Go.Value.agg #[(Go.Value.int Go.IntKind.i64 0), (Go.Value.int Go.IntKind.i64 0), (Go.Value.int Go.IntKind.u64 0), (Go.Value.int Go.IntKind.i64 0), (Go.Value.int Go.IntKind.i64 0), (Go.Value.int Go.IntKind.u64 0), (Go.Value.int Go.IntKind.i64 0), (Go.Value.int Go.IntKind.u64 0), (Go.Value.int Go.IntKind.i64 0), (Go.Value.int Go.IntKind.i64 0), (Go.Value.int Go.IntKind.u64 0), (Go.Value.int Go.IntKind.i64 0), (Go.Value.int Go.IntKind.u64 0), (Go.Value.int Go.IntKind.i64 0), (Go.Value.int Go.IntKind.i64 0)])) fun c2 => S.bd (lcl c1 0) fun x3 => S.bd (bld [(Go.Value.int Go.IntKind.i64 0), (Go.Value.int Go.IntKind.i64 0), (Go.Value.int Go.IntKind.u64 0), (Go.Value.int Go.IntKind.i64 0), (Go.Value.int Go.IntKind.i64 0), (Go.Value.int Go.IntKind.u64 0), (Go.Value.int Go.IntKind.i64 0), (Go.Value.int Go.IntKind.u64 0), (Go.Value.int Go.IntKind.i64 0), (Go.Value.int Go.IntKind.i64 0), (Go.Value.int Go.IntKind.u64 0), (Go.Value.int Go.IntKind.i64 0), (Go.Value.int Go.IntKind.u64 0), (Go.Value.int Go.IntKind.i64 0), (Go.Value.int Go.IntKind.i64 0)] [(0, 1, x3)]) fun x4 => S.bd (bx (Go.Value.agg #[(Go.Value.int Go.IntKind.i64 0), (Go.Value.int Go.IntKind.i64 0), (Go.Value.int Go.IntKind.u64 0), (Go.Value.int Go.IntKind.i64 0), (Go.Value.int Go.IntKind.i64 0), (Go.Value.int Go.IntKind.u64 0), (Go.Value.int Go.IntKind.i64 0), (Go.Value.int Go.IntKind.u64 0), (Go.Value.int Go.IntKind.i64 0), (Go.Value.int Go.IntKind.i64 0), (Go.Value.int Go.IntKind.u64 0), (Go.Value.int Go.IntKind.i64 0), (Go.Value.int Go.IntKind.u64 0), (Go.Value.int Go.IntKind.i64 0), (Go.Value.int Go.IntKind.i64 0)])) fun c5 => S.bd (stl c5 0 15 x4) fun c6 => S.bd (lcl c1 0) fun x7 => S.bd (eqb [1] false false x7 (Go.Value.int Go.IntKind.i64 1)) fun x8 => S.cnd x8 (S.bd (lal c1 1 2) fun x9 => S.bd (stl c6 1 2 x9) fun c10 => S.bd (lal c10 0 15) fun x11 => S.bd (stl c2 0 15 x11) fun c12 => S.bd (lal c12 0 15) fun x13 => some (x13)) (S.bd (show Option Cut from S.bd (eqb [1] false false x7 (Go.Value.int Go.IntKind.i64 3)) fun x17 => S.cnd x17 (some (0, [x7, x17, (Value.agg ⟨c1⟩), (Value.agg ⟨c2⟩), (Value.agg ⟨c6⟩)], s)) (S.bd (eqb [1] false false x7 (Go.Value.int Go.IntKind.i64 4)) fun x18 => S.cnd x18 (some (0, [x7, x18, (Value.agg ⟨c1⟩), (Value.agg ⟨c2⟩), (Value.agg ⟨c6⟩)], s)) (S.bd (eqb [1] false false x7 (Go.Value.int Go.IntKind.i64 8)) fun x19 => some (0, [x7, x19, (Value.agg ⟨c1⟩), (Value.agg ⟨c2⟩), (Value.agg ⟨c6⟩)], s)))) fun r20 => S.cnd (r20.2.1.getD 1 undef) (S.bd (lal (cellsA (r20.2.1.getD 2 undef)) 1 2) fun x21 => S.bd (lal (cellsA (r20.2.1.getD 2 undef)) 13 2) fun x22 => S.bd (stl (cellsA (r20.2.1.getD 4 undef)) 1 2 x21) fun c23 => S.bd (stl c23 13 2 x22) fun c24 => S.bd (lal c24 0 15) fun x25 => S.bd (stl (cellsA (r20.2.1.getD 3 undef)) 0 15 x25) fun c26 => S.bd (lal c26 0 15) fun x27 => some (x27)) (leapfrogref04x_only.t.p1 S r20))
def leapfrogref04x_only.r (a0 : Value) (s : St) : Option Value := leapfrogref04x_only.t std a0 s
def leapfrogref04x_only.w : List Value → St → Option Value
  | [a0], s => leapfrogref04x_only.r a0 s
  | _, _ => none
def leapfrogref04x_only.an : An := ⟨59, true, [1, 2, 3], [], [(9, ⟨[], [(.normal, [.p 1 1 0, .p 2 2 0, .p 3 3 0, .v 8, .v 15, .l 1, .l 2, .l 3])]⟩)], [(9, [(0, 0, [], []), (1, 9, [], []), (2, 0, [], []), (3, 9, [], []), (4, 0, [], []), (5, 29, [], []), (6, 0, [], []), (7, 29, [], [])]), (11, [(0, 0, [], []), (1, 9, [], []), (2, 0, [], []), (3, 9, [], []), (4, 0, [], []), (5, 9, [], []), (6, 0, [], []), (7, 29, [], []), (8, 0, [], []), (9, 29, [], []), (10, 0, [], []), (11, 29, [], [])]), (13, [(0, 0, [], []), (1, 9, [], []), (2, 0, [], []), (3, 9, [], []), (4, 0, [], []), (5, 29, [], []), (6, 0, [], []), (7, 29, [], [])]), (15, [(0, 0, [], []), (1, 9, [], []), (2, 0, [], []), (3, 9, [], []), (4, 0, [], []), (5, 9, [], []), (6, 0, [], []), (7, 9, [], []), (8, 0, [], []), (9, 29, [], []), (10, 0, [], []), (11, 29, [], []), (12, 0, [], []), (13, 29, [], []), (14, 0, [], []), (15, 29, [], [])])], [], []⟩
theorem leapfrogref04x_only.ok (S : Sig) (a0 : Value) (s : St) : evG S Try.prog leapfrogref04x_only.ctx leapfrogref04x_only.an Try.f86 [a0] s = leapfrogref04x_only.t S a0 s := by kernel_rfl
theorem leapfrogref04x_only.cok : CtxOk Try.prog leapfrogref04x_only.ctx := .nil
theorem leapfrogref04x_only.draws : fnDraws leapfrogref04x_only.an Try.f86 = true := by kernel_rfl
theorem leapfrogref04x_only.can : callOk Try.prog 86 = true := by kernel_rfl
theorem leapfrogref04x_only.sound : FnOk Try.prog 86 (.rd leapfrogref04x_only.w) := FnOk.rd_of (evG_ok leapfrogref04x_only.cok mixed (f := 86) (fn := Try.f86) (by kernel_rfl) leapfrogref04x_only.draws) fun args s r h => by
  unfold leapfrogref04x_only.w at h; split at h
  · rw [leapfrogref04x_only.ok std]; exact h
  · simp at h

/-! ### leapfrog/leapfrogref03.IsKey: function 54 -/
def leapfrogref03x_IsKey.ctx : Ctx := []
def leapfrogref03x_IsKey.t (S : Sig) (a0 : Value) (s : St) : Option Value :=
  S.bd (bx a0) fun c1 => S.bd (lcl c1 0) fun x2 => S.bd (eqb [1] false false x2 (Go.Value.int Go.IntKind.i64 2)) fun x3 => S.bd (S.gd x3 false (lcl c1 1)) fun x4 => S.bd (S.gd x3 false (eqb [1] false false x4 (Go.Value.int Go.IntKind.u64 0))) fun x5 => S.bd (S.gd x3 false (some x5)) fun x6 => S.bd (S.gd x6 true (lcl c1 0)) fun x7 => S.bd (S.gd x6 true (eqb [1] false false x7 (Go.Value.int Go.IntKind.i64 1))) fun x8 => S.bd (S.gd x6 true (some x8)) fun x9 => S.bd (S.gd x9 false (lcl c1 0)) fun x10 => S.bd (S.gd x9 false (eqb [1] false false x10 (Go.Value.int Go.IntKind.i64 3))) fun x11 => S.bd (S.gd x6 true (pik x9 (Go.Value.bool Bool.true) x11)) fun x12 => S.bd (S.gd x3 false (pik x6 x12 (Go.Value.bool Bool.false))) fun x13 => S.bd (pik x3 (Go.Value.bool Bool.true) x13) fun x14 => some (x14)
def leapfrogref03x_IsKey.r (a0 : Value) (s : St) : Option Value := leapfrogref03x_IsKey.t std a0 s
def leapfrogref03x_IsKey.w : List Value → St → Option Value
  | [a0], s => leapfrogref03x_IsKey.r a0 s
  | _, _ => none
def leapfrogref03x_IsKey.an : An := ⟨21, true, [1], [], [], [], [], []⟩
theorem leapfrogref03x_IsKey.ok (S : Sig) (a0 : Value) (s : St) : evG S Try.prog leapfrogref03x_IsKey.ctx leapfrogref03x_IsKey.an Try.f54 [a0] s = leapfrogref03x_IsKey.t S a0 s := by kernel_rfl
theorem leapfrogref03x_IsKey.cok : CtxOk Try.prog leapfrogref03x_IsKey.ctx := .nil
theorem leapfrogref03x_IsKey.draws : fnDraws leapfrogref03x_IsKey.an Try.f54 = true := by kernel_rfl
theorem leapfrogref03x_IsKey.can : callOk Try.prog 54 = true := by kernel_rfl
theorem leapfrogref03x_IsKey.sound : FnOk Try.prog 54 (.rd leapfrogref03x_IsKey.w) := FnOk.rd_of (evG_ok leapfrogref03x_IsKey.cok mixed (f := 54) (fn := Try.f54) (by kernel_rfl) leapfrogref03x_IsKey.draws) fun args s r h => by
  unfold leapfrogref03x_IsKey.w at h; split at h
  · rw [leapfrogref03x_IsKey.ok std]; exact h
  · simp at h

/-! ### leapfrog/leapfrogref04.isRef: function 87 -/
def leapfrogref04x_isRef.ctx : Ctx := [(54, .rd leapfrogref03x_IsKey.w), (27, .rd leapfrogref01x_Right.w)]
def leapfrogref04x_isRef.t (S : Sig) (a0 : Value) (s : St) : Option Value :=
  S.bd (bx a0) fun c1 => S.bd (lal c1 1 2) fun x2 => S.bd (leapfrogref03x_IsKey.r x2 s) fun x3 => S.bd (S.gd x3 true (lal c1 3 2)) fun x4 => S.bd (S.gd x3 true (leapfrogref01x_Right.r x4 s)) fun x5 => S.bd (pik x3 x5 (Go.Value.bool Bool.false)) fun x6 => some (x6)
def leapfrogref04x_isRef.r (a0 : Value) (s : St) : Option Value := leapfrogref04x_isRef.t std a0 s
def leapfrogref04x_isRef.w : List Value → St → Option Value
  | [a0], s => leapfrogref04x_isRef.r a0 s
  | _, _ => none
def leapfrogref04x_isRef.an : An := ⟨11, true, [1], [], [], [], [], []⟩
theorem leapfrogref04x_isRef.ok (S : Sig) (a0 : Value) (s : St) : evG S Try.prog leapfrogref04x_isRef.ctx leapfrogref04x_isRef.an Try.f87 [a0] s = leapfrogref04x_isRef.t S a0 s := by kernel_rfl
theorem leapfrogref04x_isRef.cok : CtxOk Try.prog leapfrogref04x_isRef.ctx := .cons leapfrogref03x_IsKey.sound leapfrogref03x_IsKey.can <| .cons leapfrogref01x_Right.sound leapfrogref01x_Right.can <| .nil
theorem leapfrogref04x_isRef.draws : fnDraws leapfrogref04x_isRef.an Try.f87 = true := by kernel_rfl
theorem leapfrogref04x_isRef.can : callOk Try.prog 87 = true := by kernel_rfl
theorem leapfrogref04x_isRef.sound : FnOk Try.prog 87 (.rd leapfrogref04x_isRef.w) := FnOk.rd_of (evG_ok leapfrogref04x_isRef.cok mixed (f := 87) (fn := Try.f87) (by kernel_rfl) leapfrogref04x_isRef.draws) fun args s r h => by
  unfold leapfrogref04x_isRef.w at h; split at h
  · rw [leapfrogref04x_isRef.ok std]; exact h
  · simp at h

/-! ### leapfrog/leapfrogref04.CheckAsk: function 63 -/
def leapfrogref04x_CheckAsk.ctx : Ctx := [(85, .rd leapfrogref04x_has.w), (86, .rd leapfrogref04x_only.w), (27, .rd leapfrogref01x_Right.w), (87, .rd leapfrogref04x_isRef.w)]
def leapfrogref04x_CheckAsk.t (S : Sig) (a0 : Value) (s : St) : Option Value :=
  S.bd (bx a0) fun c1 => S.bd (lcl c1 0) fun x2 => S.bd (leapfrogref04x_has.r x2 s) fun x3 => S.bd (xtr 0 x3) fun x4 => S.bd (xtr 1 x3) fun x5 => S.bd (xtr 2 x3) fun x6 => S.bd (xtr 3 x3) fun x7 => S.bd (lcl c1 0) fun x8 => S.bd (bin .lss x8 (Go.Value.int Go.IntKind.i64 1)) fun x9 => S.bd (S.gd x9 false (lcl c1 0)) fun x10 => S.bd (S.gd x9 false (bin .gtr x10 (Go.Value.int Go.IntKind.i64 10))) fun x11 => S.bd (pik x9 (Go.Value.bool Bool.true) x11) fun x12 => S.bd (S.gd x12 false (lal c1 0 15)) fun x13 => S.bd (S.gd x12 false (lal c1 0 15)) fun x14 => S.bd (S.gd x12 false (leapfrogref04x_only.r x14 s)) fun x15 => S.bd (S.gd x12 false (eqb [1, 1, 1, 1, 1, 1, 1, 1, 1, 1, 1, 1, 1, 1, 1] true true x13 x15)) fun x16 => S.bd (pik x12 (Go.Value.bool Bool.true) x16) fun x17 => S.bd (S.gd x17 false (some x4)) fun x18 => S.bd (S.gd x17 false (some x18)) fun x19 => S.bd (S.gd x19 true (lal c1 1 2)) fun x20 => S.bd (S.gd x19 true (leapfrogref01x_Right.r x20 s)) fun x21 => S.bd (S.gd x19 true (un .not x21)) fun x22 => S.bd (S.gd x17 false (pik x19 x22 (Go.Value.bool Bool.false))) fun x23 => S.bd (pik x17 (Go.Value.bool Bool.true) x23) fun x24 => S.bd (S.gd x24 false (some x5)) fun x25 => S.bd (S.gd x24 false (some x25)) fun x26 => S.bd (S.gd x26 true (lal c1 3 5)) fun x27 => S.bd (S.gd x26 true (leapfrogref04x_isRef.r x27 s)) fun x28 => S.bd (S.gd x26 true (un .not x28)) fun x29 => S.bd (S.gd x24 false (pik x26 x29 (Go.Value.bool Bool.false))) fun x30 => S.bd (pik x24 (Go.Value.bool Bool.true) x30) fun x31 => S.bd (S.gd x31 false (some x6)) fun x32 => S.bd (S.gd x31 false (some x32)) fun x33 => S.bd (S.gd x33 true (lal c1 8 5)) fun x34 => S.bd (S.gd x33 true (leapfrogref04x_isRef.r x34 s)) fun x35 => S.bd (S.gd x33 true (un .not x35)) fun x36 => S.bd (S.gd x31 false (pik x33 x36 (Go.Value.bool Bool.false))) fun x37 => S.bd (pik x31 (Go.Value.bool Bool.true) x37) fun x38 => S.cnd x38 (some ((Go.Value.int Go.IntKind.i64 40))) (some ((Go.Value.int Go.IntKind.i64 0)))
def leapfrogref04x_CheckAsk.r (a0 : Value) (s : St) : Option Value := leapfrogref04x_CheckAsk.t std a0 s
def leapfrogref04x_CheckAsk.w : List Value → St → Option Value
  | [a0], s => leapfrogref04x_CheckAsk.r a0 s
  | _, _ => none
def leapfrogref04x_CheckAsk.an : An := ⟨56, true, [1], [], [], [(2, [(0, 0, [], []), (1, 9, [], []), (2, 0, [], []), (3, 0, [], []), (4, 0, [], []), (5, 9, [], []), (6, 0, [], []), (7, 0, [], []), (8, 0, [], []), (9, 9, [], []), (10, 9, [], []), (11, 3, [], []), (12, 0, [], []), (13, 0, [], []), (14, 0, [], []), (15, 0, [], []), (16, 0, [], []), (17, 0, [], []), (18, 9, [], []), (19, 3, [], []), (20, 0, [], []), (21, 0, [], []), (22, 0, [], []), (23, 0, [], []), (24, 0, [], []), (25, 0, [], []), (26, 0, [], []), (27, 9, [], []), (28, 3, [], []), (29, 0, [], []), (30, 0, [], []), (31, 0, [], []), (32, 0, [], []), (33, 0, [], []), (34, 0, [], []), (35, 0, [], []), (36, 9, [], []), (37, 3, [], []), (38, 0, [], []), (39, 0, [], []), (40, 0, [], [])])], [], []⟩
theorem leapfrogref04x_CheckAsk.ok (S : Sig) (a0 : Value) (s : St) : evG S Try.prog leapfrogref04x_CheckAsk.ctx leapfrogref04x_CheckAsk.an Try.f63 [a0] s = leapfrogref04x_CheckAsk.t S a0 s := by kernel_rfl
theorem leapfrogref04x_CheckAsk.cok : CtxOk Try.prog leapfrogref04x_CheckAsk.ctx := .cons leapfrogref04x_has.sound leapfrogref04x_has.can <| .cons leapfrogref04x_only.sound leapfrogref04x_only.can <| .cons leapfrogref01x_Right.sound leapfrogref01x_Right.can <| .cons leapfrogref04x_isRef.sound leapfrogref04x_isRef.can <| .nil
theorem leapfrogref04x_CheckAsk.draws : fnDraws leapfrogref04x_CheckAsk.an Try.f63 = true := by kernel_rfl
theorem leapfrogref04x_CheckAsk.can : callOk Try.prog 63 = true := by kernel_rfl
theorem leapfrogref04x_CheckAsk.sound : FnOk Try.prog 63 (.rd leapfrogref04x_CheckAsk.w) := FnOk.rd_of (evG_ok leapfrogref04x_CheckAsk.cok mixed (f := 63) (fn := Try.f63) (by kernel_rfl) leapfrogref04x_CheckAsk.draws) fun args s r h => by
  unfold leapfrogref04x_CheckAsk.w at h; split at h
  · rw [leapfrogref04x_CheckAsk.ok std]; exact h
  · simp at h

/-! ### (*leapfrog/leapfrogref09.Peer).list: function 88 -/
def leapfrogref09x_Peer_list.ctx : Ctx := [(27, .rd leapfrogref01x_Right.w), (53, .rd leapfrogref01x_BeginsQ.w)]
def leapfrogref09x_Peer_list.t (S : Sig) (a0 a1 : Value) (s : St) : Option Value :=
  S.bd (bx a1) fun c1 => S.bd (nck a0) fun x2 => S.bd (fld 6 x2) fun x3 => S.bd (ldc s x3) fun x4 => S.cnd x4 (S.bd (lal c1 0 2) fun x5 => S.bd (leapfrogref01x_Right.r x5 s) fun x6 => S.bd (S.gd x6 true (lcl c1 0)) fun x7 => S.bd (S.gd x6 true (some a0)) fun x8 => S.bd (S.gd x6 true (nck x8)) fun x9 => S.bd (S.gd x6 true (fld 0 x9)) fun x10 => S.bd (S.gd x6 true (fld 3 x10)) fun x11 => S.bd (S.gd x6 true (fld 0 x11)) fun x12 => S.bd (S.gd x6 true (ldc s x12)) fun x13 => S.bd (S.gd x6 true (bin .leq x7 x13)) fun x14 => S.bd (pik x6 x14 (Go.Value.bool Bool.false)) fun x15 => some (x15)) (S.bd (nck a0) fun x16 => S.bd (fld 0 x16) fun x17 => S.bd (fld 3 x17) fun x18 => S.bd (lda s 2 x18) fun x19 => S.bd (lal c1 0 2) fun x20 => S.bd (leapfrogref01x_BeginsQ.r x19 x20 s) fun x21 => some (x21))
def leapfrogref09x_Peer_list.r (a0 a1 : Value) (s : St) : Option Value := leapfrogref09x_Peer_list.t std a0 a1 s
def leapfrogref09x_Peer_list.w : List Value → St → Option Value
  | [a0, a1], s => leapfrogref09x_Peer_list.r a0 a1 s
  | _, _ => none
def leapfrogref09x_Peer_list.an : An := ⟨29, true, [3], [], [], [(2, [(0, 25, [], []), (1, 3, [], []), (2, 0, [], []), (3, 0, [], []), (4, 25, [], []), (5, 0, [], []), (6, 0, [], []), (7, 0, [], []), (8, 0, [], []), (9, 0, [], []), (10, 2, [], []), (11, 0, [], []), (12, 0, [], []), (13, 0, [], [])]), (3, [(0, 0, [], []), (1, 0, [], []), (2, 0, [], []), (3, 0, [], []), (4, 2, [], []), (5, 25, [], []), (6, 3, [], []), (7, 0, [], [])])], [], []⟩
theorem leapfrogref09x_Peer_list.ok (S : Sig) (a0 a1 : Value) (s : St) : evG S Try.prog leapfrogref09x_Peer_list.ctx leapfrogref09x_Peer_list.an Try.f88 [a0, a1] s = leapfrogref09x_Peer_list.t S a0 a1 s := by kernel_rfl
theorem leapfrogref09x_Peer_list.cok : CtxOk Try.prog leapfrogref09x_Peer_list.ctx := .cons leapfrogref01x_Right.sound leapfrogref01x_Right.can <| .cons leapfrogref01x_BeginsQ.sound leapfrogref01x_BeginsQ.can <| .nil
theorem leapfrogref09x_Peer_list.draws : fnDraws leapfrogref09x_Peer_list.an Try.f88 = true := by kernel_rfl
theorem leapfrogref09x_Peer_list.can : callOk Try.prog 88 = true := by kernel_rfl
theorem leapfrogref09x_Peer_list.sound : FnOk Try.prog 88 (.rd leapfrogref09x_Peer_list.w) := FnOk.rd_of (evG_ok leapfrogref09x_Peer_list.cok mixed (f := 88) (fn := Try.f88) (by kernel_rfl) leapfrogref09x_Peer_list.draws) fun args s r h => by
  unfold leapfrogref09x_Peer_list.w at h; split at h
  · rw [leapfrogref09x_Peer_list.ok std]; exact h
  · simp at h

/-! ### (*leapfrog/leapfrogref09.Peer).first: function 89 -/
def leapfrogref09x_Peer_first.ctx : Ctx := [(31, .rd leapfrogref09x_Tail.w), (42, .rd leapfrogref09x_Head.w)]
def leapfrogref09x_Peer_first.t (S : Sig) (a0 a1 : Value) (s : St) : Option Value :=
  S.bd (bx a1) fun c1 => S.bd (bx (Go.Value.agg #[(Go.Value.int Go.IntKind.i64 0), (Go.Value.int Go.IntKind.u64 0), (Go.Value.int Go.IntKind.i64 0), (Go.Value.int Go.IntKind.i64 0), (Go.Value.int Go.IntKind.u64 0), (Go.Value.int Go.IntKind.i64 0), (Go.Value.int Go.IntKind.u64 0), (Go.Value.int Go.IntKind.i64 0), (Go.Value.int Go.IntKind.i64 0), (Go.Value.int Go.IntKind.u64 0), (Go.Value.int Go.IntKind.i64 0), (Go.Value.int Go.IntKind.u64 0), (Go.Value.bool Bool.false), (Go.Value.int Go.IntKind.i64 0), (Go.Value.int Go.IntKind.i64 0), (Go.Value.slice Option.none 0 0)])) fun c2 => S.bd (lal c1 0 2) fun x3 => S.bd (bld [(Go.Value.int Go.IntKind.i64 0), (Go.Value.int Go.IntKind.u64 0), (Go.Value.int Go.IntKind.i64 0), (Go.Value.int Go.IntKind.i64 0), (Go.Value.int Go.IntKind.u64 0), (Go.Value.int Go.IntKind.i64 0), (Go.Value.int Go.IntKind.u64 0), (Go.Value.int Go.IntKind.i64 0), (Go.Value.int Go.IntKind.i64 0), (Go.Value.int Go.IntKind.u64 0), (Go.Value.int Go.IntKind.i64 0), (Go.Value.int Go.IntKind.u64 0), (Go.Value.bool Bool.false), (Go.Value.int Go.IntKind.i64 0), (Go.Value.int Go.IntKind.i64 0), (Go.Value.slice Option.none 0 0)] [(0, 2, x3)]) fun x4 => S.bd (bx (Go.Value.agg #[(Go.Value.int Go.IntKind.i64 0), (Go.Value.int Go.IntKind.u64 0), (Go.Value.int Go.IntKind.i64 0), (Go.Value.int Go.IntKind.i64 0), (Go.Value.int Go.IntKind.u64 0), (Go.Value.int Go.IntKind.i64 0), (Go.Value.int Go.IntKind.u64 0), (Go.Value.int Go.IntKind.i64 0), (Go.Value.int Go.IntKind.i64 0), (Go.Value.int Go.IntKind.u64 0), (Go.Value.int Go.IntKind.i64 0), (Go.Value.int Go.IntKind.u64 0), (Go.Value.bool Bool.false), (Go.Value.int Go.IntKind.i64 0), (Go.Value.int Go.IntKind.i64 0), (Go.Value.slice Option.none 0 0)])) fun c5 => S.bd (stl c5 0 16 x4) fun c6 => S.bd (nck a0) fun x7 => S.bd (fld 0 x7) fun x8 => S.bd (fld 1 x8) fun x9 => S.bd (fld 0 x9) fun x10 => S.bd (ldc s x10) fun x11 => S.bd (eqb [1] false false x11 (Go.Value.int Go.IntKind.i64 1)) fun x12 => S.cnd x12 (S.bd (nck a0) fun x13 => S.bd (fld 0 x13) fun x14 => S.bd (fld 3 x14) fun x15 => S.bd (fld 0 x15) fun x16 => S.bd (ldc s x16) fun x17 => S.bd (leapfrogref09x_Tail.r x17 s) fun x18 => S.bd (xtr 0 x18) fun x19 => S.bd (xtr 1 x18) fun x20 => S.bd (stl c6 7 5 x19) fun c21 => S.bd (lal c21 0 16) fun x22 => S.bd (stl c2 0 16 x22) fun c23 => S.bd (lal c23 0 16) fun x24 => some (x24)) (S.bd (nck a0) fun x25 => S.bd (fld 0 x25) fun x26 => S.bd (fld 3 x26) fun x27 => S.bd (fld 0 x27) fun x28 => S.bd (ldc s x28) fun x29 => S.bd (leapfrogref09x_Head.r x29 s) fun x30 => S.bd (xtr 0 x30) fun x31 => S.bd (xtr 1 x30) fun x32 => S.bd (stl c6 2 5 x31) fun c33 => S.bd (lal c33 0 16) fun x34 => S.bd (stl c2 0 16 x34) fun c35 => S.bd (lal c35 0 16) fun x36 => some (x36))
def leapfrogref09x_Peer_first.r (a0 a1 : Value) (s : St) : Option Value := leapfrogref09x_Peer_first.t std a0 a1 s
def leapfrogref09x_Peer_first.w : List Value → St → Option Value
  | [a0, a1], s => leapfrogref09x_Peer_first.r a0 a1 s
  | _, _ => none
def leapfrogref09x_Peer_first.an : An := ⟨38, true, [3, 4, 5], [], [], [], [], []⟩
theorem leapfrogref09x_Peer_first.ok (S : Sig) (a0 a1 : Value) (s : St) : evG S Try.prog leapfrogref09x_Peer_first.ctx leapfrogref09x_Peer_first.an Try.f89 [a0, a1] s = leapfrogref09x_Peer_first.t S a0 a1 s := by kernel_rfl
theorem leapfrogref09x_Peer_first.cok : CtxOk Try.prog leapfrogref09x_Peer_first.ctx := .cons leapfrogref09x_Tail.sound leapfrogref09x_Tail.can <| .cons leapfrogref09x_Head.sound leapfrogref09x_Head.can <| .nil
theorem leapfrogref09x_Peer_first.draws : fnDraws leapfrogref09x_Peer_first.an Try.f89 = true := by kernel_rfl
theorem leapfrogref09x_Peer_first.can : callOk Try.prog 89 = true := by kernel_rfl
theorem leapfrogref09x_Peer_first.sound : FnOk Try.prog 89 (.rd leapfrogref09x_Peer_first.w) := FnOk.rd_of (evG_ok leapfrogref09x_Peer_first.cok mixed (f := 89) (fn := Try.f89) (by kernel_rfl) leapfrogref09x_Peer_first.draws) fun args s r h => by
  unfold leapfrogref09x_Peer_first.w at h; split at h
  · rw [leapfrogref09x_Peer_first.ok std]; exact h
  · simp at h

/-! ### (*leapfrog/leapfrogref09.Peer).rec: function 64 -/
def leapfrogref09x_Peer_rec.ctx : Ctx := [(88, .rd leapfrogref09x_Peer_list.w), (89, .rd leapfrogref09x_Peer_first.w)]
def leapfrogref09x_Peer_rec.l2 (S : Sig) (rec25 : List Value → St → Option Cut) (xs23 : List Value) (s24 : St) : Option Cut :=
  S.bd (nck (xs23.getD 0 undef)) fun x26 => S.bd (fld 9 x26) fun x27 => S.bd (ldc s24 x27) fun x28 => S.bd (lenL x28) fun x29 => S.bd (bin .lss (xs23.getD 1 undef) x29) fun x30 => S.cnd x30 (S.bd (nck (xs23.getD 0 undef)) fun x31 => S.bd (fld 9 x31) fun x32 => S.bd (ldc s24 x32) fun x33 => S.bd (idx s24 16 x33 (xs23.getD 1 undef)) fun x34 => S.bd (fld 0 x34) fun x35 => S.bd (lda s24 2 x35) fun x36 => S.bd (lal (cellsA (xs23.getD 2 undef)) 0 2) fun x37 => S.bd (eqb [1, 1] true false x36 x37) fun x38 => S.cnd x38 (S.bd (nck (xs23.getD 0 undef)) fun x39 => S.bd (fld 9 x39) fun x40 => S.bd (ldc s24 x40) fun x41 => S.bd (idx s24 16 x41 (xs23.getD 1 undef)) fun x42 => S.bd (lda s24 16 x42) fun x43 => S.bd (stl (cellsA (xs23.getD 3 undef)) 0 16 x43) fun c44 => some (1, [(Go.Value.bool Bool.true), (Value.agg ⟨c44⟩)], s24)) (S.bd (bin .add (xs23.getD 1 undef) (Go.Value.int Go.IntKind.i64 1)) fun x45 => rec25 [(xs23.getD 0 undef), x45, (Value.agg ⟨(cellsA (xs23.getD 2 undef))⟩), (Value.agg ⟨(cellsA (xs23.getD 3 undef))⟩)] s24)) (some (0, [(xs23.getD 0 undef), (Value.agg ⟨(cellsA (xs23.getD 2 undef))⟩), (Value.agg ⟨(cellsA (xs23.getD 3 undef))⟩)], s24))

def leapfrogref09x_Peer_rec.t (S : Sig) (a0 a1 : Value) (s : St) : Option Value :=
  S.bd (bx a1) fun c1 => S.bd (bx (Go.Value.agg #[(Go.Value.int Go.IntKind.i64 0), (Go.Value.int Go.IntKind.u64 0), (Go.Value.int Go.IntKind.i64 0), (Go.Value.int Go.IntKind.i64 0), (Go.Value.int Go.IntKind.u64 0), (Go.Value.int Go.IntKind.i64 0), (Go.Value.int Go.IntKind.u64 0), (Go.Value.int Go.IntKind.i64 0), (Go.Value.int Go.IntKind.i64 0), (Go.Value.int Go.IntKind.u64 0), (Go.Value.int Go.IntKind.i64 0), (Go.Value.int Go.IntKind.u64 0), (Go.Value.bool Bool.false), (Go.Value.int Go.IntKind.i64 0), (Go.Value.int Go.IntKind.i64 0), (Go.Value.slice Option.none 0 0)])) fun c2 => S.bd (S.it (leapfrogref09x_Peer_rec.l2 S) [a0, (Go.Value.int Go.IntKind.i64 0), (Value.agg ⟨c1⟩), (Value.agg ⟨c2⟩)] s) fun r46 => if r46.1 = 0 then (S.bd (nck (r46.2.1.getD 0 undef)) fun x48 => S.bd (fld 6 x48) fun x49 => S.bd (ldc r46.2.2 x49) fun x50 => S.bd (S.gd x50 true (some (r46.2.1.getD 0 undef))) fun x51 => S.bd (S.gd x50 true (lal (cellsA (r46.2.1.getD 1 undef)) 0 2)) fun x52 => S.bd (S.gd x50 true (leapfrogref09x_Peer_list.r x51 x52 r46.2.2)) fun x53 => S.bd (pik x50 x53 (Go.Value.bool Bool.false)) fun x54 => S.cnd x54 (S.bd (lal (cellsA (r46.2.1.getD 1 undef)) 0 2) fun x55 => S.bd (leapfrogref09x_Peer_first.r (r46.2.1.getD 0 undef) x55 r46.2.2) fun x56 => S.bd (stl (cellsA (r46.2.1.getD 2 undef)) 0 16 x56) fun c57 => S.bd (lal c57 0 16) fun x58 => some ((Value.tuple ⟨[x58, (Go.Value.bool Bool.true)]⟩))) (S.bd (bld [(Go.Value.int Go.IntKind.i64 0), (Go.Value.int Go.IntKind.u64 0), (Go.Value.int Go.IntKind.i64 0), (Go.Value.int Go.IntKind.i64 0), (Go.Value.int Go.IntKind.u64 0), (Go.Value.int Go.IntKind.i64 0), (Go.Value.int Go.IntKind.u64 0), (Go.Value.int Go.IntKind.i64 0), (Go.Value.int Go.IntKind.i64 0), (Go.Value.int Go.IntKind.u64 0), (Go.Value.int Go.IntKind.i64 0), (Go.Value.int Go.IntKind.u64 0), (Go.Value.bool Bool.false), (Go.Value.int Go.IntKind.i64 0), (Go.Value.int Go.IntKind.i64 0), (Go.Value.slice Option.none 0 0)] []) fun x59 => S.bd (stl (cellsA (r46.2.1.getD 2 undef)) 0 16 x59) fun c60 => S.bd (lal c60 0 16) fun x61 => some ((Value.tuple ⟨[x61, (Go.Value.bool Bool.false)]⟩)))) else (S.bd (lal (cellsA (r46.2.1.getD 1 undef)) 0 16) fun x47 => some ((Value.tuple ⟨[x47, (r46.2.1.getD 0 undef)]⟩)))
def leapfrogref09x_Peer_rec.r (a0 a1 : Value) (s : St) : Option Value := leapfrogref09x_Peer_rec.t std a0 a1 s
def leapfrogref09x_Peer_rec.w : List Value → St → Option Value
  | [a0, a1], s => leapfrogref09x_Peer_rec.r a0 a1 s
  | _, _ => none
def leapfrogref09x_Peer_rec.an : An := ⟨46, true, [3, 4], [(2, ⟨[.v 0, .p 3 3 0, .p 4 4 0, .v 6, .l 3, .l 4], [(.exit 0, [.v 0, .p 3 3 0, .p 4 4 0, .l 3, .l 4]), (.ret, [.p 4 4 0, .v 5, .l 4])]⟩)], [], [(4, [(0, 0, [], []), (1, 0, [], []), (2, 0, [], []), (3, 2, [], []), (4, 0, [], []), (5, 2, [], []), (6, 0, [], []), (7, 2, [], []), (8, 25, [], []), (9, 0, [], [])])], [], []⟩
theorem leapfrogref09x_Peer_rec.ok (S : Sig) (a0 a1 : Value) (s : St) : evG S Try.prog leapfrogref09x_Peer_rec.ctx leapfrogref09x_Peer_rec.an Try.f64 [a0, a1] s = leapfrogref09x_Peer_rec.t S a0 a1 s := by kernel_rfl
theorem leapfrogref09x_Peer_rec.cok : CtxOk Try.prog leapfrogref09x_Peer_rec.ctx := .cons leapfrogref09x_Peer_list.sound leapfrogref09x_Peer_list.can <| .cons leapfrogref09x_Peer_first.sound leapfrogref09x_Peer_first.can <| .nil
theorem leapfrogref09x_Peer_rec.draws : fnDraws leapfrogref09x_Peer_rec.an Try.f64 = true := by kernel_rfl
theorem leapfrogref09x_Peer_rec.can : callOk Try.prog 64 = true := by kernel_rfl
theorem leapfrogref09x_Peer_rec.sound : FnOk Try.prog 64 (.rd leapfrogref09x_Peer_rec.w) := FnOk.rd_of (evG_ok leapfrogref09x_Peer_rec.cok mixed (f := 64) (fn := Try.f64) (by kernel_rfl) leapfrogref09x_Peer_rec.draws) fun args s r h => by
  unfold leapfrogref09x_Peer_rec.w at h; split at h
  · rw [leapfrogref09x_Peer_rec.ok std]; exact h
  · simp at h

/-! ### leapfrog/leapfrogref09.gone: function 66 -/
def leapfrogref09x_gone.ctx : Ctx := []
def leapfrogref09x_gone.t (S : Sig) (s : St) : Option Value :=
  S.bd (bx (Go.Value.agg #[(Go.Value.int Go.IntKind.i64 0), (Go.Value.bool Bool.false), (Go.Value.int Go.IntKind.i64 0), (Go.Value.int Go.IntKind.i64 0), (Go.Value.int Go.IntKind.u64 0), (Go.Value.int Go.IntKind.i64 0), (Go.Value.int Go.IntKind.u64 0), (Go.Value.int Go.IntKind.i64 0), (Go.Value.int Go.IntKind.i64 0), (Go.Value.int Go.IntKind.u64 0), (Go.Value.int Go.IntKind.i64 0), (Go.Value.int Go.IntKind.u64 0), (Go.Value.slice Option.none 0 0)])) fun c1 => S.bd (bld [(Go.Value.int Go.IntKind.i64 0), (Go.Value.bool Bool.false), (Go.Value.int Go.IntKind.i64 0), (Go.Value.int Go.IntKind.i64 0), (Go.Value.int Go.IntKind.u64 0), (Go.Value.int Go.IntKind.i64 0), (Go.Value.int Go.IntKind.u64 0), (Go.Value.int Go.IntKind.i64 0), (Go.Value.int Go.IntKind.i64 0), (Go.Value.int Go.IntKind.u64 0), (Go.Value.int Go.IntKind.i64 0), (Go.Value.int Go.IntKind.u64 0), (Go.Value.slice Option.none 0 0)] [(0, 1, (Go.Value.int Go.IntKind.i64 2))]) fun x2 => S.bd (stl c1 0 13 x2) fun c3 => S.bd (lal c3 0 13) fun x4 => some (x4)
def leapfrogref09x_gone.r (s : St) : Option Value := leapfrogref09x_gone.t std  s
def leapfrogref09x_gone.w : List Value → St → Option Value
  | [], s => leapfrogref09x_gone.r  s
  | _, _ => none
def leapfrogref09x_gone.an : An := ⟨2, true, [0], [], [], [], [], []⟩
theorem leapfrogref09x_gone.ok (S : Sig) (s : St) : evG S Try.prog leapfrogref09x_gone.ctx leapfrogref09x_gone.an Try.f66 [] s = leapfrogref09x_gone.t S  s := by kernel_rfl
theorem leapfrogref09x_gone.cok : CtxOk Try.prog leapfrogref09x_gone.ctx := .nil
theorem leapfrogref09x_gone.draws : fnDraws leapfrogref09x_gone.an Try.f66 = true := by kernel_rfl
theorem leapfrogref09x_gone.can : callOk Try.prog 66 = true := by kernel_rfl
theorem leapfrogref09x_gone.sound : FnOk Try.prog 66 (.rd leapfrogref09x_gone.w) := FnOk.rd_of (evG_ok leapfrogref09x_gone.cok mixed (f := 66) (fn := Try.f66) (by kernel_rfl) leapfrogref09x_gone.draws) fun args s r h => by
  unfold leapfrogref09x_gone.w at h; split at h
  · rw [leapfrogref09x_gone.ok std]; exact h
  · simp at h

/-! ### leapfrog/leapfrogref09.told: function 65 -/
def leapfrogref09x_told.ctx : Ctx := []
def leapfrogref09x_told.t (S : Sig) (a0 a1 : Value) (s : St) : Option (Value × St) :=
  S.bd (bx a1) fun c1 => S.bd (lal c1 0 13) fun x2 => S.bd (bld [(Go.Value.int Go.IntKind.i64 0), (Go.Value.int Go.IntKind.i64 0), (Go.Value.bool Bool.false), (Go.Value.int Go.IntKind.i64 0), (Go.Value.int Go.IntKind.i64 0), (Go.Value.int Go.IntKind.u64 0), (Go.Value.int Go.IntKind.i64 0), (Go.Value.int Go.IntKind.u64 0), (Go.Value.int Go.IntKind.i64 0), (Go.Value.int Go.IntKind.i64 0), (Go.Value.int Go.IntKind.u64 0), (Go.Value.int Go.IntKind.i64 0), (Go.Value.int Go.IntKind.u64 0), (Go.Value.slice Option.none 0 0)] [(0, 1, a0), (1, 13, x2)]) fun x3 => S.bd (S.bd (bls 14 (List.replicate 1 [(Go.Value.int Go.IntKind.i64 0), (Go.Value.int Go.IntKind.i64 0), (Go.Value.bool Bool.false), (Go.Value.int Go.IntKind.i64 0), (Go.Value.int Go.IntKind.i64 0), (Go.Value.int Go.IntKind.u64 0), (Go.Value.int Go.IntKind.i64 0), (Go.Value.int Go.IntKind.u64 0), (Go.Value.int Go.IntKind.i64 0), (Go.Value.int Go.IntKind.i64 0), (Go.Value.int Go.IntKind.u64 0), (Go.Value.int Go.IntKind.i64 0), (Go.Value.int Go.IntKind.u64 0), (Go.Value.slice Option.none 0 0)]) [(0, x3)]) fun rows => als s 14 1 rows) fun r4 => some (r4.1, r4.2)
def leapfrogref09x_told.v (a0 a1 : Value) (s : St) : Option (Value × St) := leapfrogref09x_told.t std a0 a1 s
def leapfrogref09x_told.w : List Value → St → Option (Value × St)
  | [a0, a1], s => leapfrogref09x_told.v a0 a1 s
  | _, _ => none
def leapfrogref09x_told.an : An := ⟨9, false, [3], [], [], [], [], []⟩
theorem leapfrogref09x_told.ok (S : Sig) (a0 a1 : Value) (s : St) : evF S Try.prog leapfrogref09x_told.ctx leapfrogref09x_told.an Try.f65 [a0, a1] s = leapfrogref09x_told.t S a0 a1 s := by kernel_rfl
theorem leapfrogref09x_told.cok : CtxOk Try.prog leapfrogref09x_told.ctx := .nil
theorem leapfrogref09x_told.draws : fnDraws leapfrogref09x_told.an Try.f65 = true := by kernel_rfl
theorem leapfrogref09x_told.can : callOk Try.prog 65 = true := by kernel_rfl
theorem leapfrogref09x_told.sound : FnOk Try.prog 65 (.st leapfrogref09x_told.w) := FnOk.st_of (evF_ok leapfrogref09x_told.cok mixed (f := 65) (fn := Try.f65) (by kernel_rfl) leapfrogref09x_told.draws) fun args s r h => by
  unfold leapfrogref09x_told.w at h; split at h
  · rw [leapfrogref09x_told.ok std]; exact h
  · simp at h

/-! ### (*leapfrog/leapfrogref09.Peer).of: function 67 -/
def leapfrogref09x_Peer_of.ctx : Ctx := []
def leapfrogref09x_Peer_of.t (S : Sig) (a0 a1 : Value) (s : St) : Option Value :=
  S.bd (bx a1) fun c1 => S.bd (bx (Go.Value.agg #[(Go.Value.int Go.IntKind.i64 0), (Go.Value.bool Bool.false), (Go.Value.int Go.IntKind.i64 0), (Go.Value.int Go.IntKind.i64 0), (Go.Value.int Go.IntKind.u64 0), (Go.Value.int Go.IntKind.i64 0), (Go.Value.int Go.IntKind.u64 0), (Go.Value.int Go.IntKind.i64 0), (Go.Value.int Go.IntKind.i64 0), (Go.Value.int Go.IntKind.u64 0), (Go.Value.int Go.IntKind.i64 0), (Go.Value.int Go.IntKind.u64 0), (Go.Value.slice Option.none 0 0)])) fun c2 => S.bd (nck a0) fun x3 => S.bd (fld 8 x3) fun x4 => S.bd (ldc s x4) fun x5 => S.bd (lal c1 2 5) fun x6 => S.bd (lal c1 7 5) fun x7 => S.bd (bld [(Go.Value.int Go.IntKind.i64 0), (Go.Value.bool Bool.false), (Go.Value.int Go.IntKind.i64 0), (Go.Value.int Go.IntKind.i64 0), (Go.Value.int Go.IntKind.u64 0), (Go.Value.int Go.IntKind.i64 0), (Go.Value.int Go.IntKind.u64 0), (Go.Value.int Go.IntKind.i64 0), (Go.Value.int Go.IntKind.i64 0), (Go.Value.int Go.IntKind.u64 0), (Go.Value.int Go.IntKind.i64 0), (Go.Value.int Go.IntKind.u64 0), (Go.Value.slice Option.none 0 0)] [(0, 1, (Go.Value.int Go.IntKind.i64 1)), (1, 1, x5), (2, 5, x6), (7, 5, x7)]) fun x8 => S.bd (stl c2 0 13 x8) fun c9 => S.bd (lal c9 0 13) fun x10 => some (x10)
def leapfrogref09x_Peer_of.r (a0 a1 : Value) (s : St) : Option Value := leapfrogref09x_Peer_of.t std a0 a1 s
def leapfrogref09x_Peer_of.w : List Value → St → Option Value
  | [a0, a1], s => leapfrogref09x_Peer_of.r a0 a1 s
  | _, _ => none
def leapfrogref09x_Peer_of.an : An := ⟨14, true, [3, 4], [], [], [(1, [(0, 0, [], []), (1, 0, [], []), (2, 0, [], []), (3, 2, [], []), (4, 0, [], []), (5, 25, [], []), (6, 0, [], []), (7, 25, [], []), (8, 0, [], []), (9, 37, [], [])])], [], []⟩
theorem leapfrogref09x_Peer_of.ok (S : Sig) (a0 a1 : Value) (s : St) : evG S Try.prog leapfrogref09x_Peer_of.ctx leapfrogref09x_Peer_of.an Try.f67 [a0, a1] s = leapfrogref09x_Peer_of.t S a0 a1 s := by kernel_rfl
theorem leapfrogref09x_Peer_of.cok : CtxOk Try.prog leapfrogref09x_Peer_of.ctx := .nil
theorem leapfrogref09x_Peer_of.draws : fnDraws leapfrogref09x_Peer_of.an Try.f67 = true := by kernel_rfl
theorem leapfrogref09x_Peer_of.can : callOk Try.prog 67 = true := by kernel_rfl
theorem leapfrogref09x_Peer_of.sound : FnOk Try.prog 67 (.rd leapfrogref09x_Peer_of.w) := FnOk.rd_of (evG_ok leapfrogref09x_Peer_of.cok mixed (f := 67) (fn := Try.f67) (by kernel_rfl) leapfrogref09x_Peer_of.draws) fun args s r h => by
  unfold leapfrogref09x_Peer_of.w at h; split at h
  · rw [leapfrogref09x_Peer_of.ok std]; exact h
  · simp at h

/-! ### leapfrog/leapfrogref07.IsOwner: function 55 -/
def leapfrogref07x_IsOwner.ctx : Ctx := []
def leapfrogref07x_IsOwner.t (S : Sig) (a0 : Value) (s : St) : Option Value :=
  S.bd (bx a0) fun c1 => S.bd (lcl c1 0) fun x2 => S.bd (bin .geq x2 (Go.Value.int Go.IntKind.i64 0)) fun x3 => S.bd (S.gd x3 true (lcl c1 0)) fun x4 => S.bd (S.gd x3 true (bin .lss x4 (Go.Value.int Go.IntKind.i64 1024))) fun x5 => S.bd (pik x3 x5 (Go.Value.bool Bool.false)) fun x6 => S.bd (S.gd x6 true (lcl c1 1)) fun x7 => S.bd (S.gd x6 true (bin .geq x7 (Go.Value.int Go.IntKind.i64 1))) fun x8 => S.bd (pik x6 x8 (Go.Value.bool Bool.false)) fun x9 => S.bd (S.gd x9 true (lcl c1 1)) fun x10 => S.bd (S.gd x9 true (bin .leq x10 (Go.Value.int Go.IntKind.i64 1073741824))) fun x11 => S.bd (pik x9 x11 (Go.Value.bool Bool.false)) fun x12 => some (x12)
def leapfrogref07x_IsOwner.r (a0 : Value) (s : St) : Option Value := leapfrogref07x_IsOwner.t std a0 s
def leapfrogref07x_IsOwner.w : List Value → St → Option Value
  | [a0], s => leapfrogref07x_IsOwner.r a0 s
  | _, _ => none
def leapfrogref07x_IsOwner.an : An := ⟨21, true, [1], [], [], [], [], []⟩
theorem leapfrogref07x_IsOwner.ok (S : Sig) (a0 : Value) (s : St) : evG S Try.prog leapfrogref07x_IsOwner.ctx leapfrogref07x_IsOwner.an Try.f55 [a0] s = leapfrogref07x_IsOwner.t S a0 s := by kernel_rfl
theorem leapfrogref07x_IsOwner.cok : CtxOk Try.prog leapfrogref07x_IsOwner.ctx := .nil
theorem leapfrogref07x_IsOwner.draws : fnDraws leapfrogref07x_IsOwner.an Try.f55 = true := by kernel_rfl
theorem leapfrogref07x_IsOwner.can : callOk Try.prog 55 = true := by kernel_rfl
theorem leapfrogref07x_IsOwner.sound : FnOk Try.prog 55 (.rd leapfrogref07x_IsOwner.w) := FnOk.rd_of (evG_ok leapfrogref07x_IsOwner.cok mixed (f := 55) (fn := Try.f55) (by kernel_rfl) leapfrogref07x_IsOwner.draws) fun args s r h => by
  unfold leapfrogref07x_IsOwner.w at h; split at h
  · rw [leapfrogref07x_IsOwner.ok std]; exact h
  · simp at h

/-! ### (*leapfrog/leapfrogref07.Lock).place: function 102 -/
def leapfrogref07x_Lock_place.ctx : Ctx := []
def leapfrogref07x_Lock_place.l2 (S : Sig) (rec17 : List Value → St → Option Cut) (xs15 : List Value) (s16 : St) : Option Cut :=
  S.bd (nck (xs15.getD 0 undef)) fun x18 => S.bd (fld 3 x18) fun x19 => S.bd (ldc s16 x19) fun x20 => S.bd (lenL x20) fun x21 => S.bd (bin .lss (xs15.getD 1 undef) x21) fun x22 => S.cnd x22 (S.bd (nck (xs15.getD 0 undef)) fun x23 => S.bd (fld 3 x23) fun x24 => S.bd (ldc s16 x24) fun x25 => S.bd (idx s16 2 x25 (xs15.getD 1 undef)) fun x26 => S.bd (lda s16 2 x26) fun x27 => S.bd (lal (cellsA (xs15.getD 2 undef)) 0 2) fun x28 => S.bd (eqb [1, 1] true false x27 x28) fun x29 => S.cnd x29 (some (1, [(xs15.getD 1 undef)], s16)) (S.bd (bin .add (xs15.getD 1 undef) (Go.Value.int Go.IntKind.i64 1)) fun x30 => rec17 [(xs15.getD 0 undef), x30, (Value.agg ⟨(cellsA (xs15.getD 2 undef))⟩)] s16)) (some (0, [], s16))

def leapfrogref07x_Lock_place.t (S : Sig) (a0 a1 : Value) (s : St) : Option Value :=
  S.bd (bx a1) fun c1 => S.bd (S.it (leapfrogref07x_Lock_place.l2 S) [a0, (Go.Value.int Go.IntKind.i64 0), (Value.agg ⟨c1⟩)] s) fun r31 => if r31.1 = 0 then (some ((Go.Value.int Go.IntKind.i64 (-1)))) else (some ((r31.2.1.getD 0 undef)))
def leapfrogref07x_Lock_place.r (a0 a1 : Value) (s : St) : Option Value := leapfrogref07x_Lock_place.t std a0 a1 s
def leapfrogref07x_Lock_place.w : List Value → St → Option Value
  | [a0, a1], s => leapfrogref07x_Lock_place.r a0 a1 s
  | _, _ => none
def leapfrogref07x_Lock_place.an : An := ⟨25, true, [3], [(2, ⟨[.v 0, .p 3 3 0, .v 5, .l 3], [(.exit 0, []), (.ret, [.v 4])]⟩)], [], [(4, [(0, 0, [], []), (1, 0, [], []), (2, 0, [], []), (3, 2, [], []), (4, 0, [], []), (5, 2, [], []), (6, 2, [], []), (7, 25, [], []), (8, 0, [], [])])], [], []⟩
theorem leapfrogref07x_Lock_place.ok (S : Sig) (a0 a1 : Value) (s : St) : evG S Try.prog leapfrogref07x_Lock_place.ctx leapfrogref07x_Lock_place.an Try.f102 [a0, a1] s = leapfrogref07x_Lock_place.t S a0 a1 s := by kernel_rfl
theorem leapfrogref07x_Lock_place.cok : CtxOk Try.prog leapfrogref07x_Lock_place.ctx := .nil
theorem leapfrogref07x_Lock_place.draws : fnDraws leapfrogref07x_Lock_place.an Try.f102 = true := by kernel_rfl
theorem leapfrogref07x_Lock_place.can : callOk Try.prog 102 = true := by kernel_rfl
theorem leapfrogref07x_Lock_place.sound : FnOk Try.prog 102 (.rd leapfrogref07x_Lock_place.w) := FnOk.rd_of (evG_ok leapfrogref07x_Lock_place.cok mixed (f := 102) (fn := Try.f102) (by kernel_rfl) leapfrogref07x_Lock_place.draws) fun args s r h => by
  unfold leapfrogref07x_Lock_place.w at h; split at h
  · rw [leapfrogref07x_Lock_place.ok std]; exact h
  · simp at h

/-! ### (*leapfrog/leapfrogref07.Lock).Ask: function 90 -/
def leapfrogref07x_Lock_Ask.ctx : Ctx := [(55, .rd leapfrogref07x_IsOwner.w), (102, .rd leapfrogref07x_Lock_place.w)]
def leapfrogref07x_Lock_Ask.t.p1 (S : Sig) (c1 : List Value) (a0 : Value) (s : St) : Option (Value × St) :=
  S.bd (lal c1 0 2) fun x15 => S.bd (leapfrogref07x_Lock_place.r a0 x15 s) fun x16 => S.bd (bin .geq x16 (Go.Value.int Go.IntKind.i64 0)) fun x17 => S.cnd x17 (some ((Value.tuple ⟨[(Go.Value.bool Bool.false), (Go.Value.int Go.IntKind.i64 0)]⟩), s)) (S.bd (nck a0) fun x18 => S.bd (fld 0 x18) fun x19 => S.bd (ldc s x19) fun x20 => S.bd (un .not x20) fun x21 => S.cnd x21 (S.bd (lal c1 0 2) fun x22 => S.bd (nck a0) fun x23 => S.bd (fld 0 x23) fun x24 => S.bd (stv s 1 x24 (Go.Value.bool Bool.true)) fun s25 => S.bd (nck a0) fun x26 => S.bd (fld 1 x26) fun x27 => S.bd (stv s25 2 x27 x22) fun s28 => some ((Value.tuple ⟨[(Go.Value.bool Bool.true), (Go.Value.int Go.IntKind.i64 0)]⟩), s28)) (S.bd (nck a0) fun x29 => S.bd (fld 3 x29) fun x30 => S.bd (ldc s x30) fun x31 => S.bd (lenL x31) fun x32 => S.bd (bin .geq x32 (Go.Value.int Go.IntKind.i64 64)) fun x33 => S.cnd x33 (some ((Value.tuple ⟨[(Go.Value.bool Bool.false), (Go.Value.int Go.IntKind.i64 3)]⟩), s)) (S.bd (nck a0) fun x34 => S.bd (fld 3 x34) fun x35 => S.bd (ldc s x35) fun x36 => S.bd (lal c1 0 2) fun x37 => S.bd (S.bd (bls 2 (List.replicate 1 [(Go.Value.int Go.IntKind.i64 0), (Go.Value.int Go.IntKind.i64 0)]) [(0, x37)]) fun rows => als s 2 1 rows) fun _ => S.bd (S.bd (bls 2 (List.replicate 0 [(Go.Value.int Go.IntKind.i64 0), (Go.Value.int Go.IntKind.i64 0)]) []) fun rows => als s 2 0 rows) fun r38 => S.bd (S.bd (bls 2 (List.replicate 1 [(Go.Value.int Go.IntKind.i64 0), (Go.Value.int Go.IntKind.i64 0)]) [(0, x37)]) fun rows => als r38.2 2 1 rows) fun _ => S.bd (app r38.2 2 16 r38.1 x36) fun r39 => S.bd (S.bd (bls 2 (List.replicate 1 [(Go.Value.int Go.IntKind.i64 0), (Go.Value.int Go.IntKind.i64 0)]) [(0, x37)]) fun rows => als r39.2 2 1 rows) fun r40 => S.bd (app r40.2 2 16 r39.1 r40.1) fun r41 => S.bd (nck a0) fun x42 => S.bd (fld 3 x42) fun x43 => S.bd (stv r41.2 1 x43 r41.1) fun s44 => some ((Value.tuple ⟨[(Go.Value.bool Bool.false), (Go.Value.int Go.IntKind.i64 0)]⟩), s44))))

def leapfrogref07x_Lock_Ask.t (S : Sig) (a0 a1 : Value) (s : St) : Option (Value × St) :=
  S.bd (bx a1) fun c1 => S.bd (lal c1 0 2) fun x2 => S.bd (leapfrogref07x_IsOwner.r x2 s) fun x3 => S.bd (un .not x3) fun x4 => S.cnd x4 (some ((Value.tuple ⟨[(Go.Value.bool Bool.false), (Go.Value.int Go.IntKind.i64 70)]⟩), s)) (S.bd (nck a0) fun x5 => S.bd (fld 0 x5) fun x6 => S.bd (ldc s x6) fun x7 => S.bd (S.gd x7 true (some a0)) fun x8 => S.bd (S.gd x7 true (nck x8)) fun x9 => S.bd (S.gd x7 true (fld 1 x9)) fun x10 => S.bd (S.gd x7 true (lda s 2 x10)) fun x11 => S.bd (S.gd x7 true (lal c1 0 2)) fun x12 => S.bd (S.gd x7 true (eqb [1, 1] true false x11 x12)) fun x13 => S.bd (pik x7 x13 (Go.Value.bool Bool.false)) fun x14 => S.cnd x14 (some ((Value.tuple ⟨[(Go.Value.bool Bool.true), (Go.Value.int Go.IntKind.i64 0)]⟩), s)) (leapfrogref07x_Lock_Ask.t.p1 S c1 a0 s))
def leapfrogref07x_Lock_Ask.v (a0 a1 : Value) (s : St) : Option (Value × St) := leapfrogref07x_Lock_Ask.t std a0 a1 s
def leapfrogref07x_Lock_Ask.w : List Value → St → Option (Value × St)
  | [a0, a1], s => leapfrogref07x_Lock_Ask.v a0 a1 s
  | _, _ => none
def leapfrogref07x_Lock_Ask.an : An := ⟨60, false, [3], [], [], [(3, [(0, 0, [], []), (1, 0, [], []), (2, 0, [], []), (3, 2, [], []), (4, 0, [], []), (5, 0, [], []), (6, 0, [], []), (7, 0, [], []), (8, 2, [], []), (9, 25, [], []), (10, 0, [], []), (11, 0, [], []), (12, 0, [], [])]), (8, [(0, 0, [], []), (1, 0, [], []), (2, 25, [], []), (3, 0, [], []), (4, 0, [], []), (5, 4, [], []), (6, 0, [], []), (7, 0, [], []), (8, 4, [], [])]), (12, [(0, 0, [], []), (2, 0, [], []), (3, 0, [], []), (4, 0, [], []), (5, 2, [], []), (7, 25, [], []), (1, 3, [], [8]), (6, 4, [], [8]), (8, 3, [], []), (9, 4, [], []), (10, 0, [], []), (11, 0, [], []), (12, 4, [], [])])], [], []⟩
theorem leapfrogref07x_Lock_Ask.ok (S : Sig) (a0 a1 : Value) (s : St) : evF S Try.prog leapfrogref07x_Lock_Ask.ctx leapfrogref07x_Lock_Ask.an Try.f90 [a0, a1] s = leapfrogref07x_Lock_Ask.t S a0 a1 s := by kernel_rfl
theorem leapfrogref07x_Lock_Ask.cok : CtxOk Try.prog leapfrogref07x_Lock_Ask.ctx := .cons leapfrogref07x_IsOwner.sound leapfrogref07x_IsOwner.can <| .cons leapfrogref07x_Lock_place.sound leapfrogref07x_Lock_place.can <| .nil
theorem leapfrogref07x_Lock_Ask.draws : fnDraws leapfrogref07x_Lock_Ask.an Try.f90 = true := by kernel_rfl
theorem leapfrogref07x_Lock_Ask.can : callOk Try.prog 90 = true := by kernel_rfl
theorem leapfrogref07x_Lock_Ask.sound : FnOk Try.prog 90 (.st leapfrogref07x_Lock_Ask.w) := FnOk.st_of (evF_ok leapfrogref07x_Lock_Ask.cok mixed (f := 90) (fn := Try.f90) (by kernel_rfl) leapfrogref07x_Lock_Ask.draws) fun args s r h => by
  unfold leapfrogref07x_Lock_Ask.w at h; split at h
  · rw [leapfrogref07x_Lock_Ask.ok std]; exact h
  · simp at h

/-! ### leapfrog/leapfrogref09.no: function 91 -/
def leapfrogref09x_no.ctx : Ctx := []
def leapfrogref09x_no.t (S : Sig) (s : St) : Option Value :=
  S.bd (bx (Go.Value.agg #[(Go.Value.int Go.IntKind.i64 0), (Go.Value.bool Bool.false), (Go.Value.int Go.IntKind.i64 0), (Go.Value.int Go.IntKind.i64 0), (Go.Value.int Go.IntKind.u64 0), (Go.Value.int Go.IntKind.i64 0), (Go.Value.int Go.IntKind.u64 0), (Go.Value.int Go.IntKind.i64 0), (Go.Value.int Go.IntKind.i64 0), (Go.Value.int Go.IntKind.u64 0), (Go.Value.int Go.IntKind.i64 0), (Go.Value.int Go.IntKind.u64 0), (Go.Value.slice Option.none 0 0)])) fun c1 => S.bd (bld [(Go.Value.int Go.IntKind.i64 0), (Go.Value.bool Bool.false), (Go.Value.int Go.IntKind.i64 0), (Go.Value.int Go.IntKind.i64 0), (Go.Value.int Go.IntKind.u64 0), (Go.Value.int Go.IntKind.i64 0), (Go.Value.int Go.IntKind.u64 0), (Go.Value.int Go.IntKind.i64 0), (Go.Value.int Go.IntKind.i64 0), (Go.Value.int Go.IntKind.u64 0), (Go.Value.int Go.IntKind.i64 0), (Go.Value.int Go.IntKind.u64 0), (Go.Value.slice Option.none 0 0)] [(0, 1, (Go.Value.int Go.IntKind.i64 4))]) fun x2 => S.bd (stl c1 0 13 x2) fun c3 => S.bd (lal c3 0 13) fun x4 => some (x4)
def leapfrogref09x_no.r (s : St) : Option Value := leapfrogref09x_no.t std  s
def leapfrogref09x_no.w : List Value → St → Option Value
  | [], s => leapfrogref09x_no.r  s
  | _, _ => none
def leapfrogref09x_no.an : An := ⟨2, true, [0], [], [], [], [], []⟩
theorem leapfrogref09x_no.ok (S : Sig) (s : St) : evG S Try.prog leapfrogref09x_no.ctx leapfrogref09x_no.an Try.f91 [] s = leapfrogref09x_no.t S  s := by kernel_rfl
theorem leapfrogref09x_no.cok : CtxOk Try.prog leapfrogref09x_no.ctx := .nil
theorem leapfrogref09x_no.draws : fnDraws leapfrogref09x_no.an Try.f91 = true := by kernel_rfl
theorem leapfrogref09x_no.can : callOk Try.prog 91 = true := by kernel_rfl
theorem leapfrogref09x_no.sound : FnOk Try.prog 91 (.rd leapfrogref09x_no.w) := FnOk.rd_of (evG_ok leapfrogref09x_no.cok mixed (f := 91) (fn := Try.f91) (by kernel_rfl) leapfrogref09x_no.draws) fun args s r h => by
  unfold leapfrogref09x_no.w at h; split at h
  · rw [leapfrogref09x_no.ok std]; exact h
  · simp at h

/-! ### (*leapfrog/leapfrogref09.Peer).plain: function 103 -/
def leapfrogref09x_Peer_plain.ctx : Ctx := [(89, .rd leapfrogref09x_Peer_first.w)]
def leapfrogref09x_Peer_plain.t (S : Sig) (a0 a1 : Value) (s : St) : Option Value :=
  S.bd (bx a1) fun c1 => S.bd (lal c1 0 2) fun x2 => S.bd (leapfrogref09x_Peer_first.r a0 x2 s) fun x3 => S.bd (bx (Go.Value.agg #[(Go.Value.int Go.IntKind.i64 0), (Go.Value.int Go.IntKind.u64 0), (Go.Value.int Go.IntKind.i64 0), (Go.Value.int Go.IntKind.i64 0), (Go.Value.int Go.IntKind.u64 0), (Go.Value.int Go.IntKind.i64 0), (Go.Value.int Go.IntKind.u64 0), (Go.Value.int Go.IntKind.i64 0), (Go.Value.int Go.IntKind.i64 0), (Go.Value.int Go.IntKind.u64 0), (Go.Value.int Go.IntKind.i64 0), (Go.Value.int Go.IntKind.u64 0), (Go.Value.bool Bool.false), (Go.Value.int Go.IntKind.i64 0), (Go.Value.int Go.IntKind.i64 0), (Go.Value.slice Option.none 0 0)])) fun c4 => S.bd (stl c4 0 16 x3) fun c5 => S.bd (nck a0) fun x6 => S.bd (fld 6 x6) fun x7 => S.bd (ldc s x7) fun x8 => S.bd (S.gd x8 true (lal c1 2 5)) fun x9 => S.bd (S.gd x8 true (lal c5 2 5)) fun x10 => S.bd (S.gd x8 true (eqb [1, 1, 1, 1, 1] true false x9 x10)) fun x11 => S.bd (pik x8 x11 (Go.Value.bool Bool.false)) fun x12 => S.bd (S.gd x12 true (lal c1 7 5)) fun x13 => S.bd (S.gd x12 true (lal c5 7 5)) fun x14 => S.bd (S.gd x12 true (eqb [1, 1, 1, 1, 1] true false x13 x14)) fun x15 => S.bd (pik x12 x15 (Go.Value.bool Bool.false)) fun x16 => S.bd (S.gd x16 true (lcl c1 12)) fun x17 => S.bd (S.gd x16 true (un .not x17)) fun x18 => S.bd (pik x16 x18 (Go.Value.bool Bool.false)) fun x19 => some (x19)
def leapfrogref09x_Peer_plain.r (a0 a1 : Value) (s : St) : Option Value := leapfrogref09x_Peer_plain.t std a0 a1 s
def leapfrogref09x_Peer_plain.w : List Value → St → Option Value
  | [a0, a1], s => leapfrogref09x_Peer_plain.r a0 a1 s
  | _, _ => none
def leapfrogref09x_Peer_plain.an : An := ⟨34, true, [3, 5], [], [], [], [], []⟩
theorem leapfrogref09x_Peer_plain.ok (S : Sig) (a0 a1 : Value) (s : St) : evG S Try.prog leapfrogref09x_Peer_plain.ctx leapfrogref09x_Peer_plain.an Try.f103 [a0, a1] s = leapfrogref09x_Peer_plain.t S a0 a1 s := by kernel_rfl
theorem leapfrogref09x_Peer_plain.cok : CtxOk Try.prog leapfrogref09x_Peer_plain.ctx := .cons leapfrogref09x_Peer_first.sound leapfrogref09x_Peer_first.can <| .nil
theorem leapfrogref09x_Peer_plain.draws : fnDraws leapfrogref09x_Peer_plain.an Try.f103 = true := by kernel_rfl
theorem leapfrogref09x_Peer_plain.can : callOk Try.prog 103 = true := by kernel_rfl
theorem leapfrogref09x_Peer_plain.sound : FnOk Try.prog 103 (.rd leapfrogref09x_Peer_plain.w) := FnOk.rd_of (evG_ok leapfrogref09x_Peer_plain.cok mixed (f := 103) (fn := Try.f103) (by kernel_rfl) leapfrogref09x_Peer_plain.draws) fun args s r h => by
  unfold leapfrogref09x_Peer_plain.w at h; split at h
  · rw [leapfrogref09x_Peer_plain.ok std]; exact h
  · simp at h

/-! ### leapfrog/leapfrogref01.Compare: function 104 -/
def leapfrogref01x_Compare.ctx : Ctx := [(27, .rd leapfrogref01x_Right.w), (29, .st leapfrogref01x_Bits.w), (83, .rd leapfrogref01x_common.w)]
def leapfrogref01x_Compare.t (S : Sig) (a0 a1 : Value) (s : St) : Option (Value × St) :=
  S.bd (bx a0) fun c1 => S.bd (bx a1) fun c2 => S.bd (lal c1 0 2) fun x3 => S.bd (leapfrogref01x_Right.r x3 s) fun x4 => S.bd (un .not x4) fun x5 => S.bd (S.gd x5 false (lal c2 0 2)) fun x6 => S.bd (S.gd x5 false (leapfrogref01x_Right.r x6 s)) fun x7 => S.bd (S.gd x5 false (un .not x7)) fun x8 => S.bd (pik x5 (Go.Value.bool Bool.true) x8) fun x9 => S.cnd x9 (some ((Value.tuple ⟨[(Go.Value.int Go.IntKind.i64 0), (Go.Value.int Go.IntKind.i64 10)]⟩), s)) (S.bd (lal c1 0 2) fun x10 => S.bd (lal c2 0 2) fun x11 => S.bd (leapfrogref01x_Bits.v x10 s) fun r12 => S.bd (leapfrogref01x_Bits.v x11 r12.2) fun r13 => S.bd (leapfrogref01x_common.r r12.1 r13.1 r13.2) fun x14 => S.bd (lenL r12.1) fun x15 => S.bd (eqb [1] false false x14 x15) fun x16 => S.bd (S.gd x16 true (some x14)) fun x17 => S.bd (S.gd x16 true (some r13.1)) fun x18 => S.bd (S.gd x16 true (lenL x18)) fun x19 => S.bd (S.gd x16 true (eqb [1] false false x17 x19)) fun x20 => S.bd (pik x16 x20 (Go.Value.bool Bool.false)) fun x21 => S.cnd x21 (some ((Value.tuple ⟨[(Go.Value.int Go.IntKind.i64 0), (Go.Value.int Go.IntKind.i64 0)]⟩), r13.2)) (S.bd (lenL r12.1) fun x22 => S.bd (eqb [1] false false x14 x22) fun x23 => S.cnd x23 (some ((Value.tuple ⟨[(Go.Value.int Go.IntKind.i64 (-1)), (Go.Value.int Go.IntKind.i64 0)]⟩), r13.2)) (S.bd (lenL r13.1) fun x24 => S.bd (eqb [1] false false x14 x24) fun x25 => S.cnd x25 (some ((Value.tuple ⟨[(Go.Value.int Go.IntKind.i64 1), (Go.Value.int Go.IntKind.i64 0)]⟩), r13.2)) (S.bd (idx r13.2 1 r12.1 x14) fun x26 => S.bd (ldc r13.2 x26) fun x27 => S.bd (idx r13.2 1 r13.1 x14) fun x28 => S.bd (ldc r13.2 x28) fun x29 => S.bd (bin .lss x27 x29) fun x30 => S.cnd x30 (some ((Value.tuple ⟨[(Go.Value.int Go.IntKind.i64 (-1)), (Go.Value.int Go.IntKind.i64 0)]⟩), r13.2)) (some ((Value.tuple ⟨[(Go.Value.int Go.IntKind.i64 1), (Go.Value.int Go.IntKind.i64 0)]⟩), r13.2))))))
def leapfrogref01x_Compare.v (a0 a1 : Value) (s : St) : Option (Value × St) := leapfrogref01x_Compare.t std a0 a1 s
def leapfrogref01x_Compare.w : List Value → St → Option (Value × St)
  | [a0, a1], s => leapfrogref01x_Compare.v a0 a1 s
  | _, _ => none
def leapfrogref01x_Compare.an : An := ⟨55, false, [2, 3], [], [], [(3, [(0, 17, [], []), (2, 25, [], []), (1, 4, [], []), (3, 4, [], []), (4, 0, [], []), (5, 0, [], [])]), (11, [(0, 0, [], []), (1, 0, [], []), (2, 2, [], []), (3, 2, [], []), (4, 0, [], []), (5, 0, [], []), (6, 2, [], []), (7, 2, [], []), (8, 0, [], []), (9, 0, [], [])])], [], []⟩
theorem leapfrogref01x_Compare.ok (S : Sig) (a0 a1 : Value) (s : St) : evF S Try.prog leapfrogref01x_Compare.ctx leapfrogref01x_Compare.an Try.f104 [a0, a1] s = leapfrogref01x_Compare.t S a0 a1 s := by kernel_rfl
theorem leapfrogref01x_Compare.cok : CtxOk Try.prog leapfrogref01x_Compare.ctx := .cons leapfrogref01x_Right.sound leapfrogref01x_Right.can <| .cons leapfrogref01x_Bits.sound leapfrogref01x_Bits.can <| .cons leapfrogref01x_common.sound leapfrogref01x_common.can <| .nil
theorem leapfrogref01x_Compare.draws : fnDraws leapfrogref01x_Compare.an Try.f104 = true := by kernel_rfl
theorem leapfrogref01x_Compare.can : callOk Try.prog 104 = true := by kernel_rfl
theorem leapfrogref01x_Compare.sound : FnOk Try.prog 104 (.st leapfrogref01x_Compare.w) := FnOk.st_of (evF_ok leapfrogref01x_Compare.cok mixed (f := 104) (fn := Try.f104) (by kernel_rfl) leapfrogref01x_Compare.draws) fun args s r h => by
  unfold leapfrogref01x_Compare.w at h; split at h
  · rw [leapfrogref01x_Compare.ok std]; exact h
  · simp at h

/-! ### leapfrog/leapfrogref01.Compare: function 104, as a reading -/
def leapfrogref01x_CompareQ.r (a0 a1 : Value) (s : St) : Option Value := frzR (fun s => leapfrogref01x_Compare.v a0 a1 s) s
def leapfrogref01x_CompareQ.w : List Value → St → Option Value := fun args s => frzR (leapfrogref01x_Compare.w args) s
theorem leapfrogref01x_CompareQ.can : callOk Try.prog 104 = true := leapfrogref01x_Compare.can
theorem leapfrogref01x_CompareQ.sound : FnOk Try.prog 104 (.rd leapfrogref01x_CompareQ.w) := FnOk.frozen leapfrogref01x_Compare.sound

/-! ### (*leapfrog/leapfrogref09.Peer).set: function 92 -/
def leapfrogref09x_Peer_set.ctx : Ctx := [(103, .rd leapfrogref09x_Peer_plain.w), (104, .rd leapfrogref01x_CompareQ.w)]
def leapfrogref09x_Peer_set.l4.p1 (S : Sig) (x75 : Value) (x76 : Value) (xs60 : List Value) (s61 : St) (rec62 : List Value → St → Option Cut) : Option Cut :=
  S.bd (xtr 1 x75) fun x77 => S.bd (show Option Cut from S.bd (bin .gtr x76 (Go.Value.int Go.IntKind.i64 0)) fun x78 => S.bd (S.gd x78 true (some (xs60.getD 2 undef))) fun x79 => S.bd (S.gd x78 true (un .not x79)) fun x80 => S.bd (pik x78 x80 (Go.Value.bool Bool.false)) fun x81 => S.cnd x81 (S.bd (lal (cellsA (xs60.getD 4 undef)) 0 16) fun x82 => S.bd (S.bd (bls 16 (List.replicate 1 [(Go.Value.int Go.IntKind.i64 0), (Go.Value.int Go.IntKind.u64 0), (Go.Value.int Go.IntKind.i64 0), (Go.Value.int Go.IntKind.i64 0), (Go.Value.int Go.IntKind.u64 0), (Go.Value.int Go.IntKind.i64 0), (Go.Value.int Go.IntKind.u64 0), (Go.Value.int Go.IntKind.i64 0), (Go.Value.int Go.IntKind.i64 0), (Go.Value.int Go.IntKind.u64 0), (Go.Value.int Go.IntKind.i64 0), (Go.Value.int Go.IntKind.u64 0), (Go.Value.bool Bool.false), (Go.Value.int Go.IntKind.i64 0), (Go.Value.int Go.IntKind.i64 0), (Go.Value.slice Option.none 0 0)]) [(0, x82)]) fun rows => als s61 16 1 rows) fun r83 => S.bd (app r83.2 16 144 (xs60.getD 1 undef) r83.1) fun r84 => some (0, [(xs60.getD 0 undef), r84.1, (Go.Value.bool Bool.true), (xs60.getD 3 undef), x76, x79, x80, (Value.agg ⟨(cellsA (xs60.getD 4 undef))⟩)], r84.2)) (some (0, [(xs60.getD 0 undef), (xs60.getD 1 undef), (xs60.getD 2 undef), (xs60.getD 3 undef), x76, x79, x80, (Value.agg ⟨(cellsA (xs60.getD 4 undef))⟩)], s61))) fun r85 => S.bd (show Option Cut from S.bd (eqb [1] false true (r85.2.1.getD 4 undef) (Go.Value.int Go.IntKind.i64 0)) fun x86 => S.cnd x86 (S.bd (nck (r85.2.1.getD 0 undef)) fun x87 => S.bd (fld 9 x87) fun x88 => S.bd (ldc r85.2.2 x88) fun x89 => S.bd (idx r85.2.2 16 x89 (r85.2.1.getD 3 undef)) fun x90 => S.bd (lda r85.2.2 16 x90) fun x91 => S.bd (S.bd (bls 16 (List.replicate 1 [(Go.Value.int Go.IntKind.i64 0), (Go.Value.int Go.IntKind.u64 0), (Go.Value.int Go.IntKind.i64 0), (Go.Value.int Go.IntKind.i64 0), (Go.Value.int Go.IntKind.u64 0), (Go.Value.int Go.IntKind.i64 0), (Go.Value.int Go.IntKind.u64 0), (Go.Value.int Go.IntKind.i64 0), (Go.Value.int Go.IntKind.i64 0), (Go.Value.int Go.IntKind.u64 0), (Go.Value.int Go.IntKind.i64 0), (Go.Value.int Go.IntKind.u64 0), (Go.Value.bool Bool.false), (Go.Value.int Go.IntKind.i64 0), (Go.Value.int Go.IntKind.i64 0), (Go.Value.slice Option.none 0 0)]) [(0, x91)]) fun rows => als r85.2.2 16 1 rows) fun r92 => S.bd (app r92.2 16 144 (r85.2.1.getD 1 undef) r92.1) fun r93 => some (0, [(r85.2.1.getD 0 undef), r93.1, (r85.2.1.getD 2 undef), (r85.2.1.getD 3 undef), (r85.2.1.getD 4 undef), (r85.2.1.getD 5 undef), (r85.2.1.getD 6 undef), (Value.agg ⟨(cellsA (r85.2.1.getD 7 undef))⟩)], r93.2)) (some (0, [(r85.2.1.getD 0 undef), (r85.2.1.getD 1 undef), (r85.2.1.getD 2 undef), (r85.2.1.getD 3 undef), (r85.2.1.getD 4 undef), (r85.2.1.getD 5 undef), (r85.2.1.getD 6 undef), (Value.agg ⟨(cellsA (r85.2.1.getD 7 undef))⟩)], r85.2.2))) fun r94 => S.bd (eqb [1] false false (r94.2.1.getD 4 undef) (Go.Value.int Go.IntKind.i64 0)) fun x95 => S.bd (S.gd x95 true (some (r94.2.1.getD 2 undef))) fun x96 => S.bd (S.gd x95 true (un .not x96)) fun x97 => S.bd (pik x95 x97 (Go.Value.bool Bool.false)) fun x98 => S.cnd x98 (S.bd (lal (cellsA (r94.2.1.getD 7 undef)) 0 16) fun x99 => S.bd (S.bd (bls 16 (List.replicate 1 [(Go.Value.int Go.IntKind.i64 0), (Go.Value.int Go.IntKind.u64 0), (Go.Value.int Go.IntKind.i64 0), (Go.Value.int Go.IntKind.i64 0), (Go.Value.int Go.IntKind.u64 0), (Go.Value.int Go.IntKind.i64 0), (Go.Value.int Go.IntKind.u64 0), (Go.Value.int Go.IntKind.i64 0), (Go.Value.int Go.IntKind.i64 0), (Go.Value.int Go.IntKind.u64 0), (Go.Value.int Go.IntKind.i64 0), (Go.Value.int Go.IntKind.u64 0), (Go.Value.bool Bool.false), (Go.Value.int Go.IntKind.i64 0), (Go.Value.int Go.IntKind.i64 0), (Go.Value.slice Option.none 0 0)]) [(0, x99)]) fun rows => als r94.2.2 16 1 rows) fun r100 => S.bd (app r100.2 16 144 (r94.2.1.getD 1 undef) r100.1) fun r101 => S.bd (bin .add (r94.2.1.getD 3 undef) (Go.Value.int Go.IntKind.i64 1)) fun x102 => rec62 [(r94.2.1.getD 0 undef), r101.1, (Go.Value.bool Bool.true), x102, (Value.agg ⟨(cellsA (r94.2.1.getD 7 undef))⟩)] r101.2) (S.bd (bin .add (r94.2.1.getD 3 undef) (Go.Value.int Go.IntKind.i64 1)) fun x103 => rec62 [(r94.2.1.getD 0 undef), (r94.2.1.getD 1 undef), (r94.2.1.getD 2 undef), x103, (Value.agg ⟨(cellsA (r94.2.1.getD 7 undef))⟩)] r94.2.2)

def leapfrogref09x_Peer_set.l4 (S : Sig) (rec62 : List Value → St → Option Cut) (xs60 : List Value) (s61 : St) : Option Cut :=
  S.bd (nck (xs60.getD 0 undef)) fun x63 => S.bd (fld 9 x63) fun x64 => S.bd (ldc s61 x64) fun x65 => S.bd (lenL x65) fun x66 => S.bd (bin .lss (xs60.getD 3 undef) x66) fun x67 => S.cnd x67 (S.bd (nck (xs60.getD 0 undef)) fun x68 => S.bd (fld 9 x68) fun x69 => S.bd (ldc s61 x69) fun x70 => S.bd (idx s61 16 x70 (xs60.getD 3 undef)) fun x71 => S.bd (fld 0 x71) fun x72 => S.bd (lda s61 2 x72) fun x73 => S.bd (lal (cellsA (xs60.getD 4 undef)) 0 2) fun x74 => S.bd (leapfrogref01x_CompareQ.r x73 x74 s61) fun x75 => S.bd (xtr 0 x75) fun x76 => leapfrogref09x_Peer_set.l4.p1 S x75 x76 xs60 s61 rec62) (some (0, [(xs60.getD 0 undef), (xs60.getD 1 undef), (xs60.getD 2 undef), (Value.agg ⟨(cellsA (xs60.getD 4 undef))⟩)], s61))

def leapfrogref09x_Peer_set.t (S : Sig) (a0 a1 : Value) (s : St) : Option (Value × St) :=
  S.bd (bx a1) fun c1 => S.bd (lal c1 0 16) fun x2 => S.bd (leapfrogref09x_Peer_plain.r a0 x2 s) fun x3 => S.bd (S.it (leapfrogref09x_Peer_set.l4 S) [a0, (Go.Value.slice Option.none 0 0), x3, (Go.Value.int Go.IntKind.i64 0), (Value.agg ⟨c1⟩)] s) fun r104 => S.bd (show Option Cut from S.bd (un .not (r104.2.1.getD 2 undef)) fun x109 => S.cnd x109 (S.bd (lal (cellsA (r104.2.1.getD 3 undef)) 0 16) fun x110 => S.bd (S.bd (bls 16 (List.replicate 1 [(Go.Value.int Go.IntKind.i64 0), (Go.Value.int Go.IntKind.u64 0), (Go.Value.int Go.IntKind.i64 0), (Go.Value.int Go.IntKind.i64 0), (Go.Value.int Go.IntKind.u64 0), (Go.Value.int Go.IntKind.i64 0), (Go.Value.int Go.IntKind.u64 0), (Go.Value.int Go.IntKind.i64 0), (Go.Value.int Go.IntKind.i64 0), (Go.Value.int Go.IntKind.u64 0), (Go.Value.int Go.IntKind.i64 0), (Go.Value.int Go.IntKind.u64 0), (Go.Value.bool Bool.false), (Go.Value.int Go.IntKind.i64 0), (Go.Value.int Go.IntKind.i64 0), (Go.Value.slice Option.none 0 0)]) [(0, x110)]) fun rows => als r104.2.2 16 1 rows) fun r111 => S.bd (app r111.2 16 144 (r104.2.1.getD 1 undef) r111.1) fun r112 => some (0, [(r104.2.1.getD 0 undef), r112.1], r112.2)) (some (0, [(r104.2.1.getD 0 undef), (r104.2.1.getD 1 undef)], r104.2.2))) fun r113 => S.bd (nck (r113.2.1.getD 0 undef)) fun x114 => S.bd (fld 9 x114) fun x115 => S.bd (stv r113.2.2 1 x115 (r113.2.1.getD 1 undef)) fun s116 => some ((Value.tuple ⟨[]⟩), s116)
def leapfrogref09x_Peer_set.v (a0 a1 : Value) (s : St) : Option (Value × St) := leapfrogref09x_Peer_set.t std a0 a1 s
def leapfrogref09x_Peer_set.w : List Value → St → Option (Value × St)
  | [a0, a1], s => leapfrogref09x_Peer_set.v a0 a1 s
  | _, _ => none
def leapfrogref09x_Peer_set.an : An := ⟨77, false, [3], [(4, ⟨[.v 0, .p 3 3 0, .v 4, .v 5, .v 6, .l 3], [(.exit 0, [.v 0, .p 3 3 0, .v 4, .v 5, .l 3])]⟩)], [(10, ⟨[], [(.normal, [.v 0, .p 3 3 0, .v 4, .v 5, .v 6, .v 7, .v 38, .v 39, .l 3])]⟩), (12, ⟨[], [(.normal, [.v 0, .p 3 3 0, .v 4, .v 5, .v 6, .v 7, .v 38, .v 39, .l 3])]⟩), (17, ⟨[], [(.normal, [.v 0, .v 4])]⟩)], [(6, [(0, 0, [], []), (1, 0, [], []), (2, 0, [], []), (3, 2, [], []), (4, 0, [], []), (5, 2, [], []), (6, 0, [], []), (7, 2, [], []), (8, 0, [], []), (9, 25, [], []), (10, 3, [], []), (11, 0, [], []), (12, 0, [], []), (13, 0, [], []), (14, 0, [], []), (15, 0, [], [])])], [], []⟩
theorem leapfrogref09x_Peer_set.ok (S : Sig) (a0 a1 : Value) (s : St) : evF S Try.prog leapfrogref09x_Peer_set.ctx leapfrogref09x_Peer_set.an Try.f92 [a0, a1] s = leapfrogref09x_Peer_set.t S a0 a1 s := by kernel_rfl
theorem leapfrogref09x_Peer_set.cok : CtxOk Try.prog leapfrogref09x_Peer_set.ctx := .cons leapfrogref09x_Peer_plain.sound leapfrogref09x_Peer_plain.can <| .cons leapfrogref01x_CompareQ.sound leapfrogref01x_CompareQ.can <| .nil
theorem leapfrogref09x_Peer_set.draws : fnDraws leapfrogref09x_Peer_set.an Try.f92 = true := by kernel_rfl
theorem leapfrogref09x_Peer_set.can : callOk Try.prog 92 = true := by kernel_rfl
theorem leapfrogref09x_Peer_set.sound : FnOk Try.prog 92 (.st leapfrogref09x_Peer_set.w) := FnOk.st_of (evF_ok leapfrogref09x_Peer_set.cok mixed (f := 92) (fn := Try.f92) (by kernel_rfl) leapfrogref09x_Peer_set.draws) fun args s r h => by
  unfold leapfrogref09x_Peer_set.w at h; split at h
  · rw [leapfrogref09x_Peer_set.ok std]; exact h
  · simp at h

/-! ### (*leapfrog/leapfrogref09.Peer).lock: function 68 -/
def leapfrogref09x_Peer_lock.ctx : Ctx := [(64, .rd leapfrogref09x_Peer_rec.w), (66, .rd leapfrogref09x_gone.w), (65, .st leapfrogref09x_told.w), (90, .st leapfrogref07x_Lock_Ask.w), (91, .rd leapfrogref09x_no.w), (92, .st leapfrogref09x_Peer_set.w), (67, .rd leapfrogref09x_Peer_of.w)]
def leapfrogref09x_Peer_lock.t.p1 (S : Sig) (r17 : Value × St) (r6 : Value × St) (a0 : Value) (x18 : Value) (a1 : Value) (c1 : List Value) : Option (Value × St) :=
  S.bd (lda r17.2 16 r6.1) fun x34 => S.bd (leapfrogref09x_Peer_set.v a0 x34 r17.2) fun r35 => S.cnd x18 (S.bd (lda r35.2 16 r6.1) fun x36 => S.bd (leapfrogref09x_Peer_of.r a0 x36 r35.2) fun x37 => S.bd (leapfrogref09x_told.v a1 x37 r35.2) fun r38 => some (r38.1, r38.2)) (S.bd (nck a0) fun x39 => S.bd (fld 10 x39) fun x40 => S.bd (ldc r35.2 x40) fun x41 => S.bd (lal c1 1 2) fun x42 => S.bd (lal c1 13 2) fun x43 => S.bd (bld [(Go.Value.int Go.IntKind.i64 0), (Go.Value.bool Bool.false), (Go.Value.int Go.IntKind.i64 0), (Go.Value.int Go.IntKind.u64 0), (Go.Value.int Go.IntKind.i64 0), (Go.Value.int Go.IntKind.i64 0)] [(0, 1, a1), (2, 2, x42), (4, 2, x43)]) fun x44 => S.bd (S.bd (bls 6 (List.replicate 1 [(Go.Value.int Go.IntKind.i64 0), (Go.Value.bool Bool.false), (Go.Value.int Go.IntKind.i64 0), (Go.Value.int Go.IntKind.u64 0), (Go.Value.int Go.IntKind.i64 0), (Go.Value.int Go.IntKind.i64 0)]) [(0, x44)]) fun rows => als r35.2 6 1 rows) fun _ => S.bd (S.bd (bls 6 (List.replicate 0 [(Go.Value.int Go.IntKind.i64 0), (Go.Value.bool Bool.false), (Go.Value.int Go.IntKind.i64 0), (Go.Value.int Go.IntKind.u64 0), (Go.Value.int Go.IntKind.i64 0), (Go.Value.int Go.IntKind.i64 0)]) []) fun rows => als r35.2 6 0 rows) fun r45 => S.bd (S.bd (bls 6 (List.replicate 1 [(Go.Value.int Go.IntKind.i64 0), (Go.Value.bool Bool.false), (Go.Value.int Go.IntKind.i64 0), (Go.Value.int Go.IntKind.u64 0), (Go.Value.int Go.IntKind.i64 0), (Go.Value.int Go.IntKind.i64 0)]) [(0, x44)]) fun rows => als r45.2 6 1 rows) fun _ => S.bd (app r45.2 6 48 r45.1 x41) fun r46 => S.bd (S.bd (bls 6 (List.replicate 1 [(Go.Value.int Go.IntKind.i64 0), (Go.Value.bool Bool.false), (Go.Value.int Go.IntKind.i64 0), (Go.Value.int Go.IntKind.u64 0), (Go.Value.int Go.IntKind.i64 0), (Go.Value.int Go.IntKind.i64 0)]) [(0, x44)]) fun rows => als r46.2 6 1 rows) fun r47 => S.bd (app r47.2 6 48 r46.1 r47.1) fun r48 => S.bd (nck a0) fun x49 => S.bd (fld 10 x49) fun x50 => S.bd (stv r48.2 1 x50 r48.1) fun s51 => some ((Go.Value.slice Option.none 0 0), s51))

def leapfrogref09x_Peer_lock.t (S : Sig) (a0 a1 a2 : Value) (s : St) : Option (Value × St) :=
  S.bd (bx a2) fun c1 => S.bd (lal c1 1 2) fun x2 => S.bd (leapfrogref09x_Peer_rec.r a0 x2 s) fun x3 => S.bd (xtr 0 x3) fun x4 => S.bd (xtr 1 x3) fun x5 => S.bd (alv s (Go.Value.agg #[(Go.Value.int Go.IntKind.i64 0), (Go.Value.int Go.IntKind.u64 0), (Go.Value.int Go.IntKind.i64 0), (Go.Value.int Go.IntKind.i64 0), (Go.Value.int Go.IntKind.u64 0), (Go.Value.int Go.IntKind.i64 0), (Go.Value.int Go.IntKind.u64 0), (Go.Value.int Go.IntKind.i64 0), (Go.Value.int Go.IntKind.i64 0), (Go.Value.int Go.IntKind.u64 0), (Go.Value.int Go.IntKind.i64 0), (Go.Value.int Go.IntKind.u64 0), (Go.Value.bool Bool.false), (Go.Value.int Go.IntKind.i64 0), (Go.Value.int Go.IntKind.i64 0), (Go.Value.slice Option.none 0 0)])) fun r6 => S.bd (stv r6.2 16 r6.1 x4) fun s7 => S.bd (un .not x5) fun x8 => S.cnd x8 (S.bd (leapfrogref09x_gone.r  s7) fun x9 => S.bd (leapfrogref09x_told.v a1 x9 s7) fun r10 => some (r10.1, r10.2)) (S.bd (fld 12 r6.1) fun x11 => S.bd (fld 3 x11) fun x12 => S.bd (ldc s7 x12) fun x13 => S.bd (lenL x13) fun x14 => S.bd (fld 12 r6.1) fun x15 => S.bd (lal c1 13 2) fun x16 => S.bd (leapfrogref07x_Lock_Ask.v x15 x16 s7) fun r17 => S.bd (xtr 0 r17.1) fun x18 => S.bd (xtr 1 r17.1) fun x19 => S.bd (eqb [1] false true x19 (Go.Value.int Go.IntKind.i64 0)) fun x20 => S.bd (S.gd x20 false (some x18)) fun x21 => S.bd (S.gd x20 false (un .not x21)) fun x22 => S.bd (S.gd x20 false (some x22)) fun x23 => S.bd (S.gd x23 true (fld 12 r6.1)) fun x24 => S.bd (S.gd x23 true (fld 3 x24)) fun x25 => S.bd (S.gd x23 true (ldc r17.2 x25)) fun x26 => S.bd (S.gd x23 true (lenL x26)) fun x27 => S.bd (S.gd x23 true (some x14)) fun x28 => S.bd (S.gd x23 true (eqb [1] false false x27 x28)) fun x29 => S.bd (S.gd x20 false (pik x23 x29 (Go.Value.bool Bool.false))) fun x30 => S.bd (pik x20 (Go.Value.bool Bool.true) x30) fun x31 => S.cnd x31 (S.bd (leapfrogref09x_no.r  r17.2) fun x32 => S.bd (leapfrogref09x_told.v a1 x32 r17.2) fun r33 => some (r33.1, r33.2)) (leapfrogref09x_Peer_lock.t.p1 S r17 r6 a0 x18 a1 c1))
def leapfrogref09x_Peer_lock.v (a0 a1 a2 : Value) (s : St) : Option (Value × St) := leapfrogref09x_Peer_lock.t std a0 a1 a2 s
def leapfrogref09x_Peer_lock.w : List Value → St → Option (Value × St)
  | [a0, a1, a2], s => leapfrogref09x_Peer_lock.v a0 a1 a2 s
  | _, _ => none
def leapfrogref09x_Peer_lock.an : An := ⟨78, false, [5], [], [], [(11, [(0, 0, [], []), (2, 0, [], []), (3, 0, [], []), (4, 0, [], []), (5, 2, [], []), (7, 0, [], []), (8, 0, [], []), (9, 41, [], []), (10, 0, [], []), (11, 41, [], []), (12, 0, [], []), (1, 3, [], [13]), (6, 4, [], [13]), (13, 3, [], []), (14, 4, [], []), (15, 0, [], []), (16, 0, [], []), (17, 4, [], [])])], [], []⟩
theorem leapfrogref09x_Peer_lock.ok (S : Sig) (a0 a1 a2 : Value) (s : St) : evF S Try.prog leapfrogref09x_Peer_lock.ctx leapfrogref09x_Peer_lock.an Try.f68 [a0, a1, a2] s = leapfrogref09x_Peer_lock.t S a0 a1 a2 s := by kernel_rfl
theorem leapfrogref09x_Peer_lock.cok : CtxOk Try.prog leapfrogref09x_Peer_lock.ctx := .cons leapfrogref09x_Peer_rec.sound leapfrogref09x_Peer_rec.can <| .cons leapfrogref09x_gone.sound leapfrogref09x_gone.can <| .cons leapfrogref09x_told.sound leapfrogref09x_told.can <| .cons leapfrogref07x_Lock_Ask.sound leapfrogref07x_Lock_Ask.can <| .cons leapfrogref09x_no.sound leapfrogref09x_no.can <| .cons leapfrogref09x_Peer_set.sound leapfrogref09x_Peer_set.can <| .cons leapfrogref09x_Peer_of.sound leapfrogref09x_Peer_of.can <| .nil
theorem leapfrogref09x_Peer_lock.draws : fnDraws leapfrogref09x_Peer_lock.an Try.f68 = true := by kernel_rfl
theorem leapfrogref09x_Peer_lock.can : callOk Try.prog 68 = true := by kernel_rfl
theorem leapfrogref09x_Peer_lock.sound : FnOk Try.prog 68 (.st leapfrogref09x_Peer_lock.w) := FnOk.st_of (evF_ok leapfrogref09x_Peer_lock.cok mixed (f := 68) (fn := Try.f68) (by kernel_rfl) leapfrogref09x_Peer_lock.draws) fun args s r h => by
  unfold leapfrogref09x_Peer_lock.w at h; split at h
  · rw [leapfrogref09x_Peer_lock.ok std]; exact h
  · simp at h

/-! ### (*leapfrog/leapfrogref07.Lock).Free: function 93 -/
def leapfrogref07x_Lock_Free.ctx : Ctx := [(55, .rd leapfrogref07x_IsOwner.w)]
def leapfrogref07x_Lock_Free.t.p1 (S : Sig) (x12 : Value) (x16 : Value) (x17 : Value) (c2 : List Value) (s : St) (a0 : Value) : Option (Value × St) :=
  S.bd (S.gd x12 false (eqb [1, 1] true true x16 x17)) fun x18 => S.bd (pik x12 (Go.Value.bool Bool.true) x18) fun x19 => S.cnd x19 (S.bd (bld [(Go.Value.int Go.IntKind.i64 0), (Go.Value.int Go.IntKind.i64 0)] []) fun x20 => S.bd (stl c2 0 2 x20) fun c21 => S.bd (lal c21 0 2) fun x22 => some ((Value.tuple ⟨[x22, (Go.Value.bool Bool.false), (Go.Value.int Go.IntKind.i64 71)]⟩), s)) (S.bd (nck a0) fun x23 => S.bd (fld 3 x23) fun x24 => S.bd (ldc s x24) fun x25 => S.bd (lenL x25) fun x26 => S.bd (eqb [1] false false x26 (Go.Value.int Go.IntKind.i64 0)) fun x27 => S.cnd x27 (S.bd (bld [(Go.Value.int Go.IntKind.i64 0), (Go.Value.int Go.IntKind.i64 0)] []) fun x28 => S.bd (nck a0) fun x29 => S.bd (fld 0 x29) fun x30 => S.bd (stv s 1 x30 (Go.Value.bool Bool.false)) fun s31 => S.bd (nck a0) fun x32 => S.bd (fld 1 x32) fun x33 => S.bd (stv s31 2 x33 x28) fun s34 => S.bd (bld [(Go.Value.int Go.IntKind.i64 0), (Go.Value.int Go.IntKind.i64 0)] []) fun x35 => S.bd (stl c2 0 2 x35) fun c36 => S.bd (lal c36 0 2) fun x37 => some ((Value.tuple ⟨[x37, (Go.Value.bool Bool.false), (Go.Value.int Go.IntKind.i64 0)]⟩), s34)) (S.bd (nck a0) fun x38 => S.bd (fld 3 x38) fun x39 => S.bd (ldc s x39) fun x40 => S.bd (idx s 2 x40 (Go.Value.int Go.IntKind.i64 0)) fun x41 => S.bd (lda s 2 x41) fun x42 => S.bd (nck a0) fun x43 => S.bd (fld 1 x43) fun x44 => S.bd (stv s 2 x44 x42) fun s45 => S.bd (S.bd (bls 2 (List.replicate 0 [(Go.Value.int Go.IntKind.i64 0), (Go.Value.int Go.IntKind.i64 0)]) []) fun rows => als s45 2 0 rows) fun r46 => S.bd (nck a0) fun x47 => S.bd (fld 3 x47) fun x48 => S.bd (ldc r46.2 x48) fun x49 => S.bd (slc r46.2 2 x49 (some (Go.Value.int Go.IntKind.i64 1)) none none) fun x50 => S.bd (app r46.2 2 16 r46.1 x50) fun r51 => S.bd (nck a0) fun x52 => S.bd (fld 3 x52) fun x53 => S.bd (stv r51.2 1 x53 r51.1) fun s54 => S.bd (nck a0) fun x55 => S.bd (fld 1 x55) fun x56 => S.bd (lda s54 2 x56) fun x57 => S.bd (stl c2 0 2 x57) fun c58 => S.bd (lal c58 0 2) fun x59 => some ((Value.tuple ⟨[x59, (Go.Value.bool Bool.true), (Go.Value.int Go.IntKind.i64 0)]⟩), s54)))

def leapfrogref07x_Lock_Free.t (S : Sig) (a0 a1 : Value) (s : St) : Option (Value × St) :=
  S.bd (bx a1) fun c1 => S.bd (bx (Go.Value.agg #[(Go.Value.int Go.IntKind.i64 0), (Go.Value.int Go.IntKind.i64 0)])) fun c2 => S.bd (lal c1 0 2) fun x3 => S.bd (leapfrogref07x_IsOwner.r x3 s) fun x4 => S.bd (un .not x4) fun x5 => S.cnd x5 (S.bd (bld [(Go.Value.int Go.IntKind.i64 0), (Go.Value.int Go.IntKind.i64 0)] []) fun x6 => S.bd (stl c2 0 2 x6) fun c7 => S.bd (lal c7 0 2) fun x8 => some ((Value.tuple ⟨[x8, (Go.Value.bool Bool.false), (Go.Value.int Go.IntKind.i64 70)]⟩), s)) (S.bd (nck a0) fun x9 => S.bd (fld 0 x9) fun x10 => S.bd (ldc s x10) fun x11 => S.bd (un .not x11) fun x12 => S.bd (S.gd x12 false (some a0)) fun x13 => S.bd (S.gd x12 false (nck x13)) fun x14 => S.bd (S.gd x12 false (fld 1 x14)) fun x15 => S.bd (S.gd x12 false (lda s 2 x15)) fun x16 => S.bd (S.gd x12 false (lal c1 0 2)) fun x17 => leapfrogref07x_Lock_Free.t.p1 S x12 x16 x17 c2 s a0)
def leapfrogref07x_Lock_Free.v (a0 a1 : Value) (s : St) : Option (Value × St) := leapfrogref07x_Lock_Free.t std a0 a1 s
def leapfrogref07x_Lock_Free.w : List Value → St → Option (Value × St)
  | [a0, a1], s => leapfrogref07x_Lock_Free.v a0 a1 s
  | _, _ => none
def leapfrogref07x_Lock_Free.an : An := ⟨62, false, [3, 4], [], [], [(3, [(0, 0, [], []), (1, 0, [], []), (2, 0, [], []), (3, 2, [], []), (4, 0, [], []), (5, 0, [], []), (6, 0, [], []), (7, 0, [], []), (8, 0, [], []), (9, 2, [], []), (10, 25, [], []), (11, 0, [], []), (12, 0, [], [])])], [], []⟩
theorem leapfrogref07x_Lock_Free.ok (S : Sig) (a0 a1 : Value) (s : St) : evF S Try.prog leapfrogref07x_Lock_Free.ctx leapfrogref07x_Lock_Free.an Try.f93 [a0, a1] s = leapfrogref07x_Lock_Free.t S a0 a1 s := by kernel_rfl
theorem leapfrogref07x_Lock_Free.cok : CtxOk Try.prog leapfrogref07x_Lock_Free.ctx := .cons leapfrogref07x_IsOwner.sound leapfrogref07x_IsOwner.can <| .nil
theorem leapfrogref07x_Lock_Free.draws : fnDraws leapfrogref07x_Lock_Free.an Try.f93 = true := by kernel_rfl
theorem leapfrogref07x_Lock_Free.can : callOk Try.prog 93 = true := by kernel_rfl
theorem leapfrogref07x_Lock_Free.sound : FnOk Try.prog 93 (.st leapfrogref07x_Lock_Free.w) := FnOk.st_of (evF_ok leapfrogref07x_Lock_Free.cok mixed (f := 93) (fn := Try.f93) (by kernel_rfl) leapfrogref07x_Lock_Free.draws) fun args s r h => by
  unfold leapfrogref07x_Lock_Free.w at h; split at h
  · rw [leapfrogref07x_Lock_Free.ok std]; exact h
  · simp at h

/-! ### leapfrog/leapfrogref09.ok: function 94 -/
def leapfrogref09x_ok.ctx : Ctx := []
def leapfrogref09x_ok.t (S : Sig) (s : St) : Option Value :=
  S.bd (bx (Go.Value.agg #[(Go.Value.int Go.IntKind.i64 0), (Go.Value.bool Bool.false), (Go.Value.int Go.IntKind.i64 0), (Go.Value.int Go.IntKind.i64 0), (Go.Value.int Go.IntKind.u64 0), (Go.Value.int Go.IntKind.i64 0), (Go.Value.int Go.IntKind.u64 0), (Go.Value.int Go.IntKind.i64 0), (Go.Value.int Go.IntKind.i64 0), (Go.Value.int Go.IntKind.u64 0), (Go.Value.int Go.IntKind.i64 0), (Go.Value.int Go.IntKind.u64 0), (Go.Value.slice Option.none 0 0)])) fun c1 => S.bd (bld [(Go.Value.int Go.IntKind.i64 0), (Go.Value.bool Bool.false), (Go.Value.int Go.IntKind.i64 0), (Go.Value.int Go.IntKind.i64 0), (Go.Value.int Go.IntKind.u64 0), (Go.Value.int Go.IntKind.i64 0), (Go.Value.int Go.IntKind.u64 0), (Go.Value.int Go.IntKind.i64 0), (Go.Value.int Go.IntKind.i64 0), (Go.Value.int Go.IntKind.u64 0), (Go.Value.int Go.IntKind.i64 0), (Go.Value.int Go.IntKind.u64 0), (Go.Value.slice Option.none 0 0)] [(0, 1, (Go.Value.int Go.IntKind.i64 1))]) fun x2 => S.bd (stl c1 0 13 x2) fun c3 => S.bd (lal c3 0 13) fun x4 => some (x4)
def leapfrogref09x_ok.r (s : St) : Option Value := leapfrogref09x_ok.t std  s
def leapfrogref09x_ok.w : List Value → St → Option Value
  | [], s => leapfrogref09x_ok.r  s
  | _, _ => none
def leapfrogref09x_ok.an : An := ⟨2, true, [0], [], [], [], [], []⟩
theorem leapfrogref09x_ok.ok (S : Sig) (s : St) : evG S Try.prog leapfrogref09x_ok.ctx leapfrogref09x_ok.an Try.f94 [] s = leapfrogref09x_ok.t S  s := by kernel_rfl
theorem leapfrogref09x_ok.cok : CtxOk Try.prog leapfrogref09x_ok.ctx := .nil
theorem leapfrogref09x_ok.draws : fnDraws leapfrogref09x_ok.an Try.f94 = true := by kernel_rfl
theorem leapfrogref09x_ok.can : callOk Try.prog 94 = true := by kernel_rfl
theorem leapfrogref09x_ok.sound : FnOk Try.prog 94 (.rd leapfrogref09x_ok.w) := FnOk.rd_of (evG_ok leapfrogref09x_ok.cok mixed (f := 94) (fn := Try.f94) (by kernel_rfl) leapfrogref09x_ok.draws) fun args s r h => by
  unfold leapfrogref09x_ok.w at h; split at h
  · rw [leapfrogref09x_ok.ok std]; exact h
  · simp at h

/-! ### (*leapfrog/leapfrogref09.Peer).answer: function 95 -/
def leapfrogref09x_Peer_answer.ctx : Ctx := []
def leapfrogref09x_Peer_answer.l4.p1 (S : Sig) (x52 : Value) (c50 : List Value) (xs36 : List Value) (s37 : St) (rec38 : List Value → St → Option Cut) : Option Cut :=
  S.bd (S.gd x52 true (lal c50 2 2)) fun x53 => S.bd (S.gd x52 true (lal (cellsA (xs36.getD 4 undef)) 0 2)) fun x54 => S.bd (S.gd x52 true (eqb [1, 1] true false x53 x54)) fun x55 => S.bd (pik x52 x55 (Go.Value.bool Bool.false)) fun x56 => S.bd (S.gd x56 true (lal c50 4 2)) fun x57 => S.bd (S.gd x56 true (lal (cellsA (xs36.getD 5 undef)) 0 2)) fun x58 => S.bd (S.gd x56 true (eqb [1, 1] true false x57 x58)) fun x59 => S.bd (pik x56 x59 (Go.Value.bool Bool.false)) fun x60 => S.cnd x60 (S.bd (lcl c50 0) fun x61 => S.bd (lal (cellsA (xs36.getD 6 undef)) 0 13) fun x62 => S.bd (bld [(Go.Value.int Go.IntKind.i64 0), (Go.Value.int Go.IntKind.i64 0), (Go.Value.bool Bool.false), (Go.Value.int Go.IntKind.i64 0), (Go.Value.int Go.IntKind.i64 0), (Go.Value.int Go.IntKind.u64 0), (Go.Value.int Go.IntKind.i64 0), (Go.Value.int Go.IntKind.u64 0), (Go.Value.int Go.IntKind.i64 0), (Go.Value.int Go.IntKind.i64 0), (Go.Value.int Go.IntKind.u64 0), (Go.Value.int Go.IntKind.i64 0), (Go.Value.int Go.IntKind.u64 0), (Go.Value.slice Option.none 0 0)] [(0, 1, x61), (1, 13, x62)]) fun x63 => S.bd (S.bd (bls 14 (List.replicate 1 [(Go.Value.int Go.IntKind.i64 0), (Go.Value.int Go.IntKind.i64 0), (Go.Value.bool Bool.false), (Go.Value.int Go.IntKind.i64 0), (Go.Value.int Go.IntKind.i64 0), (Go.Value.int Go.IntKind.u64 0), (Go.Value.int Go.IntKind.i64 0), (Go.Value.int Go.IntKind.u64 0), (Go.Value.int Go.IntKind.i64 0), (Go.Value.int Go.IntKind.i64 0), (Go.Value.int Go.IntKind.u64 0), (Go.Value.int Go.IntKind.i64 0), (Go.Value.int Go.IntKind.u64 0), (Go.Value.slice Option.none 0 0)]) [(0, x63)]) fun rows => als s37 14 1 rows) fun r64 => S.bd (app r64.2 14 128 (xs36.getD 2 undef) r64.1) fun r65 => S.bd (bin .add (xs36.getD 3 undef) (Go.Value.int Go.IntKind.i64 1)) fun x66 => rec38 [(xs36.getD 0 undef), (xs36.getD 1 undef), r65.1, x66, (Value.agg ⟨(cellsA (xs36.getD 4 undef))⟩), (Value.agg ⟨(cellsA (xs36.getD 5 undef))⟩), (Value.agg ⟨(cellsA (xs36.getD 6 undef))⟩)] r65.2) (S.bd (lal c50 0 6) fun x67 => S.bd (S.bd (bls 6 (List.replicate 1 [(Go.Value.int Go.IntKind.i64 0), (Go.Value.bool Bool.false), (Go.Value.int Go.IntKind.i64 0), (Go.Value.int Go.IntKind.u64 0), (Go.Value.int Go.IntKind.i64 0), (Go.Value.int Go.IntKind.i64 0)]) [(0, x67)]) fun rows => als s37 6 1 rows) fun r68 => S.bd (app r68.2 6 48 (xs36.getD 1 undef) r68.1) fun r69 => S.bd (bin .add (xs36.getD 3 undef) (Go.Value.int Go.IntKind.i64 1)) fun x70 => rec38 [(xs36.getD 0 undef), r69.1, (xs36.getD 2 undef), x70, (Value.agg ⟨(cellsA (xs36.getD 4 undef))⟩), (Value.agg ⟨(cellsA (xs36.getD 5 undef))⟩), (Value.agg ⟨(cellsA (xs36.getD 6 undef))⟩)] r69.2)

def leapfrogref09x_Peer_answer.l4 (S : Sig) (rec38 : List Value → St → Option Cut) (xs36 : List Value) (s37 : St) : Option Cut :=
  S.bd (nck (xs36.getD 0 undef)) fun x39 => S.bd (fld 10 x39) fun x40 => S.bd (ldc s37 x40) fun x41 => S.bd (lenL x41) fun x42 => S.bd (bin .lss (xs36.getD 3 undef) x42) fun x43 => S.cnd x43 (S.bd (nck (xs36.getD 0 undef)) fun x44 => S.bd (fld 10 x44) fun x45 => S.bd (ldc s37 x45) fun x46 => S.bd (idx s37 6 x46 (xs36.getD 3 undef)) fun x47 => S.bd (lda s37 6 x47) fun x48 => S.bd (bx (Go.Value.agg #[(Go.Value.int Go.IntKind.i64 0), (Go.Value.bool Bool.false), (Go.Value.int Go.IntKind.i64 0), (Go.Value.int Go.IntKind.u64 0), (Go.Value.int Go.IntKind.i64 0), (Go.Value.int Go.IntKind.i64 0)])) fun c49 => S.bd (stl c49 0 6 x48) fun c50 => S.bd (lcl c50 1) fun x51 => S.bd (un .not x51) fun x52 => leapfrogref09x_Peer_answer.l4.p1 S x52 c50 xs36 s37 rec38) (some (0, [(xs36.getD 0 undef), (xs36.getD 1 undef), (xs36.getD 2 undef)], s37))

def leapfrogref09x_Peer_answer.t (S : Sig) (a0 a1 a2 a3 : Value) (s : St) : Option (Value × St) :=
  S.bd (bx a1) fun c1 => S.bd (bx a2) fun c2 => S.bd (bx a3) fun c3 => S.bd (S.it (leapfrogref09x_Peer_answer.l4 S) [a0, (Go.Value.slice Option.none 0 0), (Go.Value.slice Option.none 0 0), (Go.Value.int Go.IntKind.i64 0), (Value.agg ⟨c1⟩), (Value.agg ⟨c2⟩), (Value.agg ⟨c3⟩)] s) fun r71 => S.bd (nck (r71.2.1.getD 0 undef)) fun x72 => S.bd (fld 10 x72) fun x73 => S.bd (stv r71.2.2 1 x73 (r71.2.1.getD 1 undef)) fun s74 => some ((r71.2.1.getD 2 undef), s74)
def leapfrogref09x_Peer_answer.v (a0 a1 a2 a3 : Value) (s : St) : Option (Value × St) := leapfrogref09x_Peer_answer.t std a0 a1 a2 a3 s
def leapfrogref09x_Peer_answer.w : List Value → St → Option (Value × St)
  | [a0, a1, a2, a3], s => leapfrogref09x_Peer_answer.v a0 a1 a2 a3 s
  | _, _ => none
def leapfrogref09x_Peer_answer.an : An := ⟨60, false, [5, 6, 7, 12], [(4, ⟨[.v 0, .p 5 5 0, .p 6 6 0, .p 7 7 0, .v 9, .v 10, .v 11, .l 5, .l 6, .l 7], [(.exit 0, [.v 0, .v 9, .v 10])]⟩)], [], [], [], []⟩
theorem leapfrogref09x_Peer_answer.ok (S : Sig) (a0 a1 a2 a3 : Value) (s : St) : evF S Try.prog leapfrogref09x_Peer_answer.ctx leapfrogref09x_Peer_answer.an Try.f95 [a0, a1, a2, a3] s = leapfrogref09x_Peer_answer.t S a0 a1 a2 a3 s := by kernel_rfl
theorem leapfrogref09x_Peer_answer.cok : CtxOk Try.prog leapfrogref09x_Peer_answer.ctx := .nil
theorem leapfrogref09x_Peer_answer.draws : fnDraws leapfrogref09x_Peer_answer.an Try.f95 = true := by kernel_rfl
theorem leapfrogref09x_Peer_answer.can : callOk Try.prog 95 = true := by kernel_rfl
theorem leapfrogref09x_Peer_answer.sound : FnOk Try.prog 95 (.st leapfrogref09x_Peer_answer.w) := FnOk.st_of (evF_ok leapfrogref09x_Peer_answer.cok mixed (f := 95) (fn := Try.f95) (by kernel_rfl) leapfrogref09x_Peer_answer.draws) fun args s r h => by
  unfold leapfrogref09x_Peer_answer.w at h; split at h
  · rw [leapfrogref09x_Peer_answer.ok std]; exact h
  · simp at h

/-! ### (*leapfrog/leapfrogref09.Peer).free: function 69 -/
def leapfrogref09x_Peer_free.ctx : Ctx := [(64, .rd leapfrogref09x_Peer_rec.w), (91, .rd leapfrogref09x_no.w), (65, .st leapfrogref09x_told.w), (93, .st leapfrogref07x_Lock_Free.w), (92, .st leapfrogref09x_Peer_set.w), (94, .rd leapfrogref09x_ok.w), (67, .rd leapfrogref09x_Peer_of.w), (95, .st leapfrogref09x_Peer_answer.w)]
def leapfrogref09x_Peer_free.t (S : Sig) (a0 a1 a2 : Value) (s : St) : Option (Value × St) :=
  S.bd (bx a2) fun c1 => S.bd (lal c1 1 2) fun x2 => S.bd (leapfrogref09x_Peer_rec.r a0 x2 s) fun x3 => S.bd (xtr 0 x3) fun x4 => S.bd (xtr 1 x3) fun x5 => S.bd (alv s (Go.Value.agg #[(Go.Value.int Go.IntKind.i64 0), (Go.Value.int Go.IntKind.u64 0), (Go.Value.int Go.IntKind.i64 0), (Go.Value.int Go.IntKind.i64 0), (Go.Value.int Go.IntKind.u64 0), (Go.Value.int Go.IntKind.i64 0), (Go.Value.int Go.IntKind.u64 0), (Go.Value.int Go.IntKind.i64 0), (Go.Value.int Go.IntKind.i64 0), (Go.Value.int Go.IntKind.u64 0), (Go.Value.int Go.IntKind.i64 0), (Go.Value.int Go.IntKind.u64 0), (Go.Value.bool Bool.false), (Go.Value.int Go.IntKind.i64 0), (Go.Value.int Go.IntKind.i64 0), (Go.Value.slice Option.none 0 0)])) fun r6 => S.bd (stv r6.2 16 r6.1 x4) fun s7 => S.bd (un .not x5) fun x8 => S.cnd x8 (S.bd (leapfrogref09x_no.r  s7) fun x9 => S.bd (leapfrogref09x_told.v a1 x9 s7) fun r10 => some (r10.1, r10.2)) (S.bd (fld 12 r6.1) fun x11 => S.bd (lal c1 13 2) fun x12 => S.bd (leapfrogref07x_Lock_Free.v x11 x12 s7) fun r13 => S.bd (xtr 0 r13.1) fun x14 => S.bd (xtr 1 r13.1) fun x15 => S.bd (xtr 2 r13.1) fun x16 => S.bd (bx (Go.Value.agg #[(Go.Value.int Go.IntKind.i64 0), (Go.Value.int Go.IntKind.i64 0)])) fun c17 => S.bd (stl c17 0 2 x14) fun c18 => S.bd (eqb [1] false true x16 (Go.Value.int Go.IntKind.i64 0)) fun x19 => S.cnd x19 (S.bd (leapfrogref09x_no.r  r13.2) fun x20 => S.bd (leapfrogref09x_told.v a1 x20 r13.2) fun r21 => some (r21.1, r21.2)) (S.bd (lda r13.2 16 r6.1) fun x22 => S.bd (leapfrogref09x_Peer_set.v a0 x22 r13.2) fun r23 => S.bd (leapfrogref09x_ok.r  r23.2) fun x24 => S.bd (leapfrogref09x_told.v a1 x24 r23.2) fun r25 => S.cnd x15 (S.bd (lal c1 1 2) fun x26 => S.bd (lal c18 0 2) fun x27 => S.bd (lda r25.2 16 r6.1) fun x28 => S.bd (leapfrogref09x_Peer_of.r a0 x28 r25.2) fun x29 => S.bd (leapfrogref09x_Peer_answer.v a0 x26 x27 x29 r25.2) fun r30 => S.bd (app r30.2 14 128 r25.1 r30.1) fun r31 => some (r31.1, r31.2)) (some (r25.1, r25.2))))
def leapfrogref09x_Peer_free.v (a0 a1 a2 : Value) (s : St) : Option (Value × St) := leapfrogref09x_Peer_free.t std a0 a1 a2 s
def leapfrogref09x_Peer_free.w : List Value → St → Option (Value × St)
  | [a0, a1, a2], s => leapfrogref09x_Peer_free.v a0 a1 a2 s
  | _, _ => none
def leapfrogref09x_Peer_free.an : An := ⟨56, false, [5, 9], [], [], [(10, [(0, 0, [], []), (1, 0, [], []), (2, 0, [], []), (3, 41, [], []), (4, 73, [], []), (5, 0, [], []), (6, 2, [], []), (7, 3, [], []), (8, 4, [], []), (9, 4, [], []), (10, 0, [], [])])], [], []⟩
theorem leapfrogref09x_Peer_free.ok (S : Sig) (a0 a1 a2 : Value) (s : St) : evF S Try.prog leapfrogref09x_Peer_free.ctx leapfrogref09x_Peer_free.an Try.f69 [a0, a1, a2] s = leapfrogref09x_Peer_free.t S a0 a1 a2 s := by kernel_rfl
theorem leapfrogref09x_Peer_free.cok : CtxOk Try.prog leapfrogref09x_Peer_free.ctx := .cons leapfrogref09x_Peer_rec.sound leapfrogref09x_Peer_rec.can <| .cons leapfrogref09x_no.sound leapfrogref09x_no.can <| .cons leapfrogref09x_told.sound leapfrogref09x_told.can <| .cons leapfrogref07x_Lock_Free.sound leapfrogref07x_Lock_Free.can <| .cons leapfrogref09x_Peer_set.sound leapfrogref09x_Peer_set.can <| .cons leapfrogref09x_ok.sound leapfrogref09x_ok.can <| .cons leapfrogref09x_Peer_of.sound leapfrogref09x_Peer_of.can <| .cons leapfrogref09x_Peer_answer.sound leapfrogref09x_Peer_answer.can <| .nil
theorem leapfrogref09x_Peer_free.draws : fnDraws leapfrogref09x_Peer_free.an Try.f69 = true := by kernel_rfl
theorem leapfrogref09x_Peer_free.can : callOk Try.prog 69 = true := by kernel_rfl
theorem leapfrogref09x_Peer_free.sound : FnOk Try.prog 69 (.st leapfrogref09x_Peer_free.w) := FnOk.st_of (evF_ok leapfrogref09x_Peer_free.cok mixed (f := 69) (fn := Try.f69) (by kernel_rfl) leapfrogref09x_Peer_free.draws) fun args s r h => by
  unfold leapfrogref09x_Peer_free.w at h; split at h
  · rw [leapfrogref09x_Peer_free.ok std]; exact h
  · simp at h


end
end Go.Proofs.Yteiagjbjokldgaa
