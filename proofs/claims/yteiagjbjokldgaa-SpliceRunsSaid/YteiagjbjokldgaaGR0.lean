/-
  What the functions answer that SpliceRuns, SpliceFrees, SpliceRises reaches (part 0): for each function of the program a plain function over abstract values, and that the model answers as it does.
-/
import Derived.Test.YteiagjbjokldgaaSimZ
import Derived.Test.YteiagjbjokldgaaProg
import Derived.KernelRfl
set_option linter.unusedVariables false
set_option maxRecDepth 100000
namespace Go.Proofs.Yteiagjbjokldgaa
open Go.Sim
noncomputable section
theorem mixed : Try.prog.follows .mixedOrders = true := by kernel_rfl
/-! ### (*leapfrog/splice.Splice).end: function 47 -/
def splice_Splice_end.ctx : Ctx := []
def splice_Splice_end.t (S : Sig) (a0 a1 : Value) (s : St) : Option (Value × St) :=
  S.bd (bx a1) fun c1 => S.bd (lal c1 0 15) fun x2 => S.bd (nck a0) fun x3 => S.bd (fld 14 x3) fun x4 => S.bd (stv s 1 x4 (Go.Value.int Go.IntKind.i64 10)) fun s5 => S.bd (nck a0) fun x6 => S.bd (fld 29 x6) fun x7 => S.bd (stv s5 15 x7 x2) fun s8 => some ((Value.tuple ⟨[]⟩), s8)
def splice_Splice_end.v (a0 a1 : Value) (s : St) : Option (Value × St) := splice_Splice_end.t std a0 a1 s
def splice_Splice_end.w : List Value → St → Option (Value × St)
  | [a0, a1], s => splice_Splice_end.v a0 a1 s
  | _, _ => none
def splice_Splice_end.an : An := ⟨11, false, [3], [], [], [(1, [(0, 0, [], []), (1, 0, [], []), (2, 25, [], []), (3, 0, [], []), (4, 0, [], []), (5, 4, [], []), (6, 0, [], []), (7, 0, [], []), (8, 4, [], [])])]⟩
theorem splice_Splice_end.ok (S : Sig) (a0 a1 : Value) (s : St) : evF S Try.prog splice_Splice_end.ctx splice_Splice_end.an Try.f47 [a0, a1] s = splice_Splice_end.t S a0 a1 s := by kernel_rfl
theorem splice_Splice_end.cok : CtxOk Try.prog splice_Splice_end.ctx := .nil
theorem splice_Splice_end.draws : fnDraws splice_Splice_end.an Try.f47 = true := by kernel_rfl
theorem splice_Splice_end.can : callOk Try.prog 47 = true := by kernel_rfl
theorem splice_Splice_end.sound : FnOk Try.prog 47 (.st splice_Splice_end.w) := FnOk.st_of (evF_ok splice_Splice_end.cok mixed (f := 47) (fn := Try.f47) (by kernel_rfl) splice_Splice_end.draws) fun args s r h => by
  unfold splice_Splice_end.w at h; split at h
  · rw [splice_Splice_end.ok std]; exact h
  · simp at h

/-! ### (*leapfrog/splice.Splice).Tell$1: function 46 -/
def splice_Splice_Tell_fn1.ctx : Ctx := [(47, .st splice_Splice_end.w)]
def splice_Splice_Tell_fn1.t (S : Sig) (a0 : Value) (s : St) : Option (Value × St) :=
  S.bd (ldc s a0) fun x1 => S.bd (ldc s a0) fun x2 => S.bd (nck x2) fun x3 => S.bd (fld 15 x3) fun x4 => S.bd (lda s 5 x4) fun x5 => S.bd (ldc s a0) fun x6 => S.bd (nck x6) fun x7 => S.bd (fld 21 x7) fun x8 => S.bd (lda s 5 x8) fun x9 => S.bd (bld [(Go.Value.int Go.IntKind.i64 0), (Go.Value.int Go.IntKind.u64 0), (Go.Value.slice Option.none 0 0), (Go.Value.slice Option.none 0 0), (Go.Value.int Go.IntKind.i64 0), (Go.Value.int Go.IntKind.i64 0), (Go.Value.int Go.IntKind.u64 0), (Go.Value.int Go.IntKind.i64 0), (Go.Value.int Go.IntKind.u64 0), (Go.Value.int Go.IntKind.i64 0), (Go.Value.int Go.IntKind.i64 0), (Go.Value.int Go.IntKind.u64 0), (Go.Value.int Go.IntKind.i64 0), (Go.Value.int Go.IntKind.u64 0), (Go.Value.bool Bool.false)] [(0, 1, (Go.Value.int Go.IntKind.i64 100)), (4, 5, x5), (9, 5, x9)]) fun x10 => S.bd (splice_Splice_end.v x1 x10 s) fun r11 => S.bd (ldc r11.2 a0) fun x12 => S.cnd (Value.bool (sameV x12 x2)) (S.bd (lda r11.2 5 x4) fun x13 => S.cnd (Value.bool (sameV x13 x5)) (S.bd (ldc r11.2 a0) fun x14 => S.cnd (Value.bool (sameV x14 x6)) (S.bd (lda r11.2 5 x8) fun x15 => S.cnd (Value.bool (sameV x15 x9)) (some ((Value.tuple ⟨[]⟩), r11.2)) (none)) (none)) (none)) (none)
def splice_Splice_Tell_fn1.v (a0 : Value) (s : St) : Option (Value × St) := splice_Splice_Tell_fn1.t std a0 s
def splice_Splice_Tell_fn1.w : List Value → St → Option (Value × St)
  | [a0], s => splice_Splice_Tell_fn1.v a0 s
  | _, _ => none
def splice_Splice_Tell_fn1.an : An := ⟨12, false, [], [], [], [(0, [(0, 2, [], []), (1, 2, [], []), (2, 0, [], []), (3, 0, [], []), (4, 2, [], []), (5, 2, [], []), (6, 0, [], []), (7, 0, [], []), (8, 2, [], []), (9, 0, [], []), (10, 4, [1, 4, 5, 8], [])])]⟩
theorem splice_Splice_Tell_fn1.ok (S : Sig) (a0 : Value) (s : St) : evF S Try.prog splice_Splice_Tell_fn1.ctx splice_Splice_Tell_fn1.an Try.f46 [a0] s = splice_Splice_Tell_fn1.t S a0 s := by kernel_rfl
theorem splice_Splice_Tell_fn1.cok : CtxOk Try.prog splice_Splice_Tell_fn1.ctx := .cons splice_Splice_end.sound splice_Splice_end.can <| .nil
theorem splice_Splice_Tell_fn1.draws : fnDraws splice_Splice_Tell_fn1.an Try.f46 = true := by kernel_rfl
theorem splice_Splice_Tell_fn1.can : callOk Try.prog 46 = true := by kernel_rfl
theorem splice_Splice_Tell_fn1.sound : FnOk Try.prog 46 (.st splice_Splice_Tell_fn1.w) := FnOk.st_of (evF_ok splice_Splice_Tell_fn1.cok mixed (f := 46) (fn := Try.f46) (by kernel_rfl) splice_Splice_Tell_fn1.draws) fun args s r h => by
  unfold splice_Splice_Tell_fn1.w at h; split at h
  · rw [splice_Splice_Tell_fn1.ok std]; exact h
  · simp at h

/-! ### (*leapfrog/splice.Splice).wait$1: function 80 -/
def splice_Splice_wait_fn1.ctx : Ctx := []
def splice_Splice_wait_fn1.t (S : Sig) (a0 : Value) (s : St) : Option (Value × St) :=
  S.bd (ldc s a0) fun x1 => S.bd (nck x1) fun x2 => S.bd (fld 14 x2) fun x3 => S.bd (stv s 1 x3 (Go.Value.int Go.IntKind.i64 9)) fun s4 => some ((Value.tuple ⟨[]⟩), s4)
def splice_Splice_wait_fn1.v (a0 : Value) (s : St) : Option (Value × St) := splice_Splice_wait_fn1.t std a0 s
def splice_Splice_wait_fn1.w : List Value → St → Option (Value × St)
  | [a0], s => splice_Splice_wait_fn1.v a0 s
  | _, _ => none
def splice_Splice_wait_fn1.an : An := ⟨4, false, [], [], [], []⟩
theorem splice_Splice_wait_fn1.ok (S : Sig) (a0 : Value) (s : St) : evF S Try.prog splice_Splice_wait_fn1.ctx splice_Splice_wait_fn1.an Try.f80 [a0] s = splice_Splice_wait_fn1.t S a0 s := by kernel_rfl
theorem splice_Splice_wait_fn1.cok : CtxOk Try.prog splice_Splice_wait_fn1.ctx := .nil
theorem splice_Splice_wait_fn1.draws : fnDraws splice_Splice_wait_fn1.an Try.f80 = true := by kernel_rfl
theorem splice_Splice_wait_fn1.can : callOk Try.prog 80 = true := by kernel_rfl
theorem splice_Splice_wait_fn1.sound : FnOk Try.prog 80 (.st splice_Splice_wait_fn1.w) := FnOk.st_of (evF_ok splice_Splice_wait_fn1.cok mixed (f := 80) (fn := Try.f80) (by kernel_rfl) splice_Splice_wait_fn1.draws) fun args s r h => by
  unfold splice_Splice_wait_fn1.w at h; split at h
  · rw [splice_Splice_wait_fn1.ok std]; exact h
  · simp at h

/-! ### (*leapfrog/splice.Splice).done$1: function 81 -/
def splice_Splice_done_fn1.ctx : Ctx := [(47, .st splice_Splice_end.w)]
def splice_Splice_done_fn1.t (S : Sig) (a0 a1 : Value) (s : St) : Option (Value × St) :=
  S.bd (ldc s a0) fun x1 => S.bd (lda s 15 a1) fun x2 => S.bd (splice_Splice_end.v x1 x2 s) fun r3 => some ((Value.tuple ⟨[]⟩), r3.2)
def splice_Splice_done_fn1.v (a0 a1 : Value) (s : St) : Option (Value × St) := splice_Splice_done_fn1.t std a0 a1 s
def splice_Splice_done_fn1.w : List Value → St → Option (Value × St)
  | [a0, a1], s => splice_Splice_done_fn1.v a0 a1 s
  | _, _ => none
def splice_Splice_done_fn1.an : An := ⟨5, false, [], [], [], []⟩
theorem splice_Splice_done_fn1.ok (S : Sig) (a0 a1 : Value) (s : St) : evF S Try.prog splice_Splice_done_fn1.ctx splice_Splice_done_fn1.an Try.f81 [a0, a1] s = splice_Splice_done_fn1.t S a0 a1 s := by kernel_rfl
theorem splice_Splice_done_fn1.cok : CtxOk Try.prog splice_Splice_done_fn1.ctx := .cons splice_Splice_end.sound splice_Splice_end.can <| .nil
theorem splice_Splice_done_fn1.draws : fnDraws splice_Splice_done_fn1.an Try.f81 = true := by kernel_rfl
theorem splice_Splice_done_fn1.can : callOk Try.prog 81 = true := by kernel_rfl
theorem splice_Splice_done_fn1.sound : FnOk Try.prog 81 (.st splice_Splice_done_fn1.w) := FnOk.st_of (evF_ok splice_Splice_done_fn1.cok mixed (f := 81) (fn := Try.f81) (by kernel_rfl) splice_Splice_done_fn1.draws) fun args s r h => by
  unfold splice_Splice_done_fn1.w at h; split at h
  · rw [splice_Splice_done_fn1.ok std]; exact h
  · simp at h

/-! ### (*leapfrog/splice.Splice).fail$1: function 82 -/
def splice_Splice_fail_fn1.ctx : Ctx := [(47, .st splice_Splice_end.w)]
def splice_Splice_fail_fn1.t (S : Sig) (a0 a1 : Value) (s : St) : Option (Value × St) :=
  S.bd (ldc s a0) fun x1 => S.bd (ldc s a1) fun x2 => S.bd (bld [(Go.Value.int Go.IntKind.i64 0), (Go.Value.int Go.IntKind.u64 0), (Go.Value.slice Option.none 0 0), (Go.Value.slice Option.none 0 0), (Go.Value.int Go.IntKind.i64 0), (Go.Value.int Go.IntKind.i64 0), (Go.Value.int Go.IntKind.u64 0), (Go.Value.int Go.IntKind.i64 0), (Go.Value.int Go.IntKind.u64 0), (Go.Value.int Go.IntKind.i64 0), (Go.Value.int Go.IntKind.i64 0), (Go.Value.int Go.IntKind.u64 0), (Go.Value.int Go.IntKind.i64 0), (Go.Value.int Go.IntKind.u64 0), (Go.Value.bool Bool.false)] [(0, 1, x2)]) fun x3 => S.bd (splice_Splice_end.v x1 x3 s) fun r4 => some ((Value.tuple ⟨[]⟩), r4.2)
def splice_Splice_fail_fn1.v (a0 a1 : Value) (s : St) : Option (Value × St) := splice_Splice_fail_fn1.t std a0 a1 s
def splice_Splice_fail_fn1.w : List Value → St → Option (Value × St)
  | [a0, a1], s => splice_Splice_fail_fn1.v a0 a1 s
  | _, _ => none
def splice_Splice_fail_fn1.an : An := ⟨6, false, [], [], [], []⟩
theorem splice_Splice_fail_fn1.ok (S : Sig) (a0 a1 : Value) (s : St) : evF S Try.prog splice_Splice_fail_fn1.ctx splice_Splice_fail_fn1.an Try.f82 [a0, a1] s = splice_Splice_fail_fn1.t S a0 a1 s := by kernel_rfl
theorem splice_Splice_fail_fn1.cok : CtxOk Try.prog splice_Splice_fail_fn1.ctx := .cons splice_Splice_end.sound splice_Splice_end.can <| .nil
theorem splice_Splice_fail_fn1.draws : fnDraws splice_Splice_fail_fn1.an Try.f82 = true := by kernel_rfl
theorem splice_Splice_fail_fn1.can : callOk Try.prog 82 = true := by kernel_rfl
theorem splice_Splice_fail_fn1.sound : FnOk Try.prog 82 (.st splice_Splice_fail_fn1.w) := FnOk.st_of (evF_ok splice_Splice_fail_fn1.cok mixed (f := 82) (fn := Try.f82) (by kernel_rfl) splice_Splice_fail_fn1.draws) fun args s r h => by
  unfold splice_Splice_fail_fn1.w at h; split at h
  · rw [splice_Splice_fail_fn1.ok std]; exact h
  · simp at h

/-! ### (*leapfrog/splice.Splice).look$1: function 101 -/
def splice_Splice_look_fn1.ctx : Ctx := []
def splice_Splice_look_fn1.t (S : Sig) (a0 : Value) (s : St) : Option (Value × St) :=
  S.bd (ldc s a0) fun x1 => S.bd (nck x1) fun x2 => S.bd (fld 15 x2) fun x3 => S.bd (lda s 5 x3) fun x4 => S.bd (alv s (Go.Value.agg #[(Go.Value.int Go.IntKind.i64 0), (Go.Value.int Go.IntKind.i64 0), (Go.Value.int Go.IntKind.u64 0), (Go.Value.int Go.IntKind.i64 0), (Go.Value.int Go.IntKind.u64 0)])) fun r5 => S.bd (stv r5.2 5 r5.1 x4) fun s6 => S.bd (ldc s6 a0) fun x7 => S.bd (ldc s6 a0) fun x8 => S.bd (ldc s6 a0) fun x9 => S.bd (ldc s6 a0) fun x10 => S.bd (nck x10) fun x11 => S.bd (fld 21 x11) fun x12 => S.bd (lda s6 5 x12) fun x13 => S.bd (nck x7) fun x14 => S.bd (fld 20 x14) fun x15 => S.bd (stv s6 1 x15 r5.1) fun s16 => S.bd (ldc s16 a0) fun x17 => S.cnd (Value.bool (sameV x17 x8)) (S.bd (ldc s16 a0) fun x18 => S.cnd (Value.bool (sameV x18 x9)) (S.bd (ldc s16 a0) fun x19 => S.cnd (Value.bool (sameV x19 x10)) (S.bd (nck x8) fun x20 => S.bd (fld 15 x20) fun x21 => S.bd (stv s16 5 x21 x13) fun s22 => S.bd (ldc s22 a0) fun x23 => S.cnd (Value.bool (sameV x23 x9)) (S.bd (nck x9) fun x24 => S.bd (fld 14 x24) fun x25 => S.bd (stv s22 1 x25 (Go.Value.int Go.IntKind.i64 1)) fun s26 => some ((Value.tuple ⟨[]⟩), s26)) (none)) (none)) (none)) (none)
def splice_Splice_look_fn1.v (a0 : Value) (s : St) : Option (Value × St) := splice_Splice_look_fn1.t std a0 s
def splice_Splice_look_fn1.w : List Value → St → Option (Value × St)
  | [a0], s => splice_Splice_look_fn1.v a0 s
  | _, _ => none
def splice_Splice_look_fn1.an : An := ⟨19, false, [], [], [], [(1, [(0, 2, [], []), (1, 2, [], []), (2, 2, [], []), (3, 2, [], []), (4, 0, [], []), (5, 0, [], []), (6, 2, [], []), (7, 0, [], []), (8, 0, [], []), (9, 4, [1, 2, 3], []), (10, 0, [], []), (11, 0, [], []), (12, 4, [2], []), (13, 0, [], []), (14, 0, [], []), (15, 4, [], [])])]⟩
theorem splice_Splice_look_fn1.ok (S : Sig) (a0 : Value) (s : St) : evF S Try.prog splice_Splice_look_fn1.ctx splice_Splice_look_fn1.an Try.f101 [a0] s = splice_Splice_look_fn1.t S a0 s := by kernel_rfl
theorem splice_Splice_look_fn1.cok : CtxOk Try.prog splice_Splice_look_fn1.ctx := .nil
theorem splice_Splice_look_fn1.draws : fnDraws splice_Splice_look_fn1.an Try.f101 = true := by kernel_rfl
theorem splice_Splice_look_fn1.can : callOk Try.prog 101 = true := by kernel_rfl
theorem splice_Splice_look_fn1.sound : FnOk Try.prog 101 (.st splice_Splice_look_fn1.w) := FnOk.st_of (evF_ok splice_Splice_look_fn1.cok mixed (f := 101) (fn := Try.f101) (by kernel_rfl) splice_Splice_look_fn1.draws) fun args s r h => by
  unfold splice_Splice_look_fn1.w at h; split at h
  · rw [splice_Splice_look_fn1.ok std]; exact h
  · simp at h

/-! ### leapfrog/vec.low: function 77 -/
def vec_low.ctx : Ctx := []
def vec_low.t (S : Sig) (a0 : Value) (s : St) : Option Value :=
  S.bd (cvi .u64 a0) fun x1 => S.bd (bin .shl (Go.Value.int Go.IntKind.u64 1) x1) fun x2 => S.bd (bin .sub x2 (Go.Value.int Go.IntKind.u64 1)) fun x3 => some (x3)
def vec_low.r (a0 : Value) (s : St) : Option Value := vec_low.t std a0 s
def vec_low.w : List Value → St → Option Value
  | [a0], s => vec_low.r a0 s
  | _, _ => none
def vec_low.an : An := ⟨7, true, [], [], [], []⟩
theorem vec_low.ok (S : Sig) (a0 : Value) (s : St) : evG S Try.prog vec_low.ctx vec_low.an Try.f77 [a0] s = vec_low.t S a0 s := by kernel_rfl
theorem vec_low.cok : CtxOk Try.prog vec_low.ctx := .nil
theorem vec_low.draws : fnDraws vec_low.an Try.f77 = true := by kernel_rfl
theorem vec_low.can : callOk Try.prog 77 = true := by kernel_rfl
theorem vec_low.sound : FnOk Try.prog 77 (.rd vec_low.w) := FnOk.rd_of (evG_ok vec_low.cok mixed (f := 77) (fn := Try.f77) (by kernel_rfl) vec_low.draws) fun args s r h => by
  unfold vec_low.w at h; split at h
  · rw [vec_low.ok std]; exact h
  · simp at h

/-! ### leapfrog/vec.Right: function 37 -/
def vec_Right.ctx : Ctx := [(77, .rd vec_low.w)]
def vec_Right.t (S : Sig) (a0 : Value) (s : St) : Option Value :=
  S.bd (bx a0) fun c1 => S.bd (lcl c1 0) fun x2 => S.bd (bin .lss x2 (Go.Value.int Go.IntKind.i64 0)) fun x3 => S.bd (S.gd x3 false (lcl c1 0)) fun x4 => S.bd (S.gd x3 false (bin .gtr x4 (Go.Value.int Go.IntKind.i64 32))) fun x5 => S.bd (pik x3 (Go.Value.bool Bool.true) x5) fun x6 => S.bd (S.gd x6 false (lcl c1 1)) fun x7 => S.bd (S.gd x6 false (lcl c1 0)) fun x8 => S.bd (S.gd x6 false (vec_low.r x8 s)) fun x9 => S.bd (S.gd x6 false (bin .gtr x7 x9)) fun x10 => S.bd (pik x6 (Go.Value.bool Bool.true) x10) fun x11 => S.cnd x11 (some ((Go.Value.int Go.IntKind.i64 10))) (some ((Go.Value.int Go.IntKind.i64 0)))
def vec_Right.r (a0 : Value) (s : St) : Option Value := vec_Right.t std a0 s
def vec_Right.w : List Value → St → Option Value
  | [a0], s => vec_Right.r a0 s
  | _, _ => none
def vec_Right.an : An := ⟨19, true, [1], [], [], [(1, [(0, 0, [], []), (1, 9, [], []), (2, 0, [], []), (3, 0, [], []), (4, 0, [], []), (5, 9, [], []), (6, 0, [], []), (7, 0, [], []), (8, 0, [], []), (9, 0, [], []), (10, 9, [], []), (11, 0, [], []), (12, 9, [], []), (13, 3, [], []), (14, 0, [], []), (15, 0, [], [])])]⟩
theorem vec_Right.ok (S : Sig) (a0 : Value) (s : St) : evG S Try.prog vec_Right.ctx vec_Right.an Try.f37 [a0] s = vec_Right.t S a0 s := by kernel_rfl
theorem vec_Right.cok : CtxOk Try.prog vec_Right.ctx := .cons vec_low.sound vec_low.can <| .nil
theorem vec_Right.draws : fnDraws vec_Right.an Try.f37 = true := by kernel_rfl
theorem vec_Right.can : callOk Try.prog 37 = true := by kernel_rfl
theorem vec_Right.sound : FnOk Try.prog 37 (.rd vec_Right.w) := FnOk.rd_of (evG_ok vec_Right.cok mixed (f := 37) (fn := Try.f37) (by kernel_rfl) vec_Right.draws) fun args s r h => by
  unfold vec_Right.w at h; split at h
  · rw [vec_Right.ok std]; exact h
  · simp at h

/-! ### leapfrog/vec.prefix: function 75 -/
def vec_prefix.ctx : Ctx := []
def vec_prefix.t (S : Sig) (a0 a1 : Value) (s : St) : Option Value :=
  S.bd (bx a0) fun c1 => S.bd (bx (Go.Value.agg #[(Go.Value.int Go.IntKind.i64 0), (Go.Value.int Go.IntKind.u64 0)])) fun c2 => S.bd (lcl c1 1) fun x3 => S.bd (lcl c1 0) fun x4 => S.bd (bin .sub x4 a1) fun x5 => S.bd (cvi .u64 x5) fun x6 => S.bd (bin .shr x3 x6) fun x7 => S.bd (bld [(Go.Value.int Go.IntKind.i64 0), (Go.Value.int Go.IntKind.u64 0)] [(0, 1, a1), (1, 1, x7)]) fun x8 => S.bd (stl c2 0 2 x8) fun c9 => S.bd (lal c9 0 2) fun x10 => some (x10)
def vec_prefix.r (a0 a1 : Value) (s : St) : Option Value := vec_prefix.t std a0 a1 s
def vec_prefix.w : List Value → St → Option Value
  | [a0, a1], s => vec_prefix.r a0 a1 s
  | _, _ => none
def vec_prefix.an : An := ⟨15, true, [2, 4], [], [], []⟩
theorem vec_prefix.ok (S : Sig) (a0 a1 : Value) (s : St) : evG S Try.prog vec_prefix.ctx vec_prefix.an Try.f75 [a0, a1] s = vec_prefix.t S a0 a1 s := by kernel_rfl
theorem vec_prefix.cok : CtxOk Try.prog vec_prefix.ctx := .nil
theorem vec_prefix.draws : fnDraws vec_prefix.an Try.f75 = true := by kernel_rfl
theorem vec_prefix.can : callOk Try.prog 75 = true := by kernel_rfl
theorem vec_prefix.sound : FnOk Try.prog 75 (.rd vec_prefix.w) := FnOk.rd_of (evG_ok vec_prefix.cok mixed (f := 75) (fn := Try.f75) (by kernel_rfl) vec_prefix.draws) fun args s r h => by
  unfold vec_prefix.w at h; split at h
  · rw [vec_prefix.ok std]; exact h
  · simp at h

/-! ### leapfrog/vec.Begins: function 34 -/
def vec_Begins.ctx : Ctx := [(37, .rd vec_Right.w), (75, .rd vec_prefix.w)]
def vec_Begins.t (S : Sig) (a0 a1 : Value) (s : St) : Option Value :=
  S.bd (bx a0) fun c1 => S.bd (bx a1) fun c2 => S.bd (lal c1 0 2) fun x3 => S.bd (vec_Right.r x3 s) fun x4 => S.bd (eqb [1] false false x4 (Go.Value.int Go.IntKind.i64 0)) fun x5 => S.bd (S.gd x5 true (lal c2 0 2)) fun x6 => S.bd (S.gd x5 true (vec_Right.r x6 s)) fun x7 => S.bd (S.gd x5 true (eqb [1] false false x7 (Go.Value.int Go.IntKind.i64 0))) fun x8 => S.bd (pik x5 x8 (Go.Value.bool Bool.false)) fun x9 => S.bd (S.gd x9 true (lcl c2 0)) fun x10 => S.bd (S.gd x9 true (lcl c1 0)) fun x11 => S.bd (S.gd x9 true (bin .leq x10 x11)) fun x12 => S.bd (pik x9 x12 (Go.Value.bool Bool.false)) fun x13 => S.bd (S.gd x13 true (lal c1 0 2)) fun x14 => S.bd (S.gd x13 true (lcl c2 0)) fun x15 => S.bd (S.gd x13 true (lal c2 0 2)) fun x16 => S.bd (S.gd x13 true (vec_prefix.r x14 x15 s)) fun x17 => S.bd (S.gd x13 true (eqb [1, 1] true false x17 x16)) fun x18 => S.bd (pik x13 x18 (Go.Value.bool Bool.false)) fun x19 => some (x19)
def vec_Begins.r (a0 a1 : Value) (s : St) : Option Value := vec_Begins.t std a0 a1 s
def vec_Begins.w : List Value → St → Option Value
  | [a0, a1], s => vec_Begins.r a0 a1 s
  | _, _ => none
def vec_Begins.an : An := ⟨28, true, [2, 3], [], [], [(1, [(0, 17, [], []), (1, 3, [], []), (2, 0, [], []), (3, 0, [], []), (4, 25, [], []), (5, 3, [], []), (6, 0, [], []), (7, 0, [], []), (8, 0, [], []), (9, 0, [], []), (10, 25, [], []), (11, 0, [], []), (12, 17, [], []), (13, 0, [], []), (14, 0, [], []), (15, 0, [], []), (16, 17, [], []), (17, 0, [], []), (18, 25, [], []), (20, 25, [], []), (19, 3, [], []), (21, 0, [], []), (22, 0, [], []), (23, 0, [], [])])]⟩
theorem vec_Begins.ok (S : Sig) (a0 a1 : Value) (s : St) : evG S Try.prog vec_Begins.ctx vec_Begins.an Try.f34 [a0, a1] s = vec_Begins.t S a0 a1 s := by kernel_rfl
theorem vec_Begins.cok : CtxOk Try.prog vec_Begins.ctx := .cons vec_Right.sound vec_Right.can <| .cons vec_prefix.sound vec_prefix.can <| .nil
theorem vec_Begins.draws : fnDraws vec_Begins.an Try.f34 = true := by kernel_rfl
theorem vec_Begins.can : callOk Try.prog 34 = true := by kernel_rfl
theorem vec_Begins.sound : FnOk Try.prog 34 (.rd vec_Begins.w) := FnOk.rd_of (evG_ok vec_Begins.cok mixed (f := 34) (fn := Try.f34) (by kernel_rfl) vec_Begins.draws) fun args s r h => by
  unfold vec_Begins.w at h; split at h
  · rw [vec_Begins.ok std]; exact h
  · simp at h

/-! ### leapfrog/key.Check: function 35 -/
def key_Check.ctx : Ctx := []
def key_Check.t (S : Sig) (a0 : Value) (s : St) : Option Value :=
  S.bd (bx a0) fun c1 => S.bd (lcl c1 0) fun x2 => S.bd (eqb [1] false false x2 (Go.Value.int Go.IntKind.i64 2)) fun x3 => S.bd (S.gd x3 false (lcl c1 0)) fun x4 => S.bd (S.gd x3 false (eqb [1] false false x4 (Go.Value.int Go.IntKind.i64 1))) fun x5 => S.bd (S.gd x3 false (some x5)) fun x6 => S.bd (S.gd x6 false (lcl c1 0)) fun x7 => S.bd (S.gd x6 false (eqb [1] false false x7 (Go.Value.int Go.IntKind.i64 3))) fun x8 => S.bd (S.gd x3 false (pik x6 (Go.Value.bool Bool.true) x8)) fun x9 => S.bd (S.gd x3 false (some x9)) fun x10 => S.bd (S.gd x10 true (lcl c1 1)) fun x11 => S.bd (S.gd x10 true (eqb [1] false false x11 (Go.Value.int Go.IntKind.u64 0))) fun x12 => S.bd (S.gd x3 false (pik x10 x12 (Go.Value.bool Bool.false))) fun x13 => S.bd (pik x3 (Go.Value.bool Bool.true) x13) fun x14 => S.cnd x14 (some ((Go.Value.int Go.IntKind.i64 0))) (some ((Go.Value.int Go.IntKind.i64 20)))
def key_Check.r (a0 : Value) (s : St) : Option Value := key_Check.t std a0 s
def key_Check.w : List Value → St → Option Value
  | [a0], s => key_Check.r a0 s
  | _, _ => none
def key_Check.an : An := ⟨21, true, [1], [], [], []⟩
theorem key_Check.ok (S : Sig) (a0 : Value) (s : St) : evG S Try.prog key_Check.ctx key_Check.an Try.f35 [a0] s = key_Check.t S a0 s := by kernel_rfl
theorem key_Check.cok : CtxOk Try.prog key_Check.ctx := .nil
theorem key_Check.draws : fnDraws key_Check.an Try.f35 = true := by kernel_rfl
theorem key_Check.can : callOk Try.prog 35 = true := by kernel_rfl
theorem key_Check.sound : FnOk Try.prog 35 (.rd key_Check.w) := FnOk.rd_of (evG_ok key_Check.cok mixed (f := 35) (fn := Try.f35) (by kernel_rfl) key_Check.draws) fun args s r h => by
  unfold key_Check.w at h; split at h
  · rw [key_Check.ok std]; exact h
  · simp at h

/-! ### cmp.isNaN[leapfrog/api.Rank]: function 105 -/
def cmp_isNaN_api_Rank.ctx : Ctx := []
def cmp_isNaN_api_Rank.t (S : Sig) (a0 : Value) (s : St) : Option Value :=
  S.bd (eqb [1] false true a0 a0) fun x1 => some (x1)
def cmp_isNaN_api_Rank.r (a0 : Value) (s : St) : Option Value := cmp_isNaN_api_Rank.t std a0 s
def cmp_isNaN_api_Rank.w : List Value → St → Option Value
  | [a0], s => cmp_isNaN_api_Rank.r a0 s
  | _, _ => none
def cmp_isNaN_api_Rank.an : An := ⟨6, true, [], [], [], []⟩
theorem cmp_isNaN_api_Rank.ok (S : Sig) (a0 : Value) (s : St) : evG S Try.prog cmp_isNaN_api_Rank.ctx cmp_isNaN_api_Rank.an Try.f105 [a0] s = cmp_isNaN_api_Rank.t S a0 s := by kernel_rfl
theorem cmp_isNaN_api_Rank.cok : CtxOk Try.prog cmp_isNaN_api_Rank.ctx := .nil
theorem cmp_isNaN_api_Rank.draws : fnDraws cmp_isNaN_api_Rank.an Try.f105 = true := by kernel_rfl
theorem cmp_isNaN_api_Rank.can : callOk Try.prog 105 = true := by kernel_rfl
theorem cmp_isNaN_api_Rank.sound : FnOk Try.prog 105 (.rd cmp_isNaN_api_Rank.w) := FnOk.rd_of (evG_ok cmp_isNaN_api_Rank.cok mixed (f := 105) (fn := Try.f105) (by kernel_rfl) cmp_isNaN_api_Rank.draws) fun args s r h => by
  unfold cmp_isNaN_api_Rank.w at h; split at h
  · rw [cmp_isNaN_api_Rank.ok std]; exact h
  · simp at h

/-! ### cmp.Compare[leapfrog/api.Rank]: function 99 -/
def cmp_Compare_api_Rank.ctx : Ctx := [(105, .rd cmp_isNaN_api_Rank.w)]
def cmp_Compare_api_Rank.t (S : Sig) (a0 a1 : Value) (s : St) : Option Value :=
  S.bd (cmp_isNaN_api_Rank.r a0 s) fun x1 => S.bd (cmp_isNaN_api_Rank.r a1 s) fun x2 => S.cnd x1 (S.cnd x2 (some ((Go.Value.int Go.IntKind.i64 0))) (some ((Go.Value.int Go.IntKind.i64 (-1))))) (S.cnd x2 (some ((Go.Value.int Go.IntKind.i64 1))) (S.bd (bin .lss a0 a1) fun x3 => S.cnd x3 (some ((Go.Value.int Go.IntKind.i64 (-1)))) (S.bd (bin .gtr a0 a1) fun x4 => S.cnd x4 (some ((Go.Value.int Go.IntKind.i64 1))) (some ((Go.Value.int Go.IntKind.i64 0))))))
def cmp_Compare_api_Rank.r (a0 a1 : Value) (s : St) : Option Value := cmp_Compare_api_Rank.t std a0 a1 s
def cmp_Compare_api_Rank.w : List Value → St → Option Value
  | [a0, a1], s => cmp_Compare_api_Rank.r a0 a1 s
  | _, _ => none
def cmp_Compare_api_Rank.an : An := ⟨20, true, [], [], [], []⟩
theorem cmp_Compare_api_Rank.ok (S : Sig) (a0 a1 : Value) (s : St) : evG S Try.prog cmp_Compare_api_Rank.ctx cmp_Compare_api_Rank.an Try.f99 [a0, a1] s = cmp_Compare_api_Rank.t S a0 a1 s := by kernel_rfl
theorem cmp_Compare_api_Rank.cok : CtxOk Try.prog cmp_Compare_api_Rank.ctx := .cons cmp_isNaN_api_Rank.sound cmp_isNaN_api_Rank.can <| .nil
theorem cmp_Compare_api_Rank.draws : fnDraws cmp_Compare_api_Rank.an Try.f99 = true := by kernel_rfl
theorem cmp_Compare_api_Rank.can : callOk Try.prog 99 = true := by kernel_rfl
theorem cmp_Compare_api_Rank.sound : FnOk Try.prog 99 (.rd cmp_Compare_api_Rank.w) := FnOk.rd_of (evG_ok cmp_Compare_api_Rank.cok mixed (f := 99) (fn := Try.f99) (by kernel_rfl) cmp_Compare_api_Rank.draws) fun args s r h => by
  unfold cmp_Compare_api_Rank.w at h; split at h
  · rw [cmp_Compare_api_Rank.ok std]; exact h
  · simp at h

/-! ### cmp.isNaN[uint64]: function 106 -/
def cmp_isNaN_uint64.ctx : Ctx := []
def cmp_isNaN_uint64.t (S : Sig) (a0 : Value) (s : St) : Option Value :=
  S.bd (eqb [1] false true a0 a0) fun x1 => some (x1)
def cmp_isNaN_uint64.r (a0 : Value) (s : St) : Option Value := cmp_isNaN_uint64.t std a0 s
def cmp_isNaN_uint64.w : List Value → St → Option Value
  | [a0], s => cmp_isNaN_uint64.r a0 s
  | _, _ => none
def cmp_isNaN_uint64.an : An := ⟨6, true, [], [], [], []⟩
theorem cmp_isNaN_uint64.ok (S : Sig) (a0 : Value) (s : St) : evG S Try.prog cmp_isNaN_uint64.ctx cmp_isNaN_uint64.an Try.f106 [a0] s = cmp_isNaN_uint64.t S a0 s := by kernel_rfl
theorem cmp_isNaN_uint64.cok : CtxOk Try.prog cmp_isNaN_uint64.ctx := .nil
theorem cmp_isNaN_uint64.draws : fnDraws cmp_isNaN_uint64.an Try.f106 = true := by kernel_rfl
theorem cmp_isNaN_uint64.can : callOk Try.prog 106 = true := by kernel_rfl
theorem cmp_isNaN_uint64.sound : FnOk Try.prog 106 (.rd cmp_isNaN_uint64.w) := FnOk.rd_of (evG_ok cmp_isNaN_uint64.cok mixed (f := 106) (fn := Try.f106) (by kernel_rfl) cmp_isNaN_uint64.draws) fun args s r h => by
  unfold cmp_isNaN_uint64.w at h; split at h
  · rw [cmp_isNaN_uint64.ok std]; exact h
  · simp at h

/-! ### cmp.Compare[uint64]: function 100 -/
def cmp_Compare_uint64.ctx : Ctx := [(106, .rd cmp_isNaN_uint64.w)]
def cmp_Compare_uint64.t (S : Sig) (a0 a1 : Value) (s : St) : Option Value :=
  S.bd (cmp_isNaN_uint64.r a0 s) fun x1 => S.bd (cmp_isNaN_uint64.r a1 s) fun x2 => S.cnd x1 (S.cnd x2 (some ((Go.Value.int Go.IntKind.i64 0))) (some ((Go.Value.int Go.IntKind.i64 (-1))))) (S.cnd x2 (some ((Go.Value.int Go.IntKind.i64 1))) (S.bd (bin .lss a0 a1) fun x3 => S.cnd x3 (some ((Go.Value.int Go.IntKind.i64 (-1)))) (S.bd (bin .gtr a0 a1) fun x4 => S.cnd x4 (some ((Go.Value.int Go.IntKind.i64 1))) (some ((Go.Value.int Go.IntKind.i64 0))))))
def cmp_Compare_uint64.r (a0 a1 : Value) (s : St) : Option Value := cmp_Compare_uint64.t std a0 a1 s
def cmp_Compare_uint64.w : List Value → St → Option Value
  | [a0, a1], s => cmp_Compare_uint64.r a0 a1 s
  | _, _ => none
def cmp_Compare_uint64.an : An := ⟨20, true, [], [], [], []⟩
theorem cmp_Compare_uint64.ok (S : Sig) (a0 a1 : Value) (s : St) : evG S Try.prog cmp_Compare_uint64.ctx cmp_Compare_uint64.an Try.f100 [a0, a1] s = cmp_Compare_uint64.t S a0 a1 s := by kernel_rfl
theorem cmp_Compare_uint64.cok : CtxOk Try.prog cmp_Compare_uint64.ctx := .cons cmp_isNaN_uint64.sound cmp_isNaN_uint64.can <| .nil
theorem cmp_Compare_uint64.draws : fnDraws cmp_Compare_uint64.an Try.f100 = true := by kernel_rfl
theorem cmp_Compare_uint64.can : callOk Try.prog 100 = true := by kernel_rfl
theorem cmp_Compare_uint64.sound : FnOk Try.prog 100 (.rd cmp_Compare_uint64.w) := FnOk.rd_of (evG_ok cmp_Compare_uint64.cok mixed (f := 100) (fn := Try.f100) (by kernel_rfl) cmp_Compare_uint64.draws) fun args s r h => by
  unfold cmp_Compare_uint64.w at h; split at h
  · rw [cmp_Compare_uint64.ok std]; exact h
  · simp at h

/-! ### cmp.Or[int]: function 98 -/
def cmp_Or_int.ctx : Ctx := []
def cmp_Or_int.l3 (S : Sig) (rec9 : List Value → St → Option Cut) (xs7 : List Value) (s8 : St) : Option Cut :=
  S.bd (bin .lss (xs7.getD 3 undef) (xs7.getD 2 undef)) fun x10 => S.cnd x10 (S.bd (idx s8 1 (xs7.getD 1 undef) (xs7.getD 3 undef)) fun x11 => S.bd (ldc s8 x11) fun x12 => S.bd (eqb [1] false true x12 (xs7.getD 0 undef)) fun x13 => S.cnd x13 (some (1, [x12], s8)) (S.bd (bin .add (xs7.getD 3 undef) (Go.Value.int Go.IntKind.i64 1)) fun x14 => rec9 [(xs7.getD 0 undef), (xs7.getD 1 undef), (xs7.getD 2 undef), x14] s8)) (some (0, [(xs7.getD 0 undef)], s8))

def cmp_Or_int.t (S : Sig) (a0 : Value) (s : St) : Option Value :=
  S.bd (lenL a0) fun x1 => S.bd (S.it (cmp_Or_int.l3 S) [(Go.Value.int Go.IntKind.i64 0), a0, x1, (Go.Value.int Go.IntKind.i64 0)] s) fun r15 => if r15.1 = 0 then (some ((r15.2.1.getD 0 undef))) else (some ((r15.2.1.getD 0 undef)))
def cmp_Or_int.r (a0 : Value) (s : St) : Option Value := cmp_Or_int.t std a0 s
def cmp_Or_int.w : List Value → St → Option Value
  | [a0], s => cmp_Or_int.r a0 s
  | _, _ => none
def cmp_Or_int.an : An := ⟨18, true, [], [(3, ⟨[.v 3, .v 6, .v 7, .v 8], [(.exit 0, [.v 3]), (.ret, [.v 2])]⟩)], [], []⟩
theorem cmp_Or_int.ok (S : Sig) (a0 : Value) (s : St) : evG S Try.prog cmp_Or_int.ctx cmp_Or_int.an Try.f98 [a0] s = cmp_Or_int.t S a0 s := by kernel_rfl
theorem cmp_Or_int.cok : CtxOk Try.prog cmp_Or_int.ctx := .nil
theorem cmp_Or_int.draws : fnDraws cmp_Or_int.an Try.f98 = true := by kernel_rfl
theorem cmp_Or_int.can : callOk Try.prog 98 = true := by kernel_rfl
theorem cmp_Or_int.sound : FnOk Try.prog 98 (.rd cmp_Or_int.w) := FnOk.rd_of (evG_ok cmp_Or_int.cok mixed (f := 98) (fn := Try.f98) (by kernel_rfl) cmp_Or_int.draws) fun args s r h => by
  unfold cmp_Or_int.w at h; split at h
  · rw [cmp_Or_int.ok std]; exact h
  · simp at h

/-! ### leapfrog/key.Compare: function 76 -/
def key_Compare.ctx : Ctx := [(99, .rd cmp_Compare_api_Rank.w), (100, .rd cmp_Compare_uint64.w), (98, .rd cmp_Or_int.w)]
def key_Compare.t (S : Sig) (a0 a1 : Value) (s : St) : Option (Value × St) :=
  S.bd (bx a0) fun c1 => S.bd (bx a1) fun c2 => S.bd (lcl c1 0) fun x3 => S.bd (lcl c2 0) fun x4 => S.bd (lcl c1 1) fun x5 => S.bd (lcl c2 1) fun x6 => S.bd (cmp_Compare_api_Rank.r x3 x4 s) fun x7 => S.bd (cmp_Compare_uint64.r x5 x6 s) fun x8 => S.bd (S.bd (bls 1 (List.replicate 2 [(Go.Value.int Go.IntKind.i64 0)]) [(0, x7), (1, x8)]) fun rows => als s 1 2 rows) fun r9 => S.bd (cmp_Or_int.r r9.1 r9.2) fun x10 => some (x10, r9.2)
def key_Compare.v (a0 a1 : Value) (s : St) : Option (Value × St) := key_Compare.t std a0 a1 s
def key_Compare.w : List Value → St → Option (Value × St)
  | [a0, a1], s => key_Compare.v a0 a1 s
  | _, _ => none
def key_Compare.an : An := ⟨17, false, [2, 3], [], [], [(1, [(0, 0, [], []), (1, 17, [], []), (2, 0, [], []), (3, 25, [], []), (5, 0, [], []), (6, 17, [], []), (7, 0, [], []), (8, 25, [], []), (4, 3, [], []), (9, 3, [], []), (10, 3, [], []), (11, 3, [], []), (12, 0, [], [])])]⟩
theorem key_Compare.ok (S : Sig) (a0 a1 : Value) (s : St) : evF S Try.prog key_Compare.ctx key_Compare.an Try.f76 [a0, a1] s = key_Compare.t S a0 a1 s := by kernel_rfl
theorem key_Compare.cok : CtxOk Try.prog key_Compare.ctx := .cons cmp_Compare_api_Rank.sound cmp_Compare_api_Rank.can <| .cons cmp_Compare_uint64.sound cmp_Compare_uint64.can <| .cons cmp_Or_int.sound cmp_Or_int.can <| .nil
theorem key_Compare.draws : fnDraws key_Compare.an Try.f76 = true := by kernel_rfl
theorem key_Compare.can : callOk Try.prog 76 = true := by kernel_rfl
theorem key_Compare.sound : FnOk Try.prog 76 (.st key_Compare.w) := FnOk.st_of (evF_ok key_Compare.cok mixed (f := 76) (fn := Try.f76) (by kernel_rfl) key_Compare.draws) fun args s r h => by
  unfold key_Compare.w at h; split at h
  · rw [key_Compare.ok std]; exact h
  · simp at h

/-! ### leapfrog/key.Compare: function 76, as a reading -/
def key_CompareQ.r (a0 a1 : Value) (s : St) : Option Value := frzR (fun s => key_Compare.v a0 a1 s) s
def key_CompareQ.w : List Value → St → Option Value := fun args s => frzR (key_Compare.w args) s
theorem key_CompareQ.can : callOk Try.prog 76 = true := key_Compare.can
theorem key_CompareQ.sound : FnOk Try.prog 76 (.rd key_CompareQ.w) := FnOk.frozen key_Compare.sound

/-! ### leapfrog/key.Less: function 36 -/
def key_Less.ctx : Ctx := [(76, .rd key_CompareQ.w)]
def key_Less.t (S : Sig) (a0 a1 : Value) (s : St) : Option Value :=
  S.bd (bx a0) fun c1 => S.bd (bx a1) fun c2 => S.bd (lal c1 0 2) fun x3 => S.bd (lal c2 0 2) fun x4 => S.bd (key_CompareQ.r x3 x4 s) fun x5 => S.bd (bin .lss x5 (Go.Value.int Go.IntKind.i64 0)) fun x6 => some (x6)
def key_Less.r (a0 a1 : Value) (s : St) : Option Value := key_Less.t std a0 a1 s
def key_Less.w : List Value → St → Option Value
  | [a0, a1], s => key_Less.r a0 a1 s
  | _, _ => none
def key_Less.an : An := ⟨9, true, [2, 3], [], [], []⟩
theorem key_Less.ok (S : Sig) (a0 a1 : Value) (s : St) : evG S Try.prog key_Less.ctx key_Less.an Try.f36 [a0, a1] s = key_Less.t S a0 a1 s := by kernel_rfl
theorem key_Less.cok : CtxOk Try.prog key_Less.ctx := .cons key_CompareQ.sound key_CompareQ.can <| .nil
theorem key_Less.draws : fnDraws key_Less.an Try.f36 = true := by kernel_rfl
theorem key_Less.can : callOk Try.prog 36 = true := by kernel_rfl
theorem key_Less.sound : FnOk Try.prog 36 (.rd key_Less.w) := FnOk.rd_of (evG_ok key_Less.cok mixed (f := 36) (fn := Try.f36) (by kernel_rfl) key_Less.draws) fun args s r h => by
  unfold key_Less.w at h; split at h
  · rw [key_Less.ok std]; exact h
  · simp at h

/-! ### leapfrog/lock.Check: function 38 -/
def lock_Check.ctx : Ctx := []
def lock_Check.t (S : Sig) (a0 : Value) (s : St) : Option Value :=
  S.bd (bx a0) fun c1 => S.bd (lcl c1 0) fun x2 => S.bd (bin .lss x2 (Go.Value.int Go.IntKind.i64 0)) fun x3 => S.bd (S.gd x3 false (lcl c1 0)) fun x4 => S.bd (S.gd x3 false (bin .geq x4 (Go.Value.int Go.IntKind.i64 1024))) fun x5 => S.bd (pik x3 (Go.Value.bool Bool.true) x5) fun x6 => S.bd (S.gd x6 false (lcl c1 1)) fun x7 => S.bd (S.gd x6 false (bin .lss x7 (Go.Value.int Go.IntKind.i64 1))) fun x8 => S.bd (pik x6 (Go.Value.bool Bool.true) x8) fun x9 => S.bd (S.gd x9 false (lcl c1 1)) fun x10 => S.bd (S.gd x9 false (bin .gtr x10 (Go.Value.int Go.IntKind.i64 1073741824))) fun x11 => S.bd (pik x9 (Go.Value.bool Bool.true) x11) fun x12 => S.cnd x12 (some ((Go.Value.int Go.IntKind.i64 70))) (some ((Go.Value.int Go.IntKind.i64 0)))
def lock_Check.r (a0 : Value) (s : St) : Option Value := lock_Check.t std a0 s
def lock_Check.w : List Value → St → Option Value
  | [a0], s => lock_Check.r a0 s
  | _, _ => none
def lock_Check.an : An := ⟨21, true, [1], [], [], []⟩
theorem lock_Check.ok (S : Sig) (a0 : Value) (s : St) : evG S Try.prog lock_Check.ctx lock_Check.an Try.f38 [a0] s = lock_Check.t S a0 s := by kernel_rfl
theorem lock_Check.cok : CtxOk Try.prog lock_Check.ctx := .nil
theorem lock_Check.draws : fnDraws lock_Check.an Try.f38 = true := by kernel_rfl
theorem lock_Check.can : callOk Try.prog 38 = true := by kernel_rfl
theorem lock_Check.sound : FnOk Try.prog 38 (.rd lock_Check.w) := FnOk.rd_of (evG_ok lock_Check.cok mixed (f := 38) (fn := Try.f38) (by kernel_rfl) lock_Check.draws) fun args s r h => by
  unfold lock_Check.w at h; split at h
  · rw [lock_Check.ok std]; exact h
  · simp at h

/-! ### leapfrog/splice.New: function 14 -/
def splice_New.ctx : Ctx := [(34, .rd vec_Begins.w), (35, .rd key_Check.w), (36, .rd key_Less.w), (37, .rd vec_Right.w), (38, .rd lock_Check.w)]
def splice_New.t.p1 (S : Sig) (x18 : Value) (c1 : List Value) (s : St) : Option (Value × St) :=
  S.bd (S.gd x18 false (lal c1 0 2)) fun x19 => S.bd (S.gd x18 false (vec_Right.r x19 s)) fun x20 => S.bd (S.gd x18 false (eqb [1] false true x20 (Go.Value.int Go.IntKind.i64 0))) fun x21 => S.bd (pik x18 (Go.Value.bool Bool.true) x21) fun x22 => S.bd (S.gd x22 false (lal c1 12 2)) fun x23 => S.bd (S.gd x22 false (lock_Check.r x23 s)) fun x24 => S.bd (S.gd x22 false (eqb [1] false true x24 (Go.Value.int Go.IntKind.i64 0))) fun x25 => S.bd (pik x22 (Go.Value.bool Bool.true) x25) fun x26 => S.cnd x26 (some ((Value.tuple ⟨[(Go.Value.pointer Option.none), (Go.Value.int Go.IntKind.i64 130)]⟩), s)) (S.bd (lal c1 0 14) fun x27 => S.bd (lal c1 7 5) fun x28 => S.bd (bld [(Go.Value.int Go.IntKind.i64 0), (Go.Value.int Go.IntKind.u64 0), (Go.Value.int Go.IntKind.i64 0), (Go.Value.int Go.IntKind.i64 0), (Go.Value.int Go.IntKind.u64 0), (Go.Value.int Go.IntKind.i64 0), (Go.Value.int Go.IntKind.u64 0), (Go.Value.int Go.IntKind.i64 0), (Go.Value.int Go.IntKind.i64 0), (Go.Value.int Go.IntKind.u64 0), (Go.Value.int Go.IntKind.i64 0), (Go.Value.int Go.IntKind.u64 0), (Go.Value.int Go.IntKind.i64 0), (Go.Value.int Go.IntKind.i64 0), (Go.Value.int Go.IntKind.i64 0), (Go.Value.int Go.IntKind.i64 0), (Go.Value.int Go.IntKind.i64 0), (Go.Value.int Go.IntKind.u64 0), (Go.Value.int Go.IntKind.i64 0), (Go.Value.int Go.IntKind.u64 0), (Go.Value.pointer Option.none), (Go.Value.int Go.IntKind.i64 0), (Go.Value.int Go.IntKind.i64 0), (Go.Value.int Go.IntKind.u64 0), (Go.Value.int Go.IntKind.i64 0), (Go.Value.int Go.IntKind.u64 0), (Go.Value.bool Bool.false), (Go.Value.bool Bool.false), Go.Value.nilFunc, (Go.Value.int Go.IntKind.i64 0), (Go.Value.int Go.IntKind.u64 0), (Go.Value.slice Option.none 0 0), (Go.Value.slice Option.none 0 0), (Go.Value.int Go.IntKind.i64 0), (Go.Value.int Go.IntKind.i64 0), (Go.Value.int Go.IntKind.u64 0), (Go.Value.int Go.IntKind.i64 0), (Go.Value.int Go.IntKind.u64 0), (Go.Value.int Go.IntKind.i64 0), (Go.Value.int Go.IntKind.i64 0), (Go.Value.int Go.IntKind.u64 0), (Go.Value.int Go.IntKind.i64 0), (Go.Value.int Go.IntKind.u64 0), (Go.Value.bool Bool.false)] [(0, 14, x27), (14, 1, (Go.Value.int Go.IntKind.i64 1)), (15, 5, x28)]) fun x29 => S.bd (alv s x29) fun r30 => some ((Value.tuple ⟨[r30.1, (Go.Value.int Go.IntKind.i64 0)]⟩), r30.2))

def splice_New.t (S : Sig) (a0 : Value) (s : St) : Option (Value × St) :=
  S.bd (bx a0) fun c1 => S.bd (lcl c1 3) fun x2 => S.bd (eqb [1] false false x2 (Go.Value.int Go.IntKind.i64 2)) fun x3 => S.bd (S.gd x3 true (lal c1 5 2)) fun x4 => S.bd (S.gd x3 true (lal c1 0 2)) fun x5 => S.bd (S.gd x3 true (vec_Begins.r x4 x5 s)) fun x6 => S.bd (pik x3 x6 (Go.Value.bool Bool.false)) fun x7 => S.bd (lal c1 8 2) fun x8 => S.bd (key_Check.r x8 s) fun x9 => S.bd (eqb [1] false false x9 (Go.Value.int Go.IntKind.i64 0)) fun x10 => S.bd (S.gd x10 true (lal c1 8 2)) fun x11 => S.bd (S.gd x10 true (lal c1 3 2)) fun x12 => S.bd (S.gd x10 true (key_Less.r x11 x12 s)) fun x13 => S.bd (pik x10 x13 (Go.Value.bool Bool.false)) fun x14 => S.bd (un .not x7) fun x15 => S.bd (S.gd x15 false (some x14)) fun x16 => S.bd (S.gd x15 false (un .not x16)) fun x17 => S.bd (pik x15 (Go.Value.bool Bool.true) x17) fun x18 => splice_New.t.p1 S x18 c1 s
def splice_New.v (a0 : Value) (s : St) : Option (Value × St) := splice_New.t std a0 s
def splice_New.w : List Value → St → Option (Value × St)
  | [a0], s => splice_New.v a0 s
  | _, _ => none
def splice_New.an : An := ⟨56, false, [1], [], [], []⟩
theorem splice_New.ok (S : Sig) (a0 : Value) (s : St) : evF S Try.prog splice_New.ctx splice_New.an Try.f14 [a0] s = splice_New.t S a0 s := by kernel_rfl
theorem splice_New.cok : CtxOk Try.prog splice_New.ctx := .cons vec_Begins.sound vec_Begins.can <| .cons key_Check.sound key_Check.can <| .cons key_Less.sound key_Less.can <| .cons vec_Right.sound vec_Right.can <| .cons lock_Check.sound lock_Check.can <| .nil
theorem splice_New.draws : fnDraws splice_New.an Try.f14 = true := by kernel_rfl
theorem splice_New.can : callOk Try.prog 14 = true := by kernel_rfl
theorem splice_New.sound : FnOk Try.prog 14 (.st splice_New.w) := FnOk.st_of (evF_ok splice_New.cok mixed (f := 14) (fn := Try.f14) (by kernel_rfl) splice_New.draws) fun args s r h => by
  unfold splice_New.w at h; split at h
  · rw [splice_New.ok std]; exact h
  · simp at h

/-! ### leapfrog/leapfrogref01.Power: function 61 -/
def leapfrogref01x_Power.ctx : Ctx := []
def leapfrogref01x_Power.l2 (S : Sig) (rec6 : List Value → St → Option Cut) (xs4 : List Value) (s5 : St) : Option Cut :=
  S.bd (bin .gtr (xs4.getD 0 undef) (Go.Value.int Go.IntKind.i64 0)) fun x7 => S.cnd x7 (S.bd (bin .mul (xs4.getD 1 undef) (Go.Value.int Go.IntKind.u64 2)) fun x8 => S.bd (bin .sub (xs4.getD 0 undef) (Go.Value.int Go.IntKind.i64 1)) fun x9 => rec6 [x9, x8] s5) (some (0, [(xs4.getD 1 undef)], s5))

def leapfrogref01x_Power.t (S : Sig) (a0 : Value) (s : St) : Option Value :=
  S.bd (S.it (leapfrogref01x_Power.l2 S) [a0, (Go.Value.int Go.IntKind.u64 1)] s) fun r10 => some ((r10.2.1.getD 0 undef))
def leapfrogref01x_Power.r (a0 : Value) (s : St) : Option Value := leapfrogref01x_Power.t std a0 s
def leapfrogref01x_Power.w : List Value → St → Option Value
  | [a0], s => leapfrogref01x_Power.r a0 s
  | _, _ => none
def leapfrogref01x_Power.an : An := ⟨11, true, [], [(2, ⟨[.v 0, .v 3], [(.exit 0, [.v 3])]⟩)], [], []⟩
theorem leapfrogref01x_Power.ok (S : Sig) (a0 : Value) (s : St) : evG S Try.prog leapfrogref01x_Power.ctx leapfrogref01x_Power.an Try.f61 [a0] s = leapfrogref01x_Power.t S a0 s := by kernel_rfl
theorem leapfrogref01x_Power.cok : CtxOk Try.prog leapfrogref01x_Power.ctx := .nil
theorem leapfrogref01x_Power.draws : fnDraws leapfrogref01x_Power.an Try.f61 = true := by kernel_rfl
theorem leapfrogref01x_Power.can : callOk Try.prog 61 = true := by kernel_rfl
theorem leapfrogref01x_Power.sound : FnOk Try.prog 61 (.rd leapfrogref01x_Power.w) := FnOk.rd_of (evG_ok leapfrogref01x_Power.cok mixed (f := 61) (fn := Try.f61) (by kernel_rfl) leapfrogref01x_Power.draws) fun args s r h => by
  unfold leapfrogref01x_Power.w at h; split at h
  · rw [leapfrogref01x_Power.ok std]; exact h
  · simp at h

/-! ### leapfrog/leapfrogref01.Right: function 27 -/
def leapfrogref01x_Right.ctx : Ctx := [(61, .rd leapfrogref01x_Power.w)]
def leapfrogref01x_Right.t (S : Sig) (a0 : Value) (s : St) : Option Value :=
  S.bd (bx a0) fun c1 => S.bd (lcl c1 0) fun x2 => S.bd (bin .geq x2 (Go.Value.int Go.IntKind.i64 0)) fun x3 => S.bd (S.gd x3 true (lcl c1 0)) fun x4 => S.bd (S.gd x3 true (bin .leq x4 (Go.Value.int Go.IntKind.i64 32))) fun x5 => S.bd (pik x3 x5 (Go.Value.bool Bool.false)) fun x6 => S.bd (S.gd x6 true (lcl c1 1)) fun x7 => S.bd (S.gd x6 true (lcl c1 0)) fun x8 => S.bd (S.gd x6 true (leapfrogref01x_Power.r x8 s)) fun x9 => S.bd (S.gd x6 true (bin .lss x7 x9)) fun x10 => S.bd (pik x6 x10 (Go.Value.bool Bool.false)) fun x11 => some (x11)
def leapfrogref01x_Right.r (a0 : Value) (s : St) : Option Value := leapfrogref01x_Right.t std a0 s
def leapfrogref01x_Right.w : List Value → St → Option Value
  | [a0], s => leapfrogref01x_Right.r a0 s
  | _, _ => none
def leapfrogref01x_Right.an : An := ⟨19, true, [1], [], [], [(1, [(0, 0, [], []), (1, 9, [], []), (2, 0, [], []), (3, 0, [], []), (4, 0, [], []), (5, 9, [], []), (6, 0, [], []), (7, 0, [], []), (8, 0, [], []), (9, 0, [], []), (10, 9, [], []), (11, 0, [], []), (12, 9, [], []), (13, 3, [], []), (14, 0, [], []), (15, 0, [], []), (16, 0, [], [])])]⟩
theorem leapfrogref01x_Right.ok (S : Sig) (a0 : Value) (s : St) : evG S Try.prog leapfrogref01x_Right.ctx leapfrogref01x_Right.an Try.f27 [a0] s = leapfrogref01x_Right.t S a0 s := by kernel_rfl
theorem leapfrogref01x_Right.cok : CtxOk Try.prog leapfrogref01x_Right.ctx := .cons leapfrogref01x_Power.sound leapfrogref01x_Power.can <| .nil
theorem leapfrogref01x_Right.draws : fnDraws leapfrogref01x_Right.an Try.f27 = true := by kernel_rfl
theorem leapfrogref01x_Right.can : callOk Try.prog 27 = true := by kernel_rfl
theorem leapfrogref01x_Right.sound : FnOk Try.prog 27 (.rd leapfrogref01x_Right.w) := FnOk.rd_of (evG_ok leapfrogref01x_Right.cok mixed (f := 27) (fn := Try.f27) (by kernel_rfl) leapfrogref01x_Right.draws) fun args s r h => by
  unfold leapfrogref01x_Right.w at h; split at h
  · rw [leapfrogref01x_Right.ok std]; exact h
  · simp at h

/-! ### leapfrog/leapfrogref01.Bits: function 29 -/
def leapfrogref01x_Bits.ctx : Ctx := []
def leapfrogref01x_Bits.l4 (S : Sig) (rec16 : List Value → St → Option Cut) (xs14 : List Value) (s15 : St) : Option Cut :=
  S.bd (bin .geq (xs14.getD 2 undef) (Go.Value.int Go.IntKind.i64 0)) fun x17 => S.cnd x17 (S.bd (bin .rem (xs14.getD 1 undef) (Go.Value.int Go.IntKind.u64 2)) fun x18 => S.bd (cvi .i64 x18) fun x19 => S.bd (idx s15 1 (xs14.getD 0 undef) (xs14.getD 2 undef)) fun x20 => S.bd (stv s15 1 x20 x19) fun s21 => S.bd (bin .quo (xs14.getD 1 undef) (Go.Value.int Go.IntKind.u64 2)) fun x22 => S.bd (bin .sub (xs14.getD 2 undef) (Go.Value.int Go.IntKind.i64 1)) fun x23 => rec16 [(xs14.getD 0 undef), x22, x23] s21) (some (0, [(xs14.getD 0 undef)], s15))

def leapfrogref01x_Bits.t (S : Sig) (a0 : Value) (s : St) : Option (Value × St) :=
  S.bd (bx a0) fun c1 => S.bd (lcl c1 0) fun x2 => S.bd (mks s 1 8 [(Go.Value.int Go.IntKind.i64 0)] x2 x2) fun r3 => S.bd (lcl c1 1) fun x4 => S.bd (lcl c1 0) fun x5 => S.bd (bin .sub x5 (Go.Value.int Go.IntKind.i64 1)) fun x6 => S.bd (S.it (leapfrogref01x_Bits.l4 S) [r3.1, x4, x6] r3.2) fun r24 => some ((r24.2.1.getD 0 undef), r24.2.2)
def leapfrogref01x_Bits.v (a0 : Value) (s : St) : Option (Value × St) := leapfrogref01x_Bits.t std a0 s
def leapfrogref01x_Bits.w : List Value → St → Option (Value × St)
  | [a0], s => leapfrogref01x_Bits.v a0 s
  | _, _ => none
def leapfrogref01x_Bits.an : An := ⟨27, false, [1], [(4, ⟨[.v 3, .v 4, .v 5], [(.exit 0, [.v 3])]⟩)], [], []⟩
theorem leapfrogref01x_Bits.ok (S : Sig) (a0 : Value) (s : St) : evF S Try.prog leapfrogref01x_Bits.ctx leapfrogref01x_Bits.an Try.f29 [a0] s = leapfrogref01x_Bits.t S a0 s := by kernel_rfl
theorem leapfrogref01x_Bits.cok : CtxOk Try.prog leapfrogref01x_Bits.ctx := .nil
theorem leapfrogref01x_Bits.draws : fnDraws leapfrogref01x_Bits.an Try.f29 = true := by kernel_rfl
theorem leapfrogref01x_Bits.can : callOk Try.prog 29 = true := by kernel_rfl
theorem leapfrogref01x_Bits.sound : FnOk Try.prog 29 (.st leapfrogref01x_Bits.w) := FnOk.st_of (evF_ok leapfrogref01x_Bits.cok mixed (f := 29) (fn := Try.f29) (by kernel_rfl) leapfrogref01x_Bits.draws) fun args s r h => by
  unfold leapfrogref01x_Bits.w at h; split at h
  · rw [leapfrogref01x_Bits.ok std]; exact h
  · simp at h

/-! ### leapfrog/leapfrogref01.common: function 83 -/
def leapfrogref01x_common.ctx : Ctx := []
def leapfrogref01x_common.l2 (S : Sig) (rec21 : List Value → St → Option Cut) (xs19 : List Value) (s20 : St) : Option Cut :=
  S.bd (lenL (xs19.getD 0 undef)) fun x22 => S.bd (bin .lss (xs19.getD 2 undef) x22) fun x23 => S.bd (S.gd x23 true (some (xs19.getD 2 undef))) fun x24 => S.bd (S.gd x23 true (some (xs19.getD 1 undef))) fun x25 => S.bd (S.gd x23 true (lenL x25)) fun x26 => S.bd (S.gd x23 true (bin .lss x24 x26)) fun x27 => S.bd (pik x23 x27 (Go.Value.bool Bool.false)) fun x28 => S.bd (S.gd x28 true (some (xs19.getD 0 undef))) fun x29 => S.bd (S.gd x28 true (some (xs19.getD 2 undef))) fun x30 => S.bd (S.gd x28 true (idx s20 1 x29 x30)) fun x31 => S.bd (S.gd x28 true (ldc s20 x31)) fun x32 => S.bd (S.gd x28 true (some (xs19.getD 1 undef))) fun x33 => S.bd (S.gd x28 true (some (xs19.getD 2 undef))) fun x34 => S.bd (S.gd x28 true (idx s20 1 x33 x34)) fun x35 => S.bd (S.gd x28 true (ldc s20 x35)) fun x36 => S.bd (S.gd x28 true (eqb [1] false false x32 x36)) fun x37 => S.bd (pik x28 x37 (Go.Value.bool Bool.false)) fun x38 => S.cnd x38 (S.bd (bin .add (xs19.getD 2 undef) (Go.Value.int Go.IntKind.i64 1)) fun x39 => rec21 [(xs19.getD 0 undef), (xs19.getD 1 undef), x39] s20) (some (0, [(xs19.getD 2 undef)], s20))

def leapfrogref01x_common.t (S : Sig) (a0 a1 : Value) (s : St) : Option Value :=
  S.bd (S.it (leapfrogref01x_common.l2 S) [a0, a1, (Go.Value.int Go.IntKind.i64 0)] s) fun r40 => some ((r40.2.1.getD 0 undef))
def leapfrogref01x_common.r (a0 a1 : Value) (s : St) : Option Value := leapfrogref01x_common.t std a0 a1 s
def leapfrogref01x_common.w : List Value → St → Option Value
  | [a0, a1], s => leapfrogref01x_common.r a0 a1 s
  | _, _ => none
def leapfrogref01x_common.an : An := ⟨30, true, [], [(2, ⟨[.v 0, .v 1, .v 5], [(.exit 0, [.v 5])]⟩)], [], [(2, [(0, 0, [], []), (1, 0, [], []), (2, 2, [], []), (3, 0, [], []), (4, 0, [], []), (5, 0, [], []), (6, 0, [], []), (7, 2, [], []), (8, 0, [], []), (9, 0, [], []), (10, 0, [], []), (11, 0, [], []), (12, 0, [], []), (13, 2, [], []), (14, 2, [], []), (15, 0, [], []), (16, 0, [], []), (17, 2, [], []), (18, 2, [], []), (19, 0, [], []), (20, 0, [], [])])]⟩
theorem leapfrogref01x_common.ok (S : Sig) (a0 a1 : Value) (s : St) : evG S Try.prog leapfrogref01x_common.ctx leapfrogref01x_common.an Try.f83 [a0, a1] s = leapfrogref01x_common.t S a0 a1 s := by kernel_rfl
theorem leapfrogref01x_common.cok : CtxOk Try.prog leapfrogref01x_common.ctx := .nil
theorem leapfrogref01x_common.draws : fnDraws leapfrogref01x_common.an Try.f83 = true := by kernel_rfl
theorem leapfrogref01x_common.can : callOk Try.prog 83 = true := by kernel_rfl
theorem leapfrogref01x_common.sound : FnOk Try.prog 83 (.rd leapfrogref01x_common.w) := FnOk.rd_of (evG_ok leapfrogref01x_common.cok mixed (f := 83) (fn := Try.f83) (by kernel_rfl) leapfrogref01x_common.draws) fun args s r h => by
  unfold leapfrogref01x_common.w at h; split at h
  · rw [leapfrogref01x_common.ok std]; exact h
  · simp at h

/-! ### leapfrog/leapfrogref01.Begins: function 53 -/
def leapfrogref01x_Begins.ctx : Ctx := [(27, .rd leapfrogref01x_Right.w), (29, .st leapfrogref01x_Bits.w), (83, .rd leapfrogref01x_common.w)]
def leapfrogref01x_Begins.t (S : Sig) (a0 a1 : Value) (s : St) : Option (Value × St) :=
  S.bd (bx a0) fun c1 => S.bd (bx a1) fun c2 => S.bd (lal c1 0 2) fun x3 => S.bd (leapfrogref01x_Right.r x3 s) fun x4 => S.bd (S.gd x4 true (lal c2 0 2)) fun x5 => S.bd (S.gd x4 true (leapfrogref01x_Right.r x5 s)) fun x6 => S.bd (pik x4 x6 (Go.Value.bool Bool.false)) fun x7 => S.bd (S.gd x7 true (lal c1 0 2)) fun x8 => S.bd (S.gd x7 true (lal c2 0 2)) fun x9 => S.bd (S.gd x7 true (lcl c2 0)) fun x10 => S.bd (S.gdS x7 true (leapfrogref01x_Bits.v x8 s) s) fun r11 => S.bd (S.gdS x7 true (leapfrogref01x_Bits.v x9 r11.2) r11.2) fun r12 => S.bd (S.gd x7 true (leapfrogref01x_common.r r11.1 r12.1 r12.2)) fun x13 => S.bd (S.gd x7 true (eqb [1] false false x13 x10)) fun x14 => S.bd (pik x7 x14 (Go.Value.bool Bool.false)) fun x15 => some (x15, r12.2)
def leapfrogref01x_Begins.v (a0 a1 : Value) (s : St) : Option (Value × St) := leapfrogref01x_Begins.t std a0 a1 s
def leapfrogref01x_Begins.w : List Value → St → Option (Value × St)
  | [a0, a1], s => leapfrogref01x_Begins.v a0 a1 s
  | _, _ => none
def leapfrogref01x_Begins.an : An := ⟨21, false, [2, 3], [], [], [(1, [(0, 17, [], []), (1, 3, [], []), (2, 0, [], []), (3, 25, [], []), (4, 3, [], []), (5, 0, [], []), (6, 0, [], []), (7, 17, [], []), (9, 25, [], []), (12, 0, [], []), (13, 25, [], []), (8, 4, [], []), (10, 4, [], []), (11, 3, [], []), (14, 0, [], []), (15, 0, [], []), (16, 0, [], [])])]⟩
theorem leapfrogref01x_Begins.ok (S : Sig) (a0 a1 : Value) (s : St) : evF S Try.prog leapfrogref01x_Begins.ctx leapfrogref01x_Begins.an Try.f53 [a0, a1] s = leapfrogref01x_Begins.t S a0 a1 s := by kernel_rfl
theorem leapfrogref01x_Begins.cok : CtxOk Try.prog leapfrogref01x_Begins.ctx := .cons leapfrogref01x_Right.sound leapfrogref01x_Right.can <| .cons leapfrogref01x_Bits.sound leapfrogref01x_Bits.can <| .cons leapfrogref01x_common.sound leapfrogref01x_common.can <| .nil
theorem leapfrogref01x_Begins.draws : fnDraws leapfrogref01x_Begins.an Try.f53 = true := by kernel_rfl
theorem leapfrogref01x_Begins.can : callOk Try.prog 53 = true := by kernel_rfl
theorem leapfrogref01x_Begins.sound : FnOk Try.prog 53 (.st leapfrogref01x_Begins.w) := FnOk.st_of (evF_ok leapfrogref01x_Begins.cok mixed (f := 53) (fn := Try.f53) (by kernel_rfl) leapfrogref01x_Begins.draws) fun args s r h => by
  unfold leapfrogref01x_Begins.w at h; split at h
  · rw [leapfrogref01x_Begins.ok std]; exact h
  · simp at h

/-! ### leapfrog/leapfrogref01.Begins: function 53, as a reading -/
def leapfrogref01x_BeginsQ.r (a0 a1 : Value) (s : St) : Option Value := frzR (fun s => leapfrogref01x_Begins.v a0 a1 s) s
def leapfrogref01x_BeginsQ.w : List Value → St → Option Value := fun args s => frzR (leapfrogref01x_Begins.w args) s
theorem leapfrogref01x_BeginsQ.can : callOk Try.prog 53 = true := leapfrogref01x_Begins.can
theorem leapfrogref01x_BeginsQ.sound : FnOk Try.prog 53 (.rd leapfrogref01x_BeginsQ.w) := FnOk.frozen leapfrogref01x_Begins.sound

/-! ### leapfrog/leapfrogref03.IsKey: function 54 -/
def leapfrogref03x_IsKey.ctx : Ctx := []
def leapfrogref03x_IsKey.t (S : Sig) (a0 : Value) (s : St) : Option Value :=
  S.bd (bx a0) fun c1 => S.bd (lcl c1 0) fun x2 => S.bd (eqb [1] false false x2 (Go.Value.int Go.IntKind.i64 2)) fun x3 => S.bd (S.gd x3 false (lcl c1 1)) fun x4 => S.bd (S.gd x3 false (eqb [1] false false x4 (Go.Value.int Go.IntKind.u64 0))) fun x5 => S.bd (S.gd x3 false (some x5)) fun x6 => S.bd (S.gd x6 true (lcl c1 0)) fun x7 => S.bd (S.gd x6 true (eqb [1] false false x7 (Go.Value.int Go.IntKind.i64 1))) fun x8 => S.bd (S.gd x6 true (some x8)) fun x9 => S.bd (S.gd x9 false (lcl c1 0)) fun x10 => S.bd (S.gd x9 false (eqb [1] false false x10 (Go.Value.int Go.IntKind.i64 3))) fun x11 => S.bd (S.gd x6 true (pik x9 (Go.Value.bool Bool.true) x11)) fun x12 => S.bd (S.gd x3 false (pik x6 x12 (Go.Value.bool Bool.false))) fun x13 => S.bd (pik x3 (Go.Value.bool Bool.true) x13) fun x14 => some (x14)
def leapfrogref03x_IsKey.r (a0 : Value) (s : St) : Option Value := leapfrogref03x_IsKey.t std a0 s
def leapfrogref03x_IsKey.w : List Value → St → Option Value
  | [a0], s => leapfrogref03x_IsKey.r a0 s
  | _, _ => none
def leapfrogref03x_IsKey.an : An := ⟨21, true, [1], [], [], []⟩
theorem leapfrogref03x_IsKey.ok (S : Sig) (a0 : Value) (s : St) : evG S Try.prog leapfrogref03x_IsKey.ctx leapfrogref03x_IsKey.an Try.f54 [a0] s = leapfrogref03x_IsKey.t S a0 s := by kernel_rfl
theorem leapfrogref03x_IsKey.cok : CtxOk Try.prog leapfrogref03x_IsKey.ctx := .nil
theorem leapfrogref03x_IsKey.draws : fnDraws leapfrogref03x_IsKey.an Try.f54 = true := by kernel_rfl
theorem leapfrogref03x_IsKey.can : callOk Try.prog 54 = true := by kernel_rfl
theorem leapfrogref03x_IsKey.sound : FnOk Try.prog 54 (.rd leapfrogref03x_IsKey.w) := FnOk.rd_of (evG_ok leapfrogref03x_IsKey.cok mixed (f := 54) (fn := Try.f54) (by kernel_rfl) leapfrogref03x_IsKey.draws) fun args s r h => by
  unfold leapfrogref03x_IsKey.w at h; split at h
  · rw [leapfrogref03x_IsKey.ok std]; exact h
  · simp at h

/-! ### leapfrog/leapfrogref09.Less: function 12 -/
def leapfrogref09x_Less.ctx : Ctx := []
def leapfrogref09x_Less.t (S : Sig) (a0 a1 : Value) (s : St) : Option Value :=
  S.bd (bx a0) fun c1 => S.bd (bx a1) fun c2 => S.bd (lcl c1 0) fun x3 => S.bd (lcl c2 0) fun x4 => S.bd (bin .lss x3 x4) fun x5 => S.bd (S.gd x5 false (lcl c1 0)) fun x6 => S.bd (S.gd x5 false (lcl c2 0)) fun x7 => S.bd (S.gd x5 false (eqb [1] false false x6 x7)) fun x8 => S.bd (S.gd x5 false (some x8)) fun x9 => S.bd (S.gd x9 true (lcl c1 1)) fun x10 => S.bd (S.gd x9 true (lcl c2 1)) fun x11 => S.bd (S.gd x9 true (bin .lss x10 x11)) fun x12 => S.bd (S.gd x5 false (pik x9 x12 (Go.Value.bool Bool.false))) fun x13 => S.bd (pik x5 (Go.Value.bool Bool.true) x13) fun x14 => some (x14)
def leapfrogref09x_Less.r (a0 a1 : Value) (s : St) : Option Value := leapfrogref09x_Less.t std a0 a1 s
def leapfrogref09x_Less.w : List Value → St → Option Value
  | [a0, a1], s => leapfrogref09x_Less.r a0 a1 s
  | _, _ => none
def leapfrogref09x_Less.an : An := ⟨24, true, [2, 3], [], [], []⟩
theorem leapfrogref09x_Less.ok (S : Sig) (a0 a1 : Value) (s : St) : evG S Try.prog leapfrogref09x_Less.ctx leapfrogref09x_Less.an Try.f12 [a0, a1] s = leapfrogref09x_Less.t S a0 a1 s := by kernel_rfl
theorem leapfrogref09x_Less.cok : CtxOk Try.prog leapfrogref09x_Less.ctx := .nil
theorem leapfrogref09x_Less.draws : fnDraws leapfrogref09x_Less.an Try.f12 = true := by kernel_rfl
theorem leapfrogref09x_Less.can : callOk Try.prog 12 = true := by kernel_rfl
theorem leapfrogref09x_Less.sound : FnOk Try.prog 12 (.rd leapfrogref09x_Less.w) := FnOk.rd_of (evG_ok leapfrogref09x_Less.cok mixed (f := 12) (fn := Try.f12) (by kernel_rfl) leapfrogref09x_Less.draws) fun args s r h => by
  unfold leapfrogref09x_Less.w at h; split at h
  · rw [leapfrogref09x_Less.ok std]; exact h
  · simp at h

/-! ### leapfrog/leapfrogref07.IsOwner: function 55 -/
def leapfrogref07x_IsOwner.ctx : Ctx := []
def leapfrogref07x_IsOwner.t (S : Sig) (a0 : Value) (s : St) : Option Value :=
  S.bd (bx a0) fun c1 => S.bd (lcl c1 0) fun x2 => S.bd (bin .geq x2 (Go.Value.int Go.IntKind.i64 0)) fun x3 => S.bd (S.gd x3 true (lcl c1 0)) fun x4 => S.bd (S.gd x3 true (bin .lss x4 (Go.Value.int Go.IntKind.i64 1024))) fun x5 => S.bd (pik x3 x5 (Go.Value.bool Bool.false)) fun x6 => S.bd (S.gd x6 true (lcl c1 1)) fun x7 => S.bd (S.gd x6 true (bin .geq x7 (Go.Value.int Go.IntKind.i64 1))) fun x8 => S.bd (pik x6 x8 (Go.Value.bool Bool.false)) fun x9 => S.bd (S.gd x9 true (lcl c1 1)) fun x10 => S.bd (S.gd x9 true (bin .leq x10 (Go.Value.int Go.IntKind.i64 1073741824))) fun x11 => S.bd (pik x9 x11 (Go.Value.bool Bool.false)) fun x12 => some (x12)
def leapfrogref07x_IsOwner.r (a0 : Value) (s : St) : Option Value := leapfrogref07x_IsOwner.t std a0 s
def leapfrogref07x_IsOwner.w : List Value → St → Option Value
  | [a0], s => leapfrogref07x_IsOwner.r a0 s
  | _, _ => none
def leapfrogref07x_IsOwner.an : An := ⟨21, true, [1], [], [], []⟩
theorem leapfrogref07x_IsOwner.ok (S : Sig) (a0 : Value) (s : St) : evG S Try.prog leapfrogref07x_IsOwner.ctx leapfrogref07x_IsOwner.an Try.f55 [a0] s = leapfrogref07x_IsOwner.t S a0 s := by kernel_rfl
theorem leapfrogref07x_IsOwner.cok : CtxOk Try.prog leapfrogref07x_IsOwner.ctx := .nil
theorem leapfrogref07x_IsOwner.draws : fnDraws leapfrogref07x_IsOwner.an Try.f55 = true := by kernel_rfl
theorem leapfrogref07x_IsOwner.can : callOk Try.prog 55 = true := by kernel_rfl
theorem leapfrogref07x_IsOwner.sound : FnOk Try.prog 55 (.rd leapfrogref07x_IsOwner.w) := FnOk.rd_of (evG_ok leapfrogref07x_IsOwner.cok mixed (f := 55) (fn := Try.f55) (by kernel_rfl) leapfrogref07x_IsOwner.draws) fun args s r h => by
  unfold leapfrogref07x_IsOwner.w at h; split at h
  · rw [leapfrogref07x_IsOwner.ok std]; exact h
  · simp at h

/-! ### leapfrog/leapfrogref13.New: function 20 -/
def leapfrogref13x_New.ctx : Ctx := [(27, .rd leapfrogref01x_Right.w), (53, .rd leapfrogref01x_BeginsQ.w), (54, .rd leapfrogref03x_IsKey.w), (12, .rd leapfrogref09x_Less.w), (55, .rd leapfrogref07x_IsOwner.w)]
def leapfrogref13x_New.t.p1 (S : Sig) (c1 : List Value) (s : St) : Option (Value × St) :=
  S.bd (lal c1 0 14) fun x26 => S.bd (lal c1 7 5) fun x27 => S.bd (bld [(Go.Value.int Go.IntKind.i64 0), (Go.Value.int Go.IntKind.u64 0), (Go.Value.int Go.IntKind.i64 0), (Go.Value.int Go.IntKind.i64 0), (Go.Value.int Go.IntKind.u64 0), (Go.Value.int Go.IntKind.i64 0), (Go.Value.int Go.IntKind.u64 0), (Go.Value.int Go.IntKind.i64 0), (Go.Value.int Go.IntKind.i64 0), (Go.Value.int Go.IntKind.u64 0), (Go.Value.int Go.IntKind.i64 0), (Go.Value.int Go.IntKind.u64 0), (Go.Value.int Go.IntKind.i64 0), (Go.Value.int Go.IntKind.i64 0), (Go.Value.int Go.IntKind.i64 0), (Go.Value.int Go.IntKind.i64 0), (Go.Value.int Go.IntKind.i64 0), (Go.Value.int Go.IntKind.i64 0), (Go.Value.int Go.IntKind.u64 0), (Go.Value.int Go.IntKind.i64 0), (Go.Value.int Go.IntKind.u64 0), (Go.Value.int Go.IntKind.i64 0), (Go.Value.int Go.IntKind.i64 0), (Go.Value.int Go.IntKind.u64 0), (Go.Value.int Go.IntKind.i64 0), (Go.Value.int Go.IntKind.u64 0), (Go.Value.bool Bool.false), (Go.Value.int Go.IntKind.i64 0), (Go.Value.int Go.IntKind.i64 0), (Go.Value.int Go.IntKind.u64 0), (Go.Value.int Go.IntKind.i64 0), (Go.Value.int Go.IntKind.u64 0), (Go.Value.bool Bool.false), (Go.Value.int Go.IntKind.i64 0), (Go.Value.int Go.IntKind.u64 0), (Go.Value.slice Option.none 0 0), (Go.Value.slice Option.none 0 0), (Go.Value.int Go.IntKind.i64 0), (Go.Value.int Go.IntKind.i64 0), (Go.Value.int Go.IntKind.u64 0), (Go.Value.int Go.IntKind.i64 0), (Go.Value.int Go.IntKind.u64 0), (Go.Value.int Go.IntKind.i64 0), (Go.Value.int Go.IntKind.i64 0), (Go.Value.int Go.IntKind.u64 0), (Go.Value.int Go.IntKind.i64 0), (Go.Value.int Go.IntKind.u64 0), (Go.Value.bool Bool.false)] [(0, 14, x26), (14, 1, (Go.Value.int Go.IntKind.i64 1)), (16, 5, x27)]) fun x28 => S.bd (alv s x28) fun r29 => some ((Value.tuple ⟨[r29.1, (Go.Value.int Go.IntKind.i64 0)]⟩), r29.2)

def leapfrogref13x_New.t (S : Sig) (a0 : Value) (s : St) : Option (Value × St) :=
  S.bd (bx a0) fun c1 => S.bd (lal c1 0 2) fun x2 => S.bd (leapfrogref01x_Right.r x2 s) fun x3 => S.bd (un .not x3) fun x4 => S.bd (S.gd x4 false (lcl c1 3)) fun x5 => S.bd (S.gd x4 false (eqb [1] false true x5 (Go.Value.int Go.IntKind.i64 2))) fun x6 => S.bd (pik x4 (Go.Value.bool Bool.true) x6) fun x7 => S.bd (S.gd x7 false (lal c1 5 2)) fun x8 => S.bd (S.gd x7 false (lal c1 0 2)) fun x9 => S.bd (S.gd x7 false (leapfrogref01x_BeginsQ.r x8 x9 s)) fun x10 => S.bd (S.gd x7 false (un .not x10)) fun x11 => S.bd (pik x7 (Go.Value.bool Bool.true) x11) fun x12 => S.bd (S.gd x12 false (lal c1 8 2)) fun x13 => S.bd (S.gd x12 false (leapfrogref03x_IsKey.r x13 s)) fun x14 => S.bd (S.gd x12 false (un .not x14)) fun x15 => S.bd (pik x12 (Go.Value.bool Bool.true) x15) fun x16 => S.bd (S.gd x16 false (lal c1 8 2)) fun x17 => S.bd (S.gd x16 false (lal c1 3 2)) fun x18 => S.bd (S.gd x16 false (leapfrogref09x_Less.r x17 x18 s)) fun x19 => S.bd (S.gd x16 false (un .not x19)) fun x20 => S.bd (pik x16 (Go.Value.bool Bool.true) x20) fun x21 => S.bd (S.gd x21 false (lal c1 12 2)) fun x22 => S.bd (S.gd x21 false (leapfrogref07x_IsOwner.r x22 s)) fun x23 => S.bd (S.gd x21 false (un .not x23)) fun x24 => S.bd (pik x21 (Go.Value.bool Bool.true) x24) fun x25 => S.cnd x25 (some ((Value.tuple ⟨[(Go.Value.pointer Option.none), (Go.Value.int Go.IntKind.i64 130)]⟩), s)) (leapfrogref13x_New.t.p1 S c1 s)
def leapfrogref13x_New.v (a0 : Value) (s : St) : Option (Value × St) := leapfrogref13x_New.t std a0 s
def leapfrogref13x_New.w : List Value → St → Option (Value × St)
  | [a0], s => leapfrogref13x_New.v a0 s
  | _, _ => none
def leapfrogref13x_New.an : An := ⟨52, false, [1], [], [], []⟩
theorem leapfrogref13x_New.ok (S : Sig) (a0 : Value) (s : St) : evF S Try.prog leapfrogref13x_New.ctx leapfrogref13x_New.an Try.f20 [a0] s = leapfrogref13x_New.t S a0 s := by kernel_rfl
theorem leapfrogref13x_New.cok : CtxOk Try.prog leapfrogref13x_New.ctx := .cons leapfrogref01x_Right.sound leapfrogref01x_Right.can <| .cons leapfrogref01x_BeginsQ.sound leapfrogref01x_BeginsQ.can <| .cons leapfrogref03x_IsKey.sound leapfrogref03x_IsKey.can <| .cons leapfrogref09x_Less.sound leapfrogref09x_Less.can <| .cons leapfrogref07x_IsOwner.sound leapfrogref07x_IsOwner.can <| .nil
theorem leapfrogref13x_New.draws : fnDraws leapfrogref13x_New.an Try.f20 = true := by kernel_rfl
theorem leapfrogref13x_New.can : callOk Try.prog 20 = true := by kernel_rfl
theorem leapfrogref13x_New.sound : FnOk Try.prog 20 (.st leapfrogref13x_New.w) := FnOk.st_of (evF_ok leapfrogref13x_New.cok mixed (f := 20) (fn := Try.f20) (by kernel_rfl) leapfrogref13x_New.draws) fun args s r h => by
  unfold leapfrogref13x_New.w at h; split at h
  · rw [leapfrogref13x_New.ok std]; exact h
  · simp at h

/-! ### leapfrog/leapfrogref09.Head: function 42 -/
def leapfrogref09x_Head.ctx : Ctx := []
def leapfrogref09x_Head.t (S : Sig) (a0 : Value) (s : St) : Option Value :=
  S.bd (bx (Go.Value.agg #[(Go.Value.int Go.IntKind.i64 0), (Go.Value.int Go.IntKind.i64 0), (Go.Value.int Go.IntKind.u64 0), (Go.Value.int Go.IntKind.i64 0), (Go.Value.int Go.IntKind.u64 0)])) fun c1 => S.bd (bin .lss a0 (Go.Value.int Go.IntKind.i64 0)) fun x2 => S.bd (S.gd x2 false (some a0)) fun x3 => S.bd (S.gd x2 false (bin .gtr x3 (Go.Value.int Go.IntKind.i64 32))) fun x4 => S.bd (pik x2 (Go.Value.bool Bool.true) x4) fun x5 => S.cnd x5 (S.bd (bld [(Go.Value.int Go.IntKind.i64 0), (Go.Value.int Go.IntKind.i64 0), (Go.Value.int Go.IntKind.u64 0), (Go.Value.int Go.IntKind.i64 0), (Go.Value.int Go.IntKind.u64 0)] []) fun x6 => S.bd (stl c1 0 5 x6) fun c7 => S.bd (lal c7 0 5) fun x8 => some ((Value.tuple ⟨[x8, (Go.Value.int Go.IntKind.i64 90)]⟩))) (S.bd (bld [(Go.Value.int Go.IntKind.i64 0), (Go.Value.int Go.IntKind.u64 0)] [(0, 1, (Go.Value.int Go.IntKind.i64 1))]) fun x9 => S.bd (bld [(Go.Value.int Go.IntKind.i64 0), (Go.Value.int Go.IntKind.u64 0)] [(0, 1, a0)]) fun x10 => S.bd (bld [(Go.Value.int Go.IntKind.i64 0), (Go.Value.int Go.IntKind.i64 0), (Go.Value.int Go.IntKind.u64 0), (Go.Value.int Go.IntKind.i64 0), (Go.Value.int Go.IntKind.u64 0)] [(0, 1, (Go.Value.int Go.IntKind.i64 0)), (1, 2, x9), (3, 2, x10)]) fun x11 => S.bd (stl c1 0 5 x11) fun c12 => S.bd (lal c12 0 5) fun x13 => some ((Value.tuple ⟨[x13, (Go.Value.int Go.IntKind.i64 0)]⟩)))
def leapfrogref09x_Head.r (a0 : Value) (s : St) : Option Value := leapfrogref09x_Head.t std a0 s
def leapfrogref09x_Head.w : List Value → St → Option Value
  | [a0], s => leapfrogref09x_Head.r a0 s
  | _, _ => none
def leapfrogref09x_Head.an : An := ⟨15, true, [2], [], [], []⟩
theorem leapfrogref09x_Head.ok (S : Sig) (a0 : Value) (s : St) : evG S Try.prog leapfrogref09x_Head.ctx leapfrogref09x_Head.an Try.f42 [a0] s = leapfrogref09x_Head.t S a0 s := by kernel_rfl
theorem leapfrogref09x_Head.cok : CtxOk Try.prog leapfrogref09x_Head.ctx := .nil
theorem leapfrogref09x_Head.draws : fnDraws leapfrogref09x_Head.an Try.f42 = true := by kernel_rfl
theorem leapfrogref09x_Head.can : callOk Try.prog 42 = true := by kernel_rfl
theorem leapfrogref09x_Head.sound : FnOk Try.prog 42 (.rd leapfrogref09x_Head.w) := FnOk.rd_of (evG_ok leapfrogref09x_Head.cok mixed (f := 42) (fn := Try.f42) (by kernel_rfl) leapfrogref09x_Head.draws) fun args s r h => by
  unfold leapfrogref09x_Head.w at h; split at h
  · rw [leapfrogref09x_Head.ok std]; exact h
  · simp at h

/-! ### leapfrog/leapfroglaw13.at: function 62 -/
def leapfroglaw13x_at.ctx : Ctx := []
def leapfroglaw13x_at.t (S : Sig) (a0 : Value) (s : St) : Option Value :=
  S.bd (bx (Go.Value.agg #[(Go.Value.int Go.IntKind.i64 0), (Go.Value.int Go.IntKind.u64 0)])) fun c1 => S.bd (bld [(Go.Value.int Go.IntKind.i64 0), (Go.Value.int Go.IntKind.u64 0)] [(0, 1, (Go.Value.int Go.IntKind.i64 2)), (1, 1, a0)]) fun x2 => S.bd (stl c1 0 2 x2) fun c3 => S.bd (lal c3 0 2) fun x4 => some (x4)
def leapfroglaw13x_at.r (a0 : Value) (s : St) : Option Value := leapfroglaw13x_at.t std a0 s
def leapfroglaw13x_at.w : List Value → St → Option Value
  | [a0], s => leapfroglaw13x_at.r a0 s
  | _, _ => none
def leapfroglaw13x_at.an : An := ⟨5, true, [2], [], [], []⟩
theorem leapfroglaw13x_at.ok (S : Sig) (a0 : Value) (s : St) : evG S Try.prog leapfroglaw13x_at.ctx leapfroglaw13x_at.an Try.f62 [a0] s = leapfroglaw13x_at.t S a0 s := by kernel_rfl
theorem leapfroglaw13x_at.cok : CtxOk Try.prog leapfroglaw13x_at.ctx := .nil
theorem leapfroglaw13x_at.draws : fnDraws leapfroglaw13x_at.an Try.f62 = true := by kernel_rfl
theorem leapfroglaw13x_at.can : callOk Try.prog 62 = true := by kernel_rfl
theorem leapfroglaw13x_at.sound : FnOk Try.prog 62 (.rd leapfroglaw13x_at.w) := FnOk.rd_of (evG_ok leapfroglaw13x_at.cok mixed (f := 62) (fn := Try.f62) (by kernel_rfl) leapfroglaw13x_at.draws) fun args s r h => by
  unfold leapfroglaw13x_at.w at h; split at h
  · rw [leapfroglaw13x_at.ok std]; exact h
  · simp at h

/-! ### leapfrog/leapfroglaw13.conf: function 30 -/
def leapfroglaw13x_conf.ctx : Ctx := [(42, .rd leapfrogref09x_Head.w), (62, .rd leapfroglaw13x_at.w)]
def leapfroglaw13x_conf.t (S : Sig) (s : St) : Option Value :=
  S.bd (bx (Go.Value.agg #[(Go.Value.int Go.IntKind.i64 0), (Go.Value.int Go.IntKind.u64 0), (Go.Value.int Go.IntKind.i64 0), (Go.Value.int Go.IntKind.i64 0), (Go.Value.int Go.IntKind.u64 0), (Go.Value.int Go.IntKind.i64 0), (Go.Value.int Go.IntKind.u64 0), (Go.Value.int Go.IntKind.i64 0), (Go.Value.int Go.IntKind.i64 0), (Go.Value.int Go.IntKind.u64 0), (Go.Value.int Go.IntKind.i64 0), (Go.Value.int Go.IntKind.u64 0), (Go.Value.int Go.IntKind.i64 0), (Go.Value.int Go.IntKind.i64 0)])) fun c1 => S.bd (leapfrogref09x_Head.r (Go.Value.int Go.IntKind.i64 0) s) fun x2 => S.bd (xtr 0 x2) fun x3 => S.bd (xtr 1 x2) fun x4 => S.bd (bx (Go.Value.agg #[(Go.Value.int Go.IntKind.i64 0), (Go.Value.int Go.IntKind.i64 0), (Go.Value.int Go.IntKind.u64 0), (Go.Value.int Go.IntKind.i64 0), (Go.Value.int Go.IntKind.u64 0)])) fun c5 => S.bd (stl c5 0 5 x3) fun c6 => S.bd (lal c6 0 5) fun x7 => S.bd (bld [(Go.Value.int Go.IntKind.i64 0), (Go.Value.int Go.IntKind.i64 0)] [(1, 1, (Go.Value.int Go.IntKind.i64 1))]) fun x8 => S.bd (leapfroglaw13x_at.r (Go.Value.int Go.IntKind.u64 5) s) fun x9 => S.bd (bld [(Go.Value.int Go.IntKind.i64 0), (Go.Value.int Go.IntKind.i64 0), (Go.Value.int Go.IntKind.u64 0), (Go.Value.int Go.IntKind.i64 0), (Go.Value.int Go.IntKind.u64 0)] [(0, 1, (Go.Value.int Go.IntKind.i64 2)), (1, 2, x9)]) fun x10 => S.bd (bld [(Go.Value.int Go.IntKind.i64 0), (Go.Value.int Go.IntKind.u64 0), (Go.Value.int Go.IntKind.i64 0), (Go.Value.int Go.IntKind.i64 0), (Go.Value.int Go.IntKind.u64 0), (Go.Value.int Go.IntKind.i64 0), (Go.Value.int Go.IntKind.u64 0), (Go.Value.int Go.IntKind.i64 0), (Go.Value.int Go.IntKind.i64 0), (Go.Value.int Go.IntKind.u64 0), (Go.Value.int Go.IntKind.i64 0), (Go.Value.int Go.IntKind.u64 0), (Go.Value.int Go.IntKind.i64 0), (Go.Value.int Go.IntKind.i64 0)] [(2, 5, x10), (7, 5, x7), (12, 2, x8)]) fun x11 => S.bd (stl c1 0 14 x11) fun c12 => S.bd (lal c12 0 14) fun x13 => some (x13)
def leapfroglaw13x_conf.r (s : St) : Option Value := leapfroglaw13x_conf.t std  s
def leapfroglaw13x_conf.w : List Value → St → Option Value
  | [], s => leapfroglaw13x_conf.r  s
  | _, _ => none
def leapfroglaw13x_conf.an : An := ⟨12, true, [0, 1], [], [], [(2, [(2, 9, [], []), (3, 0, [], []), (0, 3, [], []), (1, 0, [], []), (4, 0, [], []), (5, 5, [], [])])]⟩
theorem leapfroglaw13x_conf.ok (S : Sig) (s : St) : evG S Try.prog leapfroglaw13x_conf.ctx leapfroglaw13x_conf.an Try.f30 [] s = leapfroglaw13x_conf.t S  s := by kernel_rfl
theorem leapfroglaw13x_conf.cok : CtxOk Try.prog leapfroglaw13x_conf.ctx := .cons leapfrogref09x_Head.sound leapfrogref09x_Head.can <| .cons leapfroglaw13x_at.sound leapfroglaw13x_at.can <| .nil
theorem leapfroglaw13x_conf.draws : fnDraws leapfroglaw13x_conf.an Try.f30 = true := by kernel_rfl
theorem leapfroglaw13x_conf.can : callOk Try.prog 30 = true := by kernel_rfl
theorem leapfroglaw13x_conf.sound : FnOk Try.prog 30 (.rd leapfroglaw13x_conf.w) := FnOk.rd_of (evG_ok leapfroglaw13x_conf.cok mixed (f := 30) (fn := Try.f30) (by kernel_rfl) leapfroglaw13x_conf.draws) fun args s r h => by
  unfold leapfroglaw13x_conf.w at h; split at h
  · rw [leapfroglaw13x_conf.ok std]; exact h
  · simp at h

/-! ### leapfrog/leapfrogref09.Tail: function 31 -/
def leapfrogref09x_Tail.ctx : Ctx := []
def leapfrogref09x_Tail.t (S : Sig) (a0 : Value) (s : St) : Option Value :=
  S.bd (bx (Go.Value.agg #[(Go.Value.int Go.IntKind.i64 0), (Go.Value.int Go.IntKind.i64 0), (Go.Value.int Go.IntKind.u64 0), (Go.Value.int Go.IntKind.i64 0), (Go.Value.int Go.IntKind.u64 0)])) fun c1 => S.bd (bin .lss a0 (Go.Value.int Go.IntKind.i64 0)) fun x2 => S.bd (S.gd x2 false (some a0)) fun x3 => S.bd (S.gd x2 false (bin .gtr x3 (Go.Value.int Go.IntKind.i64 32))) fun x4 => S.bd (pik x2 (Go.Value.bool Bool.true) x4) fun x5 => S.cnd x5 (S.bd (bld [(Go.Value.int Go.IntKind.i64 0), (Go.Value.int Go.IntKind.i64 0), (Go.Value.int Go.IntKind.u64 0), (Go.Value.int Go.IntKind.i64 0), (Go.Value.int Go.IntKind.u64 0)] []) fun x6 => S.bd (stl c1 0 5 x6) fun c7 => S.bd (lal c7 0 5) fun x8 => some ((Value.tuple ⟨[x8, (Go.Value.int Go.IntKind.i64 90)]⟩))) (S.bd (bld [(Go.Value.int Go.IntKind.i64 0), (Go.Value.int Go.IntKind.u64 0)] [(0, 1, (Go.Value.int Go.IntKind.i64 3))]) fun x9 => S.bd (bld [(Go.Value.int Go.IntKind.i64 0), (Go.Value.int Go.IntKind.u64 0)] [(0, 1, a0)]) fun x10 => S.bd (bld [(Go.Value.int Go.IntKind.i64 0), (Go.Value.int Go.IntKind.i64 0), (Go.Value.int Go.IntKind.u64 0), (Go.Value.int Go.IntKind.i64 0), (Go.Value.int Go.IntKind.u64 0)] [(0, 1, (Go.Value.int Go.IntKind.i64 1)), (1, 2, x9), (3, 2, x10)]) fun x11 => S.bd (stl c1 0 5 x11) fun c12 => S.bd (lal c12 0 5) fun x13 => some ((Value.tuple ⟨[x13, (Go.Value.int Go.IntKind.i64 0)]⟩)))
def leapfrogref09x_Tail.r (a0 : Value) (s : St) : Option Value := leapfrogref09x_Tail.t std a0 s
def leapfrogref09x_Tail.w : List Value → St → Option Value
  | [a0], s => leapfrogref09x_Tail.r a0 s
  | _, _ => none
def leapfrogref09x_Tail.an : An := ⟨15, true, [2], [], [], []⟩
theorem leapfrogref09x_Tail.ok (S : Sig) (a0 : Value) (s : St) : evG S Try.prog leapfrogref09x_Tail.ctx leapfrogref09x_Tail.an Try.f31 [a0] s = leapfrogref09x_Tail.t S a0 s := by kernel_rfl
theorem leapfrogref09x_Tail.cok : CtxOk Try.prog leapfrogref09x_Tail.ctx := .nil
theorem leapfrogref09x_Tail.draws : fnDraws leapfrogref09x_Tail.an Try.f31 = true := by kernel_rfl
theorem leapfrogref09x_Tail.can : callOk Try.prog 31 = true := by kernel_rfl
theorem leapfrogref09x_Tail.sound : FnOk Try.prog 31 (.rd leapfrogref09x_Tail.w) := FnOk.rd_of (evG_ok leapfrogref09x_Tail.cok mixed (f := 31) (fn := Try.f31) (by kernel_rfl) leapfrogref09x_Tail.draws) fun args s r h => by
  unfold leapfrogref09x_Tail.w at h; split at h
  · rw [leapfrogref09x_Tail.ok std]; exact h
  · simp at h

/-! ### (*leapfrog/splice.Splice).ask: function 39 -/
def splice_Splice_ask.ctx : Ctx := []
def splice_Splice_ask.t (S : Sig) (a0 a1 a2 : Value) (s : St) : Option Value :=
  S.bd (bx a1) fun c1 => S.bd (bx a2) fun c2 => S.bd (bx (Go.Value.agg #[(Go.Value.int Go.IntKind.i64 0), (Go.Value.int Go.IntKind.i64 0), (Go.Value.int Go.IntKind.i64 0), (Go.Value.int Go.IntKind.u64 0), (Go.Value.int Go.IntKind.i64 0), (Go.Value.int Go.IntKind.u64 0), (Go.Value.int Go.IntKind.i64 0), (Go.Value.int Go.IntKind.i64 0), (Go.Value.int Go.IntKind.u64 0), (Go.Value.int Go.IntKind.i64 0), (Go.Value.int Go.IntKind.i64 0), (Go.Value.int Go.IntKind.u64 0), (Go.Value.int Go.IntKind.i64 0), (Go.Value.int Go.IntKind.u64 0), (Go.Value.int Go.IntKind.i64 0), (Go.Value.int Go.IntKind.i64 0), (Go.Value.int Go.IntKind.u64 0), (Go.Value.int Go.IntKind.i64 0), (Go.Value.int Go.IntKind.u64 0), (Go.Value.int Go.IntKind.i64 0), (Go.Value.int Go.IntKind.i64 0), (Go.Value.int Go.IntKind.i64 0), (Go.Value.int Go.IntKind.u64 0), (Go.Value.slice Option.none 0 0), (Go.Value.slice Option.none 0 0), (Go.Value.int Go.IntKind.i64 0), (Go.Value.int Go.IntKind.i64 0), (Go.Value.int Go.IntKind.u64 0), (Go.Value.int Go.IntKind.i64 0), (Go.Value.int Go.IntKind.u64 0), (Go.Value.int Go.IntKind.i64 0), (Go.Value.int Go.IntKind.i64 0), (Go.Value.int Go.IntKind.u64 0), (Go.Value.int Go.IntKind.i64 0), (Go.Value.int Go.IntKind.u64 0), (Go.Value.bool Bool.false)])) fun c3 => S.bd (nck a0) fun x4 => S.bd (fld 0 x4) fun x5 => S.bd (fld 0 x5) fun x6 => S.bd (lda s 2 x6) fun x7 => S.bd (stl c2 1 2 x7) fun c8 => S.bd (lal c1 0 5) fun x9 => S.bd (lal c8 0 15) fun x10 => S.bd (bld [(Go.Value.int Go.IntKind.i64 0), (Go.Value.int Go.IntKind.i64 0), (Go.Value.int Go.IntKind.i64 0), (Go.Value.int Go.IntKind.u64 0), (Go.Value.int Go.IntKind.i64 0), (Go.Value.int Go.IntKind.u64 0), (Go.Value.int Go.IntKind.i64 0), (Go.Value.int Go.IntKind.i64 0), (Go.Value.int Go.IntKind.u64 0), (Go.Value.int Go.IntKind.i64 0), (Go.Value.int Go.IntKind.i64 0), (Go.Value.int Go.IntKind.u64 0), (Go.Value.int Go.IntKind.i64 0), (Go.Value.int Go.IntKind.u64 0), (Go.Value.int Go.IntKind.i64 0), (Go.Value.int Go.IntKind.i64 0), (Go.Value.int Go.IntKind.u64 0), (Go.Value.int Go.IntKind.i64 0), (Go.Value.int Go.IntKind.u64 0), (Go.Value.int Go.IntKind.i64 0), (Go.Value.int Go.IntKind.i64 0), (Go.Value.int Go.IntKind.i64 0), (Go.Value.int Go.IntKind.u64 0), (Go.Value.slice Option.none 0 0), (Go.Value.slice Option.none 0 0), (Go.Value.int Go.IntKind.i64 0), (Go.Value.int Go.IntKind.i64 0), (Go.Value.int Go.IntKind.u64 0), (Go.Value.int Go.IntKind.i64 0), (Go.Value.int Go.IntKind.u64 0), (Go.Value.int Go.IntKind.i64 0), (Go.Value.int Go.IntKind.i64 0), (Go.Value.int Go.IntKind.u64 0), (Go.Value.int Go.IntKind.i64 0), (Go.Value.int Go.IntKind.u64 0), (Go.Value.bool Bool.false)] [(0, 1, (Go.Value.int Go.IntKind.i64 1)), (1, 5, x9), (6, 15, x10)]) fun x11 => S.bd (stl c3 0 36 x11) fun c12 => S.bd (lal c12 0 36) fun x13 => some (x13)
def splice_Splice_ask.r (a0 a1 a2 : Value) (s : St) : Option Value := splice_Splice_ask.t std a0 a1 a2 s
def splice_Splice_ask.w : List Value → St → Option Value
  | [a0, a1, a2], s => splice_Splice_ask.r a0 a1 a2 s
  | _, _ => none
def splice_Splice_ask.an : An := ⟨16, true, [4, 5, 6], [], [], []⟩
theorem splice_Splice_ask.ok (S : Sig) (a0 a1 a2 : Value) (s : St) : evG S Try.prog splice_Splice_ask.ctx splice_Splice_ask.an Try.f39 [a0, a1, a2] s = splice_Splice_ask.t S a0 a1 a2 s := by kernel_rfl
theorem splice_Splice_ask.cok : CtxOk Try.prog splice_Splice_ask.ctx := .nil
theorem splice_Splice_ask.draws : fnDraws splice_Splice_ask.an Try.f39 = true := by kernel_rfl
theorem splice_Splice_ask.can : callOk Try.prog 39 = true := by kernel_rfl
theorem splice_Splice_ask.sound : FnOk Try.prog 39 (.rd splice_Splice_ask.w) := FnOk.rd_of (evG_ok splice_Splice_ask.cok mixed (f := 39) (fn := Try.f39) (by kernel_rfl) splice_Splice_ask.draws) fun args s r h => by
  unfold splice_Splice_ask.w at h; split at h
  · rw [splice_Splice_ask.ok std]; exact h
  · simp at h

/-! ### (*leapfrog/splice.Splice).Next: function 15 -/
def splice_Splice_Next.ctx : Ctx := [(39, .rd splice_Splice_ask.w)]
def splice_Splice_Next.t.p1 (S : Sig) (x8 : Value) (a0 : Value) (s : St) (c1 : List Value) : Option Value :=
  S.bd (eqb [1] false false x8 (Go.Value.int Go.IntKind.i64 10)) fun x118 => S.cnd x118 (S.bd (nck a0) fun x119 => S.bd (fld 29 x119) fun x120 => S.bd (lda s 15 x120) fun x121 => S.bd (bld [(Go.Value.int Go.IntKind.i64 0), (Go.Value.int Go.IntKind.i64 0), (Go.Value.int Go.IntKind.i64 0), (Go.Value.int Go.IntKind.u64 0), (Go.Value.int Go.IntKind.i64 0), (Go.Value.int Go.IntKind.u64 0), (Go.Value.int Go.IntKind.i64 0), (Go.Value.int Go.IntKind.i64 0), (Go.Value.int Go.IntKind.u64 0), (Go.Value.int Go.IntKind.i64 0), (Go.Value.int Go.IntKind.i64 0), (Go.Value.int Go.IntKind.u64 0), (Go.Value.int Go.IntKind.i64 0), (Go.Value.int Go.IntKind.u64 0), (Go.Value.int Go.IntKind.i64 0), (Go.Value.int Go.IntKind.i64 0), (Go.Value.int Go.IntKind.u64 0), (Go.Value.int Go.IntKind.i64 0), (Go.Value.int Go.IntKind.u64 0), (Go.Value.int Go.IntKind.i64 0), (Go.Value.int Go.IntKind.i64 0), (Go.Value.int Go.IntKind.i64 0), (Go.Value.int Go.IntKind.u64 0), (Go.Value.slice Option.none 0 0), (Go.Value.slice Option.none 0 0), (Go.Value.int Go.IntKind.i64 0), (Go.Value.int Go.IntKind.i64 0), (Go.Value.int Go.IntKind.u64 0), (Go.Value.int Go.IntKind.i64 0), (Go.Value.int Go.IntKind.u64 0), (Go.Value.int Go.IntKind.i64 0), (Go.Value.int Go.IntKind.i64 0), (Go.Value.int Go.IntKind.u64 0), (Go.Value.int Go.IntKind.i64 0), (Go.Value.int Go.IntKind.u64 0), (Go.Value.bool Bool.false)] [(0, 1, (Go.Value.int Go.IntKind.i64 3)), (21, 15, x121)]) fun x122 => S.bd (stl c1 0 36 x122) fun c123 => S.bd (lal c123 0 36) fun x124 => some (x124)) (S.bd (bld [(Go.Value.int Go.IntKind.i64 0), (Go.Value.int Go.IntKind.i64 0), (Go.Value.int Go.IntKind.i64 0), (Go.Value.int Go.IntKind.u64 0), (Go.Value.int Go.IntKind.i64 0), (Go.Value.int Go.IntKind.u64 0), (Go.Value.int Go.IntKind.i64 0), (Go.Value.int Go.IntKind.i64 0), (Go.Value.int Go.IntKind.u64 0), (Go.Value.int Go.IntKind.i64 0), (Go.Value.int Go.IntKind.i64 0), (Go.Value.int Go.IntKind.u64 0), (Go.Value.int Go.IntKind.i64 0), (Go.Value.int Go.IntKind.u64 0), (Go.Value.int Go.IntKind.i64 0), (Go.Value.int Go.IntKind.i64 0), (Go.Value.int Go.IntKind.u64 0), (Go.Value.int Go.IntKind.i64 0), (Go.Value.int Go.IntKind.u64 0), (Go.Value.int Go.IntKind.i64 0), (Go.Value.int Go.IntKind.i64 0), (Go.Value.int Go.IntKind.i64 0), (Go.Value.int Go.IntKind.u64 0), (Go.Value.slice Option.none 0 0), (Go.Value.slice Option.none 0 0), (Go.Value.int Go.IntKind.i64 0), (Go.Value.int Go.IntKind.i64 0), (Go.Value.int Go.IntKind.u64 0), (Go.Value.int Go.IntKind.i64 0), (Go.Value.int Go.IntKind.u64 0), (Go.Value.int Go.IntKind.i64 0), (Go.Value.int Go.IntKind.i64 0), (Go.Value.int Go.IntKind.u64 0), (Go.Value.int Go.IntKind.i64 0), (Go.Value.int Go.IntKind.u64 0), (Go.Value.bool Bool.false)] []) fun x125 => S.bd (stl c1 0 36 x125) fun c126 => S.bd (lal c126 0 36) fun x127 => some (x127))

def splice_Splice_Next.t.p2 (S : Sig) (x8 : Value) (a0 : Value) (s : St) (c1 : List Value) : Option Value :=
  S.bd (eqb [1] false false x8 (Go.Value.int Go.IntKind.i64 8)) fun x102 => S.cnd x102 (S.bd (nck a0) fun x103 => S.bd (fld 15 x103) fun x104 => S.bd (lda s 5 x104) fun x105 => S.bd (nck a0) fun x106 => S.bd (fld 0 x106) fun x107 => S.bd (fld 12 x107) fun x108 => S.bd (lda s 2 x108) fun x109 => S.bd (bld [(Go.Value.int Go.IntKind.i64 0), (Go.Value.int Go.IntKind.i64 0), (Go.Value.int Go.IntKind.u64 0), (Go.Value.int Go.IntKind.i64 0), (Go.Value.int Go.IntKind.i64 0), (Go.Value.int Go.IntKind.u64 0), (Go.Value.int Go.IntKind.i64 0), (Go.Value.int Go.IntKind.u64 0), (Go.Value.int Go.IntKind.i64 0), (Go.Value.int Go.IntKind.i64 0), (Go.Value.int Go.IntKind.u64 0), (Go.Value.int Go.IntKind.i64 0), (Go.Value.int Go.IntKind.u64 0), (Go.Value.int Go.IntKind.i64 0), (Go.Value.int Go.IntKind.i64 0)] [(0, 1, (Go.Value.int Go.IntKind.i64 4)), (13, 2, x109)]) fun x110 => S.bd (splice_Splice_ask.r a0 x105 x110 s) fun x111 => S.bd (stl c1 0 36 x111) fun c112 => S.bd (lal c112 0 36) fun x113 => some (x113)) (S.bd (eqb [1] false false x8 (Go.Value.int Go.IntKind.i64 9)) fun x114 => S.cnd x114 (S.bd (bld [(Go.Value.int Go.IntKind.i64 0), (Go.Value.int Go.IntKind.i64 0), (Go.Value.int Go.IntKind.i64 0), (Go.Value.int Go.IntKind.u64 0), (Go.Value.int Go.IntKind.i64 0), (Go.Value.int Go.IntKind.u64 0), (Go.Value.int Go.IntKind.i64 0), (Go.Value.int Go.IntKind.i64 0), (Go.Value.int Go.IntKind.u64 0), (Go.Value.int Go.IntKind.i64 0), (Go.Value.int Go.IntKind.i64 0), (Go.Value.int Go.IntKind.u64 0), (Go.Value.int Go.IntKind.i64 0), (Go.Value.int Go.IntKind.u64 0), (Go.Value.int Go.IntKind.i64 0), (Go.Value.int Go.IntKind.i64 0), (Go.Value.int Go.IntKind.u64 0), (Go.Value.int Go.IntKind.i64 0), (Go.Value.int Go.IntKind.u64 0), (Go.Value.int Go.IntKind.i64 0), (Go.Value.int Go.IntKind.i64 0), (Go.Value.int Go.IntKind.i64 0), (Go.Value.int Go.IntKind.u64 0), (Go.Value.slice Option.none 0 0), (Go.Value.slice Option.none 0 0), (Go.Value.int Go.IntKind.i64 0), (Go.Value.int Go.IntKind.i64 0), (Go.Value.int Go.IntKind.u64 0), (Go.Value.int Go.IntKind.i64 0), (Go.Value.int Go.IntKind.u64 0), (Go.Value.int Go.IntKind.i64 0), (Go.Value.int Go.IntKind.i64 0), (Go.Value.int Go.IntKind.u64 0), (Go.Value.int Go.IntKind.i64 0), (Go.Value.int Go.IntKind.u64 0), (Go.Value.bool Bool.false)] [(0, 1, (Go.Value.int Go.IntKind.i64 2))]) fun x115 => S.bd (stl c1 0 36 x115) fun c116 => S.bd (lal c116 0 36) fun x117 => some (x117)) (splice_Splice_Next.t.p1 S x8 a0 s c1))

def splice_Splice_Next.t.p3 (S : Sig) (x8 : Value) (a0 : Value) (s : St) (c1 : List Value) : Option Value :=
  S.bd (eqb [1] false false x8 (Go.Value.int Go.IntKind.i64 6)) fun x76 => S.cnd x76 (S.bd (nck a0) fun x77 => S.bd (fld 0 x77) fun x78 => S.bd (fld 2 x78) fun x79 => S.bd (lda s 5 x79) fun x80 => S.bd (nck a0) fun x81 => S.bd (fld 0 x81) fun x82 => S.bd (fld 12 x82) fun x83 => S.bd (lda s 2 x83) fun x84 => S.bd (bld [(Go.Value.int Go.IntKind.i64 0), (Go.Value.int Go.IntKind.i64 0), (Go.Value.int Go.IntKind.u64 0), (Go.Value.int Go.IntKind.i64 0), (Go.Value.int Go.IntKind.i64 0), (Go.Value.int Go.IntKind.u64 0), (Go.Value.int Go.IntKind.i64 0), (Go.Value.int Go.IntKind.u64 0), (Go.Value.int Go.IntKind.i64 0), (Go.Value.int Go.IntKind.i64 0), (Go.Value.int Go.IntKind.u64 0), (Go.Value.int Go.IntKind.i64 0), (Go.Value.int Go.IntKind.u64 0), (Go.Value.int Go.IntKind.i64 0), (Go.Value.int Go.IntKind.i64 0)] [(0, 1, (Go.Value.int Go.IntKind.i64 4)), (13, 2, x84)]) fun x85 => S.bd (splice_Splice_ask.r a0 x80 x85 s) fun x86 => S.bd (stl c1 0 36 x86) fun c87 => S.bd (lal c87 0 36) fun x88 => some (x88)) (S.bd (eqb [1] false false x8 (Go.Value.int Go.IntKind.i64 7)) fun x89 => S.cnd x89 (S.bd (nck a0) fun x90 => S.bd (fld 0 x90) fun x91 => S.bd (fld 2 x91) fun x92 => S.bd (lda s 5 x92) fun x93 => S.bd (nck a0) fun x94 => S.bd (fld 0 x94) fun x95 => S.bd (fld 12 x95) fun x96 => S.bd (lda s 2 x96) fun x97 => S.bd (bld [(Go.Value.int Go.IntKind.i64 0), (Go.Value.int Go.IntKind.i64 0), (Go.Value.int Go.IntKind.u64 0), (Go.Value.int Go.IntKind.i64 0), (Go.Value.int Go.IntKind.i64 0), (Go.Value.int Go.IntKind.u64 0), (Go.Value.int Go.IntKind.i64 0), (Go.Value.int Go.IntKind.u64 0), (Go.Value.int Go.IntKind.i64 0), (Go.Value.int Go.IntKind.i64 0), (Go.Value.int Go.IntKind.u64 0), (Go.Value.int Go.IntKind.i64 0), (Go.Value.int Go.IntKind.u64 0), (Go.Value.int Go.IntKind.i64 0), (Go.Value.int Go.IntKind.i64 0)] [(0, 1, (Go.Value.int Go.IntKind.i64 8)), (13, 2, x97)]) fun x98 => S.bd (splice_Splice_ask.r a0 x93 x98 s) fun x99 => S.bd (stl c1 0 36 x99) fun c100 => S.bd (lal c100 0 36) fun x101 => some (x101)) (splice_Splice_Next.t.p2 S x8 a0 s c1))

def splice_Splice_Next.t.p4 (S : Sig) (x8 : Value) (a0 : Value) (s : St) (c1 : List Value) : Option Value :=
  S.bd (eqb [1] false false x8 (Go.Value.int Go.IntKind.i64 4)) fun x48 => S.cnd x48 (S.bd (nck a0) fun x49 => S.bd (fld 15 x49) fun x50 => S.bd (lda s 5 x50) fun x51 => S.bd (nck a0) fun x52 => S.bd (fld 0 x52) fun x53 => S.bd (fld 2 x53) fun x54 => S.bd (lda s 5 x54) fun x55 => S.bd (nck a0) fun x56 => S.bd (fld 0 x56) fun x57 => S.bd (fld 12 x57) fun x58 => S.bd (lda s 2 x58) fun x59 => S.bd (bld [(Go.Value.int Go.IntKind.i64 0), (Go.Value.int Go.IntKind.i64 0), (Go.Value.int Go.IntKind.u64 0), (Go.Value.int Go.IntKind.i64 0), (Go.Value.int Go.IntKind.i64 0), (Go.Value.int Go.IntKind.u64 0), (Go.Value.int Go.IntKind.i64 0), (Go.Value.int Go.IntKind.u64 0), (Go.Value.int Go.IntKind.i64 0), (Go.Value.int Go.IntKind.i64 0), (Go.Value.int Go.IntKind.u64 0), (Go.Value.int Go.IntKind.i64 0), (Go.Value.int Go.IntKind.u64 0), (Go.Value.int Go.IntKind.i64 0), (Go.Value.int Go.IntKind.i64 0)] [(0, 1, (Go.Value.int Go.IntKind.i64 5)), (3, 5, x55), (13, 2, x59)]) fun x60 => S.bd (splice_Splice_ask.r a0 x51 x60 s) fun x61 => S.bd (stl c1 0 36 x61) fun c62 => S.bd (lal c62 0 36) fun x63 => some (x63)) (S.bd (eqb [1] false false x8 (Go.Value.int Go.IntKind.i64 5)) fun x64 => S.cnd x64 (S.bd (nck a0) fun x65 => S.bd (fld 21 x65) fun x66 => S.bd (lda s 5 x66) fun x67 => S.bd (nck a0) fun x68 => S.bd (fld 0 x68) fun x69 => S.bd (fld 2 x69) fun x70 => S.bd (lda s 5 x70) fun x71 => S.bd (bld [(Go.Value.int Go.IntKind.i64 0), (Go.Value.int Go.IntKind.i64 0), (Go.Value.int Go.IntKind.u64 0), (Go.Value.int Go.IntKind.i64 0), (Go.Value.int Go.IntKind.i64 0), (Go.Value.int Go.IntKind.u64 0), (Go.Value.int Go.IntKind.i64 0), (Go.Value.int Go.IntKind.u64 0), (Go.Value.int Go.IntKind.i64 0), (Go.Value.int Go.IntKind.i64 0), (Go.Value.int Go.IntKind.u64 0), (Go.Value.int Go.IntKind.i64 0), (Go.Value.int Go.IntKind.u64 0), (Go.Value.int Go.IntKind.i64 0), (Go.Value.int Go.IntKind.i64 0)] [(0, 1, (Go.Value.int Go.IntKind.i64 6)), (3, 5, x71)]) fun x72 => S.bd (splice_Splice_ask.r a0 x67 x72 s) fun x73 => S.bd (stl c1 0 36 x73) fun c74 => S.bd (lal c74 0 36) fun x75 => some (x75)) (splice_Splice_Next.t.p3 S x8 a0 s c1))

def splice_Splice_Next.t.p5 (S : Sig) (x8 : Value) (a0 : Value) (s : St) (c1 : List Value) : Option Value :=
  S.bd (eqb [1] false false x8 (Go.Value.int Go.IntKind.i64 2)) fun x21 => S.cnd x21 (S.bd (nck a0) fun x22 => S.bd (fld 21 x22) fun x23 => S.bd (lda s 5 x23) fun x24 => S.bd (bld [(Go.Value.int Go.IntKind.i64 0), (Go.Value.int Go.IntKind.i64 0), (Go.Value.int Go.IntKind.u64 0), (Go.Value.int Go.IntKind.i64 0), (Go.Value.int Go.IntKind.i64 0), (Go.Value.int Go.IntKind.u64 0), (Go.Value.int Go.IntKind.i64 0), (Go.Value.int Go.IntKind.u64 0), (Go.Value.int Go.IntKind.i64 0), (Go.Value.int Go.IntKind.i64 0), (Go.Value.int Go.IntKind.u64 0), (Go.Value.int Go.IntKind.i64 0), (Go.Value.int Go.IntKind.u64 0), (Go.Value.int Go.IntKind.i64 0), (Go.Value.int Go.IntKind.i64 0)] [(0, 1, (Go.Value.int Go.IntKind.i64 1))]) fun x25 => S.bd (splice_Splice_ask.r a0 x24 x25 s) fun x26 => S.bd (stl c1 0 36 x26) fun c27 => S.bd (lal c27 0 36) fun x28 => some (x28)) (S.bd (eqb [1] false false x8 (Go.Value.int Go.IntKind.i64 3)) fun x29 => S.cnd x29 (S.bd (nck a0) fun x30 => S.bd (fld 0 x30) fun x31 => S.bd (fld 2 x31) fun x32 => S.bd (lda s 5 x32) fun x33 => S.bd (nck a0) fun x34 => S.bd (fld 15 x34) fun x35 => S.bd (lda s 5 x35) fun x36 => S.bd (nck a0) fun x37 => S.bd (fld 21 x37) fun x38 => S.bd (lda s 5 x38) fun x39 => S.bd (nck a0) fun x40 => S.bd (fld 0 x40) fun x41 => S.bd (fld 12 x41) fun x42 => S.bd (lda s 2 x42) fun x43 => S.bd (bld [(Go.Value.int Go.IntKind.i64 0), (Go.Value.int Go.IntKind.i64 0), (Go.Value.int Go.IntKind.u64 0), (Go.Value.int Go.IntKind.i64 0), (Go.Value.int Go.IntKind.i64 0), (Go.Value.int Go.IntKind.u64 0), (Go.Value.int Go.IntKind.i64 0), (Go.Value.int Go.IntKind.u64 0), (Go.Value.int Go.IntKind.i64 0), (Go.Value.int Go.IntKind.i64 0), (Go.Value.int Go.IntKind.u64 0), (Go.Value.int Go.IntKind.i64 0), (Go.Value.int Go.IntKind.u64 0), (Go.Value.int Go.IntKind.i64 0), (Go.Value.int Go.IntKind.i64 0)] [(0, 1, (Go.Value.int Go.IntKind.i64 7)), (3, 5, x36), (8, 5, x39), (13, 2, x43)]) fun x44 => S.bd (splice_Splice_ask.r a0 x33 x44 s) fun x45 => S.bd (stl c1 0 36 x45) fun c46 => S.bd (lal c46 0 36) fun x47 => some (x47)) (splice_Splice_Next.t.p4 S x8 a0 s c1))

def splice_Splice_Next.t (S : Sig) (a0 : Value) (s : St) : Option Value :=
  S.bd (bx (Go.Value.agg #[(Go.Value.int Go.IntKind.i64 0), (Go.Value.int Go.IntKind.i64 0), (Go.Value.int Go.IntKind.i64 0), (Go.Value.int Go.IntKind.u64 0), (Go.Value.int Go.IntKind.i64 0), (Go.Value.int Go.IntKind.u64 0), (Go.Value.int Go.IntKind.i64 0), (Go.Value.int Go.IntKind.i64 0), (Go.Value.int Go.IntKind.u64 0), (Go.Value.int Go.IntKind.i64 0), (Go.Value.int Go.IntKind.i64 0), (Go.Value.int Go.IntKind.u64 0), (Go.Value.int Go.IntKind.i64 0), (Go.Value.int Go.IntKind.u64 0), (Go.Value.int Go.IntKind.i64 0), (Go.Value.int Go.IntKind.i64 0), (Go.Value.int Go.IntKind.u64 0), (Go.Value.int Go.IntKind.i64 0), (Go.Value.int Go.IntKind.u64 0), (Go.Value.int Go.IntKind.i64 0), (Go.Value.int Go.IntKind.i64 0), (Go.Value.int Go.IntKind.i64 0), (Go.Value.int Go.IntKind.u64 0), (Go.Value.slice Option.none 0 0), (Go.Value.slice Option.none 0 0), (Go.Value.int Go.IntKind.i64 0), (Go.Value.int Go.IntKind.i64 0), (Go.Value.int Go.IntKind.u64 0), (Go.Value.int Go.IntKind.i64 0), (Go.Value.int Go.IntKind.u64 0), (Go.Value.int Go.IntKind.i64 0), (Go.Value.int Go.IntKind.i64 0), (Go.Value.int Go.IntKind.u64 0), (Go.Value.int Go.IntKind.i64 0), (Go.Value.int Go.IntKind.u64 0), (Go.Value.bool Bool.false)])) fun c1 => S.bd (eqb [3] false false a0 (Go.Value.pointer Option.none)) fun x2 => S.cnd x2 (S.bd (bld [(Go.Value.int Go.IntKind.i64 0), (Go.Value.int Go.IntKind.i64 0), (Go.Value.int Go.IntKind.i64 0), (Go.Value.int Go.IntKind.u64 0), (Go.Value.int Go.IntKind.i64 0), (Go.Value.int Go.IntKind.u64 0), (Go.Value.int Go.IntKind.i64 0), (Go.Value.int Go.IntKind.i64 0), (Go.Value.int Go.IntKind.u64 0), (Go.Value.int Go.IntKind.i64 0), (Go.Value.int Go.IntKind.i64 0), (Go.Value.int Go.IntKind.u64 0), (Go.Value.int Go.IntKind.i64 0), (Go.Value.int Go.IntKind.u64 0), (Go.Value.int Go.IntKind.i64 0), (Go.Value.int Go.IntKind.i64 0), (Go.Value.int Go.IntKind.u64 0), (Go.Value.int Go.IntKind.i64 0), (Go.Value.int Go.IntKind.u64 0), (Go.Value.int Go.IntKind.i64 0), (Go.Value.int Go.IntKind.i64 0), (Go.Value.int Go.IntKind.i64 0), (Go.Value.int Go.IntKind.u64 0), (Go.Value.slice Option.none 0 0), (Go.Value.slice Option.none 0 0), (Go.Value.int Go.IntKind.i64 0), (Go.Value.int Go.IntKind.i64 0), (Go.Value.int Go.IntKind.u64 0), (Go.Value.int Go.IntKind.i64 0), (Go.Value.int Go.IntKind.u64 0), (Go.Value.int Go.IntKind.i64 0), (Go.Value.int Go.IntKind.i64 0), (Go.Value.int Go.IntKind.u64 0), (Go.Value.int Go.IntKind.i64 0), (Go.Value.int Go.IntKind.u64 0), (Go.Value.bool Bool.false)] []) fun x3 => S.bd (stl c1 0 36 x3) fun c4 => S.bd (lal c4 0 36) fun x5 => some (x5)) (S.bd (nck a0) fun x6 => S.bd (fld 14 x6) fun x7 => S.bd (ldc s x7) fun x8 => S.bd (eqb [1] false false x8 (Go.Value.int Go.IntKind.i64 1)) fun x9 => S.cnd x9 (S.bd (nck a0) fun x10 => S.bd (fld 15 x10) fun x11 => S.bd (lda s 5 x11) fun x12 => S.bd (nck a0) fun x13 => S.bd (fld 0 x13) fun x14 => S.bd (fld 12 x14) fun x15 => S.bd (lda s 2 x15) fun x16 => S.bd (bld [(Go.Value.int Go.IntKind.i64 0), (Go.Value.int Go.IntKind.i64 0), (Go.Value.int Go.IntKind.u64 0), (Go.Value.int Go.IntKind.i64 0), (Go.Value.int Go.IntKind.i64 0), (Go.Value.int Go.IntKind.u64 0), (Go.Value.int Go.IntKind.i64 0), (Go.Value.int Go.IntKind.u64 0), (Go.Value.int Go.IntKind.i64 0), (Go.Value.int Go.IntKind.i64 0), (Go.Value.int Go.IntKind.u64 0), (Go.Value.int Go.IntKind.i64 0), (Go.Value.int Go.IntKind.u64 0), (Go.Value.int Go.IntKind.i64 0), (Go.Value.int Go.IntKind.i64 0)] [(0, 1, (Go.Value.int Go.IntKind.i64 3)), (13, 2, x16)]) fun x17 => S.bd (splice_Splice_ask.r a0 x12 x17 s) fun x18 => S.bd (stl c1 0 36 x18) fun c19 => S.bd (lal c19 0 36) fun x20 => some (x20)) (splice_Splice_Next.t.p5 S x8 a0 s c1))
def splice_Splice_Next.r (a0 : Value) (s : St) : Option Value := splice_Splice_Next.t std a0 s
def splice_Splice_Next.w : List Value → St → Option Value
  | [a0], s => splice_Splice_Next.r a0 s
  | _, _ => none
def splice_Splice_Next.an : An := ⟨144, true, [2], [], [], [(5, [(0, 0, [], []), (1, 0, [], []), (2, 0, [], []), (3, 0, [], []), (4, 2, [], []), (5, 0, [], []), (6, 0, [], []), (7, 0, [], []), (8, 0, [], []), (9, 2, [], []), (10, 0, [], []), (11, 3, [], []), (12, 21, [], [])]), (9, [(0, 0, [], []), (1, 0, [], []), (2, 0, [], []), (3, 0, [], []), (4, 0, [], []), (5, 2, [], []), (6, 0, [], []), (7, 0, [], []), (8, 0, [], []), (9, 2, [], []), (10, 0, [], []), (11, 0, [], []), (12, 0, [], []), (13, 2, [], []), (14, 0, [], []), (15, 0, [], []), (16, 0, [], []), (17, 0, [], []), (18, 2, [], []), (19, 0, [], []), (20, 3, [], []), (21, 21, [], [])]), (11, [(0, 0, [], []), (1, 0, [], []), (2, 0, [], []), (3, 0, [], []), (4, 2, [], []), (5, 0, [], []), (6, 0, [], []), (7, 0, [], []), (8, 0, [], []), (9, 2, [], []), (10, 0, [], []), (11, 0, [], []), (12, 0, [], []), (13, 0, [], []), (14, 2, [], []), (15, 0, [], []), (16, 3, [], []), (17, 21, [], [])]), (13, [(0, 0, [], []), (1, 0, [], []), (2, 0, [], []), (3, 0, [], []), (4, 2, [], []), (5, 0, [], []), (6, 0, [], []), (7, 0, [], []), (8, 0, [], []), (9, 2, [], []), (10, 0, [], []), (11, 3, [], []), (12, 21, [], [])]), (15, [(0, 0, [], []), (1, 0, [], []), (2, 0, [], []), (3, 0, [], []), (4, 0, [], []), (5, 2, [], []), (6, 0, [], []), (7, 0, [], []), (8, 0, [], []), (9, 0, [], []), (10, 2, [], []), (11, 0, [], []), (12, 3, [], []), (13, 21, [], [])]), (17, [(0, 0, [], []), (1, 0, [], []), (2, 0, [], []), (3, 0, [], []), (4, 0, [], []), (5, 2, [], []), (6, 0, [], []), (7, 0, [], []), (8, 0, [], []), (9, 0, [], []), (10, 2, [], []), (11, 0, [], []), (12, 3, [], []), (13, 21, [], [])]), (19, [(0, 0, [], []), (1, 0, [], []), (2, 0, [], []), (3, 0, [], []), (4, 2, [], []), (5, 0, [], []), (6, 0, [], []), (7, 0, [], []), (8, 0, [], []), (9, 2, [], []), (10, 0, [], []), (11, 3, [], []), (12, 21, [], [])])]⟩
theorem splice_Splice_Next.ok (S : Sig) (a0 : Value) (s : St) : evG S Try.prog splice_Splice_Next.ctx splice_Splice_Next.an Try.f15 [a0] s = splice_Splice_Next.t S a0 s := by kernel_rfl
theorem splice_Splice_Next.cok : CtxOk Try.prog splice_Splice_Next.ctx := .cons splice_Splice_ask.sound splice_Splice_ask.can <| .nil
theorem splice_Splice_Next.draws : fnDraws splice_Splice_Next.an Try.f15 = true := by kernel_rfl
theorem splice_Splice_Next.can : callOk Try.prog 15 = true := by kernel_rfl
theorem splice_Splice_Next.sound : FnOk Try.prog 15 (.rd splice_Splice_Next.w) := FnOk.rd_of (evG_ok splice_Splice_Next.cok mixed (f := 15) (fn := Try.f15) (by kernel_rfl) splice_Splice_Next.draws) fun args s r h => by
  unfold splice_Splice_Next.w at h; split at h
  · rw [splice_Splice_Next.ok std]; exact h
  · simp at h

/-! ### (*leapfrog/splice.Splice).free: function 45 -/
def splice_Splice_free.ctx : Ctx := [(46, .st splice_Splice_Tell_fn1.w), (80, .st splice_Splice_wait_fn1.w), (81, .st splice_Splice_done_fn1.w), (82, .st splice_Splice_fail_fn1.w), (101, .st splice_Splice_look_fn1.w)]
def splice_Splice_free.t (S : Sig) (a0 a1 : Value) (s : St) : Option (Value × St) :=
  S.bd (nck a0) fun x1 => S.bd (fld 26 x1) fun x2 => S.bd (ldc s x2) fun x3 => S.cnd x3 (S.bd (callV (splice_Splice_free.ctx) a1 [] s) fun r4 => some ((Value.tuple ⟨[]⟩), r4.2)) (S.bd (nck a0) fun x5 => S.bd (fld 14 x5) fun x6 => S.bd (stv s 1 x6 (Go.Value.int Go.IntKind.i64 8)) fun s7 => S.bd (nck a0) fun x8 => S.bd (fld 28 x8) fun x9 => S.bd (stv s7 1 x9 a1) fun s10 => some ((Value.tuple ⟨[]⟩), s10))
def splice_Splice_free.v (a0 a1 : Value) (s : St) : Option (Value × St) := splice_Splice_free.t std a0 a1 s
def splice_Splice_free.w : List Value → St → Option (Value × St)
  | [a0, a1], s => splice_Splice_free.v a0 a1 s
  | _, _ => none
def splice_Splice_free.an : An := ⟨17, false, [], [], [], []⟩
theorem splice_Splice_free.ok (S : Sig) (a0 a1 : Value) (s : St) : evF S Try.prog splice_Splice_free.ctx splice_Splice_free.an Try.f45 [a0, a1] s = splice_Splice_free.t S a0 a1 s := by kernel_rfl
theorem splice_Splice_free.cok : CtxOk Try.prog splice_Splice_free.ctx := .cons splice_Splice_Tell_fn1.sound splice_Splice_Tell_fn1.can <| .cons splice_Splice_wait_fn1.sound splice_Splice_wait_fn1.can <| .cons splice_Splice_done_fn1.sound splice_Splice_done_fn1.can <| .cons splice_Splice_fail_fn1.sound splice_Splice_fail_fn1.can <| .cons splice_Splice_look_fn1.sound splice_Splice_look_fn1.can <| .nil
theorem splice_Splice_free.draws : fnDraws splice_Splice_free.an Try.f45 = true := by kernel_rfl
theorem splice_Splice_free.can : callOk Try.prog 45 = true := by kernel_rfl
theorem splice_Splice_free.sound : FnOk Try.prog 45 (.st splice_Splice_free.w) := FnOk.st_of (evF_ok splice_Splice_free.cok mixed (f := 45) (fn := Try.f45) (by kernel_rfl) splice_Splice_free.draws) fun args s r h => by
  unfold splice_Splice_free.w at h; split at h
  · rw [splice_Splice_free.ok std]; exact h
  · simp at h

/-! ### (*leapfrog/splice.Splice).fail: function 52 -/
def splice_Splice_fail.ctx : Ctx := [(45, .st splice_Splice_free.w)]
def splice_Splice_fail.t (S : Sig) (a0 a1 : Value) (s : St) : Option (Value × St) :=
  S.bd (alv s a0) fun r1 => S.bd (alv r1.2 a1) fun r2 => S.bd (ldc r2.2 r1.1) fun x3 => S.bd (splice_Splice_free.v x3 (Value.func (.func 82) ⟨[]⟩ ⟨[r1.1, r2.1]⟩) r2.2) fun r4 => some ((Value.tuple ⟨[]⟩), r4.2)
def splice_Splice_fail.v (a0 a1 : Value) (s : St) : Option (Value × St) := splice_Splice_fail.t std a0 a1 s
def splice_Splice_fail.w : List Value → St → Option (Value × St)
  | [a0, a1], s => splice_Splice_fail.v a0 a1 s
  | _, _ => none
def splice_Splice_fail.an : An := ⟨7, false, [], [], [], []⟩
theorem splice_Splice_fail.ok (S : Sig) (a0 a1 : Value) (s : St) : evF S Try.prog splice_Splice_fail.ctx splice_Splice_fail.an Try.f52 [a0, a1] s = splice_Splice_fail.t S a0 a1 s := by kernel_rfl
theorem splice_Splice_fail.cok : CtxOk Try.prog splice_Splice_fail.ctx := .cons splice_Splice_free.sound splice_Splice_free.can <| .nil
theorem splice_Splice_fail.draws : fnDraws splice_Splice_fail.an Try.f52 = true := by kernel_rfl
theorem splice_Splice_fail.can : callOk Try.prog 52 = true := by kernel_rfl
theorem splice_Splice_fail.sound : FnOk Try.prog 52 (.st splice_Splice_fail.w) := FnOk.st_of (evF_ok splice_Splice_fail.cok mixed (f := 52) (fn := Try.f52) (by kernel_rfl) splice_Splice_fail.draws) fun args s r h => by
  unfold splice_Splice_fail.w at h; split at h
  · rw [splice_Splice_fail.ok std]; exact h
  · simp at h

/-! ### (*leapfrog/splice.Splice).wait: function 48 -/
def splice_Splice_wait.ctx : Ctx := [(45, .st splice_Splice_free.w)]
def splice_Splice_wait.t (S : Sig) (a0 : Value) (s : St) : Option (Value × St) :=
  S.bd (alv s a0) fun r1 => S.bd (ldc r1.2 r1.1) fun x2 => S.bd (splice_Splice_free.v x2 (Value.func (.func 80) ⟨[]⟩ ⟨[r1.1]⟩) r1.2) fun r3 => some ((Value.tuple ⟨[]⟩), r3.2)
def splice_Splice_wait.v (a0 : Value) (s : St) : Option (Value × St) := splice_Splice_wait.t std a0 s
def splice_Splice_wait.w : List Value → St → Option (Value × St)
  | [a0], s => splice_Splice_wait.v a0 s
  | _, _ => none
def splice_Splice_wait.an : An := ⟨5, false, [], [], [], []⟩
theorem splice_Splice_wait.ok (S : Sig) (a0 : Value) (s : St) : evF S Try.prog splice_Splice_wait.ctx splice_Splice_wait.an Try.f48 [a0] s = splice_Splice_wait.t S a0 s := by kernel_rfl
theorem splice_Splice_wait.cok : CtxOk Try.prog splice_Splice_wait.ctx := .cons splice_Splice_free.sound splice_Splice_free.can <| .nil
theorem splice_Splice_wait.draws : fnDraws splice_Splice_wait.an Try.f48 = true := by kernel_rfl
theorem splice_Splice_wait.can : callOk Try.prog 48 = true := by kernel_rfl
theorem splice_Splice_wait.sound : FnOk Try.prog 48 (.st splice_Splice_wait.w) := FnOk.st_of (evF_ok splice_Splice_wait.cok mixed (f := 48) (fn := Try.f48) (by kernel_rfl) splice_Splice_wait.draws) fun args s r h => by
  unfold splice_Splice_wait.w at h; split at h
  · rw [splice_Splice_wait.ok std]; exact h
  · simp at h

/-! ### (*leapfrog/splice.Splice).look: function 79 -/
def splice_Splice_look.ctx : Ctx := [(36, .rd key_Less.w), (52, .st splice_Splice_fail.w), (45, .st splice_Splice_free.w), (48, .st splice_Splice_wait.w)]
def splice_Splice_look.t.p1 (S : Sig) (x9 : Value) (r1 : Value × St) (x6 : Value) : Option (Value × St) :=
  S.bd (fld 1 x9) fun x10 => S.bd (lda r1.2 2 x10) fun x11 => S.bd (key_Less.r x6 x11 r1.2) fun x12 => S.bd (un .not x12) fun x13 => S.cnd x13 (S.bd (ldc r1.2 r1.1) fun x14 => S.bd (splice_Splice_fail.v x14 (Go.Value.int Go.IntKind.i64 131) r1.2) fun r15 => some ((Value.tuple ⟨[]⟩), r15.2)) (S.bd (ldc r1.2 r1.1) fun x16 => S.bd (nck x16) fun x17 => S.bd (fld 21 x17) fun x18 => S.bd (fld 1 x18) fun x19 => S.bd (lda r1.2 2 x19) fun x20 => S.bd (ldc r1.2 r1.1) fun x21 => S.bd (nck x21) fun x22 => S.bd (fld 0 x22) fun x23 => S.bd (fld 2 x23) fun x24 => S.bd (fld 1 x24) fun x25 => S.bd (lda r1.2 2 x25) fun x26 => S.bd (key_Less.r x20 x26 r1.2) fun x27 => S.cnd x27 (S.bd (ldc r1.2 r1.1) fun x28 => S.bd (splice_Splice_free.v x28 (Value.func (.func 101) ⟨[]⟩ ⟨[r1.1]⟩) r1.2) fun r29 => some ((Value.tuple ⟨[]⟩), r29.2)) (S.bd (ldc r1.2 r1.1) fun x30 => S.bd (nck x30) fun x31 => S.bd (fld 21 x31) fun x32 => S.bd (fld 1 x32) fun x33 => S.bd (lda r1.2 2 x33) fun x34 => S.bd (ldc r1.2 r1.1) fun x35 => S.bd (nck x35) fun x36 => S.bd (fld 0 x36) fun x37 => S.bd (fld 2 x37) fun x38 => S.bd (fld 1 x38) fun x39 => S.bd (lda r1.2 2 x39) fun x40 => S.bd (eqb [1, 1] true true x34 x40) fun x41 => S.cnd x41 (S.bd (ldc r1.2 r1.1) fun x42 => S.bd (nck x42) fun x43 => S.bd (fld 14 x43) fun x44 => S.bd (stv r1.2 1 x44 (Go.Value.int Go.IntKind.i64 3)) fun s45 => some ((Value.tuple ⟨[]⟩), s45)) (S.bd (ldc r1.2 r1.1) fun x46 => S.bd (nck x46) fun x47 => S.bd (fld 0 x47) fun x48 => S.bd (fld 0 x48) fun x49 => S.bd (fld 0 x49) fun x50 => S.bd (ldc r1.2 x50) fun x51 => S.bd (bin .gtr x51 (Go.Value.int Go.IntKind.i64 0)) fun x52 => S.cnd x52 (S.bd (ldc r1.2 r1.1) fun x53 => S.bd (splice_Splice_wait.v x53 r1.2) fun r54 => some ((Value.tuple ⟨[]⟩), r54.2)) (S.bd (ldc r1.2 r1.1) fun x55 => S.bd (nck x55) fun x56 => S.bd (fld 14 x56) fun x57 => S.bd (stv r1.2 1 x57 (Go.Value.int Go.IntKind.i64 2)) fun s58 => some ((Value.tuple ⟨[]⟩), s58)))))

def splice_Splice_look.t (S : Sig) (a0 : Value) (s : St) : Option (Value × St) :=
  S.bd (alv s a0) fun r1 => S.bd (ldc r1.2 r1.1) fun x2 => S.bd (nck x2) fun x3 => S.bd (fld 15 x3) fun x4 => S.bd (fld 1 x4) fun x5 => S.bd (lda r1.2 2 x5) fun x6 => S.bd (ldc r1.2 r1.1) fun x7 => S.bd (nck x7) fun x8 => S.bd (fld 21 x8) fun x9 => splice_Splice_look.t.p1 S x9 r1 x6
def splice_Splice_look.v (a0 : Value) (s : St) : Option (Value × St) := splice_Splice_look.t std a0 s
def splice_Splice_look.w : List Value → St → Option (Value × St)
  | [a0], s => splice_Splice_look.v a0 s
  | _, _ => none
def splice_Splice_look.an : An := ⟨62, false, [], [], [], [(2, [(0, 2, [], []), (1, 0, [], []), (2, 0, [], []), (3, 0, [], []), (4, 2, [], []), (5, 2, [], []), (6, 0, [], []), (7, 0, [], []), (8, 0, [], []), (9, 2, [], []), (10, 3, [], []), (11, 0, [], []), (12, 0, [], [])]), (4, [(0, 2, [], []), (1, 0, [], []), (2, 0, [], []), (3, 0, [], []), (4, 2, [], []), (5, 2, [], []), (6, 0, [], []), (7, 0, [], []), (8, 0, [], []), (9, 0, [], []), (10, 2, [], []), (11, 3, [], []), (12, 0, [], [])]), (6, [(0, 2, [], []), (1, 0, [], []), (2, 0, [], []), (3, 0, [], []), (4, 2, [], []), (5, 2, [], []), (6, 0, [], []), (7, 0, [], []), (8, 0, [], []), (9, 0, [], []), (10, 2, [], []), (11, 0, [], []), (12, 0, [], [])])]⟩
theorem splice_Splice_look.ok (S : Sig) (a0 : Value) (s : St) : evF S Try.prog splice_Splice_look.ctx splice_Splice_look.an Try.f79 [a0] s = splice_Splice_look.t S a0 s := by kernel_rfl
theorem splice_Splice_look.cok : CtxOk Try.prog splice_Splice_look.ctx := .cons key_Less.sound key_Less.can <| .cons splice_Splice_fail.sound splice_Splice_fail.can <| .cons splice_Splice_free.sound splice_Splice_free.can <| .cons splice_Splice_wait.sound splice_Splice_wait.can <| .nil
theorem splice_Splice_look.draws : fnDraws splice_Splice_look.an Try.f79 = true := by kernel_rfl
theorem splice_Splice_look.can : callOk Try.prog 79 = true := by kernel_rfl
theorem splice_Splice_look.sound : FnOk Try.prog 79 (.st splice_Splice_look.w) := FnOk.st_of (evF_ok splice_Splice_look.cok mixed (f := 79) (fn := Try.f79) (by kernel_rfl) splice_Splice_look.draws) fun args s r h => by
  unfold splice_Splice_look.w at h; split at h
  · rw [splice_Splice_look.ok std]; exact h
  · simp at h

/-! ### (*leapfrog/splice.Splice).locked: function 44 -/
def splice_Splice_locked.ctx : Ctx := [(79, .st splice_Splice_look.w), (47, .st splice_Splice_end.w)]
def splice_Splice_locked.t (S : Sig) (a0 a1 : Value) (s : St) : Option (Value × St) :=
  S.bd (bx a1) fun c1 => S.bd (lcl c1 0) fun x2 => S.bd (show Option Cut from S.bd (show Option Cut from S.bd (eqb [1] false false x2 (Go.Value.int Go.IntKind.i64 1)) fun x40 => S.cnd x40 (S.bd (lal c1 7 5) fun x41 => S.bd (nck a0) fun x42 => S.bd (fld 21 x42) fun x43 => S.bd (stv s 5 x43 x41) fun s44 => S.bd (splice_Splice_look.v a0 s44) fun r45 => some (0, [], r45.2)) (S.bd (eqb [1] false false x2 (Go.Value.int Go.IntKind.i64 2)) fun x46 => S.cnd x46 (some (2, [a0], s)) (S.bd (eqb [1] false false x2 (Go.Value.int Go.IntKind.i64 3)) fun x47 => S.cnd x47 (some (2, [a0], s)) (some (1, [a0], s))))) fun r48 => if r48.1 = 0 then (some (0, [], r48.2.2)) else (if r48.1 = 1 then (some (1, [(r48.2.1.getD 0 undef)], r48.2.2)) else (S.bd (nck (r48.2.1.getD 0 undef)) fun x49 => S.bd (fld 20 x49) fun x50 => S.bd (ldc r48.2.2 x50) fun x51 => S.bd (eqb [3] false false x51 (Go.Value.pointer Option.none)) fun x52 => S.cnd x52 (S.bd (bld [(Go.Value.int Go.IntKind.i64 0), (Go.Value.int Go.IntKind.u64 0), (Go.Value.slice Option.none 0 0), (Go.Value.slice Option.none 0 0), (Go.Value.int Go.IntKind.i64 0), (Go.Value.int Go.IntKind.i64 0), (Go.Value.int Go.IntKind.u64 0), (Go.Value.int Go.IntKind.i64 0), (Go.Value.int Go.IntKind.u64 0), (Go.Value.int Go.IntKind.i64 0), (Go.Value.int Go.IntKind.i64 0), (Go.Value.int Go.IntKind.u64 0), (Go.Value.int Go.IntKind.i64 0), (Go.Value.int Go.IntKind.u64 0), (Go.Value.bool Bool.false)] [(0, 1, (Go.Value.int Go.IntKind.i64 131))]) fun x53 => S.bd (splice_Splice_end.v (r48.2.1.getD 0 undef) x53 r48.2.2) fun r54 => some (2, [], r54.2)) (S.bd (nck (r48.2.1.getD 0 undef)) fun x55 => S.bd (fld 20 x55) fun x56 => S.bd (ldc r48.2.2 x56) fun x57 => S.bd (nck x57) fun x58 => S.bd (lda r48.2.2 5 x58) fun x59 => S.bd (nck (r48.2.1.getD 0 undef)) fun x60 => S.bd (fld 15 x60) fun x61 => S.bd (stv r48.2.2 5 x61 x59) fun s62 => S.bd (nck (r48.2.1.getD 0 undef)) fun x63 => S.bd (fld 20 x63) fun x64 => S.bd (stv s62 1 x64 (Go.Value.pointer Option.none)) fun s65 => S.bd (nck (r48.2.1.getD 0 undef)) fun x66 => S.bd (fld 14 x66) fun x67 => S.bd (stv s65 1 x67 (Go.Value.int Go.IntKind.i64 9)) fun s68 => some (0, [], s68))))) fun r69 => if r69.1 = 0 then (some ((Value.tuple ⟨[]⟩), r69.2.2)) else (if r69.1 = 1 then (S.bd (nck (r69.2.1.getD 0 undef)) fun x70 => S.bd (fld 14 x70) fun x71 => S.bd (stv r69.2.2 1 x71 (Go.Value.int Go.IntKind.i64 9)) fun s72 => some ((Value.tuple ⟨[]⟩), s72)) else (some ((Value.tuple ⟨[]⟩), r69.2.2)))
def splice_Splice_locked.v (a0 a1 : Value) (s : St) : Option (Value × St) := splice_Splice_locked.t std a0 a1 s
def splice_Splice_locked.w : List Value → St → Option (Value × St)
  | [a0, a1], s => splice_Splice_locked.v a0 a1 s
  | _, _ => none
def splice_Splice_locked.an : An := ⟨45, false, [3], [], [(7, ⟨[], [(.exit 0, []), (.exit 4, [.v 0]), (.normal, [.v 0])]⟩), (10, ⟨[], [(.exit 0, []), (.normal, [.v 0]), (.ret, [])]⟩)], []⟩
theorem splice_Splice_locked.ok (S : Sig) (a0 a1 : Value) (s : St) : evF S Try.prog splice_Splice_locked.ctx splice_Splice_locked.an Try.f44 [a0, a1] s = splice_Splice_locked.t S a0 a1 s := by kernel_rfl
theorem splice_Splice_locked.cok : CtxOk Try.prog splice_Splice_locked.ctx := .cons splice_Splice_look.sound splice_Splice_look.can <| .cons splice_Splice_end.sound splice_Splice_end.can <| .nil
theorem splice_Splice_locked.draws : fnDraws splice_Splice_locked.an Try.f44 = true := by kernel_rfl
theorem splice_Splice_locked.can : callOk Try.prog 44 = true := by kernel_rfl
theorem splice_Splice_locked.sound : FnOk Try.prog 44 (.st splice_Splice_locked.w) := FnOk.st_of (evF_ok splice_Splice_locked.cok mixed (f := 44) (fn := Try.f44) (by kernel_rfl) splice_Splice_locked.draws) fun args s r h => by
  unfold splice_Splice_locked.w at h; split at h
  · rw [splice_Splice_locked.ok std]; exact h
  · simp at h

/-! ### (*leapfrog/splice.Splice).entered: function 49 -/
def splice_Splice_entered.ctx : Ctx := [(52, .st splice_Splice_fail.w)]
def splice_Splice_entered.t (S : Sig) (a0 a1 : Value) (s : St) : Option (Value × St) :=
  S.bd (bx a1) fun c1 => S.bd (lcl c1 0) fun x2 => S.bd (eqb [1] false false x2 (Go.Value.int Go.IntKind.i64 1)) fun x3 => S.cnd x3 (S.bd (nck a0) fun x4 => S.bd (fld 14 x4) fun x5 => S.bd (stv s 1 x5 (Go.Value.int Go.IntKind.i64 4)) fun s6 => some ((Value.tuple ⟨[]⟩), s6)) (S.bd (eqb [1] false false x2 (Go.Value.int Go.IntKind.i64 3)) fun x7 => S.cnd x7 (S.bd (splice_Splice_fail.v a0 (Go.Value.int Go.IntKind.i64 132) s) fun r8 => some ((Value.tuple ⟨[]⟩), r8.2)) (S.bd (splice_Splice_fail.v a0 (Go.Value.int Go.IntKind.i64 133) s) fun r9 => some ((Value.tuple ⟨[]⟩), r9.2)))
def splice_Splice_entered.v (a0 a1 : Value) (s : St) : Option (Value × St) := splice_Splice_entered.t std a0 a1 s
def splice_Splice_entered.w : List Value → St → Option (Value × St)
  | [a0, a1], s => splice_Splice_entered.v a0 a1 s
  | _, _ => none
def splice_Splice_entered.an : An := ⟨17, false, [3], [], [], []⟩
theorem splice_Splice_entered.ok (S : Sig) (a0 a1 : Value) (s : St) : evF S Try.prog splice_Splice_entered.ctx splice_Splice_entered.an Try.f49 [a0, a1] s = splice_Splice_entered.t S a0 a1 s := by kernel_rfl
theorem splice_Splice_entered.cok : CtxOk Try.prog splice_Splice_entered.ctx := .cons splice_Splice_fail.sound splice_Splice_fail.can <| .nil
theorem splice_Splice_entered.draws : fnDraws splice_Splice_entered.an Try.f49 = true := by kernel_rfl
theorem splice_Splice_entered.can : callOk Try.prog 49 = true := by kernel_rfl
theorem splice_Splice_entered.sound : FnOk Try.prog 49 (.st splice_Splice_entered.w) := FnOk.st_of (evF_ok splice_Splice_entered.cok mixed (f := 49) (fn := Try.f49) (by kernel_rfl) splice_Splice_entered.draws) fun args s r h => by
  unfold splice_Splice_entered.w at h; split at h
  · rw [splice_Splice_entered.ok std]; exact h
  · simp at h

/-! ### (*leapfrog/splice.Splice).righted: function 50 -/
def splice_Splice_righted.ctx : Ctx := []
def splice_Splice_righted.t (S : Sig) (a0 a1 : Value) (s : St) : Option (Value × St) :=
  S.bd (bx a1) fun c1 => S.bd (lcl c1 0) fun x2 => S.bd (eqb [1] false false x2 (Go.Value.int Go.IntKind.i64 3)) fun x3 => S.bd (nck a0) fun x4 => S.bd (fld 26 x4) fun x5 => S.bd (stv s 1 x5 x3) fun s6 => S.bd (lcl c1 0) fun x7 => S.bd (eqb [1] false false x7 (Go.Value.int Go.IntKind.i64 1)) fun x8 => S.bd (S.gd x8 false (some a0)) fun x9 => S.bd (S.gd x8 false (nck x9)) fun x10 => S.bd (S.gd x8 false (fld 26 x10)) fun x11 => S.bd (S.gd x8 false (ldc s6 x11)) fun x12 => S.bd (S.gd x8 false (some x12)) fun x13 => S.bd (S.gd x13 true (lcl c1 7)) fun x14 => S.bd (S.gd x13 true (some a0)) fun x15 => S.bd (S.gd x13 true (nck x15)) fun x16 => S.bd (S.gd x13 true (fld 0 x16)) fun x17 => S.bd (S.gd x13 true (fld 2 x17)) fun x18 => S.bd (S.gd x13 true (fld 0 x18)) fun x19 => S.bd (S.gd x13 true (ldc s6 x19)) fun x20 => S.bd (S.gd x13 true (eqb [1] false false x14 x20)) fun x21 => S.bd (S.gd x8 false (pik x13 x21 (Go.Value.bool Bool.false))) fun x22 => S.bd (pik x8 (Go.Value.bool Bool.true) x22) fun x23 => S.cnd x23 (S.bd (nck a0) fun x24 => S.bd (fld 14 x24) fun x25 => S.bd (stv s6 1 x25 (Go.Value.int Go.IntKind.i64 5)) fun s26 => some ((Value.tuple ⟨[]⟩), s26)) (S.bd (nck a0) fun x27 => S.bd (fld 14 x27) fun x28 => S.bd (stv s6 1 x28 (Go.Value.int Go.IntKind.i64 7)) fun s29 => some ((Value.tuple ⟨[]⟩), s29))
def splice_Splice_righted.v (a0 a1 : Value) (s : St) : Option (Value × St) := splice_Splice_righted.t std a0 a1 s
def splice_Splice_righted.w : List Value → St → Option (Value × St)
  | [a0, a1], s => splice_Splice_righted.v a0 a1 s
  | _, _ => none
def splice_Splice_righted.an : An := ⟨37, false, [3], [], [], [(2, [(0, 0, [], []), (1, 25, [], []), (2, 0, [], []), (3, 0, [], []), (4, 0, [], []), (5, 0, [], []), (6, 0, [], []), (7, 2, [], []), (8, 0, [], []), (9, 0, [], []), (10, 0, [], []), (11, 25, [], []), (12, 0, [], []), (13, 0, [], []), (14, 0, [], []), (15, 0, [], []), (16, 0, [], []), (17, 2, [], []), (18, 0, [], []), (19, 0, [], []), (20, 0, [], [])])]⟩
theorem splice_Splice_righted.ok (S : Sig) (a0 a1 : Value) (s : St) : evF S Try.prog splice_Splice_righted.ctx splice_Splice_righted.an Try.f50 [a0, a1] s = splice_Splice_righted.t S a0 a1 s := by kernel_rfl
theorem splice_Splice_righted.cok : CtxOk Try.prog splice_Splice_righted.ctx := .nil
theorem splice_Splice_righted.draws : fnDraws splice_Splice_righted.an Try.f50 = true := by kernel_rfl
theorem splice_Splice_righted.can : callOk Try.prog 50 = true := by kernel_rfl
theorem splice_Splice_righted.sound : FnOk Try.prog 50 (.st splice_Splice_righted.w) := FnOk.st_of (evF_ok splice_Splice_righted.cok mixed (f := 50) (fn := Try.f50) (by kernel_rfl) splice_Splice_righted.draws) fun args s r h => by
  unfold splice_Splice_righted.w at h; split at h
  · rw [splice_Splice_righted.ok std]; exact h
  · simp at h

/-! ### (*leapfrog/splice.Splice).done: function 51 -/
def splice_Splice_done.ctx : Ctx := [(45, .st splice_Splice_free.w)]
def splice_Splice_done.t.p1 (S : Sig) (x5 : Value) (x9 : Value) (r1 : Value × St) : Option (Value × St) :=
  S.bd (bld [(Go.Value.int Go.IntKind.i64 0), (Go.Value.int Go.IntKind.u64 0), (Go.Value.slice Option.none 0 0), (Go.Value.slice Option.none 0 0), (Go.Value.int Go.IntKind.i64 0), (Go.Value.int Go.IntKind.i64 0), (Go.Value.int Go.IntKind.u64 0), (Go.Value.int Go.IntKind.i64 0), (Go.Value.int Go.IntKind.u64 0), (Go.Value.int Go.IntKind.i64 0), (Go.Value.int Go.IntKind.i64 0), (Go.Value.int Go.IntKind.u64 0), (Go.Value.int Go.IntKind.i64 0), (Go.Value.int Go.IntKind.u64 0), (Go.Value.bool Bool.false)] [(4, 5, x5), (9, 5, x9)]) fun x10 => S.bd (alv r1.2 (Go.Value.agg #[(Go.Value.int Go.IntKind.i64 0), (Go.Value.int Go.IntKind.u64 0), (Go.Value.slice Option.none 0 0), (Go.Value.slice Option.none 0 0), (Go.Value.int Go.IntKind.i64 0), (Go.Value.int Go.IntKind.i64 0), (Go.Value.int Go.IntKind.u64 0), (Go.Value.int Go.IntKind.i64 0), (Go.Value.int Go.IntKind.u64 0), (Go.Value.int Go.IntKind.i64 0), (Go.Value.int Go.IntKind.i64 0), (Go.Value.int Go.IntKind.u64 0), (Go.Value.int Go.IntKind.i64 0), (Go.Value.int Go.IntKind.u64 0), (Go.Value.bool Bool.false)])) fun r11 => S.bd (stv r11.2 15 r11.1 x10) fun s12 => S.bd (ldc s12 r1.1) fun x13 => S.bd (nck x13) fun x14 => S.bd (fld 27 x14) fun x15 => S.bd (ldc s12 x15) fun x16 => S.cnd x16 (S.bd (bld [(Go.Value.int Go.IntKind.i64 0), (Go.Value.int Go.IntKind.u64 0), (Go.Value.slice Option.none 0 0), (Go.Value.slice Option.none 0 0), (Go.Value.int Go.IntKind.i64 0), (Go.Value.int Go.IntKind.i64 0), (Go.Value.int Go.IntKind.u64 0), (Go.Value.int Go.IntKind.i64 0), (Go.Value.int Go.IntKind.u64 0), (Go.Value.int Go.IntKind.i64 0), (Go.Value.int Go.IntKind.i64 0), (Go.Value.int Go.IntKind.u64 0), (Go.Value.int Go.IntKind.i64 0), (Go.Value.int Go.IntKind.u64 0), (Go.Value.bool Bool.false)] [(0, 1, (Go.Value.int Go.IntKind.i64 132))]) fun x17 => S.bd (stv s12 15 r11.1 x17) fun s18 => S.bd (ldc s18 r1.1) fun x19 => S.bd (splice_Splice_free.v x19 (Value.func (.func 81) ⟨[]⟩ ⟨[r1.1, r11.1]⟩) s18) fun r20 => some ((Value.tuple ⟨[]⟩), r20.2)) (S.bd (ldc s12 r1.1) fun x21 => S.bd (splice_Splice_free.v x21 (Value.func (.func 81) ⟨[]⟩ ⟨[r1.1, r11.1]⟩) s12) fun r22 => some ((Value.tuple ⟨[]⟩), r22.2))

def splice_Splice_done.t (S : Sig) (a0 : Value) (s : St) : Option (Value × St) :=
  S.bd (alv s a0) fun r1 => S.bd (ldc r1.2 r1.1) fun x2 => S.bd (nck x2) fun x3 => S.bd (fld 15 x3) fun x4 => S.bd (lda r1.2 5 x4) fun x5 => S.bd (ldc r1.2 r1.1) fun x6 => S.bd (nck x6) fun x7 => S.bd (fld 21 x7) fun x8 => S.bd (lda r1.2 5 x8) fun x9 => splice_Splice_done.t.p1 S x5 x9 r1
def splice_Splice_done.v (a0 : Value) (s : St) : Option (Value × St) := splice_Splice_done.t std a0 s
def splice_Splice_done.w : List Value → St → Option (Value × St)
  | [a0], s => splice_Splice_done.v a0 s
  | _, _ => none
def splice_Splice_done.an : An := ⟨20, false, [], [], [], [(1, [(0, 2, [], []), (1, 0, [], []), (2, 0, [], []), (3, 2, [], []), (4, 2, [], []), (5, 0, [], []), (6, 0, [], []), (7, 2, [], []), (8, 0, [], []), (9, 3, [], []), (10, 4, [], [])])]⟩
theorem splice_Splice_done.ok (S : Sig) (a0 : Value) (s : St) : evF S Try.prog splice_Splice_done.ctx splice_Splice_done.an Try.f51 [a0] s = splice_Splice_done.t S a0 s := by kernel_rfl
theorem splice_Splice_done.cok : CtxOk Try.prog splice_Splice_done.ctx := .cons splice_Splice_free.sound splice_Splice_free.can <| .nil
theorem splice_Splice_done.draws : fnDraws splice_Splice_done.an Try.f51 = true := by kernel_rfl
theorem splice_Splice_done.can : callOk Try.prog 51 = true := by kernel_rfl
theorem splice_Splice_done.sound : FnOk Try.prog 51 (.st splice_Splice_done.w) := FnOk.st_of (evF_ok splice_Splice_done.cok mixed (f := 51) (fn := Try.f51) (by kernel_rfl) splice_Splice_done.draws) fun args s r h => by
  unfold splice_Splice_done.w at h; split at h
  · rw [splice_Splice_done.ok std]; exact h
  · simp at h

/-! ### (*leapfrog/splice.Splice).Tell: function 19 -/
def splice_Splice_Tell.ctx : Ctx := [(44, .st splice_Splice_locked.w), (45, .st splice_Splice_free.w), (48, .st splice_Splice_wait.w), (49, .st splice_Splice_entered.w), (50, .st splice_Splice_righted.w), (51, .st splice_Splice_done.w), (52, .st splice_Splice_fail.w), (46, .st splice_Splice_Tell_fn1.w), (80, .st splice_Splice_wait_fn1.w), (81, .st splice_Splice_done_fn1.w), (82, .st splice_Splice_fail_fn1.w), (101, .st splice_Splice_look_fn1.w)]
def splice_Splice_Tell.t.p1 (S : Sig) (x8 : Value) (r1 : Value × St) (c2 : List Value) : Option (Value × St) :=
  S.bd (eqb [1] false false x8 (Go.Value.int Go.IntKind.i64 3)) fun x23 => S.cnd x23 (S.bd (ldc r1.2 r1.1) fun x24 => S.bd (lal c2 0 13) fun x25 => S.bd (splice_Splice_entered.v x24 x25 r1.2) fun r26 => some ((Value.tuple ⟨[]⟩), r26.2)) (S.bd (eqb [1] false false x8 (Go.Value.int Go.IntKind.i64 4)) fun x27 => S.cnd x27 (S.bd (ldc r1.2 r1.1) fun x28 => S.bd (lal c2 0 13) fun x29 => S.bd (splice_Splice_righted.v x28 x29 r1.2) fun r30 => some ((Value.tuple ⟨[]⟩), r30.2)) (S.bd (eqb [1] false false x8 (Go.Value.int Go.IntKind.i64 5)) fun x31 => S.cnd x31 (S.bd (ldc r1.2 r1.1) fun x32 => S.bd (nck x32) fun x33 => S.bd (fld 14 x33) fun x34 => S.bd (stv r1.2 1 x34 (Go.Value.int Go.IntKind.i64 6)) fun s35 => some ((Value.tuple ⟨[]⟩), s35)) (S.bd (eqb [1] false false x8 (Go.Value.int Go.IntKind.i64 6)) fun x36 => S.cnd x36 (S.bd (ldc r1.2 r1.1) fun x37 => S.bd (lcl c2 0) fun x38 => S.bd (eqb [1] false false x38 (Go.Value.int Go.IntKind.i64 3)) fun x39 => S.bd (nck x37) fun x40 => S.bd (fld 27 x40) fun x41 => S.bd (stv r1.2 1 x41 x39) fun s42 => S.bd (ldc s42 r1.1) fun x43 => S.bd (splice_Splice_done.v x43 s42) fun r44 => some ((Value.tuple ⟨[]⟩), r44.2)) (S.bd (eqb [1] false false x8 (Go.Value.int Go.IntKind.i64 7)) fun x45 => S.cnd x45 (S.bd (lcl c2 0) fun x46 => S.bd (eqb [1] false false x46 (Go.Value.int Go.IntKind.i64 3)) fun x47 => S.cnd x47 (S.bd (ldc r1.2 r1.1) fun x48 => S.bd (splice_Splice_fail.v x48 (Go.Value.int Go.IntKind.i64 132) r1.2) fun r49 => some ((Value.tuple ⟨[]⟩), r49.2)) (S.bd (ldc r1.2 r1.1) fun x50 => S.bd (splice_Splice_fail.v x50 (Go.Value.int Go.IntKind.i64 131) r1.2) fun r51 => some ((Value.tuple ⟨[]⟩), r51.2))) (S.bd (eqb [1] false false x8 (Go.Value.int Go.IntKind.i64 8)) fun x52 => S.cnd x52 (S.bd (ldc r1.2 r1.1) fun x53 => S.bd (nck x53) fun x54 => S.bd (fld 28 x54) fun x55 => S.bd (ldc r1.2 x55) fun x56 => S.bd (callV (splice_Splice_Tell.ctx) x56 [] r1.2) fun r57 => some ((Value.tuple ⟨[]⟩), r57.2)) (some ((Value.tuple ⟨[]⟩), r1.2)))))))

def splice_Splice_Tell.t (S : Sig) (a0 a1 : Value) (s : St) : Option (Value × St) :=
  S.bd (alv s a0) fun r1 => S.bd (bx a1) fun c2 => S.bd (ldc r1.2 r1.1) fun x3 => S.bd (eqb [3] false false x3 (Go.Value.pointer Option.none)) fun x4 => S.cnd x4 (some ((Value.tuple ⟨[]⟩), r1.2)) (S.bd (ldc r1.2 r1.1) fun x5 => S.bd (nck x5) fun x6 => S.bd (fld 14 x6) fun x7 => S.bd (ldc r1.2 x7) fun x8 => S.bd (eqb [1] false false x8 (Go.Value.int Go.IntKind.i64 1)) fun x9 => S.cnd x9 (S.bd (ldc r1.2 r1.1) fun x10 => S.bd (lal c2 0 13) fun x11 => S.bd (splice_Splice_locked.v x10 x11 r1.2) fun r12 => some ((Value.tuple ⟨[]⟩), r12.2)) (S.bd (eqb [1] false false x8 (Go.Value.int Go.IntKind.i64 2)) fun x13 => S.cnd x13 (S.bd (lcl c2 0) fun x14 => S.bd (eqb [1] false false x14 (Go.Value.int Go.IntKind.i64 1)) fun x15 => S.bd (S.gd x15 true (lcl c2 1)) fun x16 => S.bd (S.gd x15 true (un .not x16)) fun x17 => S.bd (pik x15 x17 (Go.Value.bool Bool.false)) fun x18 => S.cnd x18 (S.bd (ldc r1.2 r1.1) fun x19 => S.bd (splice_Splice_free.v x19 (Value.func (.func 46) ⟨[]⟩ ⟨[r1.1]⟩) r1.2) fun r20 => some ((Value.tuple ⟨[]⟩), r20.2)) (S.bd (ldc r1.2 r1.1) fun x21 => S.bd (splice_Splice_wait.v x21 r1.2) fun r22 => some ((Value.tuple ⟨[]⟩), r22.2))) (splice_Splice_Tell.t.p1 S x8 r1 c2)))
def splice_Splice_Tell.v (a0 a1 : Value) (s : St) : Option (Value × St) := splice_Splice_Tell.t std a0 a1 s
def splice_Splice_Tell.w : List Value → St → Option (Value × St)
  | [a0, a1], s => splice_Splice_Tell.v a0 a1 s
  | _, _ => none
def splice_Splice_Tell.an : An := ⟨71, false, [3], [], [], []⟩
theorem splice_Splice_Tell.ok (S : Sig) (a0 a1 : Value) (s : St) : evF S Try.prog splice_Splice_Tell.ctx splice_Splice_Tell.an Try.f19 [a0, a1] s = splice_Splice_Tell.t S a0 a1 s := by kernel_rfl
theorem splice_Splice_Tell.cok : CtxOk Try.prog splice_Splice_Tell.ctx := .cons splice_Splice_locked.sound splice_Splice_locked.can <| .cons splice_Splice_free.sound splice_Splice_free.can <| .cons splice_Splice_wait.sound splice_Splice_wait.can <| .cons splice_Splice_entered.sound splice_Splice_entered.can <| .cons splice_Splice_righted.sound splice_Splice_righted.can <| .cons splice_Splice_done.sound splice_Splice_done.can <| .cons splice_Splice_fail.sound splice_Splice_fail.can <| .cons splice_Splice_Tell_fn1.sound splice_Splice_Tell_fn1.can <| .cons splice_Splice_wait_fn1.sound splice_Splice_wait_fn1.can <| .cons splice_Splice_done_fn1.sound splice_Splice_done_fn1.can <| .cons splice_Splice_fail_fn1.sound splice_Splice_fail_fn1.can <| .cons splice_Splice_look_fn1.sound splice_Splice_look_fn1.can <| .nil
theorem splice_Splice_Tell.draws : fnDraws splice_Splice_Tell.an Try.f19 = true := by kernel_rfl
theorem splice_Splice_Tell.can : callOk Try.prog 19 = true := by kernel_rfl
theorem splice_Splice_Tell.sound : FnOk Try.prog 19 (.st splice_Splice_Tell.w) := FnOk.st_of (evF_ok splice_Splice_Tell.cok mixed (f := 19) (fn := Try.f19) (by kernel_rfl) splice_Splice_Tell.draws) fun args s r h => by
  unfold splice_Splice_Tell.w at h; split at h
  · rw [splice_Splice_Tell.ok std]; exact h
  · simp at h

/-! ### leapfrog/leapfroglaw13.alive: function 10 -/
def leapfroglaw13x_alive.ctx : Ctx := [(30, .rd leapfroglaw13x_conf.w), (14, .st splice_New.w), (31, .rd leapfrogref09x_Tail.w), (15, .rd splice_Splice_Next.w), (19, .st splice_Splice_Tell.w)]
def leapfroglaw13x_alive.t.p1 (S : Sig) (x17 : Value) (x3 : Value) (r2 : Value × St) (c16 : List Value) (c13 : List Value) : Option (Value × St) :=
  S.bd (bld [(Go.Value.int Go.IntKind.i64 0), (Go.Value.bool Bool.false), (Go.Value.int Go.IntKind.i64 0), (Go.Value.int Go.IntKind.i64 0), (Go.Value.int Go.IntKind.u64 0), (Go.Value.int Go.IntKind.i64 0), (Go.Value.int Go.IntKind.u64 0), (Go.Value.int Go.IntKind.i64 0), (Go.Value.int Go.IntKind.i64 0), (Go.Value.int Go.IntKind.u64 0), (Go.Value.int Go.IntKind.i64 0), (Go.Value.int Go.IntKind.u64 0), (Go.Value.slice Option.none 0 0)] [(0, 1, (Go.Value.int Go.IntKind.i64 1)), (7, 5, x17)]) fun x18 => S.bd (splice_Splice_Tell.v x3 x18 r2.2) fun r19 => S.bd (splice_Splice_Next.r x3 r19.2) fun x20 => S.bd (bx (Go.Value.agg #[(Go.Value.int Go.IntKind.i64 0), (Go.Value.int Go.IntKind.i64 0), (Go.Value.int Go.IntKind.i64 0), (Go.Value.int Go.IntKind.u64 0), (Go.Value.int Go.IntKind.i64 0), (Go.Value.int Go.IntKind.u64 0), (Go.Value.int Go.IntKind.i64 0), (Go.Value.int Go.IntKind.i64 0), (Go.Value.int Go.IntKind.u64 0), (Go.Value.int Go.IntKind.i64 0), (Go.Value.int Go.IntKind.i64 0), (Go.Value.int Go.IntKind.u64 0), (Go.Value.int Go.IntKind.i64 0), (Go.Value.int Go.IntKind.u64 0), (Go.Value.int Go.IntKind.i64 0), (Go.Value.int Go.IntKind.i64 0), (Go.Value.int Go.IntKind.u64 0), (Go.Value.int Go.IntKind.i64 0), (Go.Value.int Go.IntKind.u64 0), (Go.Value.int Go.IntKind.i64 0), (Go.Value.int Go.IntKind.i64 0), (Go.Value.int Go.IntKind.i64 0), (Go.Value.int Go.IntKind.u64 0), (Go.Value.slice Option.none 0 0), (Go.Value.slice Option.none 0 0), (Go.Value.int Go.IntKind.i64 0), (Go.Value.int Go.IntKind.i64 0), (Go.Value.int Go.IntKind.u64 0), (Go.Value.int Go.IntKind.i64 0), (Go.Value.int Go.IntKind.u64 0), (Go.Value.int Go.IntKind.i64 0), (Go.Value.int Go.IntKind.i64 0), (Go.Value.int Go.IntKind.u64 0), (Go.Value.int Go.IntKind.i64 0), (Go.Value.int Go.IntKind.u64 0), (Go.Value.bool Bool.false)])) fun c21 => S.bd (stl c21 0 36 x20) fun c22 => S.bd (bld [(Go.Value.int Go.IntKind.i64 0), (Go.Value.bool Bool.false), (Go.Value.int Go.IntKind.i64 0), (Go.Value.int Go.IntKind.i64 0), (Go.Value.int Go.IntKind.u64 0), (Go.Value.int Go.IntKind.i64 0), (Go.Value.int Go.IntKind.u64 0), (Go.Value.int Go.IntKind.i64 0), (Go.Value.int Go.IntKind.i64 0), (Go.Value.int Go.IntKind.u64 0), (Go.Value.int Go.IntKind.i64 0), (Go.Value.int Go.IntKind.u64 0), (Go.Value.slice Option.none 0 0)] [(0, 1, (Go.Value.int Go.IntKind.i64 1))]) fun x23 => S.bd (splice_Splice_Tell.v x3 x23 r19.2) fun r24 => S.bd (splice_Splice_Next.r x3 r24.2) fun x25 => S.bd (bx (Go.Value.agg #[(Go.Value.int Go.IntKind.i64 0), (Go.Value.int Go.IntKind.i64 0), (Go.Value.int Go.IntKind.i64 0), (Go.Value.int Go.IntKind.u64 0), (Go.Value.int Go.IntKind.i64 0), (Go.Value.int Go.IntKind.u64 0), (Go.Value.int Go.IntKind.i64 0), (Go.Value.int Go.IntKind.i64 0), (Go.Value.int Go.IntKind.u64 0), (Go.Value.int Go.IntKind.i64 0), (Go.Value.int Go.IntKind.i64 0), (Go.Value.int Go.IntKind.u64 0), (Go.Value.int Go.IntKind.i64 0), (Go.Value.int Go.IntKind.u64 0), (Go.Value.int Go.IntKind.i64 0), (Go.Value.int Go.IntKind.i64 0), (Go.Value.int Go.IntKind.u64 0), (Go.Value.int Go.IntKind.i64 0), (Go.Value.int Go.IntKind.u64 0), (Go.Value.int Go.IntKind.i64 0), (Go.Value.int Go.IntKind.i64 0), (Go.Value.int Go.IntKind.i64 0), (Go.Value.int Go.IntKind.u64 0), (Go.Value.slice Option.none 0 0), (Go.Value.slice Option.none 0 0), (Go.Value.int Go.IntKind.i64 0), (Go.Value.int Go.IntKind.i64 0), (Go.Value.int Go.IntKind.u64 0), (Go.Value.int Go.IntKind.i64 0), (Go.Value.int Go.IntKind.u64 0), (Go.Value.int Go.IntKind.i64 0), (Go.Value.int Go.IntKind.i64 0), (Go.Value.int Go.IntKind.u64 0), (Go.Value.int Go.IntKind.i64 0), (Go.Value.int Go.IntKind.u64 0), (Go.Value.bool Bool.false)])) fun c26 => S.bd (stl c26 0 36 x25) fun c27 => S.bd (lcl c16 0) fun x28 => S.bd (eqb [1] false false x28 (Go.Value.int Go.IntKind.i64 1)) fun x29 => S.bd (S.gd x29 true (lcl c16 6)) fun x30 => S.bd (S.gd x29 true (eqb [1] false false x30 (Go.Value.int Go.IntKind.i64 3))) fun x31 => S.bd (pik x29 x31 (Go.Value.bool Bool.false)) fun x32 => S.bd (S.gd x32 true (lcl c16 1)) fun x33 => S.bd (S.gd x32 true (eqb [1] false false x33 (Go.Value.int Go.IntKind.i64 0))) fun x34 => S.bd (pik x32 x34 (Go.Value.bool Bool.false)) fun x35 => S.bd (S.gd x35 true (lcl c22 6)) fun x36 => S.bd (S.gd x35 true (eqb [1] false false x36 (Go.Value.int Go.IntKind.i64 7))) fun x37 => S.bd (pik x35 x37 (Go.Value.bool Bool.false)) fun x38 => S.bd (S.gd x38 true (lcl c22 1)) fun x39 => S.bd (S.gd x38 true (eqb [1] false false x39 (Go.Value.int Go.IntKind.i64 2))) fun x40 => S.bd (pik x38 x40 (Go.Value.bool Bool.false)) fun x41 => S.bd (S.gd x41 true (lal c22 14 5)) fun x42 => S.bd (S.gd x41 true (lal c13 0 5)) fun x43 => S.bd (S.gd x41 true (eqb [1, 1, 1, 1, 1] true false x42 x43)) fun x44 => S.bd (pik x41 x44 (Go.Value.bool Bool.false)) fun x45 => S.bd (S.gd x45 true (lcl c27 6)) fun x46 => S.bd (S.gd x45 true (eqb [1] false false x46 (Go.Value.int Go.IntKind.i64 5))) fun x47 => S.bd (pik x45 x47 (Go.Value.bool Bool.false)) fun x48 => S.bd (S.gd x48 true (lcl c27 1)) fun x49 => S.bd (S.gd x48 true (eqb [1] false false x49 (Go.Value.int Go.IntKind.i64 0))) fun x50 => S.bd (pik x48 x50 (Go.Value.bool Bool.false)) fun x51 => S.bd (S.gd x51 true (lcl c27 9)) fun x52 => S.bd (S.gd x51 true (eqb [1] false false x52 (Go.Value.int Go.IntKind.i64 2))) fun x53 => S.bd (pik x51 x53 (Go.Value.bool Bool.false)) fun x54 => some (x54, r24.2)

def leapfroglaw13x_alive.t (S : Sig) (s : St) : Option (Value × St) :=
  S.bd (leapfroglaw13x_conf.r  s) fun x1 => S.bd (splice_New.v x1 s) fun r2 => S.bd (xtr 0 r2.1) fun x3 => S.bd (xtr 1 r2.1) fun x4 => S.bd (eqb [1] false true x4 (Go.Value.int Go.IntKind.i64 0)) fun x5 => S.bd (S.gd x5 false (some x3)) fun x6 => S.bd (S.gd x5 false (eqb [3] false false x6 (Go.Value.pointer Option.none))) fun x7 => S.bd (pik x5 (Go.Value.bool Bool.true) x7) fun x8 => S.cnd x8 (some ((Go.Value.bool Bool.false), r2.2)) (S.bd (leapfrogref09x_Tail.r (Go.Value.int Go.IntKind.i64 0) r2.2) fun x9 => S.bd (xtr 0 x9) fun x10 => S.bd (xtr 1 x9) fun x11 => S.bd (bx (Go.Value.agg #[(Go.Value.int Go.IntKind.i64 0), (Go.Value.int Go.IntKind.i64 0), (Go.Value.int Go.IntKind.u64 0), (Go.Value.int Go.IntKind.i64 0), (Go.Value.int Go.IntKind.u64 0)])) fun c12 => S.bd (stl c12 0 5 x10) fun c13 => S.bd (splice_Splice_Next.r x3 r2.2) fun x14 => S.bd (bx (Go.Value.agg #[(Go.Value.int Go.IntKind.i64 0), (Go.Value.int Go.IntKind.i64 0), (Go.Value.int Go.IntKind.i64 0), (Go.Value.int Go.IntKind.u64 0), (Go.Value.int Go.IntKind.i64 0), (Go.Value.int Go.IntKind.u64 0), (Go.Value.int Go.IntKind.i64 0), (Go.Value.int Go.IntKind.i64 0), (Go.Value.int Go.IntKind.u64 0), (Go.Value.int Go.IntKind.i64 0), (Go.Value.int Go.IntKind.i64 0), (Go.Value.int Go.IntKind.u64 0), (Go.Value.int Go.IntKind.i64 0), (Go.Value.int Go.IntKind.u64 0), (Go.Value.int Go.IntKind.i64 0), (Go.Value.int Go.IntKind.i64 0), (Go.Value.int Go.IntKind.u64 0), (Go.Value.int Go.IntKind.i64 0), (Go.Value.int Go.IntKind.u64 0), (Go.Value.int Go.IntKind.i64 0), (Go.Value.int Go.IntKind.i64 0), (Go.Value.int Go.IntKind.i64 0), (Go.Value.int Go.IntKind.u64 0), (Go.Value.slice Option.none 0 0), (Go.Value.slice Option.none 0 0), (Go.Value.int Go.IntKind.i64 0), (Go.Value.int Go.IntKind.i64 0), (Go.Value.int Go.IntKind.u64 0), (Go.Value.int Go.IntKind.i64 0), (Go.Value.int Go.IntKind.u64 0), (Go.Value.int Go.IntKind.i64 0), (Go.Value.int Go.IntKind.i64 0), (Go.Value.int Go.IntKind.u64 0), (Go.Value.int Go.IntKind.i64 0), (Go.Value.int Go.IntKind.u64 0), (Go.Value.bool Bool.false)])) fun c15 => S.bd (stl c15 0 36 x14) fun c16 => S.bd (lal c13 0 5) fun x17 => leapfroglaw13x_alive.t.p1 S x17 x3 r2 c16 c13)
def leapfroglaw13x_alive.v (s : St) : Option (Value × St) := leapfroglaw13x_alive.t std  s
def leapfroglaw13x_alive.w : List Value → St → Option (Value × St)
  | [], s => leapfroglaw13x_alive.v  s
  | _, _ => none
def leapfroglaw13x_alive.an : An := ⟨89, false, [3, 5, 6, 7], [], [], []⟩
theorem leapfroglaw13x_alive.ok (S : Sig) (s : St) : evF S Try.prog leapfroglaw13x_alive.ctx leapfroglaw13x_alive.an Try.f10 [] s = leapfroglaw13x_alive.t S  s := by kernel_rfl
theorem leapfroglaw13x_alive.cok : CtxOk Try.prog leapfroglaw13x_alive.ctx := .cons leapfroglaw13x_conf.sound leapfroglaw13x_conf.can <| .cons splice_New.sound splice_New.can <| .cons leapfrogref09x_Tail.sound leapfrogref09x_Tail.can <| .cons splice_Splice_Next.sound splice_Splice_Next.can <| .cons splice_Splice_Tell.sound splice_Splice_Tell.can <| .nil
theorem leapfroglaw13x_alive.draws : fnDraws leapfroglaw13x_alive.an Try.f10 = true := by kernel_rfl
theorem leapfroglaw13x_alive.can : callOk Try.prog 10 = true := by kernel_rfl
theorem leapfroglaw13x_alive.sound : FnOk Try.prog 10 (.st leapfroglaw13x_alive.w) := FnOk.st_of (evF_ok leapfroglaw13x_alive.cok mixed (f := 10) (fn := Try.f10) (by kernel_rfl) leapfroglaw13x_alive.draws) fun args s r h => by
  unfold leapfroglaw13x_alive.w at h; split at h
  · rw [leapfroglaw13x_alive.ok std]; exact h
  · simp at h

/-! ### leapfrog/leapfroglaw13.alive: function 10, closed -/
def leapfroglaw13x_aliveC.r (s : St) : Option Value := some (Value.bool true)
def leapfroglaw13x_aliveC.w : List Value → St → Option Value := closedW (Value.bool true)
theorem leapfroglaw13x_aliveC.can : callOk Try.prog 10 = true := leapfroglaw13x_alive.can
theorem leapfroglaw13x_aliveC.sound : FnOk Try.prog 10 (.rd leapfroglaw13x_aliveC.w) := FnOk.closed leapfroglaw13x_alive.sound (by kernel_rfl) rfl

/-! ### (*leapfrog/leapfrogref13.Splice).Next: function 22 -/
def leapfrogref13x_Splice_Next.ctx : Ctx := []
def leapfrogref13x_Splice_Next.t.p1 (S : Sig) (x92 : Value) (a0 : Value) (s : St) (c12 : List Value) (c1 : List Value) (c17 : List Value) : Option Cut :=
  S.bd (eqb [1] false false x92 (Go.Value.int Go.IntKind.i64 5)) fun x127 => S.cnd x127 (S.bd (nck a0) fun x128 => S.bd (fld 0 x128) fun x129 => S.bd (fld 2 x129) fun x130 => S.bd (lda s 5 x130) fun x131 => S.bd (stl c12 0 1 (Go.Value.int Go.IntKind.i64 5)) fun c132 => S.bd (stl c132 3 5 x131) fun c133 => some (0, [(Value.agg ⟨c1⟩), (Value.agg ⟨c133⟩), (Value.agg ⟨c17⟩)], s)) (S.bd (eqb [1] false false x92 (Go.Value.int Go.IntKind.i64 6)) fun x134 => S.cnd x134 (S.bd (nck a0) fun x135 => S.bd (fld 27 x135) fun x136 => S.bd (lda s 5 x136) fun x137 => S.bd (nck a0) fun x138 => S.bd (fld 0 x138) fun x139 => S.bd (fld 2 x139) fun x140 => S.bd (lda s 5 x140) fun x141 => S.bd (bld [(Go.Value.int Go.IntKind.i64 0), (Go.Value.int Go.IntKind.i64 0)] []) fun x142 => S.bd (stl c17 0 5 x137) fun c143 => S.bd (stl c12 0 1 (Go.Value.int Go.IntKind.i64 6)) fun c144 => S.bd (stl c144 3 5 x141) fun c145 => S.bd (stl c145 13 2 x142) fun c146 => some (0, [(Value.agg ⟨c1⟩), (Value.agg ⟨c146⟩), (Value.agg ⟨c143⟩)], s)) (S.bd (eqb [1] false false x92 (Go.Value.int Go.IntKind.i64 7)) fun x147 => S.cnd x147 (S.bd (nck a0) fun x148 => S.bd (fld 0 x148) fun x149 => S.bd (fld 2 x149) fun x150 => S.bd (lda s 5 x150) fun x151 => S.bd (stl c17 0 5 x151) fun c152 => S.bd (stl c12 0 1 (Go.Value.int Go.IntKind.i64 4)) fun c153 => some (0, [(Value.agg ⟨c1⟩), (Value.agg ⟨c153⟩), (Value.agg ⟨c152⟩)], s)) (S.bd (eqb [1] false false x92 (Go.Value.int Go.IntKind.i64 8)) fun x154 => S.cnd x154 (S.bd (nck a0) fun x155 => S.bd (fld 0 x155) fun x156 => S.bd (fld 2 x156) fun x157 => S.bd (lda s 5 x157) fun x158 => S.bd (stl c17 0 5 x158) fun c159 => S.bd (stl c12 0 1 (Go.Value.int Go.IntKind.i64 8)) fun c160 => some (0, [(Value.agg ⟨c1⟩), (Value.agg ⟨c160⟩), (Value.agg ⟨c159⟩)], s)) (S.bd (stl c12 0 1 (Go.Value.int Go.IntKind.i64 4)) fun c161 => some (0, [(Value.agg ⟨c1⟩), (Value.agg ⟨c161⟩), (Value.agg ⟨c17⟩)], s)))))

def leapfrogref13x_Splice_Next.t.p2 (S : Sig) (x92 : Value) (a0 : Value) (s : St) (c1 : List Value) (c12 : List Value) (c17 : List Value) : Option Cut :=
  S.bd (eqb [1] false false x92 (Go.Value.int Go.IntKind.i64 11)) fun x96 => S.cnd x96 (S.bd (nck a0) fun x97 => S.bd (fld 33 x97) fun x98 => S.bd (lda s 15 x98) fun x99 => S.bd (bld [(Go.Value.int Go.IntKind.i64 0), (Go.Value.int Go.IntKind.i64 0), (Go.Value.int Go.IntKind.i64 0), (Go.Value.int Go.IntKind.u64 0), (Go.Value.int Go.IntKind.i64 0), (Go.Value.int Go.IntKind.u64 0), (Go.Value.int Go.IntKind.i64 0), (Go.Value.int Go.IntKind.i64 0), (Go.Value.int Go.IntKind.u64 0), (Go.Value.int Go.IntKind.i64 0), (Go.Value.int Go.IntKind.i64 0), (Go.Value.int Go.IntKind.u64 0), (Go.Value.int Go.IntKind.i64 0), (Go.Value.int Go.IntKind.u64 0), (Go.Value.int Go.IntKind.i64 0), (Go.Value.int Go.IntKind.i64 0), (Go.Value.int Go.IntKind.u64 0), (Go.Value.int Go.IntKind.i64 0), (Go.Value.int Go.IntKind.u64 0), (Go.Value.int Go.IntKind.i64 0), (Go.Value.int Go.IntKind.i64 0), (Go.Value.int Go.IntKind.i64 0), (Go.Value.int Go.IntKind.u64 0), (Go.Value.slice Option.none 0 0), (Go.Value.slice Option.none 0 0), (Go.Value.int Go.IntKind.i64 0), (Go.Value.int Go.IntKind.i64 0), (Go.Value.int Go.IntKind.u64 0), (Go.Value.int Go.IntKind.i64 0), (Go.Value.int Go.IntKind.u64 0), (Go.Value.int Go.IntKind.i64 0), (Go.Value.int Go.IntKind.i64 0), (Go.Value.int Go.IntKind.u64 0), (Go.Value.int Go.IntKind.i64 0), (Go.Value.int Go.IntKind.u64 0), (Go.Value.bool Bool.false)] [(0, 1, (Go.Value.int Go.IntKind.i64 3)), (21, 15, x99)]) fun x100 => S.bd (stl c1 0 36 x100) fun c101 => some (1, [(Value.agg ⟨c101⟩)], s)) (S.bd (eqb [1] false false x92 (Go.Value.int Go.IntKind.i64 1)) fun x102 => S.cnd x102 (S.bd (stl c12 0 1 (Go.Value.int Go.IntKind.i64 3)) fun c103 => some (0, [(Value.agg ⟨c1⟩), (Value.agg ⟨c103⟩), (Value.agg ⟨c17⟩)], s)) (S.bd (eqb [1] false false x92 (Go.Value.int Go.IntKind.i64 3)) fun x104 => S.cnd x104 (S.bd (nck a0) fun x105 => S.bd (fld 27 x105) fun x106 => S.bd (lda s 5 x106) fun x107 => S.bd (bld [(Go.Value.int Go.IntKind.i64 0), (Go.Value.int Go.IntKind.i64 0)] []) fun x108 => S.bd (stl c17 0 5 x107) fun c109 => S.bd (stl c12 0 1 (Go.Value.int Go.IntKind.i64 1)) fun c110 => S.bd (stl c110 13 2 x108) fun c111 => some (0, [(Value.agg ⟨c1⟩), (Value.agg ⟨c111⟩), (Value.agg ⟨c109⟩)], s)) (S.bd (eqb [1] false false x92 (Go.Value.int Go.IntKind.i64 4)) fun x112 => S.cnd x112 (S.bd (nck a0) fun x113 => S.bd (fld 0 x113) fun x114 => S.bd (fld 2 x114) fun x115 => S.bd (lda s 5 x115) fun x116 => S.bd (nck a0) fun x117 => S.bd (fld 16 x117) fun x118 => S.bd (lda s 5 x118) fun x119 => S.bd (nck a0) fun x120 => S.bd (fld 27 x120) fun x121 => S.bd (lda s 5 x121) fun x122 => S.bd (stl c17 0 5 x116) fun c123 => S.bd (stl c12 0 1 (Go.Value.int Go.IntKind.i64 7)) fun c124 => S.bd (stl c124 3 5 x119) fun c125 => S.bd (stl c125 8 5 x122) fun c126 => some (0, [(Value.agg ⟨c1⟩), (Value.agg ⟨c126⟩), (Value.agg ⟨c123⟩)], s)) (leapfrogref13x_Splice_Next.t.p1 S x92 a0 s c12 c1 c17))))

def leapfrogref13x_Splice_Next.t.p3 (S : Sig) (x5 : Value) (x9 : Value) (a0 : Value) (s : St) (c1 : List Value) : Option Value :=
  S.bd (bld [(Go.Value.int Go.IntKind.i64 0), (Go.Value.int Go.IntKind.i64 0), (Go.Value.int Go.IntKind.u64 0), (Go.Value.int Go.IntKind.i64 0), (Go.Value.int Go.IntKind.i64 0), (Go.Value.int Go.IntKind.u64 0), (Go.Value.int Go.IntKind.i64 0), (Go.Value.int Go.IntKind.u64 0), (Go.Value.int Go.IntKind.i64 0), (Go.Value.int Go.IntKind.i64 0), (Go.Value.int Go.IntKind.u64 0), (Go.Value.int Go.IntKind.i64 0), (Go.Value.int Go.IntKind.u64 0), (Go.Value.int Go.IntKind.i64 0), (Go.Value.int Go.IntKind.i64 0)] [(1, 2, x5), (13, 2, x9)]) fun x10 => S.bd (bx (Go.Value.agg #[(Go.Value.int Go.IntKind.i64 0), (Go.Value.int Go.IntKind.i64 0), (Go.Value.int Go.IntKind.u64 0), (Go.Value.int Go.IntKind.i64 0), (Go.Value.int Go.IntKind.i64 0), (Go.Value.int Go.IntKind.u64 0), (Go.Value.int Go.IntKind.i64 0), (Go.Value.int Go.IntKind.u64 0), (Go.Value.int Go.IntKind.i64 0), (Go.Value.int Go.IntKind.i64 0), (Go.Value.int Go.IntKind.u64 0), (Go.Value.int Go.IntKind.i64 0), (Go.Value.int Go.IntKind.u64 0), (Go.Value.int Go.IntKind.i64 0), (Go.Value.int Go.IntKind.i64 0)])) fun c11 => S.bd (stl c11 0 15 x10) fun c12 => S.bd (nck a0) fun x13 => S.bd (fld 16 x13) fun x14 => S.bd (lda s 5 x14) fun x15 => S.bd (bx (Go.Value.agg #[(Go.Value.int Go.IntKind.i64 0), (Go.Value.int Go.IntKind.i64 0), (Go.Value.int Go.IntKind.u64 0), (Go.Value.int Go.IntKind.i64 0), (Go.Value.int Go.IntKind.u64 0)])) fun c16 => S.bd (stl c16 0 5 x15) fun c17 => S.bd (show Option Cut from S.bd (nck a0) fun x90 => S.bd (fld 14 x90) fun x91 => S.bd (ldc s x91) fun x92 => S.bd (eqb [1] false false x92 (Go.Value.int Go.IntKind.i64 10)) fun x93 => S.cnd x93 (S.bd (bld [(Go.Value.int Go.IntKind.i64 0), (Go.Value.int Go.IntKind.i64 0), (Go.Value.int Go.IntKind.i64 0), (Go.Value.int Go.IntKind.u64 0), (Go.Value.int Go.IntKind.i64 0), (Go.Value.int Go.IntKind.u64 0), (Go.Value.int Go.IntKind.i64 0), (Go.Value.int Go.IntKind.i64 0), (Go.Value.int Go.IntKind.u64 0), (Go.Value.int Go.IntKind.i64 0), (Go.Value.int Go.IntKind.i64 0), (Go.Value.int Go.IntKind.u64 0), (Go.Value.int Go.IntKind.i64 0), (Go.Value.int Go.IntKind.u64 0), (Go.Value.int Go.IntKind.i64 0), (Go.Value.int Go.IntKind.i64 0), (Go.Value.int Go.IntKind.u64 0), (Go.Value.int Go.IntKind.i64 0), (Go.Value.int Go.IntKind.u64 0), (Go.Value.int Go.IntKind.i64 0), (Go.Value.int Go.IntKind.i64 0), (Go.Value.int Go.IntKind.i64 0), (Go.Value.int Go.IntKind.u64 0), (Go.Value.slice Option.none 0 0), (Go.Value.slice Option.none 0 0), (Go.Value.int Go.IntKind.i64 0), (Go.Value.int Go.IntKind.i64 0), (Go.Value.int Go.IntKind.u64 0), (Go.Value.int Go.IntKind.i64 0), (Go.Value.int Go.IntKind.u64 0), (Go.Value.int Go.IntKind.i64 0), (Go.Value.int Go.IntKind.i64 0), (Go.Value.int Go.IntKind.u64 0), (Go.Value.int Go.IntKind.i64 0), (Go.Value.int Go.IntKind.u64 0), (Go.Value.bool Bool.false)] [(0, 1, (Go.Value.int Go.IntKind.i64 2))]) fun x94 => S.bd (stl c1 0 36 x94) fun c95 => some (1, [(Value.agg ⟨c95⟩)], s)) (leapfrogref13x_Splice_Next.t.p2 S x92 a0 s c1 c12 c17)) fun r162 => if r162.1 = 0 then (S.bd (lal (cellsA (r162.2.1.getD 2 undef)) 0 5) fun x164 => S.bd (lal (cellsA (r162.2.1.getD 1 undef)) 0 15) fun x165 => S.bd (bld [(Go.Value.int Go.IntKind.i64 0), (Go.Value.int Go.IntKind.i64 0), (Go.Value.int Go.IntKind.i64 0), (Go.Value.int Go.IntKind.u64 0), (Go.Value.int Go.IntKind.i64 0), (Go.Value.int Go.IntKind.u64 0), (Go.Value.int Go.IntKind.i64 0), (Go.Value.int Go.IntKind.i64 0), (Go.Value.int Go.IntKind.u64 0), (Go.Value.int Go.IntKind.i64 0), (Go.Value.int Go.IntKind.i64 0), (Go.Value.int Go.IntKind.u64 0), (Go.Value.int Go.IntKind.i64 0), (Go.Value.int Go.IntKind.u64 0), (Go.Value.int Go.IntKind.i64 0), (Go.Value.int Go.IntKind.i64 0), (Go.Value.int Go.IntKind.u64 0), (Go.Value.int Go.IntKind.i64 0), (Go.Value.int Go.IntKind.u64 0), (Go.Value.int Go.IntKind.i64 0), (Go.Value.int Go.IntKind.i64 0), (Go.Value.int Go.IntKind.i64 0), (Go.Value.int Go.IntKind.u64 0), (Go.Value.slice Option.none 0 0), (Go.Value.slice Option.none 0 0), (Go.Value.int Go.IntKind.i64 0), (Go.Value.int Go.IntKind.i64 0), (Go.Value.int Go.IntKind.u64 0), (Go.Value.int Go.IntKind.i64 0), (Go.Value.int Go.IntKind.u64 0), (Go.Value.int Go.IntKind.i64 0), (Go.Value.int Go.IntKind.i64 0), (Go.Value.int Go.IntKind.u64 0), (Go.Value.int Go.IntKind.i64 0), (Go.Value.int Go.IntKind.u64 0), (Go.Value.bool Bool.false)] [(0, 1, (Go.Value.int Go.IntKind.i64 1)), (1, 5, x164), (6, 15, x165)]) fun x166 => S.bd (stl (cellsA (r162.2.1.getD 0 undef)) 0 36 x166) fun c167 => S.bd (lal c167 0 36) fun x168 => some (x168)) else (S.bd (lal (cellsA (r162.2.1.getD 0 undef)) 0 36) fun x163 => some (x163))

def leapfrogref13x_Splice_Next.t (S : Sig) (a0 : Value) (s : St) : Option Value :=
  S.bd (bx (Go.Value.agg #[(Go.Value.int Go.IntKind.i64 0), (Go.Value.int Go.IntKind.i64 0), (Go.Value.int Go.IntKind.i64 0), (Go.Value.int Go.IntKind.u64 0), (Go.Value.int Go.IntKind.i64 0), (Go.Value.int Go.IntKind.u64 0), (Go.Value.int Go.IntKind.i64 0), (Go.Value.int Go.IntKind.i64 0), (Go.Value.int Go.IntKind.u64 0), (Go.Value.int Go.IntKind.i64 0), (Go.Value.int Go.IntKind.i64 0), (Go.Value.int Go.IntKind.u64 0), (Go.Value.int Go.IntKind.i64 0), (Go.Value.int Go.IntKind.u64 0), (Go.Value.int Go.IntKind.i64 0), (Go.Value.int Go.IntKind.i64 0), (Go.Value.int Go.IntKind.u64 0), (Go.Value.int Go.IntKind.i64 0), (Go.Value.int Go.IntKind.u64 0), (Go.Value.int Go.IntKind.i64 0), (Go.Value.int Go.IntKind.i64 0), (Go.Value.int Go.IntKind.i64 0), (Go.Value.int Go.IntKind.u64 0), (Go.Value.slice Option.none 0 0), (Go.Value.slice Option.none 0 0), (Go.Value.int Go.IntKind.i64 0), (Go.Value.int Go.IntKind.i64 0), (Go.Value.int Go.IntKind.u64 0), (Go.Value.int Go.IntKind.i64 0), (Go.Value.int Go.IntKind.u64 0), (Go.Value.int Go.IntKind.i64 0), (Go.Value.int Go.IntKind.i64 0), (Go.Value.int Go.IntKind.u64 0), (Go.Value.int Go.IntKind.i64 0), (Go.Value.int Go.IntKind.u64 0), (Go.Value.bool Bool.false)])) fun c1 => S.bd (nck a0) fun x2 => S.bd (fld 0 x2) fun x3 => S.bd (fld 0 x3) fun x4 => S.bd (lda s 2 x4) fun x5 => S.bd (nck a0) fun x6 => S.bd (fld 0 x6) fun x7 => S.bd (fld 12 x7) fun x8 => S.bd (lda s 2 x8) fun x9 => leapfrogref13x_Splice_Next.t.p3 S x5 x9 a0 s c1
def leapfrogref13x_Splice_Next.r (a0 : Value) (s : St) : Option Value := leapfrogref13x_Splice_Next.t std a0 s
def leapfrogref13x_Splice_Next.w : List Value → St → Option Value
  | [a0], s => leapfrogref13x_Splice_Next.r a0 s
  | _, _ => none
def leapfrogref13x_Splice_Next.an : An := ⟨108, true, [2, 3, 4], [], [(23, ⟨[], [(.normal, [.p 2 2 0, .p 3 3 0, .p 4 4 0, .l 2, .l 3, .l 4]), (.ret, [.p 2 2 0, .l 2])]⟩)], [(1, [(0, 0, [], []), (1, 0, [], []), (2, 0, [], []), (3, 0, [], []), (4, 2, [], []), (5, 0, [], []), (6, 0, [], []), (7, 0, [], []), (8, 0, [], []), (9, 2, [], []), (10, 0, [], []), (11, 6, [], []), (12, 29, [], [])]), (14, [(0, 0, [], []), (1, 0, [], []), (2, 0, [], []), (3, 0, [], []), (4, 2, [], []), (5, 0, [], []), (6, 0, [], []), (7, 0, [], []), (8, 2, [], []), (9, 0, [], []), (10, 0, [], []), (11, 0, [], []), (12, 2, [], []), (13, 37, [], []), (14, 0, [], []), (15, 29, [], []), (16, 0, [], []), (17, 29, [], []), (18, 0, [], []), (19, 29, [], [])]), (16, [(0, 0, [], []), (1, 0, [], []), (2, 0, [], []), (3, 0, [], []), (4, 2, [], []), (5, 0, [], []), (6, 29, [], []), (7, 0, [], []), (8, 29, [], [])]), (18, [(0, 0, [], []), (1, 0, [], []), (2, 0, [], []), (3, 2, [], []), (4, 0, [], []), (5, 0, [], []), (6, 0, [], []), (7, 0, [], []), (8, 2, [], []), (9, 0, [], []), (10, 37, [], []), (11, 0, [], []), (12, 29, [], []), (13, 0, [], []), (14, 29, [], []), (15, 0, [], []), (16, 29, [], [])])]⟩
theorem leapfrogref13x_Splice_Next.ok (S : Sig) (a0 : Value) (s : St) : evG S Try.prog leapfrogref13x_Splice_Next.ctx leapfrogref13x_Splice_Next.an Try.f22 [a0] s = leapfrogref13x_Splice_Next.t S a0 s := by kernel_rfl
theorem leapfrogref13x_Splice_Next.cok : CtxOk Try.prog leapfrogref13x_Splice_Next.ctx := .nil
theorem leapfrogref13x_Splice_Next.draws : fnDraws leapfrogref13x_Splice_Next.an Try.f22 = true := by kernel_rfl
theorem leapfrogref13x_Splice_Next.can : callOk Try.prog 22 = true := by kernel_rfl
theorem leapfrogref13x_Splice_Next.sound : FnOk Try.prog 22 (.rd leapfrogref13x_Splice_Next.w) := FnOk.rd_of (evG_ok leapfrogref13x_Splice_Next.cok mixed (f := 22) (fn := Try.f22) (by kernel_rfl) leapfrogref13x_Splice_Next.draws) fun args s r h => by
  unfold leapfrogref13x_Splice_Next.w at h; split at h
  · rw [leapfrogref13x_Splice_Next.ok std]; exact h
  · simp at h

/-! ### leapfrog/leapfrogref13.SameResult: function 56 -/
def leapfrogref13x_SameResult.ctx : Ctx := []
def leapfrogref13x_SameResult.l4 (S : Sig) (rec63 : List Value → St → Option Cut) (xs61 : List Value) (s62 : St) : Option Cut :=
  S.bd (lcl (cellsA (xs61.getD 1 undef)) 3) fun x64 => S.bd (lenL x64) fun x65 => S.bd (bin .lss (xs61.getD 0 undef) x65) fun x66 => S.cnd x66 (S.bd (lcl (cellsA (xs61.getD 1 undef)) 3) fun x67 => S.bd (idx s62 2 x67 (xs61.getD 0 undef)) fun x68 => S.bd (fld 0 x68) fun x69 => S.bd (ldc s62 x69) fun x70 => S.bd (lcl (cellsA (xs61.getD 2 undef)) 3) fun x71 => S.bd (idx s62 2 x71 (xs61.getD 0 undef)) fun x72 => S.bd (fld 0 x72) fun x73 => S.bd (ldc s62 x73) fun x74 => S.bd (eqb [1] false true x70 x74) fun x75 => S.bd (S.gd x75 false (lcl (cellsA (xs61.getD 1 undef)) 3)) fun x76 => S.bd (S.gd x75 false (some (xs61.getD 0 undef))) fun x77 => S.bd (S.gd x75 false (idx s62 2 x76 x77)) fun x78 => S.bd (S.gd x75 false (fld 1 x78)) fun x79 => S.bd (S.gd x75 false (ldc s62 x79)) fun x80 => S.bd (S.gd x75 false (b2s s62 x80)) fun x81 => S.bd (S.gd x75 false (lcl (cellsA (xs61.getD 2 undef)) 3)) fun x82 => S.bd (S.gd x75 false (some (xs61.getD 0 undef))) fun x83 => S.bd (S.gd x75 false (idx s62 2 x82 x83)) fun x84 => S.bd (S.gd x75 false (fld 1 x84)) fun x85 => S.bd (S.gd x75 false (ldc s62 x85)) fun x86 => S.bd (S.gd x75 false (b2s s62 x86)) fun x87 => S.bd (S.gd x75 false (eqb [2] false true x81 x87)) fun x88 => S.bd (pik x75 (Go.Value.bool Bool.true) x88) fun x89 => S.cnd x89 (some (1, [(Go.Value.bool Bool.false)], s62)) (S.bd (bin .add (xs61.getD 0 undef) (Go.Value.int Go.IntKind.i64 1)) fun x90 => rec63 [x90, (Value.agg ⟨(cellsA (xs61.getD 1 undef))⟩), (Value.agg ⟨(cellsA (xs61.getD 2 undef))⟩)] s62)) (some (0, [], s62))

def leapfrogref13x_SameResult.t (S : Sig) (a0 a1 : Value) (s : St) : Option Value :=
  S.bd (bx a0) fun c1 => S.bd (bx a1) fun c2 => S.bd (lcl c1 0) fun x3 => S.bd (lcl c2 0) fun x4 => S.bd (eqb [1] false true x3 x4) fun x5 => S.bd (S.gd x5 false (lcl c1 1)) fun x6 => S.bd (S.gd x5 false (lcl c2 1)) fun x7 => S.bd (S.gd x5 false (eqb [1] false true x6 x7)) fun x8 => S.bd (pik x5 (Go.Value.bool Bool.true) x8) fun x9 => S.bd (S.gd x9 false (lcl c1 2)) fun x10 => S.bd (S.gd x9 false (b2s s x10)) fun x11 => S.bd (S.gd x9 false (lcl c2 2)) fun x12 => S.bd (S.gd x9 false (b2s s x12)) fun x13 => S.bd (S.gd x9 false (eqb [2] false true x11 x13)) fun x14 => S.bd (pik x9 (Go.Value.bool Bool.true) x14) fun x15 => S.bd (S.gd x15 false (lcl c1 3)) fun x16 => S.bd (S.gd x15 false (lenL x16)) fun x17 => S.bd (S.gd x15 false (lcl c2 3)) fun x18 => S.bd (S.gd x15 false (lenL x18)) fun x19 => S.bd (S.gd x15 false (eqb [1] false true x17 x19)) fun x20 => S.bd (pik x15 (Go.Value.bool Bool.true) x20) fun x21 => S.bd (S.gd x21 false (lal c1 4 5)) fun x22 => S.bd (S.gd x21 false (lal c2 4 5)) fun x23 => S.bd (S.gd x21 false (eqb [1, 1, 1, 1, 1] true true x22 x23)) fun x24 => S.bd (pik x21 (Go.Value.bool Bool.true) x24) fun x25 => S.bd (S.gd x25 false (lal c1 9 5)) fun x26 => S.bd (S.gd x25 false (lal c2 9 5)) fun x27 => S.bd (S.gd x25 false (eqb [1, 1, 1, 1, 1] true true x26 x27)) fun x28 => S.bd (pik x25 (Go.Value.bool Bool.true) x28) fun x29 => S.bd (S.gd x29 false (lcl c1 14)) fun x30 => S.bd (S.gd x29 false (lcl c2 14)) fun x31 => S.bd (S.gd x29 false (eqb [0] false true x30 x31)) fun x32 => S.bd (pik x29 (Go.Value.bool Bool.true) x32) fun x33 => S.cnd x33 (some ((Go.Value.bool Bool.false))) (S.bd (S.it (leapfrogref13x_SameResult.l4 S) [(Go.Value.int Go.IntKind.i64 0), (Value.agg ⟨c1⟩), (Value.agg ⟨c2⟩)] s) fun r91 => if r91.1 = 0 then (some ((Go.Value.bool Bool.true))) else (some ((r91.2.1.getD 0 undef))))
def leapfrogref13x_SameResult.r (a0 a1 : Value) (s : St) : Option Value := leapfrogref13x_SameResult.t std a0 a1 s
def leapfrogref13x_SameResult.w : List Value → St → Option Value
  | [a0, a1], s => leapfrogref13x_SameResult.r a0 a1 s
  | _, _ => none
def leapfrogref13x_SameResult.an : An := ⟨94, true, [2, 3], [(4, ⟨[.p 2 2 0, .p 3 3 0, .v 5, .l 2, .l 3], [(.exit 0, []), (.ret, [.v 4])]⟩)], [], [(6, [(0, 0, [], []), (1, 17, [], []), (2, 0, [], []), (3, 2, [], []), (4, 0, [], []), (5, 2, [], []), (6, 0, [], []), (7, 25, [], []), (8, 0, [], []), (9, 2, [], []), (10, 0, [], []), (11, 2, [], []), (12, 0, [], []), (13, 0, [], []), (14, 0, [], []), (15, 17, [], []), (16, 0, [], []), (17, 2, [], []), (18, 0, [], []), (19, 2, [], []), (20, 2, [], []), (21, 0, [], []), (22, 25, [], []), (23, 0, [], []), (24, 2, [], []), (25, 0, [], []), (26, 2, [], []), (27, 2, [], []), (28, 0, [], []), (29, 0, [], [])])]⟩
theorem leapfrogref13x_SameResult.ok (S : Sig) (a0 a1 : Value) (s : St) : evG S Try.prog leapfrogref13x_SameResult.ctx leapfrogref13x_SameResult.an Try.f56 [a0, a1] s = leapfrogref13x_SameResult.t S a0 a1 s := by kernel_rfl
theorem leapfrogref13x_SameResult.cok : CtxOk Try.prog leapfrogref13x_SameResult.ctx := .nil
theorem leapfrogref13x_SameResult.draws : fnDraws leapfrogref13x_SameResult.an Try.f56 = true := by kernel_rfl
theorem leapfrogref13x_SameResult.can : callOk Try.prog 56 = true := by kernel_rfl
theorem leapfrogref13x_SameResult.sound : FnOk Try.prog 56 (.rd leapfrogref13x_SameResult.w) := FnOk.rd_of (evG_ok leapfrogref13x_SameResult.cok mixed (f := 56) (fn := Try.f56) (by kernel_rfl) leapfrogref13x_SameResult.draws) fun args s r h => by
  unfold leapfrogref13x_SameResult.w at h; split at h
  · rw [leapfrogref13x_SameResult.ok std]; exact h
  · simp at h

/-! ### leapfrog/leapfrogref13.SameStep: function 21 -/
def leapfrogref13x_SameStep.ctx : Ctx := [(56, .rd leapfrogref13x_SameResult.w)]
def leapfrogref13x_SameStep.t (S : Sig) (a0 a1 : Value) (s : St) : Option Value :=
  S.bd (bx a0) fun c1 => S.bd (bx a1) fun c2 => S.bd (lcl c1 0) fun x3 => S.bd (lcl c2 0) fun x4 => S.bd (eqb [1] false false x3 x4) fun x5 => S.bd (S.gd x5 true (lal c1 1 5)) fun x6 => S.bd (S.gd x5 true (lal c2 1 5)) fun x7 => S.bd (S.gd x5 true (eqb [1, 1, 1, 1, 1] true false x6 x7)) fun x8 => S.bd (pik x5 x8 (Go.Value.bool Bool.false)) fun x9 => S.bd (S.gd x9 true (lal c1 6 15)) fun x10 => S.bd (S.gd x9 true (lal c2 6 15)) fun x11 => S.bd (S.gd x9 true (eqb [1, 1, 1, 1, 1, 1, 1, 1, 1, 1, 1, 1, 1, 1, 1] true false x10 x11)) fun x12 => S.bd (pik x9 x12 (Go.Value.bool Bool.false)) fun x13 => S.bd (S.gd x13 true (lal c1 21 15)) fun x14 => S.bd (S.gd x13 true (lal c2 21 15)) fun x15 => S.bd (S.gd x13 true (leapfrogref13x_SameResult.r x14 x15 s)) fun x16 => S.bd (pik x13 x16 (Go.Value.bool Bool.false)) fun x17 => some (x17)
def leapfrogref13x_SameStep.r (a0 a1 : Value) (s : St) : Option Value := leapfrogref13x_SameStep.t std a0 a1 s
def leapfrogref13x_SameStep.w : List Value → St → Option Value
  | [a0, a1], s => leapfrogref13x_SameStep.r a0 a1 s
  | _, _ => none
def leapfrogref13x_SameStep.an : An := ⟨31, true, [2, 3], [], [], []⟩
theorem leapfrogref13x_SameStep.ok (S : Sig) (a0 a1 : Value) (s : St) : evG S Try.prog leapfrogref13x_SameStep.ctx leapfrogref13x_SameStep.an Try.f21 [a0, a1] s = leapfrogref13x_SameStep.t S a0 a1 s := by kernel_rfl
theorem leapfrogref13x_SameStep.cok : CtxOk Try.prog leapfrogref13x_SameStep.ctx := .cons leapfrogref13x_SameResult.sound leapfrogref13x_SameResult.can <| .nil
theorem leapfrogref13x_SameStep.draws : fnDraws leapfrogref13x_SameStep.an Try.f21 = true := by kernel_rfl
theorem leapfrogref13x_SameStep.can : callOk Try.prog 21 = true := by kernel_rfl
theorem leapfrogref13x_SameStep.sound : FnOk Try.prog 21 (.rd leapfrogref13x_SameStep.w) := FnOk.rd_of (evG_ok leapfrogref13x_SameStep.cok mixed (f := 21) (fn := Try.f21) (by kernel_rfl) leapfrogref13x_SameStep.draws) fun args s r h => by
  unfold leapfrogref13x_SameStep.w at h; split at h
  · rw [leapfrogref13x_SameStep.ok std]; exact h
  · simp at h

/-! ### (*leapfrog/splice.Splice).Wake: function 23 -/
def splice_Splice_Wake.ctx : Ctx := []
def splice_Splice_Wake.t (S : Sig) (a0 : Value) (s : St) : Option (Value × St) :=
  S.bd (eqb [3] false true a0 (Go.Value.pointer Option.none)) fun x1 => S.bd (S.gd x1 true (some a0)) fun x2 => S.bd (S.gd x1 true (nck x2)) fun x3 => S.bd (S.gd x1 true (fld 14 x3)) fun x4 => S.bd (S.gd x1 true (ldc s x4)) fun x5 => S.bd (S.gd x1 true (eqb [1] false false x5 (Go.Value.int Go.IntKind.i64 9))) fun x6 => S.bd (pik x1 x6 (Go.Value.bool Bool.false)) fun x7 => S.cnd x7 (S.bd (nck a0) fun x8 => S.bd (fld 14 x8) fun x9 => S.bd (stv s 1 x9 (Go.Value.int Go.IntKind.i64 1)) fun s10 => some ((Value.tuple ⟨[]⟩), s10)) (some ((Value.tuple ⟨[]⟩), s))
def splice_Splice_Wake.v (a0 : Value) (s : St) : Option (Value × St) := splice_Splice_Wake.t std a0 s
def splice_Splice_Wake.w : List Value → St → Option (Value × St)
  | [a0], s => splice_Splice_Wake.v a0 s
  | _, _ => none
def splice_Splice_Wake.an : An := ⟨14, false, [], [], [], []⟩
theorem splice_Splice_Wake.ok (S : Sig) (a0 : Value) (s : St) : evF S Try.prog splice_Splice_Wake.ctx splice_Splice_Wake.an Try.f23 [a0] s = splice_Splice_Wake.t S a0 s := by kernel_rfl
theorem splice_Splice_Wake.cok : CtxOk Try.prog splice_Splice_Wake.ctx := .nil
theorem splice_Splice_Wake.draws : fnDraws splice_Splice_Wake.an Try.f23 = true := by kernel_rfl
theorem splice_Splice_Wake.can : callOk Try.prog 23 = true := by kernel_rfl
theorem splice_Splice_Wake.sound : FnOk Try.prog 23 (.st splice_Splice_Wake.w) := FnOk.st_of (evF_ok splice_Splice_Wake.cok mixed (f := 23) (fn := Try.f23) (by kernel_rfl) splice_Splice_Wake.draws) fun args s r h => by
  unfold splice_Splice_Wake.w at h; split at h
  · rw [splice_Splice_Wake.ok std]; exact h
  · simp at h

/-! ### (*leapfrog/leapfrogref13.Splice).then: function 57 -/
def leapfrogref13x_Splice_then.ctx : Ctx := []
def leapfrogref13x_Splice_then.t (S : Sig) (a0 : Value) (s : St) : Option (Value × St) :=
  S.bd (nck a0) fun x1 => S.bd (fld 15 x1) fun x2 => S.bd (ldc s x2) fun x3 => S.bd (eqb [1] false false x3 (Go.Value.int Go.IntKind.i64 3)) fun x4 => S.cnd x4 (S.bd (nck a0) fun x5 => S.bd (fld 14 x5) fun x6 => S.bd (stv s 1 x6 (Go.Value.int Go.IntKind.i64 11)) fun s7 => some ((Value.tuple ⟨[]⟩), s7)) (S.bd (eqb [1] false false x3 (Go.Value.int Go.IntKind.i64 2)) fun x8 => S.cnd x8 (S.bd (nck a0) fun x9 => S.bd (fld 14 x9) fun x10 => S.bd (stv s 1 x10 (Go.Value.int Go.IntKind.i64 10)) fun s11 => S.bd (nck a0) fun x12 => S.bd (fld 15 x12) fun x13 => S.bd (stv s11 1 x13 (Go.Value.int Go.IntKind.i64 1)) fun s14 => some ((Value.tuple ⟨[]⟩), s14)) (S.bd (eqb [1] false false x3 (Go.Value.int Go.IntKind.i64 4)) fun x15 => S.cnd x15 (S.bd (nck a0) fun x16 => S.bd (fld 16 x16) fun x17 => S.bd (lda s 5 x17) fun x18 => S.bd (nck a0) fun x19 => S.bd (fld 27 x19) fun x20 => S.bd (lda s 5 x20) fun x21 => S.bd (nck a0) fun x22 => S.bd (fld 21 x22) fun x23 => S.bd (stv s 5 x23 x18) fun s24 => S.bd (nck a0) fun x25 => S.bd (fld 26 x25) fun x26 => S.bd (stv s24 1 x26 (Go.Value.bool Bool.true)) fun s27 => S.bd (nck a0) fun x28 => S.bd (fld 16 x28) fun x29 => S.bd (stv s27 5 x29 x21) fun s30 => S.bd (nck a0) fun x31 => S.bd (fld 14 x31) fun x32 => S.bd (stv s30 1 x32 (Go.Value.int Go.IntKind.i64 1)) fun s33 => some ((Value.tuple ⟨[]⟩), s33)) (S.bd (eqb [1] false false x3 (Go.Value.int Go.IntKind.i64 5)) fun x34 => S.cnd x34 (S.bd (nck a0) fun x35 => S.bd (fld 21 x35) fun x36 => S.bd (lda s 5 x36) fun x37 => S.bd (nck a0) fun x38 => S.bd (fld 16 x38) fun x39 => S.bd (stv s 5 x39 x37) fun s40 => S.bd (nck a0) fun x41 => S.bd (fld 26 x41) fun x42 => S.bd (stv s40 1 x42 (Go.Value.bool Bool.false)) fun s43 => S.bd (nck a0) fun x44 => S.bd (fld 14 x44) fun x45 => S.bd (stv s43 1 x45 (Go.Value.int Go.IntKind.i64 1)) fun s46 => some ((Value.tuple ⟨[]⟩), s46)) (S.bd (nck a0) fun x47 => S.bd (fld 14 x47) fun x48 => S.bd (stv s 1 x48 (Go.Value.int Go.IntKind.i64 1)) fun s49 => some ((Value.tuple ⟨[]⟩), s49)))))
def leapfrogref13x_Splice_then.v (a0 : Value) (s : St) : Option (Value × St) := leapfrogref13x_Splice_then.t std a0 s
def leapfrogref13x_Splice_then.w : List Value → St → Option (Value × St)
  | [a0], s => leapfrogref13x_Splice_then.v a0 s
  | _, _ => none
def leapfrogref13x_Splice_then.an : An := ⟨59, false, [], [], [], [(7, [(0, 0, [], []), (1, 0, [], []), (2, 0, [], []), (3, 0, [], []), (4, 0, [], []), (5, 0, [], []), (6, 2, [], []), (7, 0, [], []), (8, 0, [], []), (9, 0, [], []), (10, 2, [], []), (11, 0, [], []), (12, 0, [], []), (13, 4, [], []), (14, 0, [], []), (15, 0, [], []), (16, 4, [], []), (17, 0, [], []), (18, 0, [], []), (19, 4, [], [])])]⟩
theorem leapfrogref13x_Splice_then.ok (S : Sig) (a0 : Value) (s : St) : evF S Try.prog leapfrogref13x_Splice_then.ctx leapfrogref13x_Splice_then.an Try.f57 [a0] s = leapfrogref13x_Splice_then.t S a0 s := by kernel_rfl
theorem leapfrogref13x_Splice_then.cok : CtxOk Try.prog leapfrogref13x_Splice_then.ctx := .nil
theorem leapfrogref13x_Splice_then.draws : fnDraws leapfrogref13x_Splice_then.an Try.f57 = true := by kernel_rfl
theorem leapfrogref13x_Splice_then.can : callOk Try.prog 57 = true := by kernel_rfl
theorem leapfrogref13x_Splice_then.sound : FnOk Try.prog 57 (.st leapfrogref13x_Splice_then.w) := FnOk.st_of (evF_ok leapfrogref13x_Splice_then.cok mixed (f := 57) (fn := Try.f57) (by kernel_rfl) leapfrogref13x_Splice_then.draws) fun args s r h => by
  unfold leapfrogref13x_Splice_then.w at h; split at h
  · rw [leapfrogref13x_Splice_then.ok std]; exact h
  · simp at h

/-! ### (*leapfrog/leapfrogref13.Splice).Wake: function 24 -/
def leapfrogref13x_Splice_Wake.ctx : Ctx := [(57, .st leapfrogref13x_Splice_then.w)]
def leapfrogref13x_Splice_Wake.t (S : Sig) (a0 : Value) (s : St) : Option (Value × St) :=
  S.bd (nck a0) fun x1 => S.bd (fld 14 x1) fun x2 => S.bd (ldc s x2) fun x3 => S.bd (eqb [1] false false x3 (Go.Value.int Go.IntKind.i64 10)) fun x4 => S.cnd x4 (S.bd (leapfrogref13x_Splice_then.v a0 s) fun r5 => some ((Value.tuple ⟨[]⟩), r5.2)) (some ((Value.tuple ⟨[]⟩), s))
def leapfrogref13x_Splice_Wake.v (a0 : Value) (s : St) : Option (Value × St) := leapfrogref13x_Splice_Wake.t std a0 s
def leapfrogref13x_Splice_Wake.w : List Value → St → Option (Value × St)
  | [a0], s => leapfrogref13x_Splice_Wake.v a0 s
  | _, _ => none
def leapfrogref13x_Splice_Wake.an : An := ⟨9, false, [], [], [], []⟩
theorem leapfrogref13x_Splice_Wake.ok (S : Sig) (a0 : Value) (s : St) : evF S Try.prog leapfrogref13x_Splice_Wake.ctx leapfrogref13x_Splice_Wake.an Try.f24 [a0] s = leapfrogref13x_Splice_Wake.t S a0 s := by kernel_rfl
theorem leapfrogref13x_Splice_Wake.cok : CtxOk Try.prog leapfrogref13x_Splice_Wake.ctx := .cons leapfrogref13x_Splice_then.sound leapfrogref13x_Splice_then.can <| .nil
theorem leapfrogref13x_Splice_Wake.draws : fnDraws leapfrogref13x_Splice_Wake.an Try.f24 = true := by kernel_rfl
theorem leapfrogref13x_Splice_Wake.can : callOk Try.prog 24 = true := by kernel_rfl
theorem leapfrogref13x_Splice_Wake.sound : FnOk Try.prog 24 (.st leapfrogref13x_Splice_Wake.w) := FnOk.st_of (evF_ok leapfrogref13x_Splice_Wake.cok mixed (f := 24) (fn := Try.f24) (by kernel_rfl) leapfrogref13x_Splice_Wake.draws) fun args s r h => by
  unfold leapfrogref13x_Splice_Wake.w at h; split at h
  · rw [leapfrogref13x_Splice_Wake.ok std]; exact h
  · simp at h

/-! ### (*leapfrog/leapfrogref13.Splice).free: function 60 -/
def leapfrogref13x_Splice_free.ctx : Ctx := [(57, .st leapfrogref13x_Splice_then.w)]
def leapfrogref13x_Splice_free.t (S : Sig) (a0 a1 : Value) (s : St) : Option (Value × St) :=
  S.bd (nck a0) fun x1 => S.bd (fld 15 x1) fun x2 => S.bd (stv s 1 x2 a1) fun s3 => S.bd (nck a0) fun x4 => S.bd (fld 32 x4) fun x5 => S.bd (ldc s3 x5) fun x6 => S.cnd x6 (S.bd (leapfrogref13x_Splice_then.v a0 s3) fun r7 => some ((Value.tuple ⟨[]⟩), r7.2)) (S.bd (nck a0) fun x8 => S.bd (fld 14 x8) fun x9 => S.bd (stv s3 1 x9 (Go.Value.int Go.IntKind.i64 9)) fun s10 => some ((Value.tuple ⟨[]⟩), s10))
def leapfrogref13x_Splice_free.v (a0 a1 : Value) (s : St) : Option (Value × St) := leapfrogref13x_Splice_free.t std a0 a1 s
def leapfrogref13x_Splice_free.w : List Value → St → Option (Value × St)
  | [a0, a1], s => leapfrogref13x_Splice_free.v a0 a1 s
  | _, _ => none
def leapfrogref13x_Splice_free.an : An := ⟨17, false, [], [], [], []⟩
theorem leapfrogref13x_Splice_free.ok (S : Sig) (a0 a1 : Value) (s : St) : evF S Try.prog leapfrogref13x_Splice_free.ctx leapfrogref13x_Splice_free.an Try.f60 [a0, a1] s = leapfrogref13x_Splice_free.t S a0 a1 s := by kernel_rfl
theorem leapfrogref13x_Splice_free.cok : CtxOk Try.prog leapfrogref13x_Splice_free.ctx := .cons leapfrogref13x_Splice_then.sound leapfrogref13x_Splice_then.can <| .nil
theorem leapfrogref13x_Splice_free.draws : fnDraws leapfrogref13x_Splice_free.an Try.f60 = true := by kernel_rfl
theorem leapfrogref13x_Splice_free.can : callOk Try.prog 60 = true := by kernel_rfl
theorem leapfrogref13x_Splice_free.sound : FnOk Try.prog 60 (.st leapfrogref13x_Splice_free.w) := FnOk.st_of (evF_ok leapfrogref13x_Splice_free.cok mixed (f := 60) (fn := Try.f60) (by kernel_rfl) leapfrogref13x_Splice_free.draws) fun args s r h => by
  unfold leapfrogref13x_Splice_free.w at h; split at h
  · rw [leapfrogref13x_Splice_free.ok std]; exact h
  · simp at h

/-! ### (*leapfrog/leapfrogref13.Splice).end: function 59 -/
def leapfrogref13x_Splice_end.ctx : Ctx := [(60, .st leapfrogref13x_Splice_free.w)]
def leapfrogref13x_Splice_end.t (S : Sig) (a0 a1 : Value) (s : St) : Option (Value × St) :=
  S.bd (bld [(Go.Value.int Go.IntKind.i64 0), (Go.Value.int Go.IntKind.u64 0), (Go.Value.slice Option.none 0 0), (Go.Value.slice Option.none 0 0), (Go.Value.int Go.IntKind.i64 0), (Go.Value.int Go.IntKind.i64 0), (Go.Value.int Go.IntKind.u64 0), (Go.Value.int Go.IntKind.i64 0), (Go.Value.int Go.IntKind.u64 0), (Go.Value.int Go.IntKind.i64 0), (Go.Value.int Go.IntKind.i64 0), (Go.Value.int Go.IntKind.u64 0), (Go.Value.int Go.IntKind.i64 0), (Go.Value.int Go.IntKind.u64 0), (Go.Value.bool Bool.false)] [(0, 1, a1)]) fun x1 => S.bd (nck a0) fun x2 => S.bd (fld 33 x2) fun x3 => S.bd (stv s 15 x3 x1) fun s4 => S.bd (eqb [1] false false a1 (Go.Value.int Go.IntKind.i64 0)) fun x5 => S.bd (S.gd x5 false (some a1)) fun x6 => S.bd (S.gd x5 false (eqb [1] false false x6 (Go.Value.int Go.IntKind.i64 100))) fun x7 => S.bd (pik x5 (Go.Value.bool Bool.true) x7) fun x8 => S.cnd x8 (S.bd (nck a0) fun x9 => S.bd (fld 16 x9) fun x10 => S.bd (lda s4 5 x10) fun x11 => S.bd (nck a0) fun x12 => S.bd (fld 27 x12) fun x13 => S.bd (lda s4 5 x13) fun x14 => S.bd (nck a0) fun x15 => S.bd (fld 33 x15) fun x16 => S.bd (fld 4 x16) fun x17 => S.bd (stv s4 5 x17 x11) fun s18 => S.bd (nck a0) fun x19 => S.bd (fld 33 x19) fun x20 => S.bd (fld 9 x20) fun x21 => S.bd (stv s18 5 x21 x14) fun s22 => S.bd (leapfrogref13x_Splice_free.v a0 (Go.Value.int Go.IntKind.i64 3) s22) fun r23 => some ((Value.tuple ⟨[]⟩), r23.2)) (S.bd (leapfrogref13x_Splice_free.v a0 (Go.Value.int Go.IntKind.i64 3) s4) fun r24 => some ((Value.tuple ⟨[]⟩), r24.2))
def leapfrogref13x_Splice_end.v (a0 a1 : Value) (s : St) : Option (Value × St) := leapfrogref13x_Splice_end.t std a0 a1 s
def leapfrogref13x_Splice_end.w : List Value → St → Option (Value × St)
  | [a0, a1], s => leapfrogref13x_Splice_end.v a0 a1 s
  | _, _ => none
def leapfrogref13x_Splice_end.an : An := ⟨33, false, [], [], [], [(2, [(0, 0, [], []), (1, 0, [], []), (2, 0, [], []), (3, 0, [], []), (4, 0, [], []), (5, 2, [], []), (6, 0, [], []), (7, 0, [], []), (8, 0, [], []), (9, 2, [], []), (10, 0, [], []), (11, 0, [], []), (12, 0, [], []), (13, 4, [], []), (14, 0, [], []), (15, 0, [], []), (16, 0, [], []), (17, 4, [], [])])]⟩
theorem leapfrogref13x_Splice_end.ok (S : Sig) (a0 a1 : Value) (s : St) : evF S Try.prog leapfrogref13x_Splice_end.ctx leapfrogref13x_Splice_end.an Try.f59 [a0, a1] s = leapfrogref13x_Splice_end.t S a0 a1 s := by kernel_rfl
theorem leapfrogref13x_Splice_end.cok : CtxOk Try.prog leapfrogref13x_Splice_end.ctx := .cons leapfrogref13x_Splice_free.sound leapfrogref13x_Splice_free.can <| .nil
theorem leapfrogref13x_Splice_end.draws : fnDraws leapfrogref13x_Splice_end.an Try.f59 = true := by kernel_rfl
theorem leapfrogref13x_Splice_end.can : callOk Try.prog 59 = true := by kernel_rfl
theorem leapfrogref13x_Splice_end.sound : FnOk Try.prog 59 (.st leapfrogref13x_Splice_end.w) := FnOk.st_of (evF_ok leapfrogref13x_Splice_end.cok mixed (f := 59) (fn := Try.f59) (by kernel_rfl) leapfrogref13x_Splice_end.draws) fun args s r h => by
  unfold leapfrogref13x_Splice_end.w at h; split at h
  · rw [leapfrogref13x_Splice_end.ok std]; exact h
  · simp at h

/-! ### (*leapfrog/leapfrogref13.Splice).look: function 84 -/
def leapfrogref13x_Splice_look.ctx : Ctx := [(12, .rd leapfrogref09x_Less.w), (59, .st leapfrogref13x_Splice_end.w), (60, .st leapfrogref13x_Splice_free.w)]
def leapfrogref13x_Splice_look.t.p1 (S : Sig) (a0 : Value) (s : St) : Option (Value × St) :=
  S.bd (nck a0) fun x12 => S.bd (fld 27 x12) fun x13 => S.bd (fld 1 x13) fun x14 => S.bd (lda s 2 x14) fun x15 => S.bd (nck a0) fun x16 => S.bd (fld 0 x16) fun x17 => S.bd (fld 2 x17) fun x18 => S.bd (fld 1 x18) fun x19 => S.bd (lda s 2 x19) fun x20 => S.bd (leapfrogref09x_Less.r x15 x20 s) fun x21 => S.cnd x21 (S.bd (leapfrogref13x_Splice_free.v a0 (Go.Value.int Go.IntKind.i64 4) s) fun r22 => some ((Value.tuple ⟨[]⟩), r22.2)) (S.bd (nck a0) fun x23 => S.bd (fld 27 x23) fun x24 => S.bd (fld 1 x24) fun x25 => S.bd (lda s 2 x25) fun x26 => S.bd (nck a0) fun x27 => S.bd (fld 0 x27) fun x28 => S.bd (fld 2 x28) fun x29 => S.bd (fld 1 x29) fun x30 => S.bd (lda s 2 x30) fun x31 => S.bd (eqb [1, 1] true false x26 x31) fun x32 => S.bd (S.gd x32 true (some a0)) fun x33 => S.bd (S.gd x32 true (nck x33)) fun x34 => S.bd (S.gd x32 true (fld 0 x34)) fun x35 => S.bd (S.gd x32 true (fld 0 x35)) fun x36 => S.bd (S.gd x32 true (fld 0 x36)) fun x37 => S.bd (S.gd x32 true (ldc s x37)) fun x38 => S.bd (S.gd x32 true (bin .gtr x38 (Go.Value.int Go.IntKind.i64 0))) fun x39 => S.bd (pik x32 x39 (Go.Value.bool Bool.false)) fun x40 => S.cnd x40 (S.bd (leapfrogref13x_Splice_free.v a0 (Go.Value.int Go.IntKind.i64 2) s) fun r41 => some ((Value.tuple ⟨[]⟩), r41.2)) (S.bd (nck a0) fun x42 => S.bd (fld 27 x42) fun x43 => S.bd (fld 1 x43) fun x44 => S.bd (lda s 2 x44) fun x45 => S.bd (nck a0) fun x46 => S.bd (fld 0 x46) fun x47 => S.bd (fld 2 x47) fun x48 => S.bd (fld 1 x48) fun x49 => S.bd (lda s 2 x49) fun x50 => S.bd (eqb [1, 1] true false x45 x50) fun x51 => S.cnd x51 (S.bd (nck a0) fun x52 => S.bd (fld 14 x52) fun x53 => S.bd (stv s 1 x53 (Go.Value.int Go.IntKind.i64 3)) fun s54 => some ((Value.tuple ⟨[]⟩), s54)) (S.bd (nck a0) fun x55 => S.bd (fld 14 x55) fun x56 => S.bd (stv s 1 x56 (Go.Value.int Go.IntKind.i64 4)) fun s57 => some ((Value.tuple ⟨[]⟩), s57))))

def leapfrogref13x_Splice_look.t (S : Sig) (a0 : Value) (s : St) : Option (Value × St) :=
  S.bd (nck a0) fun x1 => S.bd (fld 16 x1) fun x2 => S.bd (fld 1 x2) fun x3 => S.bd (lda s 2 x3) fun x4 => S.bd (nck a0) fun x5 => S.bd (fld 27 x5) fun x6 => S.bd (fld 1 x6) fun x7 => S.bd (lda s 2 x7) fun x8 => S.bd (leapfrogref09x_Less.r x4 x8 s) fun x9 => S.bd (un .not x9) fun x10 => S.cnd x10 (S.bd (leapfrogref13x_Splice_end.v a0 (Go.Value.int Go.IntKind.i64 131) s) fun r11 => some ((Value.tuple ⟨[]⟩), r11.2)) (leapfrogref13x_Splice_look.t.p1 S a0 s)
def leapfrogref13x_Splice_look.v (a0 : Value) (s : St) : Option (Value × St) := leapfrogref13x_Splice_look.t std a0 s
def leapfrogref13x_Splice_look.w : List Value → St → Option (Value × St)
  | [a0], s => leapfrogref13x_Splice_look.v a0 s
  | _, _ => none
def leapfrogref13x_Splice_look.an : An := ⟨75, false, [], [], [], [(1, [(0, 0, [], []), (1, 0, [], []), (2, 0, [], []), (3, 0, [], []), (4, 2, [], []), (5, 0, [], []), (6, 0, [], []), (7, 0, [], []), (8, 0, [], []), (9, 2, [], []), (10, 3, [], []), (11, 0, [], []), (12, 0, [], [])]), (3, [(0, 0, [], []), (1, 0, [], []), (2, 0, [], []), (3, 0, [], []), (4, 2, [], []), (5, 0, [], []), (6, 0, [], []), (7, 0, [], []), (8, 0, [], []), (9, 0, [], []), (10, 2, [], []), (11, 3, [], []), (12, 0, [], [])]), (5, [(0, 0, [], []), (1, 0, [], []), (2, 0, [], []), (3, 0, [], []), (4, 2, [], []), (5, 0, [], []), (6, 0, [], []), (7, 0, [], []), (8, 0, [], []), (9, 0, [], []), (10, 2, [], []), (11, 0, [], []), (12, 0, [], []), (13, 0, [], []), (14, 0, [], []), (15, 0, [], []), (16, 0, [], []), (17, 0, [], []), (18, 2, [], []), (19, 0, [], []), (20, 0, [], []), (21, 0, [], [])]), (7, [(0, 0, [], []), (1, 0, [], []), (2, 0, [], []), (3, 0, [], []), (4, 2, [], []), (5, 0, [], []), (6, 0, [], []), (7, 0, [], []), (8, 0, [], []), (9, 0, [], []), (10, 2, [], []), (11, 0, [], []), (12, 0, [], [])])]⟩
theorem leapfrogref13x_Splice_look.ok (S : Sig) (a0 : Value) (s : St) : evF S Try.prog leapfrogref13x_Splice_look.ctx leapfrogref13x_Splice_look.an Try.f84 [a0] s = leapfrogref13x_Splice_look.t S a0 s := by kernel_rfl
theorem leapfrogref13x_Splice_look.cok : CtxOk Try.prog leapfrogref13x_Splice_look.ctx := .cons leapfrogref09x_Less.sound leapfrogref09x_Less.can <| .cons leapfrogref13x_Splice_end.sound leapfrogref13x_Splice_end.can <| .cons leapfrogref13x_Splice_free.sound leapfrogref13x_Splice_free.can <| .nil
theorem leapfrogref13x_Splice_look.draws : fnDraws leapfrogref13x_Splice_look.an Try.f84 = true := by kernel_rfl
theorem leapfrogref13x_Splice_look.can : callOk Try.prog 84 = true := by kernel_rfl
theorem leapfrogref13x_Splice_look.sound : FnOk Try.prog 84 (.st leapfrogref13x_Splice_look.w) := FnOk.st_of (evF_ok leapfrogref13x_Splice_look.cok mixed (f := 84) (fn := Try.f84) (by kernel_rfl) leapfrogref13x_Splice_look.draws) fun args s r h => by
  unfold leapfrogref13x_Splice_look.w at h; split at h
  · rw [leapfrogref13x_Splice_look.ok std]; exact h
  · simp at h

/-! ### (*leapfrog/leapfrogref13.Splice).locked: function 58 -/
def leapfrogref13x_Splice_locked.ctx : Ctx := [(84, .st leapfrogref13x_Splice_look.w)]
def leapfrogref13x_Splice_locked.t (S : Sig) (a0 a1 : Value) (s : St) : Option (Value × St) :=
  S.bd (bx a1) fun c1 => S.bd (lcl c1 0) fun x2 => S.bd (eqb [1] false false x2 (Go.Value.int Go.IntKind.i64 1)) fun x3 => S.cnd x3 (S.bd (lal c1 7 5) fun x4 => S.bd (nck a0) fun x5 => S.bd (fld 27 x5) fun x6 => S.bd (stv s 5 x6 x4) fun s7 => S.bd (leapfrogref13x_Splice_look.v a0 s7) fun r8 => some ((Value.tuple ⟨[]⟩), r8.2)) (S.bd (lcl c1 0) fun x9 => S.bd (eqb [1] false true x9 (Go.Value.int Go.IntKind.i64 2)) fun x10 => S.bd (S.gd x10 true (lcl c1 0)) fun x11 => S.bd (S.gd x10 true (eqb [1] false true x11 (Go.Value.int Go.IntKind.i64 3))) fun x12 => S.bd (pik x10 x12 (Go.Value.bool Bool.false)) fun x13 => S.cnd x13 (S.bd (nck a0) fun x14 => S.bd (fld 14 x14) fun x15 => S.bd (stv s 1 x15 (Go.Value.int Go.IntKind.i64 10)) fun s16 => S.bd (nck a0) fun x17 => S.bd (fld 15 x17) fun x18 => S.bd (stv s16 1 x18 (Go.Value.int Go.IntKind.i64 1)) fun s19 => some ((Value.tuple ⟨[]⟩), s19)) (S.bd (nck a0) fun x20 => S.bd (fld 26 x20) fun x21 => S.bd (ldc s x21) fun x22 => S.cnd x22 (S.bd (nck a0) fun x23 => S.bd (fld 14 x23) fun x24 => S.bd (stv s 1 x24 (Go.Value.int Go.IntKind.i64 10)) fun s25 => S.bd (nck a0) fun x26 => S.bd (fld 15 x26) fun x27 => S.bd (stv s25 1 x27 (Go.Value.int Go.IntKind.i64 5)) fun s28 => some ((Value.tuple ⟨[]⟩), s28)) (S.bd (bld [(Go.Value.int Go.IntKind.i64 0), (Go.Value.int Go.IntKind.u64 0), (Go.Value.slice Option.none 0 0), (Go.Value.slice Option.none 0 0), (Go.Value.int Go.IntKind.i64 0), (Go.Value.int Go.IntKind.i64 0), (Go.Value.int Go.IntKind.u64 0), (Go.Value.int Go.IntKind.i64 0), (Go.Value.int Go.IntKind.u64 0), (Go.Value.int Go.IntKind.i64 0), (Go.Value.int Go.IntKind.i64 0), (Go.Value.int Go.IntKind.u64 0), (Go.Value.int Go.IntKind.i64 0), (Go.Value.int Go.IntKind.u64 0), (Go.Value.bool Bool.false)] [(0, 1, (Go.Value.int Go.IntKind.i64 131))]) fun x29 => S.bd (nck a0) fun x30 => S.bd (fld 33 x30) fun x31 => S.bd (stv s 15 x31 x29) fun s32 => S.bd (nck a0) fun x33 => S.bd (fld 14 x33) fun x34 => S.bd (stv s32 1 x34 (Go.Value.int Go.IntKind.i64 11)) fun s35 => some ((Value.tuple ⟨[]⟩), s35))))
def leapfrogref13x_Splice_locked.v (a0 a1 : Value) (s : St) : Option (Value × St) := leapfrogref13x_Splice_locked.t std a0 a1 s
def leapfrogref13x_Splice_locked.w : List Value → St → Option (Value × St)
  | [a0, a1], s => leapfrogref13x_Splice_locked.v a0 a1 s
  | _, _ => none
def leapfrogref13x_Splice_locked.an : An := ⟨48, false, [3], [], [], []⟩
theorem leapfrogref13x_Splice_locked.ok (S : Sig) (a0 a1 : Value) (s : St) : evF S Try.prog leapfrogref13x_Splice_locked.ctx leapfrogref13x_Splice_locked.an Try.f58 [a0, a1] s = leapfrogref13x_Splice_locked.t S a0 a1 s := by kernel_rfl
theorem leapfrogref13x_Splice_locked.cok : CtxOk Try.prog leapfrogref13x_Splice_locked.ctx := .cons leapfrogref13x_Splice_look.sound leapfrogref13x_Splice_look.can <| .nil
theorem leapfrogref13x_Splice_locked.draws : fnDraws leapfrogref13x_Splice_locked.an Try.f58 = true := by kernel_rfl
theorem leapfrogref13x_Splice_locked.can : callOk Try.prog 58 = true := by kernel_rfl
theorem leapfrogref13x_Splice_locked.sound : FnOk Try.prog 58 (.st leapfrogref13x_Splice_locked.w) := FnOk.st_of (evF_ok leapfrogref13x_Splice_locked.cok mixed (f := 58) (fn := Try.f58) (by kernel_rfl) leapfrogref13x_Splice_locked.draws) fun args s r h => by
  unfold leapfrogref13x_Splice_locked.w at h; split at h
  · rw [leapfrogref13x_Splice_locked.ok std]; exact h
  · simp at h

/-! ### (*leapfrog/leapfrogref13.Splice).Tell: function 25 -/
def leapfrogref13x_Splice_Tell.ctx : Ctx := [(58, .st leapfrogref13x_Splice_locked.w), (59, .st leapfrogref13x_Splice_end.w), (60, .st leapfrogref13x_Splice_free.w), (57, .st leapfrogref13x_Splice_then.w)]
def leapfrogref13x_Splice_Tell.t.p1 (S : Sig) (x8 : Value) (a0 : Value) (s : St) (x5 : Value) (x3 : Value) (c1 : List Value) : Option (Value × St) :=
  S.bd (eqb [1] false false x8 (Go.Value.int Go.IntKind.i64 5)) fun x24 => S.cnd x24 (S.bd (nck a0) fun x25 => S.bd (fld 32 x25) fun x26 => S.bd (stv s 1 x26 x5) fun s27 => S.bd (S.gd x3 false (some x5)) fun x28 => S.bd (S.gd x3 false (some x28)) fun x29 => S.bd (S.gd x29 true (lcl c1 7)) fun x30 => S.bd (S.gd x29 true (some a0)) fun x31 => S.bd (S.gd x29 true (nck x31)) fun x32 => S.bd (S.gd x29 true (fld 0 x32)) fun x33 => S.bd (S.gd x29 true (fld 2 x33)) fun x34 => S.bd (S.gd x29 true (fld 0 x34)) fun x35 => S.bd (S.gd x29 true (ldc s27 x35)) fun x36 => S.bd (S.gd x29 true (eqb [1] false false x30 x36)) fun x37 => S.bd (S.gd x3 false (pik x29 x37 (Go.Value.bool Bool.false))) fun x38 => S.bd (pik x3 (Go.Value.bool Bool.true) x38) fun x39 => S.cnd x39 (S.bd (nck a0) fun x40 => S.bd (fld 14 x40) fun x41 => S.bd (stv s27 1 x41 (Go.Value.int Go.IntKind.i64 6)) fun s42 => some ((Value.tuple ⟨[]⟩), s42)) (S.bd (nck a0) fun x43 => S.bd (fld 14 x43) fun x44 => S.bd (stv s27 1 x44 (Go.Value.int Go.IntKind.i64 8)) fun s45 => some ((Value.tuple ⟨[]⟩), s45))) (S.bd (eqb [1] false false x8 (Go.Value.int Go.IntKind.i64 6)) fun x46 => S.cnd x46 (S.bd (nck a0) fun x47 => S.bd (fld 14 x47) fun x48 => S.bd (stv s 1 x48 (Go.Value.int Go.IntKind.i64 7)) fun s49 => some ((Value.tuple ⟨[]⟩), s49)) (S.bd (eqb [1] false false x8 (Go.Value.int Go.IntKind.i64 7)) fun x50 => S.cnd x50 (S.cnd x5 (S.bd (leapfrogref13x_Splice_end.v a0 (Go.Value.int Go.IntKind.i64 132) s) fun r51 => some ((Value.tuple ⟨[]⟩), r51.2)) (S.bd (leapfrogref13x_Splice_end.v a0 (Go.Value.int Go.IntKind.i64 0) s) fun r52 => some ((Value.tuple ⟨[]⟩), r52.2))) (S.bd (eqb [1] false false x8 (Go.Value.int Go.IntKind.i64 8)) fun x53 => S.cnd x53 (S.cnd x5 (S.bd (leapfrogref13x_Splice_end.v a0 (Go.Value.int Go.IntKind.i64 132) s) fun r54 => some ((Value.tuple ⟨[]⟩), r54.2)) (S.bd (leapfrogref13x_Splice_end.v a0 (Go.Value.int Go.IntKind.i64 131) s) fun r55 => some ((Value.tuple ⟨[]⟩), r55.2))) (S.bd (eqb [1] false false x8 (Go.Value.int Go.IntKind.i64 9)) fun x56 => S.cnd x56 (S.bd (leapfrogref13x_Splice_then.v a0 s) fun r57 => some ((Value.tuple ⟨[]⟩), r57.2)) (some ((Value.tuple ⟨[]⟩), s))))))

def leapfrogref13x_Splice_Tell.t (S : Sig) (a0 a1 : Value) (s : St) : Option (Value × St) :=
  S.bd (bx a1) fun c1 => S.bd (lcl c1 0) fun x2 => S.bd (eqb [1] false false x2 (Go.Value.int Go.IntKind.i64 1)) fun x3 => S.bd (lcl c1 0) fun x4 => S.bd (eqb [1] false false x4 (Go.Value.int Go.IntKind.i64 3)) fun x5 => S.bd (nck a0) fun x6 => S.bd (fld 14 x6) fun x7 => S.bd (ldc s x7) fun x8 => S.bd (eqb [1] false false x8 (Go.Value.int Go.IntKind.i64 1)) fun x9 => S.cnd x9 (S.bd (lal c1 0 13) fun x10 => S.bd (leapfrogref13x_Splice_locked.v a0 x10 s) fun r11 => some ((Value.tuple ⟨[]⟩), r11.2)) (S.bd (eqb [1] false false x8 (Go.Value.int Go.IntKind.i64 3)) fun x12 => S.cnd x12 (S.bd (S.gd x3 true (lcl c1 1)) fun x13 => S.bd (S.gd x3 true (un .not x13)) fun x14 => S.bd (pik x3 x14 (Go.Value.bool Bool.false)) fun x15 => S.cnd x15 (S.bd (leapfrogref13x_Splice_end.v a0 (Go.Value.int Go.IntKind.i64 100) s) fun r16 => some ((Value.tuple ⟨[]⟩), r16.2)) (S.bd (leapfrogref13x_Splice_free.v a0 (Go.Value.int Go.IntKind.i64 2) s) fun r17 => some ((Value.tuple ⟨[]⟩), r17.2))) (S.bd (eqb [1] false false x8 (Go.Value.int Go.IntKind.i64 4)) fun x18 => S.cnd x18 (S.cnd x3 (S.bd (nck a0) fun x19 => S.bd (fld 14 x19) fun x20 => S.bd (stv s 1 x20 (Go.Value.int Go.IntKind.i64 5)) fun s21 => some ((Value.tuple ⟨[]⟩), s21)) (S.cnd x5 (S.bd (leapfrogref13x_Splice_end.v a0 (Go.Value.int Go.IntKind.i64 132) s) fun r22 => some ((Value.tuple ⟨[]⟩), r22.2)) (S.bd (leapfrogref13x_Splice_end.v a0 (Go.Value.int Go.IntKind.i64 133) s) fun r23 => some ((Value.tuple ⟨[]⟩), r23.2)))) (leapfrogref13x_Splice_Tell.t.p1 S x8 a0 s x5 x3 c1)))
def leapfrogref13x_Splice_Tell.v (a0 a1 : Value) (s : St) : Option (Value × St) := leapfrogref13x_Splice_Tell.t std a0 a1 s
def leapfrogref13x_Splice_Tell.w : List Value → St → Option (Value × St)
  | [a0, a1], s => leapfrogref13x_Splice_Tell.v a0 a1 s
  | _, _ => none
def leapfrogref13x_Splice_Tell.an : An := ⟨97, false, [3], [], [], [(1, [(0, 0, [], []), (1, 25, [], []), (2, 0, [], []), (3, 0, [], []), (4, 25, [], []), (5, 0, [], []), (6, 0, [], []), (7, 0, [], [])]), (17, [(0, 0, [], []), (1, 0, [], []), (2, 0, [], []), (3, 0, [], []), (4, 0, [], []), (5, 0, [], []), (6, 25, [], []), (7, 0, [], []), (8, 0, [], []), (9, 0, [], []), (10, 0, [], []), (11, 0, [], []), (12, 2, [], []), (13, 0, [], []), (14, 0, [], []), (15, 0, [], [])])]⟩
theorem leapfrogref13x_Splice_Tell.ok (S : Sig) (a0 a1 : Value) (s : St) : evF S Try.prog leapfrogref13x_Splice_Tell.ctx leapfrogref13x_Splice_Tell.an Try.f25 [a0, a1] s = leapfrogref13x_Splice_Tell.t S a0 a1 s := by kernel_rfl
theorem leapfrogref13x_Splice_Tell.cok : CtxOk Try.prog leapfrogref13x_Splice_Tell.ctx := .cons leapfrogref13x_Splice_locked.sound leapfrogref13x_Splice_locked.can <| .cons leapfrogref13x_Splice_end.sound leapfrogref13x_Splice_end.can <| .cons leapfrogref13x_Splice_free.sound leapfrogref13x_Splice_free.can <| .cons leapfrogref13x_Splice_then.sound leapfrogref13x_Splice_then.can <| .nil
theorem leapfrogref13x_Splice_Tell.draws : fnDraws leapfrogref13x_Splice_Tell.an Try.f25 = true := by kernel_rfl
theorem leapfrogref13x_Splice_Tell.can : callOk Try.prog 25 = true := by kernel_rfl
theorem leapfrogref13x_Splice_Tell.sound : FnOk Try.prog 25 (.st leapfrogref13x_Splice_Tell.w) := FnOk.st_of (evF_ok leapfrogref13x_Splice_Tell.cok mixed (f := 25) (fn := Try.f25) (by kernel_rfl) leapfrogref13x_Splice_Tell.draws) fun args s r h => by
  unfold leapfrogref13x_Splice_Tell.w at h; split at h
  · rw [leapfrogref13x_Splice_Tell.ok std]; exact h
  · simp at h

/-! ### leapfrog/leapfroglaw13.SpliceRuns: function 4 -/
def leapfroglaw13x_SpliceRuns.ctx : Ctx := [(14, .st splice_New.w), (20, .st leapfrogref13x_New.w), (10, .rd leapfroglaw13x_aliveC.w), (15, .rd splice_Splice_Next.w), (22, .rd leapfrogref13x_Splice_Next.w), (21, .rd leapfrogref13x_SameStep.w), (23, .st splice_Splice_Wake.w), (24, .st leapfrogref13x_Splice_Wake.w), (19, .st splice_Splice_Tell.w), (25, .st leapfrogref13x_Splice_Tell.w)]
def leapfroglaw13x_SpliceRuns.l8 (S : Sig) (rec45 : List Value → St → Option Cut) (xs43 : List Value) (s44 : St) : Option Cut :=
  S.bd (lenL (xs43.getD 0 undef)) fun x46 => S.bd (bin .lss (xs43.getD 3 undef) x46) fun x47 => S.bd (S.gd x47 true (some (xs43.getD 3 undef))) fun x48 => S.bd (S.gd x47 true (bin .lss x48 (Go.Value.int Go.IntKind.i64 80))) fun x49 => S.bd (pik x47 x49 (Go.Value.bool Bool.false)) fun x50 => S.cnd x50 (S.bd (splice_Splice_Next.r (xs43.getD 1 undef) s44) fun x51 => S.bd (leapfrogref13x_Splice_Next.r (xs43.getD 2 undef) s44) fun x52 => S.bd (leapfrogref13x_SameStep.r x51 x52 s44) fun x53 => S.bd (un .not x53) fun x54 => S.cnd x54 (some (1, [(Go.Value.bool Bool.false)], s44)) (S.bd (idx s44 14 (xs43.getD 0 undef) (xs43.getD 3 undef)) fun x55 => S.bd (fld 0 x55) fun x56 => S.bd (ldc s44 x56) fun x57 => S.cnd x57 (S.bd (splice_Splice_Wake.v (xs43.getD 1 undef) s44) fun r58 => S.bd (leapfrogref13x_Splice_Wake.v (xs43.getD 2 undef) r58.2) fun r59 => S.bd (bin .add (xs43.getD 3 undef) (Go.Value.int Go.IntKind.i64 1)) fun x60 => rec45 [(xs43.getD 0 undef), (xs43.getD 1 undef), (xs43.getD 2 undef), x60] r59.2) (S.bd (idx s44 14 (xs43.getD 0 undef) (xs43.getD 3 undef)) fun x61 => S.bd (fld 1 x61) fun x62 => S.bd (lda s44 13 x62) fun x63 => S.bd (splice_Splice_Tell.v (xs43.getD 1 undef) x63 s44) fun r64 => S.bd (idx r64.2 14 (xs43.getD 0 undef) (xs43.getD 3 undef)) fun x65 => S.bd (fld 1 x65) fun x66 => S.bd (lda r64.2 13 x66) fun x67 => S.bd (leapfrogref13x_Splice_Tell.v (xs43.getD 2 undef) x67 r64.2) fun r68 => S.bd (bin .add (xs43.getD 3 undef) (Go.Value.int Go.IntKind.i64 1)) fun x69 => rec45 [(xs43.getD 0 undef), (xs43.getD 1 undef), (xs43.getD 2 undef), x69] r68.2))) (some (0, [(xs43.getD 1 undef), (xs43.getD 2 undef)], s44))

def leapfroglaw13x_SpliceRuns.t (S : Sig) (a0 a1 : Value) (s : St) : Option (Value × St) :=
  S.bd (bx a0) fun c1 => S.bd (lal c1 0 14) fun x2 => S.bd (splice_New.v x2 s) fun r3 => S.bd (xtr 0 r3.1) fun x4 => S.bd (xtr 1 r3.1) fun x5 => S.bd (lal c1 0 14) fun x6 => S.bd (leapfrogref13x_New.v x6 r3.2) fun r7 => S.bd (xtr 0 r7.1) fun x8 => S.bd (xtr 1 r7.1) fun x9 => S.bd (eqb [1] false true x5 x9) fun x10 => S.bd (S.gd x10 false (some x4)) fun x11 => S.bd (S.gd x10 false (eqb [3] false false x11 (Go.Value.pointer Option.none))) fun x12 => S.bd (S.gd x10 false (some x8)) fun x13 => S.bd (S.gd x10 false (eqb [3] false false x13 (Go.Value.pointer Option.none))) fun x14 => S.bd (S.gd x10 false (eqb [0] false true x12 x14)) fun x15 => S.bd (pik x10 (Go.Value.bool Bool.true) x15) fun x16 => S.cnd x16 (some ((Go.Value.bool Bool.false), r7.2)) (S.bd (eqb [3] false false x8 (Go.Value.pointer Option.none)) fun x17 => S.cnd x17 (S.bd (leapfroglaw13x_aliveC.r  r7.2) fun x18 => some (x18, r7.2)) (S.bd (S.it (leapfroglaw13x_SpliceRuns.l8 S) [a1, x4, x8, (Go.Value.int Go.IntKind.i64 0)] r7.2) fun r70 => if r70.1 = 0 then (S.bd (splice_Splice_Next.r (r70.2.1.getD 0 undef) r70.2.2) fun x71 => S.bd (leapfrogref13x_Splice_Next.r (r70.2.1.getD 1 undef) r70.2.2) fun x72 => S.bd (leapfrogref13x_SameStep.r x71 x72 r70.2.2) fun x73 => S.bd (S.gd x73 true (leapfroglaw13x_aliveC.r  r70.2.2)) fun x74 => S.bd (pik x73 x74 (Go.Value.bool Bool.false)) fun x75 => some (x75, r70.2.2)) else (some ((r70.2.1.getD 0 undef), r70.2.2))))
def leapfroglaw13x_SpliceRuns.v (a0 a1 : Value) (s : St) : Option (Value × St) := leapfroglaw13x_SpliceRuns.t std a0 a1 s
def leapfroglaw13x_SpliceRuns.w : List Value → St → Option (Value × St)
  | [a0, a1], s => leapfroglaw13x_SpliceRuns.v a0 a1 s
  | _, _ => none
def leapfroglaw13x_SpliceRuns.an : An := ⟨80, false, [2], [(8, ⟨[.v 1, .v 5, .v 7, .v 9], [(.exit 0, [.v 5, .v 7]), (.ret, [.v 4])]⟩)], [], []⟩
theorem leapfroglaw13x_SpliceRuns.ok (S : Sig) (a0 a1 : Value) (s : St) : evF S Try.prog leapfroglaw13x_SpliceRuns.ctx leapfroglaw13x_SpliceRuns.an Try.f4 [a0, a1] s = leapfroglaw13x_SpliceRuns.t S a0 a1 s := by kernel_rfl
theorem leapfroglaw13x_SpliceRuns.cok : CtxOk Try.prog leapfroglaw13x_SpliceRuns.ctx := .cons splice_New.sound splice_New.can <| .cons leapfrogref13x_New.sound leapfrogref13x_New.can <| .cons leapfroglaw13x_aliveC.sound leapfroglaw13x_aliveC.can <| .cons splice_Splice_Next.sound splice_Splice_Next.can <| .cons leapfrogref13x_Splice_Next.sound leapfrogref13x_Splice_Next.can <| .cons leapfrogref13x_SameStep.sound leapfrogref13x_SameStep.can <| .cons splice_Splice_Wake.sound splice_Splice_Wake.can <| .cons leapfrogref13x_Splice_Wake.sound leapfrogref13x_Splice_Wake.can <| .cons splice_Splice_Tell.sound splice_Splice_Tell.can <| .cons leapfrogref13x_Splice_Tell.sound leapfrogref13x_Splice_Tell.can <| .nil
theorem leapfroglaw13x_SpliceRuns.draws : fnDraws leapfroglaw13x_SpliceRuns.an Try.f4 = true := by kernel_rfl
theorem leapfroglaw13x_SpliceRuns.can : callOk Try.prog 4 = true := by kernel_rfl
theorem leapfroglaw13x_SpliceRuns.sound : FnOk Try.prog 4 (.st leapfroglaw13x_SpliceRuns.w) := FnOk.st_of (evF_ok leapfroglaw13x_SpliceRuns.cok mixed (f := 4) (fn := Try.f4) (by kernel_rfl) leapfroglaw13x_SpliceRuns.draws) fun args s r h => by
  unfold leapfroglaw13x_SpliceRuns.w at h; split at h
  · rw [leapfroglaw13x_SpliceRuns.ok std]; exact h
  · simp at h

/-! ### leapfrog/leapfroglaw13.held: function 26 -/
def leapfroglaw13x_held.ctx : Ctx := []
def leapfroglaw13x_held.l3 (S : Sig) (rec28 : List Value → St → Option Cut) (xs26 : List Value) (s27 : St) : Option Cut :=
  S.bd (lenL (xs26.getD 0 undef)) fun x29 => S.bd (bin .lss (xs26.getD 2 undef) x29) fun x30 => S.cnd x30 (S.bd (idx s27 1 (xs26.getD 0 undef) (xs26.getD 2 undef)) fun x31 => S.bd (ldc s27 x31) fun x32 => S.bd (lcl (cellsA (xs26.getD 3 undef)) 1) fun x33 => S.bd (eqb [1] false true x32 x33) fun x34 => S.bd (S.gd x34 false (lcl (cellsA (xs26.getD 4 undef)) 0)) fun x35 => S.bd (S.gd x34 false (eqb [1] false true x35 (Go.Value.int Go.IntKind.i64 3))) fun x36 => S.bd (S.gd x34 false (some x36)) fun x37 => S.bd (S.gd x37 true (lcl (cellsA (xs26.getD 3 undef)) 6)) fun x38 => S.bd (S.gd x37 true (eqb [1] false true x38 (Go.Value.int Go.IntKind.i64 4))) fun x39 => S.bd (S.gd x34 false (pik x37 x39 (Go.Value.bool Bool.false))) fun x40 => S.bd (S.gd x34 false (some x40)) fun x41 => S.bd (S.gd x41 true (lcl (cellsA (xs26.getD 3 undef)) 6)) fun x42 => S.bd (S.gd x41 true (eqb [1] false true x42 (Go.Value.int Go.IntKind.i64 8))) fun x43 => S.bd (S.gd x34 false (pik x41 x43 (Go.Value.bool Bool.false))) fun x44 => S.bd (pik x34 (Go.Value.bool Bool.true) x44) fun x45 => S.cnd x45 (S.bd (idx s27 1 (xs26.getD 0 undef) (xs26.getD 2 undef)) fun x46 => S.bd (ldc s27 x46) fun x47 => S.bd (S.bd (bls 1 (List.replicate 1 [(Go.Value.int Go.IntKind.i64 0)]) [(0, x47)]) fun rows => als s27 1 1 rows) fun r48 => S.bd (app r48.2 1 8 (xs26.getD 1 undef) r48.1) fun r49 => S.bd (bin .add (xs26.getD 2 undef) (Go.Value.int Go.IntKind.i64 1)) fun x50 => rec28 [(xs26.getD 0 undef), r49.1, x50, (Value.agg ⟨(cellsA (xs26.getD 3 undef))⟩), (Value.agg ⟨(cellsA (xs26.getD 4 undef))⟩)] r49.2) (S.bd (bin .add (xs26.getD 2 undef) (Go.Value.int Go.IntKind.i64 1)) fun x51 => rec28 [(xs26.getD 0 undef), (xs26.getD 1 undef), x51, (Value.agg ⟨(cellsA (xs26.getD 3 undef))⟩), (Value.agg ⟨(cellsA (xs26.getD 4 undef))⟩)] s27)) (some (0, [(xs26.getD 1 undef), (Value.agg ⟨(cellsA (xs26.getD 3 undef))⟩), (Value.agg ⟨(cellsA (xs26.getD 4 undef))⟩)], s27))

def leapfroglaw13x_held.t (S : Sig) (a0 a1 a2 : Value) (s : St) : Option (Value × St) :=
  S.bd (bx a1) fun c1 => S.bd (bx a2) fun c2 => S.bd (S.it (leapfroglaw13x_held.l3 S) [a0, (Go.Value.slice Option.none 0 0), (Go.Value.int Go.IntKind.i64 0), (Value.agg ⟨c1⟩), (Value.agg ⟨c2⟩)] s) fun r52 => S.bd (lcl (cellsA (r52.2.1.getD 2 undef)) 0) fun x53 => S.bd (eqb [1] false false x53 (Go.Value.int Go.IntKind.i64 1)) fun x54 => S.bd (S.gd x54 true (lcl (cellsA (r52.2.1.getD 1 undef)) 6)) fun x55 => S.bd (S.gd x54 true (eqb [1] false false x55 (Go.Value.int Go.IntKind.i64 3))) fun x56 => S.bd (S.gd x54 true (some x56)) fun x57 => S.bd (S.gd x57 false (lcl (cellsA (r52.2.1.getD 1 undef)) 6)) fun x58 => S.bd (S.gd x57 false (eqb [1] false false x58 (Go.Value.int Go.IntKind.i64 7))) fun x59 => S.bd (S.gd x54 true (pik x57 (Go.Value.bool Bool.true) x59)) fun x60 => S.bd (pik x54 x60 (Go.Value.bool Bool.false)) fun x61 => S.cnd x61 (S.bd (lcl (cellsA (r52.2.1.getD 1 undef)) 1) fun x62 => S.bd (S.bd (bls 1 (List.replicate 1 [(Go.Value.int Go.IntKind.i64 0)]) [(0, x62)]) fun rows => als r52.2.2 1 1 rows) fun r63 => S.bd (app r63.2 1 8 (r52.2.1.getD 0 undef) r63.1) fun r64 => some (r64.1, r64.2)) (some ((r52.2.1.getD 0 undef), r52.2.2))
def leapfroglaw13x_held.v (a0 a1 a2 : Value) (s : St) : Option (Value × St) := leapfroglaw13x_held.t std a0 a1 a2 s
def leapfroglaw13x_held.w : List Value → St → Option (Value × St)
  | [a0, a1, a2], s => leapfroglaw13x_held.v a0 a1 a2 s
  | _, _ => none
def leapfroglaw13x_held.an : An := ⟨69, false, [4, 5], [(3, ⟨[.v 0, .p 4 4 0, .p 5 5 0, .v 7, .v 8, .l 4, .l 5], [(.exit 0, [.p 4 4 0, .p 5 5 0, .v 7, .l 4, .l 5])]⟩)], [], [(5, [(0, 0, [], []), (1, 0, [], []), (2, 2, [], []), (3, 2, [], []), (4, 0, [], []), (5, 0, [], []), (6, 33, [], []), (7, 0, [], []), (8, 0, [], []), (9, 0, [], []), (10, 41, [], []), (11, 0, [], []), (12, 0, [], []), (13, 0, [], []), (14, 0, [], []), (15, 33, [], []), (16, 0, [], []), (17, 0, [], []), (18, 0, [], []), (19, 0, [], []), (20, 0, [], []), (21, 33, [], []), (22, 0, [], []), (23, 0, [], []), (24, 0, [], [])])]⟩
theorem leapfroglaw13x_held.ok (S : Sig) (a0 a1 a2 : Value) (s : St) : evF S Try.prog leapfroglaw13x_held.ctx leapfroglaw13x_held.an Try.f26 [a0, a1, a2] s = leapfroglaw13x_held.t S a0 a1 a2 s := by kernel_rfl
theorem leapfroglaw13x_held.cok : CtxOk Try.prog leapfroglaw13x_held.ctx := .nil
theorem leapfroglaw13x_held.draws : fnDraws leapfroglaw13x_held.an Try.f26 = true := by kernel_rfl
theorem leapfroglaw13x_held.can : callOk Try.prog 26 = true := by kernel_rfl
theorem leapfroglaw13x_held.sound : FnOk Try.prog 26 (.st leapfroglaw13x_held.w) := FnOk.st_of (evF_ok leapfroglaw13x_held.cok mixed (f := 26) (fn := Try.f26) (by kernel_rfl) leapfroglaw13x_held.draws) fun args s r h => by
  unfold leapfroglaw13x_held.w at h; split at h
  · rw [leapfroglaw13x_held.ok std]; exact h
  · simp at h

/-! ### leapfrog/leapfroglaw13.SpliceFrees: function 5 -/
def leapfroglaw13x_SpliceFrees.ctx : Ctx := [(14, .st splice_New.w), (20, .st leapfrogref13x_New.w), (10, .rd leapfroglaw13x_aliveC.w), (15, .rd splice_Splice_Next.w), (23, .st splice_Splice_Wake.w), (19, .st splice_Splice_Tell.w), (26, .st leapfroglaw13x_held.w)]
def leapfroglaw13x_SpliceFrees.l7.p1 (S : Sig) (xs53 : List Value) (s54 : St) (rec55 : List Value → St → Option Cut) : Option Cut :=
  S.bd (splice_Splice_Next.r (xs53.getD 1 undef) s54) fun x61 => S.bd (bx (Go.Value.agg #[(Go.Value.int Go.IntKind.i64 0), (Go.Value.int Go.IntKind.i64 0), (Go.Value.int Go.IntKind.i64 0), (Go.Value.int Go.IntKind.u64 0), (Go.Value.int Go.IntKind.i64 0), (Go.Value.int Go.IntKind.u64 0), (Go.Value.int Go.IntKind.i64 0), (Go.Value.int Go.IntKind.i64 0), (Go.Value.int Go.IntKind.u64 0), (Go.Value.int Go.IntKind.i64 0), (Go.Value.int Go.IntKind.i64 0), (Go.Value.int Go.IntKind.u64 0), (Go.Value.int Go.IntKind.i64 0), (Go.Value.int Go.IntKind.u64 0), (Go.Value.int Go.IntKind.i64 0), (Go.Value.int Go.IntKind.i64 0), (Go.Value.int Go.IntKind.u64 0), (Go.Value.int Go.IntKind.i64 0), (Go.Value.int Go.IntKind.u64 0), (Go.Value.int Go.IntKind.i64 0), (Go.Value.int Go.IntKind.i64 0), (Go.Value.int Go.IntKind.i64 0), (Go.Value.int Go.IntKind.u64 0), (Go.Value.slice Option.none 0 0), (Go.Value.slice Option.none 0 0), (Go.Value.int Go.IntKind.i64 0), (Go.Value.int Go.IntKind.i64 0), (Go.Value.int Go.IntKind.u64 0), (Go.Value.int Go.IntKind.i64 0), (Go.Value.int Go.IntKind.u64 0), (Go.Value.int Go.IntKind.i64 0), (Go.Value.int Go.IntKind.i64 0), (Go.Value.int Go.IntKind.u64 0), (Go.Value.int Go.IntKind.i64 0), (Go.Value.int Go.IntKind.u64 0), (Go.Value.bool Bool.false)])) fun c62 => S.bd (stl c62 0 36 x61) fun c63 => S.bd (lenL (xs53.getD 2 undef)) fun x64 => S.bd (bin .gtr x64 (Go.Value.int Go.IntKind.i64 0)) fun x65 => S.bd (S.gd x65 true (lcl c63 0)) fun x66 => S.bd (S.gd x65 true (eqb [1] false true x66 (Go.Value.int Go.IntKind.i64 1))) fun x67 => S.bd (S.gd x65 true (some x67)) fun x68 => S.bd (S.gd x68 false (lcl c63 6)) fun x69 => S.bd (S.gd x68 false (eqb [1] false false x69 (Go.Value.int Go.IntKind.i64 3))) fun x70 => S.bd (S.gd x65 true (pik x68 (Go.Value.bool Bool.true) x70)) fun x71 => S.bd (pik x65 x71 (Go.Value.bool Bool.false)) fun x72 => S.cnd x72 (some (1, [(Go.Value.bool Bool.false)], s54)) (S.bd (idx s54 14 (xs53.getD 0 undef) (xs53.getD 3 undef)) fun x73 => S.bd (fld 0 x73) fun x74 => S.bd (ldc s54 x74) fun x75 => S.cnd x75 (S.bd (splice_Splice_Wake.v (xs53.getD 1 undef) s54) fun r76 => S.bd (bin .add (xs53.getD 3 undef) (Go.Value.int Go.IntKind.i64 1)) fun x77 => rec55 [(xs53.getD 0 undef), (xs53.getD 1 undef), (xs53.getD 2 undef), x77] r76.2) (S.bd (idx s54 14 (xs53.getD 0 undef) (xs53.getD 3 undef)) fun x78 => S.bd (fld 1 x78) fun x79 => S.bd (lda s54 13 x79) fun x80 => S.bd (splice_Splice_Tell.v (xs53.getD 1 undef) x80 s54) fun r81 => S.bd (lcl c63 0) fun x82 => S.bd (eqb [1] false false x82 (Go.Value.int Go.IntKind.i64 1)) fun x83 => S.cnd x83 (S.bd (lal c63 0 36) fun x84 => S.bd (idx r81.2 14 (xs53.getD 0 undef) (xs53.getD 3 undef)) fun x85 => S.bd (fld 1 x85) fun x86 => S.bd (lda r81.2 13 x86) fun x87 => S.bd (leapfroglaw13x_held.v (xs53.getD 2 undef) x84 x87 r81.2) fun r88 => S.bd (idx r88.2 14 (xs53.getD 0 undef) (xs53.getD 3 undef)) fun x89 => S.cnd (Value.bool (sameV x89 x85)) (S.bd (bin .add (xs53.getD 3 undef) (Go.Value.int Go.IntKind.i64 1)) fun x90 => rec55 [(xs53.getD 0 undef), (xs53.getD 1 undef), r88.1, x90] r88.2) (none)) (S.bd (bin .add (xs53.getD 3 undef) (Go.Value.int Go.IntKind.i64 1)) fun x91 => rec55 [(xs53.getD 0 undef), (xs53.getD 1 undef), (xs53.getD 2 undef), x91] r81.2)))

def leapfroglaw13x_SpliceFrees.l7 (S : Sig) (rec55 : List Value → St → Option Cut) (xs53 : List Value) (s54 : St) : Option Cut :=
  S.bd (lenL (xs53.getD 0 undef)) fun x56 => S.bd (bin .lss (xs53.getD 3 undef) x56) fun x57 => S.bd (S.gd x57 true (some (xs53.getD 3 undef))) fun x58 => S.bd (S.gd x57 true (bin .lss x58 (Go.Value.int Go.IntKind.i64 80))) fun x59 => S.bd (pik x57 x59 (Go.Value.bool Bool.false)) fun x60 => S.cnd x60 (leapfroglaw13x_SpliceFrees.l7.p1 S xs53 s54 rec55) (some (0, [], s54))

def leapfroglaw13x_SpliceFrees.t (S : Sig) (a0 a1 : Value) (s : St) : Option (Value × St) :=
  S.bd (bx a0) fun c1 => S.bd (lal c1 0 14) fun x2 => S.bd (splice_New.v x2 s) fun r3 => S.bd (xtr 0 r3.1) fun x4 => S.bd (xtr 1 r3.1) fun x5 => S.bd (eqb [1] false true x5 (Go.Value.int Go.IntKind.i64 0)) fun x6 => S.bd (S.gd x6 false (some x4)) fun x7 => S.bd (S.gd x6 false (eqb [3] false false x7 (Go.Value.pointer Option.none))) fun x8 => S.bd (pik x6 (Go.Value.bool Bool.true) x8) fun x9 => S.cnd x9 (S.bd (lal c1 0 14) fun x10 => S.bd (leapfrogref13x_New.v x10 r3.2) fun r11 => S.bd (xtr 0 r11.1) fun x12 => S.bd (xtr 1 r11.1) fun x13 => S.bd (eqb [1] false false x5 x13) fun x14 => S.bd (S.gd x14 true (leapfroglaw13x_aliveC.r  r11.2)) fun x15 => S.bd (pik x14 x15 (Go.Value.bool Bool.false)) fun x16 => some (x16, r11.2)) (S.bd (S.it (leapfroglaw13x_SpliceFrees.l7 S) [a1, x4, (Go.Value.slice Option.none 0 0), (Go.Value.int Go.IntKind.i64 0)] r3.2) fun r92 => if r92.1 = 0 then (S.bd (leapfroglaw13x_aliveC.r  r92.2.2) fun x93 => some (x93, r92.2.2)) else (some ((r92.2.1.getD 0 undef), r92.2.2)))
def leapfroglaw13x_SpliceFrees.v (a0 a1 : Value) (s : St) : Option (Value × St) := leapfroglaw13x_SpliceFrees.t std a0 a1 s
def leapfroglaw13x_SpliceFrees.w : List Value → St → Option (Value × St)
  | [a0, a1], s => leapfroglaw13x_SpliceFrees.v a0 a1 s
  | _, _ => none
def leapfroglaw13x_SpliceFrees.an : An := ⟨86, false, [2, 11], [(7, ⟨[.v 1, .v 5, .v 9, .v 10], [(.exit 0, []), (.ret, [.v 4])]⟩)], [], [(16, [(0, 0, [], []), (1, 89, [], []), (2, 0, [], []), (3, 0, [], []), (4, 2, [], []), (5, 0, [], []), (6, 2, [], []), (7, 4, [4], []), (8, 0, [], [])])]⟩
theorem leapfroglaw13x_SpliceFrees.ok (S : Sig) (a0 a1 : Value) (s : St) : evF S Try.prog leapfroglaw13x_SpliceFrees.ctx leapfroglaw13x_SpliceFrees.an Try.f5 [a0, a1] s = leapfroglaw13x_SpliceFrees.t S a0 a1 s := by kernel_rfl
theorem leapfroglaw13x_SpliceFrees.cok : CtxOk Try.prog leapfroglaw13x_SpliceFrees.ctx := .cons splice_New.sound splice_New.can <| .cons leapfrogref13x_New.sound leapfrogref13x_New.can <| .cons leapfroglaw13x_aliveC.sound leapfroglaw13x_aliveC.can <| .cons splice_Splice_Next.sound splice_Splice_Next.can <| .cons splice_Splice_Wake.sound splice_Splice_Wake.can <| .cons splice_Splice_Tell.sound splice_Splice_Tell.can <| .cons leapfroglaw13x_held.sound leapfroglaw13x_held.can <| .nil
theorem leapfroglaw13x_SpliceFrees.draws : fnDraws leapfroglaw13x_SpliceFrees.an Try.f5 = true := by kernel_rfl
theorem leapfroglaw13x_SpliceFrees.can : callOk Try.prog 5 = true := by kernel_rfl
theorem leapfroglaw13x_SpliceFrees.sound : FnOk Try.prog 5 (.st leapfroglaw13x_SpliceFrees.w) := FnOk.st_of (evF_ok leapfroglaw13x_SpliceFrees.cok mixed (f := 5) (fn := Try.f5) (by kernel_rfl) leapfroglaw13x_SpliceFrees.draws) fun args s r h => by
  unfold leapfroglaw13x_SpliceFrees.w at h; split at h
  · rw [leapfroglaw13x_SpliceFrees.ok std]; exact h
  · simp at h

/-! ### leapfrog/leapfroglaw13.SpliceRises: function 6 -/
def leapfroglaw13x_SpliceRises.ctx : Ctx := [(14, .st splice_New.w), (20, .st leapfrogref13x_New.w), (10, .rd leapfroglaw13x_aliveC.w), (15, .rd splice_Splice_Next.w), (12, .rd leapfrogref09x_Less.w), (23, .st splice_Splice_Wake.w), (19, .st splice_Splice_Tell.w)]
def leapfroglaw13x_SpliceRises.l8.p1 (S : Sig) (xs80 : List Value) (s81 : St) (x85 : Value) (x86 : Value) (rec82 : List Value → St → Option Cut) : Option Cut :=
  S.bd (splice_Splice_Next.r (xs80.getD 1 undef) s81) fun x88 => S.bd (bx (Go.Value.agg #[(Go.Value.int Go.IntKind.i64 0), (Go.Value.int Go.IntKind.i64 0), (Go.Value.int Go.IntKind.i64 0), (Go.Value.int Go.IntKind.u64 0), (Go.Value.int Go.IntKind.i64 0), (Go.Value.int Go.IntKind.u64 0), (Go.Value.int Go.IntKind.i64 0), (Go.Value.int Go.IntKind.i64 0), (Go.Value.int Go.IntKind.u64 0), (Go.Value.int Go.IntKind.i64 0), (Go.Value.int Go.IntKind.i64 0), (Go.Value.int Go.IntKind.u64 0), (Go.Value.int Go.IntKind.i64 0), (Go.Value.int Go.IntKind.u64 0), (Go.Value.int Go.IntKind.i64 0), (Go.Value.int Go.IntKind.i64 0), (Go.Value.int Go.IntKind.u64 0), (Go.Value.int Go.IntKind.i64 0), (Go.Value.int Go.IntKind.u64 0), (Go.Value.int Go.IntKind.i64 0), (Go.Value.int Go.IntKind.i64 0), (Go.Value.int Go.IntKind.i64 0), (Go.Value.int Go.IntKind.u64 0), (Go.Value.slice Option.none 0 0), (Go.Value.slice Option.none 0 0), (Go.Value.int Go.IntKind.i64 0), (Go.Value.int Go.IntKind.i64 0), (Go.Value.int Go.IntKind.u64 0), (Go.Value.int Go.IntKind.i64 0), (Go.Value.int Go.IntKind.u64 0), (Go.Value.int Go.IntKind.i64 0), (Go.Value.int Go.IntKind.i64 0), (Go.Value.int Go.IntKind.u64 0), (Go.Value.int Go.IntKind.i64 0), (Go.Value.int Go.IntKind.u64 0), (Go.Value.bool Bool.false)])) fun c89 => S.bd (stl c89 0 36 x88) fun c90 => S.bd (show Option Cut from S.bd (lcl c90 0) fun x91 => S.bd (eqb [1] false false x91 (Go.Value.int Go.IntKind.i64 2)) fun x92 => S.cnd x92 (some (0, [(xs80.getD 0 undef), (xs80.getD 1 undef), (Go.Value.bool Bool.false), (xs80.getD 3 undef), x85, x86, (Value.agg ⟨(cellsA (xs80.getD 4 undef))⟩), (Value.agg ⟨c90⟩)], s81)) (some (0, [(xs80.getD 0 undef), (xs80.getD 1 undef), (xs80.getD 2 undef), (xs80.getD 3 undef), x85, x86, (Value.agg ⟨(cellsA (xs80.getD 4 undef))⟩), (Value.agg ⟨c90⟩)], s81))) fun r93 => S.bd (show Option Cut from S.bd (lcl (cellsA (r93.2.1.getD 7 undef)) 0) fun x94 => S.bd (eqb [1] false false x94 (Go.Value.int Go.IntKind.i64 1)) fun x95 => S.bd (S.gd x95 true (lcl (cellsA (r93.2.1.getD 7 undef)) 6)) fun x96 => S.bd (S.gd x95 true (eqb [1] false false x96 (Go.Value.int Go.IntKind.i64 3))) fun x97 => S.bd (pik x95 x97 (Go.Value.bool Bool.false)) fun x98 => S.bd (S.gd x98 true (some (r93.2.1.getD 0 undef))) fun x99 => S.bd (S.gd x98 true (some (r93.2.1.getD 3 undef))) fun x100 => S.bd (S.gd x98 true (idx r93.2.2 14 x99 x100)) fun x101 => S.bd (S.gd x98 true (fld 0 x101)) fun x102 => S.bd (S.gd x98 true (ldc r93.2.2 x102)) fun x103 => S.bd (S.gd x98 true (un .not x103)) fun x104 => S.bd (pik x98 x104 (Go.Value.bool Bool.false)) fun x105 => S.cnd x105 (S.bd (S.gd (r93.2.1.getD 2 undef) true (lal (cellsA (r93.2.1.getD 6 undef)) 0 2)) fun x106 => S.bd (S.gd (r93.2.1.getD 2 undef) true (lal (cellsA (r93.2.1.getD 7 undef)) 2 2)) fun x107 => S.bd (S.gd (r93.2.1.getD 2 undef) true (leapfrogref09x_Less.r x106 x107 r93.2.2)) fun x108 => S.bd (S.gd (r93.2.1.getD 2 undef) true (un .not x108)) fun x109 => S.bd (pik (r93.2.1.getD 2 undef) x109 (Go.Value.bool Bool.false)) fun x110 => S.cnd x110 (some (1, [(Go.Value.bool Bool.false)], r93.2.2)) (S.bd (lal (cellsA (r93.2.1.getD 7 undef)) 2 2) fun x111 => S.bd (stl (cellsA (r93.2.1.getD 6 undef)) 0 2 x111) fun c112 => some (0, [(r93.2.1.getD 0 undef), (r93.2.1.getD 1 undef), (Go.Value.bool Bool.true), (r93.2.1.getD 3 undef), (r93.2.1.getD 4 undef), (r93.2.1.getD 5 undef), x96, x97, x99, x100, x101, x102, x103, x104, (Value.agg ⟨c112⟩)], r93.2.2))) (some (0, [(r93.2.1.getD 0 undef), (r93.2.1.getD 1 undef), (r93.2.1.getD 2 undef), (r93.2.1.getD 3 undef), (r93.2.1.getD 4 undef), (r93.2.1.getD 5 undef), x96, x97, x99, x100, x101, x102, x103, x104, (Value.agg ⟨(cellsA (r93.2.1.getD 6 undef))⟩)], r93.2.2))) fun r113 => if r113.1 = 0 then (S.bd (idx r113.2.2 14 (r113.2.1.getD 0 undef) (r113.2.1.getD 3 undef)) fun x114 => S.bd (fld 0 x114) fun x115 => S.bd (ldc r113.2.2 x115) fun x116 => S.cnd x116 (S.bd (splice_Splice_Wake.v (r113.2.1.getD 1 undef) r113.2.2) fun r117 => S.bd (bin .add (r113.2.1.getD 3 undef) (Go.Value.int Go.IntKind.i64 1)) fun x118 => rec82 [(r113.2.1.getD 0 undef), (r113.2.1.getD 1 undef), (r113.2.1.getD 2 undef), x118, (Value.agg ⟨(cellsA (r113.2.1.getD 14 undef))⟩)] r117.2) (S.bd (idx r113.2.2 14 (r113.2.1.getD 0 undef) (r113.2.1.getD 3 undef)) fun x119 => S.bd (fld 1 x119) fun x120 => S.bd (lda r113.2.2 13 x120) fun x121 => S.bd (splice_Splice_Tell.v (r113.2.1.getD 1 undef) x121 r113.2.2) fun r122 => S.bd (bin .add (r113.2.1.getD 3 undef) (Go.Value.int Go.IntKind.i64 1)) fun x123 => rec82 [(r113.2.1.getD 0 undef), (r113.2.1.getD 1 undef), (r113.2.1.getD 2 undef), x123, (Value.agg ⟨(cellsA (r113.2.1.getD 14 undef))⟩)] r122.2)) else (some (1, [(r113.2.1.getD 0 undef)], r113.2.2))

def leapfroglaw13x_SpliceRises.l8 (S : Sig) (rec82 : List Value → St → Option Cut) (xs80 : List Value) (s81 : St) : Option Cut :=
  S.bd (lenL (xs80.getD 0 undef)) fun x83 => S.bd (bin .lss (xs80.getD 3 undef) x83) fun x84 => S.bd (S.gd x84 true (some (xs80.getD 3 undef))) fun x85 => S.bd (S.gd x84 true (bin .lss x85 (Go.Value.int Go.IntKind.i64 80))) fun x86 => S.bd (pik x84 x86 (Go.Value.bool Bool.false)) fun x87 => S.cnd x87 (leapfroglaw13x_SpliceRises.l8.p1 S xs80 s81 x85 x86 rec82) (some (0, [], s81))

def leapfroglaw13x_SpliceRises.t (S : Sig) (a0 a1 : Value) (s : St) : Option (Value × St) :=
  S.bd (bx a0) fun c1 => S.bd (lal c1 0 14) fun x2 => S.bd (splice_New.v x2 s) fun r3 => S.bd (xtr 0 r3.1) fun x4 => S.bd (xtr 1 r3.1) fun x5 => S.bd (eqb [1] false true x5 (Go.Value.int Go.IntKind.i64 0)) fun x6 => S.bd (S.gd x6 false (some x4)) fun x7 => S.bd (S.gd x6 false (eqb [3] false false x7 (Go.Value.pointer Option.none))) fun x8 => S.bd (pik x6 (Go.Value.bool Bool.true) x8) fun x9 => S.cnd x9 (S.bd (lal c1 0 14) fun x10 => S.bd (leapfrogref13x_New.v x10 r3.2) fun r11 => S.bd (xtr 0 r11.1) fun x12 => S.bd (xtr 1 r11.1) fun x13 => S.bd (eqb [1] false false x5 x13) fun x14 => S.bd (S.gd x14 true (leapfroglaw13x_aliveC.r  r11.2)) fun x15 => S.bd (pik x14 x15 (Go.Value.bool Bool.false)) fun x16 => some (x16, r11.2)) (S.bd (bx (Go.Value.agg #[(Go.Value.int Go.IntKind.i64 0), (Go.Value.int Go.IntKind.u64 0)])) fun c17 => S.bd (S.it (leapfroglaw13x_SpliceRises.l8 S) [a1, x4, (Go.Value.bool Bool.false), (Go.Value.int Go.IntKind.i64 0), (Value.agg ⟨c17⟩)] r3.2) fun r124 => if r124.1 = 0 then (S.bd (leapfroglaw13x_aliveC.r  r124.2.2) fun x125 => some (x125, r124.2.2)) else (some ((r124.2.1.getD 0 undef), r124.2.2)))
def leapfroglaw13x_SpliceRises.v (a0 a1 : Value) (s : St) : Option (Value × St) := leapfroglaw13x_SpliceRises.t std a0 a1 s
def leapfroglaw13x_SpliceRises.w : List Value → St → Option (Value × St)
  | [a0, a1], s => leapfroglaw13x_SpliceRises.v a0 a1 s
  | _, _ => none
def leapfroglaw13x_SpliceRises.an : An := ⟨94, false, [2, 9, 12], [(8, ⟨[.v 1, .v 5, .p 9 9 0, .v 10, .v 11, .l 9], [(.exit 0, []), (.ret, [.v 4])]⟩)], [(13, ⟨[], [(.normal, [.v 1, .v 5, .p 9 9 0, .v 10, .v 11, .p 12 12 0, .v 40, .v 41, .l 9, .l 12])]⟩), (17, ⟨[], [(.normal, [.v 1, .v 5, .p 9 9 0, .v 10, .v 11, .v 40, .v 41, .v 56, .v 57, .v 60, .v 61, .v 62, .v 63, .v 64, .v 65, .l 9]), (.ret, [.v 4])]⟩)], []⟩
theorem leapfroglaw13x_SpliceRises.ok (S : Sig) (a0 a1 : Value) (s : St) : evF S Try.prog leapfroglaw13x_SpliceRises.ctx leapfroglaw13x_SpliceRises.an Try.f6 [a0, a1] s = leapfroglaw13x_SpliceRises.t S a0 a1 s := by kernel_rfl
theorem leapfroglaw13x_SpliceRises.cok : CtxOk Try.prog leapfroglaw13x_SpliceRises.ctx := .cons splice_New.sound splice_New.can <| .cons leapfrogref13x_New.sound leapfrogref13x_New.can <| .cons leapfroglaw13x_aliveC.sound leapfroglaw13x_aliveC.can <| .cons splice_Splice_Next.sound splice_Splice_Next.can <| .cons leapfrogref09x_Less.sound leapfrogref09x_Less.can <| .cons splice_Splice_Wake.sound splice_Splice_Wake.can <| .cons splice_Splice_Tell.sound splice_Splice_Tell.can <| .nil
theorem leapfroglaw13x_SpliceRises.draws : fnDraws leapfroglaw13x_SpliceRises.an Try.f6 = true := by kernel_rfl
theorem leapfroglaw13x_SpliceRises.can : callOk Try.prog 6 = true := by kernel_rfl
theorem leapfroglaw13x_SpliceRises.sound : FnOk Try.prog 6 (.st leapfroglaw13x_SpliceRises.w) := FnOk.st_of (evF_ok leapfroglaw13x_SpliceRises.cok mixed (f := 6) (fn := Try.f6) (by kernel_rfl) leapfroglaw13x_SpliceRises.draws) fun args s r h => by
  unfold leapfroglaw13x_SpliceRises.w at h; split at h
  · rw [leapfroglaw13x_SpliceRises.ok std]; exact h
  · simp at h


end
end Go.Proofs.Yteiagjbjokldgaa
