/-
  What the functions answer that InsertRuns, InsertFrees, InsertEnds reaches (part 0): for each function of the program a plain function over abstract values, and that the model answers as it does.
-/
import Derived.Test.YteafgjpbfhjbjaaGreatSimZ
import Derived.Test.YteafgjpbfhjbjaaGreatProg
import Derived.KernelRfl
set_option linter.unusedVariables false
set_option maxRecDepth 100000
namespace Go.Proofs.YteafgjpbfhjbjaaGreat
open Go.Sim
noncomputable section
abbrev z4 (a b : Nat) : Nat × Nat × List Nat × List Nat := (a, b, [], [])
theorem mixed : Tryz.prog.follows .mixedOrders = true := by kernel_rfl
def pS_end.ctx : Ctx := []
def pS_end.t (S : Sig) (a0 a1 : Value) (s : St) : Option (Value × St) :=
  S.bd (bx a1) fun c1 => S.bd (lal c1 0 15) fun x2 => S.bd (nck a0) fun x3 => S.bd (fld 14 x3) fun x4 => S.bd (stv s 1 x4 (.int .i64 10)) fun s5 => S.bd (nck a0) fun x6 => S.bd (fld 29 x6) fun x7 => S.bd (stv s5 15 x7 x2) fun s8 => some ((Value.tuple ⟨[]⟩), s8)
def pS_end.v (a0 a1 : Value) (s : St) : Option (Value × St) := pS_end.t std a0 a1 s
def pS_end.w : List Value → St → Option (Value × St)
  | [a0, a1], s => pS_end.v a0 a1 s
  | _, _ => none
def pS_end.an : An := ⟨11, false, [3], [], [], [(1, [(z4 0 0), (z4 1 0), (z4 2 25), (z4 3 0), (z4 4 0), (z4 5 4), (z4 6 0), (z4 7 0), (z4 8 4)])]⟩
theorem pS_end.ok (S : Sig) (a0 a1 : Value) (s : St) : evF S Tryz.prog pS_end.ctx pS_end.an Tryz.f173 [a0, a1] s = pS_end.t S a0 a1 s := by kernel_rfl
theorem pS_end.cok : CtxOk Tryz.prog pS_end.ctx := .nil
theorem pS_end.draws : fnDraws pS_end.an Tryz.f173 = true := by kernel_rfl
theorem pS_end.can : callOk Tryz.prog 173 = true := by kernel_rfl
theorem pS_end.sound : FnOk Tryz.prog 173 (.st pS_end.w) := FnOk.st_of (evF_ok pS_end.cok mixed (f := 173) (fn := Tryz.f173) (by kernel_rfl) pS_end.draws) fun args s r h => by
  unfold pS_end.w at h; split at h
  · rw [pS_end.ok std]; exact h
  · simp at h
def pS_Tell_fn1.ctx : Ctx := [(173, .st pS_end.w)]
def pS_Tell_fn1.t (S : Sig) (a0 : Value) (s : St) : Option (Value × St) :=
  S.bd (ldc s a0) fun x1 => S.bd (ldc s a0) fun x2 => S.bd (nck x2) fun x3 => S.bd (fld 15 x3) fun x4 => S.bd (lda s 5 x4) fun x5 => S.bd (ldc s a0) fun x6 => S.bd (nck x6) fun x7 => S.bd (fld 21 x7) fun x8 => S.bd (lda s 5 x8) fun x9 => S.bd (bld [(.int .i64 0), (.int .u64 0), (.slice none 0 0), (.slice none 0 0), (.int .i64 0), (.int .i64 0), (.int .u64 0), (.int .i64 0), (.int .u64 0), (.int .i64 0), (.int .i64 0), (.int .u64 0), (.int .i64 0), (.int .u64 0), (.bool Bool.false)] [(0, 1, (.int .i64 100)), (4, 5, x5), (9, 5, x9)]) fun x10 => S.bd (pS_end.v x1 x10 s) fun r11 => S.bd (ldc r11.2 a0) fun x12 => S.cnd (Value.bool (sameV x12 x2)) (S.bd (lda r11.2 5 x4) fun x13 => S.cnd (Value.bool (sameV x13 x5)) (S.bd (ldc r11.2 a0) fun x14 => S.cnd (Value.bool (sameV x14 x6)) (S.bd (lda r11.2 5 x8) fun x15 => S.cnd (Value.bool (sameV x15 x9)) (some ((Value.tuple ⟨[]⟩), r11.2)) (none)) (none)) (none)) (none)
def pS_Tell_fn1.v (a0 : Value) (s : St) : Option (Value × St) := pS_Tell_fn1.t std a0 s
def pS_Tell_fn1.w : List Value → St → Option (Value × St)
  | [a0], s => pS_Tell_fn1.v a0 s
  | _, _ => none
def pS_Tell_fn1.an : An := ⟨12, false, [], [], [], [(0, [(z4 0 2), (z4 1 2), (z4 2 0), (z4 3 0), (z4 4 2), (z4 5 2), (z4 6 0), (z4 7 0), (z4 8 2), (z4 9 0), (10, 4, [1, 4, 5, 8], [])])]⟩
theorem pS_Tell_fn1.ok (S : Sig) (a0 : Value) (s : St) : evF S Tryz.prog pS_Tell_fn1.ctx pS_Tell_fn1.an Tryz.f172 [a0] s = pS_Tell_fn1.t S a0 s := by kernel_rfl
theorem pS_Tell_fn1.cok : CtxOk Tryz.prog pS_Tell_fn1.ctx := .cons pS_end.sound pS_end.can <| .nil
theorem pS_Tell_fn1.draws : fnDraws pS_Tell_fn1.an Tryz.f172 = true := by kernel_rfl
theorem pS_Tell_fn1.can : callOk Tryz.prog 172 = true := by kernel_rfl
theorem pS_Tell_fn1.sound : FnOk Tryz.prog 172 (.st pS_Tell_fn1.w) := FnOk.st_of (evF_ok pS_Tell_fn1.cok mixed (f := 172) (fn := Tryz.f172) (by kernel_rfl) pS_Tell_fn1.draws) fun args s r h => by
  unfold pS_Tell_fn1.w at h; split at h
  · rw [pS_Tell_fn1.ok std]; exact h
  · simp at h
def pS_wait_fn1.ctx : Ctx := []
def pS_wait_fn1.t (S : Sig) (a0 : Value) (s : St) : Option (Value × St) :=
  S.bd (ldc s a0) fun x1 => S.bd (nck x1) fun x2 => S.bd (fld 14 x2) fun x3 => S.bd (stv s 1 x3 (.int .i64 9)) fun s4 => some ((Value.tuple ⟨[]⟩), s4)
def pS_wait_fn1.v (a0 : Value) (s : St) : Option (Value × St) := pS_wait_fn1.t std a0 s
def pS_wait_fn1.w : List Value → St → Option (Value × St)
  | [a0], s => pS_wait_fn1.v a0 s
  | _, _ => none
def pS_wait_fn1.an : An := ⟨4, false, [], [], [], []⟩
theorem pS_wait_fn1.ok (S : Sig) (a0 : Value) (s : St) : evF S Tryz.prog pS_wait_fn1.ctx pS_wait_fn1.an Tryz.f180 [a0] s = pS_wait_fn1.t S a0 s := by kernel_rfl
theorem pS_wait_fn1.cok : CtxOk Tryz.prog pS_wait_fn1.ctx := .nil
theorem pS_wait_fn1.draws : fnDraws pS_wait_fn1.an Tryz.f180 = true := by kernel_rfl
theorem pS_wait_fn1.can : callOk Tryz.prog 180 = true := by kernel_rfl
theorem pS_wait_fn1.sound : FnOk Tryz.prog 180 (.st pS_wait_fn1.w) := FnOk.st_of (evF_ok pS_wait_fn1.cok mixed (f := 180) (fn := Tryz.f180) (by kernel_rfl) pS_wait_fn1.draws) fun args s r h => by
  unfold pS_wait_fn1.w at h; split at h
  · rw [pS_wait_fn1.ok std]; exact h
  · simp at h
def pS_done_fn1.ctx : Ctx := [(173, .st pS_end.w)]
def pS_done_fn1.t (S : Sig) (a0 a1 : Value) (s : St) : Option (Value × St) :=
  S.bd (ldc s a0) fun x1 => S.bd (lda s 15 a1) fun x2 => S.bd (pS_end.v x1 x2 s) fun r3 => some ((Value.tuple ⟨[]⟩), r3.2)
def pS_done_fn1.v (a0 a1 : Value) (s : St) : Option (Value × St) := pS_done_fn1.t std a0 a1 s
def pS_done_fn1.w : List Value → St → Option (Value × St)
  | [a0, a1], s => pS_done_fn1.v a0 a1 s
  | _, _ => none
def pS_done_fn1.an : An := ⟨5, false, [], [], [], []⟩
theorem pS_done_fn1.ok (S : Sig) (a0 a1 : Value) (s : St) : evF S Tryz.prog pS_done_fn1.ctx pS_done_fn1.an Tryz.f181 [a0, a1] s = pS_done_fn1.t S a0 a1 s := by kernel_rfl
theorem pS_done_fn1.cok : CtxOk Tryz.prog pS_done_fn1.ctx := .cons pS_end.sound pS_end.can <| .nil
theorem pS_done_fn1.draws : fnDraws pS_done_fn1.an Tryz.f181 = true := by kernel_rfl
theorem pS_done_fn1.can : callOk Tryz.prog 181 = true := by kernel_rfl
theorem pS_done_fn1.sound : FnOk Tryz.prog 181 (.st pS_done_fn1.w) := FnOk.st_of (evF_ok pS_done_fn1.cok mixed (f := 181) (fn := Tryz.f181) (by kernel_rfl) pS_done_fn1.draws) fun args s r h => by
  unfold pS_done_fn1.w at h; split at h
  · rw [pS_done_fn1.ok std]; exact h
  · simp at h
def pS_fail_fn1.ctx : Ctx := [(173, .st pS_end.w)]
def pS_fail_fn1.t (S : Sig) (a0 a1 : Value) (s : St) : Option (Value × St) :=
  S.bd (ldc s a0) fun x1 => S.bd (ldc s a1) fun x2 => S.bd (bld [(.int .i64 0), (.int .u64 0), (.slice none 0 0), (.slice none 0 0), (.int .i64 0), (.int .i64 0), (.int .u64 0), (.int .i64 0), (.int .u64 0), (.int .i64 0), (.int .i64 0), (.int .u64 0), (.int .i64 0), (.int .u64 0), (.bool Bool.false)] [(0, 1, x2)]) fun x3 => S.bd (pS_end.v x1 x3 s) fun r4 => some ((Value.tuple ⟨[]⟩), r4.2)
def pS_fail_fn1.v (a0 a1 : Value) (s : St) : Option (Value × St) := pS_fail_fn1.t std a0 a1 s
def pS_fail_fn1.w : List Value → St → Option (Value × St)
  | [a0, a1], s => pS_fail_fn1.v a0 a1 s
  | _, _ => none
def pS_fail_fn1.an : An := ⟨6, false, [], [], [], []⟩
theorem pS_fail_fn1.ok (S : Sig) (a0 a1 : Value) (s : St) : evF S Tryz.prog pS_fail_fn1.ctx pS_fail_fn1.an Tryz.f182 [a0, a1] s = pS_fail_fn1.t S a0 a1 s := by kernel_rfl
theorem pS_fail_fn1.cok : CtxOk Tryz.prog pS_fail_fn1.ctx := .cons pS_end.sound pS_end.can <| .nil
theorem pS_fail_fn1.draws : fnDraws pS_fail_fn1.an Tryz.f182 = true := by kernel_rfl
theorem pS_fail_fn1.can : callOk Tryz.prog 182 = true := by kernel_rfl
theorem pS_fail_fn1.sound : FnOk Tryz.prog 182 (.st pS_fail_fn1.w) := FnOk.st_of (evF_ok pS_fail_fn1.cok mixed (f := 182) (fn := Tryz.f182) (by kernel_rfl) pS_fail_fn1.draws) fun args s r h => by
  unfold pS_fail_fn1.w at h; split at h
  · rw [pS_fail_fn1.ok std]; exact h
  · simp at h
def pS_look_fn1.ctx : Ctx := []
def pS_look_fn1.t (S : Sig) (a0 : Value) (s : St) : Option (Value × St) :=
  S.bd (ldc s a0) fun x1 => S.bd (nck x1) fun x2 => S.bd (fld 15 x2) fun x3 => S.bd (lda s 5 x3) fun x4 => S.bd (alv s (Go.Value.agg #[(.int .i64 0), (.int .i64 0), (.int .u64 0), (.int .i64 0), (.int .u64 0)])) fun r5 => S.bd (stv r5.2 5 r5.1 x4) fun s6 => S.bd (ldc s6 a0) fun x7 => S.bd (ldc s6 a0) fun x8 => S.bd (ldc s6 a0) fun x9 => S.bd (ldc s6 a0) fun x10 => S.bd (nck x10) fun x11 => S.bd (fld 21 x11) fun x12 => S.bd (lda s6 5 x12) fun x13 => S.bd (nck x7) fun x14 => S.bd (fld 20 x14) fun x15 => S.bd (stv s6 1 x15 r5.1) fun s16 => S.bd (ldc s16 a0) fun x17 => S.cnd (Value.bool (sameV x17 x8)) (S.bd (ldc s16 a0) fun x18 => S.cnd (Value.bool (sameV x18 x9)) (S.bd (ldc s16 a0) fun x19 => S.cnd (Value.bool (sameV x19 x10)) (S.bd (nck x8) fun x20 => S.bd (fld 15 x20) fun x21 => S.bd (stv s16 5 x21 x13) fun s22 => S.bd (ldc s22 a0) fun x23 => S.cnd (Value.bool (sameV x23 x9)) (S.bd (nck x9) fun x24 => S.bd (fld 14 x24) fun x25 => S.bd (stv s22 1 x25 (.int .i64 1)) fun s26 => some ((Value.tuple ⟨[]⟩), s26)) (none)) (none)) (none)) (none)
def pS_look_fn1.v (a0 : Value) (s : St) : Option (Value × St) := pS_look_fn1.t std a0 s
def pS_look_fn1.w : List Value → St → Option (Value × St)
  | [a0], s => pS_look_fn1.v a0 s
  | _, _ => none
def pS_look_fn1.an : An := ⟨19, false, [], [], [], [(1, [(z4 0 2), (z4 1 2), (z4 2 2), (z4 3 2), (z4 4 0), (z4 5 0), (z4 6 2), (z4 7 0), (z4 8 0), (9, 4, [1, 2, 3], []), (z4 10 0), (z4 11 0), (12, 4, [2], []), (z4 13 0), (z4 14 0), (z4 15 4)])]⟩
theorem pS_look_fn1.ok (S : Sig) (a0 : Value) (s : St) : evF S Tryz.prog pS_look_fn1.ctx pS_look_fn1.an Tryz.f183 [a0] s = pS_look_fn1.t S a0 s := by kernel_rfl
theorem pS_look_fn1.cok : CtxOk Tryz.prog pS_look_fn1.ctx := .nil
theorem pS_look_fn1.draws : fnDraws pS_look_fn1.an Tryz.f183 = true := by kernel_rfl
theorem pS_look_fn1.can : callOk Tryz.prog 183 = true := by kernel_rfl
theorem pS_look_fn1.sound : FnOk Tryz.prog 183 (.st pS_look_fn1.w) := FnOk.st_of (evF_ok pS_look_fn1.cok mixed (f := 183) (fn := Tryz.f183) (by kernel_rfl) pS_look_fn1.draws) fun args s r h => by
  unfold pS_look_fn1.w at h; split at h
  · rw [pS_look_fn1.ok std]; exact h
  · simp at h
def r12Seek_Next.ctx : Ctx := []
def r12Seek_Next.t.p1 (S : Sig) (a0 : Value) (s : St) (c1 : List Value) : Option Value :=
  S.bd (nck a0) fun x11 => S.bd (fld 8 x11) fun x12 => S.bd (lda s 5 x12) fun x13 => S.bd (nck a0) fun x14 => S.bd (fld 13 x14) fun x15 => S.bd (lda s 2 x15) fun x16 => S.bd (bld [(.int .i64 0), (.int .i64 0), (.int .u64 0), (.int .i64 0), (.int .i64 0), (.int .u64 0), (.int .i64 0), (.int .u64 0), (.int .i64 0), (.int .i64 0), (.int .u64 0), (.int .i64 0), (.int .u64 0), (.int .i64 0), (.int .i64 0)] [(0, 1, (.int .i64 1)), (1, 2, x16)]) fun x17 => S.bd (bld [(.int .i64 0), (.int .i64 0), (.int .i64 0), (.int .u64 0), (.int .i64 0), (.int .u64 0), (.int .i64 0), (.int .i64 0), (.int .u64 0), (.int .i64 0), (.int .i64 0), (.int .u64 0), (.int .i64 0), (.int .u64 0), (.int .i64 0), (.int .i64 0), (.int .u64 0), (.int .i64 0), (.int .u64 0), (.int .i64 0), (.int .i64 0), (.int .i64 0), (.int .u64 0), (.slice none 0 0), (.slice none 0 0), (.int .i64 0), (.int .i64 0), (.int .u64 0), (.int .i64 0), (.int .u64 0), (.int .i64 0), (.int .i64 0), (.int .u64 0), (.int .i64 0), (.int .u64 0), (.bool Bool.false)] [(0, 1, (.int .i64 1)), (1, 5, x13), (6, 15, x17)]) fun x18 => S.bd (bx (Go.Value.agg #[(.int .i64 0), (.int .i64 0), (.int .i64 0), (.int .u64 0), (.int .i64 0), (.int .u64 0), (.int .i64 0), (.int .i64 0), (.int .u64 0), (.int .i64 0), (.int .i64 0), (.int .u64 0), (.int .i64 0), (.int .u64 0), (.int .i64 0), (.int .i64 0), (.int .u64 0), (.int .i64 0), (.int .u64 0), (.int .i64 0), (.int .i64 0), (.int .i64 0), (.int .u64 0), (.slice none 0 0), (.slice none 0 0), (.int .i64 0), (.int .i64 0), (.int .u64 0), (.int .i64 0), (.int .u64 0), (.int .i64 0), (.int .i64 0), (.int .u64 0), (.int .i64 0), (.int .u64 0), (.bool Bool.false)])) fun c19 => S.bd (stl c19 0 36 x18) fun c20 => S.bd (nck a0) fun x21 => S.bd (fld 15 x21) fun x22 => S.bd (ldc s x22) fun x23 => S.cnd x23 (S.bd (nck a0) fun x24 => S.bd (fld 16 x24) fun x25 => S.bd (lda s 5 x25) fun x26 => S.bd (stl c20 1 5 x26) fun c27 => S.bd (lal c27 0 36) fun x28 => S.bd (stl c1 0 36 x28) fun c29 => S.bd (lal c29 0 36) fun x30 => some (x30)) (S.bd (lal c20 0 36) fun x31 => S.bd (stl c1 0 36 x31) fun c32 => S.bd (lal c32 0 36) fun x33 => some (x33))
def r12Seek_Next.t (S : Sig) (a0 : Value) (s : St) : Option Value :=
  S.bd (bx (Go.Value.agg #[(.int .i64 0), (.int .i64 0), (.int .i64 0), (.int .u64 0), (.int .i64 0), (.int .u64 0), (.int .i64 0), (.int .i64 0), (.int .u64 0), (.int .i64 0), (.int .i64 0), (.int .u64 0), (.int .i64 0), (.int .u64 0), (.int .i64 0), (.int .i64 0), (.int .u64 0), (.int .i64 0), (.int .u64 0), (.int .i64 0), (.int .i64 0), (.int .i64 0), (.int .u64 0), (.slice none 0 0), (.slice none 0 0), (.int .i64 0), (.int .i64 0), (.int .u64 0), (.int .i64 0), (.int .u64 0), (.int .i64 0), (.int .i64 0), (.int .u64 0), (.int .i64 0), (.int .u64 0), (.bool Bool.false)])) fun c1 => S.bd (nck a0) fun x2 => S.bd (fld 23 x2) fun x3 => S.bd (ldc s x3) fun x4 => S.cnd x4 (S.bd (nck a0) fun x5 => S.bd (fld 24 x5) fun x6 => S.bd (lda s 15 x6) fun x7 => S.bd (bld [(.int .i64 0), (.int .i64 0), (.int .i64 0), (.int .u64 0), (.int .i64 0), (.int .u64 0), (.int .i64 0), (.int .i64 0), (.int .u64 0), (.int .i64 0), (.int .i64 0), (.int .u64 0), (.int .i64 0), (.int .u64 0), (.int .i64 0), (.int .i64 0), (.int .u64 0), (.int .i64 0), (.int .u64 0), (.int .i64 0), (.int .i64 0), (.int .i64 0), (.int .u64 0), (.slice none 0 0), (.slice none 0 0), (.int .i64 0), (.int .i64 0), (.int .u64 0), (.int .i64 0), (.int .u64 0), (.int .i64 0), (.int .i64 0), (.int .u64 0), (.int .i64 0), (.int .u64 0), (.bool Bool.false)] [(0, 1, (.int .i64 3)), (21, 15, x7)]) fun x8 => S.bd (stl c1 0 36 x8) fun c9 => S.bd (lal c9 0 36) fun x10 => some (x10)) (r12Seek_Next.t.p1 S a0 s c1)
def r12Seek_Next.r (a0 : Value) (s : St) : Option Value := r12Seek_Next.t std a0 s
def r12Seek_Next.w : List Value → St → Option Value
  | [a0], s => r12Seek_Next.r a0 s
  | _, _ => none
def r12Seek_Next.an : An := ⟨33, true, [2, 3], [], [], [(3, [(z4 0 0), (z4 1 0), (z4 2 0), (z4 3 2), (z4 4 0), (z4 5 0), (z4 6 0), (z4 7 2), (z4 8 0), (z4 9 0), (z4 10 6), (z4 11 29)])]⟩
theorem r12Seek_Next.ok (S : Sig) (a0 : Value) (s : St) : evG S Tryz.prog r12Seek_Next.ctx r12Seek_Next.an Tryz.f43 [a0] s = r12Seek_Next.t S a0 s := by kernel_rfl
theorem r12Seek_Next.cok : CtxOk Tryz.prog r12Seek_Next.ctx := .nil
theorem r12Seek_Next.draws : fnDraws r12Seek_Next.an Tryz.f43 = true := by kernel_rfl
theorem r12Seek_Next.can : callOk Tryz.prog 43 = true := by kernel_rfl
theorem r12Seek_Next.sound : FnOk Tryz.prog 43 (.rd r12Seek_Next.w) := FnOk.rd_of (evG_ok r12Seek_Next.cok mixed (f := 43) (fn := Tryz.f43) (by kernel_rfl) r12Seek_Next.draws) fun args s r h => by
  unfold r12Seek_Next.w at h; split at h
  · rw [r12Seek_Next.ok std]; exact h
  · simp at h
def r13Splice_Next.ctx : Ctx := []
def r13Splice_Next.t.p1 (S : Sig) (x92 : Value) (a0 : Value) (s : St) (c12 : List Value) (c1 : List Value) (c17 : List Value) : Option Cut :=
  S.bd (eqb [1] false false x92 (.int .i64 5)) fun x127 => S.cnd x127 (S.bd (nck a0) fun x128 => S.bd (fld 0 x128) fun x129 => S.bd (fld 2 x129) fun x130 => S.bd (lda s 5 x130) fun x131 => S.bd (stl c12 0 1 (.int .i64 5)) fun c132 => S.bd (stl c132 3 5 x131) fun c133 => some (0, [(Value.agg ⟨c1⟩), (Value.agg ⟨c133⟩), (Value.agg ⟨c17⟩)], s)) (S.bd (eqb [1] false false x92 (.int .i64 6)) fun x134 => S.cnd x134 (S.bd (nck a0) fun x135 => S.bd (fld 27 x135) fun x136 => S.bd (lda s 5 x136) fun x137 => S.bd (nck a0) fun x138 => S.bd (fld 0 x138) fun x139 => S.bd (fld 2 x139) fun x140 => S.bd (lda s 5 x140) fun x141 => S.bd (bld [(.int .i64 0), (.int .i64 0)] []) fun x142 => S.bd (stl c17 0 5 x137) fun c143 => S.bd (stl c12 0 1 (.int .i64 6)) fun c144 => S.bd (stl c144 3 5 x141) fun c145 => S.bd (stl c145 13 2 x142) fun c146 => some (0, [(Value.agg ⟨c1⟩), (Value.agg ⟨c146⟩), (Value.agg ⟨c143⟩)], s)) (S.bd (eqb [1] false false x92 (.int .i64 7)) fun x147 => S.cnd x147 (S.bd (nck a0) fun x148 => S.bd (fld 0 x148) fun x149 => S.bd (fld 2 x149) fun x150 => S.bd (lda s 5 x150) fun x151 => S.bd (stl c17 0 5 x151) fun c152 => S.bd (stl c12 0 1 (.int .i64 4)) fun c153 => some (0, [(Value.agg ⟨c1⟩), (Value.agg ⟨c153⟩), (Value.agg ⟨c152⟩)], s)) (S.bd (eqb [1] false false x92 (.int .i64 8)) fun x154 => S.cnd x154 (S.bd (nck a0) fun x155 => S.bd (fld 0 x155) fun x156 => S.bd (fld 2 x156) fun x157 => S.bd (lda s 5 x157) fun x158 => S.bd (stl c17 0 5 x158) fun c159 => S.bd (stl c12 0 1 (.int .i64 8)) fun c160 => some (0, [(Value.agg ⟨c1⟩), (Value.agg ⟨c160⟩), (Value.agg ⟨c159⟩)], s)) (S.bd (stl c12 0 1 (.int .i64 4)) fun c161 => some (0, [(Value.agg ⟨c1⟩), (Value.agg ⟨c161⟩), (Value.agg ⟨c17⟩)], s)))))
def r13Splice_Next.t.p2 (S : Sig) (x92 : Value) (a0 : Value) (s : St) (c1 : List Value) (c12 : List Value) (c17 : List Value) : Option Cut :=
  S.bd (eqb [1] false false x92 (.int .i64 11)) fun x96 => S.cnd x96 (S.bd (nck a0) fun x97 => S.bd (fld 33 x97) fun x98 => S.bd (lda s 15 x98) fun x99 => S.bd (bld [(.int .i64 0), (.int .i64 0), (.int .i64 0), (.int .u64 0), (.int .i64 0), (.int .u64 0), (.int .i64 0), (.int .i64 0), (.int .u64 0), (.int .i64 0), (.int .i64 0), (.int .u64 0), (.int .i64 0), (.int .u64 0), (.int .i64 0), (.int .i64 0), (.int .u64 0), (.int .i64 0), (.int .u64 0), (.int .i64 0), (.int .i64 0), (.int .i64 0), (.int .u64 0), (.slice none 0 0), (.slice none 0 0), (.int .i64 0), (.int .i64 0), (.int .u64 0), (.int .i64 0), (.int .u64 0), (.int .i64 0), (.int .i64 0), (.int .u64 0), (.int .i64 0), (.int .u64 0), (.bool Bool.false)] [(0, 1, (.int .i64 3)), (21, 15, x99)]) fun x100 => S.bd (stl c1 0 36 x100) fun c101 => some (1, [(Value.agg ⟨c101⟩)], s)) (S.bd (eqb [1] false false x92 (.int .i64 1)) fun x102 => S.cnd x102 (S.bd (stl c12 0 1 (.int .i64 3)) fun c103 => some (0, [(Value.agg ⟨c1⟩), (Value.agg ⟨c103⟩), (Value.agg ⟨c17⟩)], s)) (S.bd (eqb [1] false false x92 (.int .i64 3)) fun x104 => S.cnd x104 (S.bd (nck a0) fun x105 => S.bd (fld 27 x105) fun x106 => S.bd (lda s 5 x106) fun x107 => S.bd (bld [(.int .i64 0), (.int .i64 0)] []) fun x108 => S.bd (stl c17 0 5 x107) fun c109 => S.bd (stl c12 0 1 (.int .i64 1)) fun c110 => S.bd (stl c110 13 2 x108) fun c111 => some (0, [(Value.agg ⟨c1⟩), (Value.agg ⟨c111⟩), (Value.agg ⟨c109⟩)], s)) (S.bd (eqb [1] false false x92 (.int .i64 4)) fun x112 => S.cnd x112 (S.bd (nck a0) fun x113 => S.bd (fld 0 x113) fun x114 => S.bd (fld 2 x114) fun x115 => S.bd (lda s 5 x115) fun x116 => S.bd (nck a0) fun x117 => S.bd (fld 16 x117) fun x118 => S.bd (lda s 5 x118) fun x119 => S.bd (nck a0) fun x120 => S.bd (fld 27 x120) fun x121 => S.bd (lda s 5 x121) fun x122 => S.bd (stl c17 0 5 x116) fun c123 => S.bd (stl c12 0 1 (.int .i64 7)) fun c124 => S.bd (stl c124 3 5 x119) fun c125 => S.bd (stl c125 8 5 x122) fun c126 => some (0, [(Value.agg ⟨c1⟩), (Value.agg ⟨c126⟩), (Value.agg ⟨c123⟩)], s)) (r13Splice_Next.t.p1 S x92 a0 s c12 c1 c17))))
def r13Splice_Next.t.p3 (S : Sig) (x5 : Value) (x9 : Value) (a0 : Value) (s : St) (c1 : List Value) : Option Value :=
  S.bd (bld [(.int .i64 0), (.int .i64 0), (.int .u64 0), (.int .i64 0), (.int .i64 0), (.int .u64 0), (.int .i64 0), (.int .u64 0), (.int .i64 0), (.int .i64 0), (.int .u64 0), (.int .i64 0), (.int .u64 0), (.int .i64 0), (.int .i64 0)] [(1, 2, x5), (13, 2, x9)]) fun x10 => S.bd (bx (Go.Value.agg #[(.int .i64 0), (.int .i64 0), (.int .u64 0), (.int .i64 0), (.int .i64 0), (.int .u64 0), (.int .i64 0), (.int .u64 0), (.int .i64 0), (.int .i64 0), (.int .u64 0), (.int .i64 0), (.int .u64 0), (.int .i64 0), (.int .i64 0)])) fun c11 => S.bd (stl c11 0 15 x10) fun c12 => S.bd (nck a0) fun x13 => S.bd (fld 16 x13) fun x14 => S.bd (lda s 5 x14) fun x15 => S.bd (bx (Go.Value.agg #[(.int .i64 0), (.int .i64 0), (.int .u64 0), (.int .i64 0), (.int .u64 0)])) fun c16 => S.bd (stl c16 0 5 x15) fun c17 => S.bd (show Option Cut from S.bd (nck a0) fun x90 => S.bd (fld 14 x90) fun x91 => S.bd (ldc s x91) fun x92 => S.bd (eqb [1] false false x92 (.int .i64 10)) fun x93 => S.cnd x93 (S.bd (bld [(.int .i64 0), (.int .i64 0), (.int .i64 0), (.int .u64 0), (.int .i64 0), (.int .u64 0), (.int .i64 0), (.int .i64 0), (.int .u64 0), (.int .i64 0), (.int .i64 0), (.int .u64 0), (.int .i64 0), (.int .u64 0), (.int .i64 0), (.int .i64 0), (.int .u64 0), (.int .i64 0), (.int .u64 0), (.int .i64 0), (.int .i64 0), (.int .i64 0), (.int .u64 0), (.slice none 0 0), (.slice none 0 0), (.int .i64 0), (.int .i64 0), (.int .u64 0), (.int .i64 0), (.int .u64 0), (.int .i64 0), (.int .i64 0), (.int .u64 0), (.int .i64 0), (.int .u64 0), (.bool Bool.false)] [(0, 1, (.int .i64 2))]) fun x94 => S.bd (stl c1 0 36 x94) fun c95 => some (1, [(Value.agg ⟨c95⟩)], s)) (r13Splice_Next.t.p2 S x92 a0 s c1 c12 c17)) fun r162 => if r162.1 = 0 then (S.bd (lal (cellsA (r162.2.1.getD 2 undef)) 0 5) fun x164 => S.bd (lal (cellsA (r162.2.1.getD 1 undef)) 0 15) fun x165 => S.bd (bld [(.int .i64 0), (.int .i64 0), (.int .i64 0), (.int .u64 0), (.int .i64 0), (.int .u64 0), (.int .i64 0), (.int .i64 0), (.int .u64 0), (.int .i64 0), (.int .i64 0), (.int .u64 0), (.int .i64 0), (.int .u64 0), (.int .i64 0), (.int .i64 0), (.int .u64 0), (.int .i64 0), (.int .u64 0), (.int .i64 0), (.int .i64 0), (.int .i64 0), (.int .u64 0), (.slice none 0 0), (.slice none 0 0), (.int .i64 0), (.int .i64 0), (.int .u64 0), (.int .i64 0), (.int .u64 0), (.int .i64 0), (.int .i64 0), (.int .u64 0), (.int .i64 0), (.int .u64 0), (.bool Bool.false)] [(0, 1, (.int .i64 1)), (1, 5, x164), (6, 15, x165)]) fun x166 => S.bd (stl (cellsA (r162.2.1.getD 0 undef)) 0 36 x166) fun c167 => S.bd (lal c167 0 36) fun x168 => some (x168)) else (S.bd (lal (cellsA (r162.2.1.getD 0 undef)) 0 36) fun x163 => some (x163))
def r13Splice_Next.t (S : Sig) (a0 : Value) (s : St) : Option Value :=
  S.bd (bx (Go.Value.agg #[(.int .i64 0), (.int .i64 0), (.int .i64 0), (.int .u64 0), (.int .i64 0), (.int .u64 0), (.int .i64 0), (.int .i64 0), (.int .u64 0), (.int .i64 0), (.int .i64 0), (.int .u64 0), (.int .i64 0), (.int .u64 0), (.int .i64 0), (.int .i64 0), (.int .u64 0), (.int .i64 0), (.int .u64 0), (.int .i64 0), (.int .i64 0), (.int .i64 0), (.int .u64 0), (.slice none 0 0), (.slice none 0 0), (.int .i64 0), (.int .i64 0), (.int .u64 0), (.int .i64 0), (.int .u64 0), (.int .i64 0), (.int .i64 0), (.int .u64 0), (.int .i64 0), (.int .u64 0), (.bool Bool.false)])) fun c1 => S.bd (nck a0) fun x2 => S.bd (fld 0 x2) fun x3 => S.bd (fld 0 x3) fun x4 => S.bd (lda s 2 x4) fun x5 => S.bd (nck a0) fun x6 => S.bd (fld 0 x6) fun x7 => S.bd (fld 12 x7) fun x8 => S.bd (lda s 2 x8) fun x9 => r13Splice_Next.t.p3 S x5 x9 a0 s c1
def r13Splice_Next.r (a0 : Value) (s : St) : Option Value := r13Splice_Next.t std a0 s
def r13Splice_Next.w : List Value → St → Option Value
  | [a0], s => r13Splice_Next.r a0 s
  | _, _ => none
def r13Splice_Next.an : An := ⟨108, true, [2, 3, 4], [], [(23, ⟨[], [(.normal, [.p 2 2 0, .p 3 3 0, .p 4 4 0, .l 2, .l 3, .l 4]), (.ret, [.p 2 2 0, .l 2])]⟩)], [(1, [(z4 0 0), (z4 1 0), (z4 2 0), (z4 3 0), (z4 4 2), (z4 5 0), (z4 6 0), (z4 7 0), (z4 8 0), (z4 9 2), (z4 10 0), (z4 11 6), (z4 12 29)]), (14, [(z4 0 0), (z4 1 0), (z4 2 0), (z4 3 0), (z4 4 2), (z4 5 0), (z4 6 0), (z4 7 0), (z4 8 2), (z4 9 0), (z4 10 0), (z4 11 0), (z4 12 2), (z4 13 37), (z4 14 0), (z4 15 29), (z4 16 0), (z4 17 29), (z4 18 0), (z4 19 29)]), (16, [(z4 0 0), (z4 1 0), (z4 2 0), (z4 3 0), (z4 4 2), (z4 5 0), (z4 6 29), (z4 7 0), (z4 8 29)]), (18, [(z4 0 0), (z4 1 0), (z4 2 0), (z4 3 2), (z4 4 0), (z4 5 0), (z4 6 0), (z4 7 0), (z4 8 2), (z4 9 0), (z4 10 37), (z4 11 0), (z4 12 29), (z4 13 0), (z4 14 29), (z4 15 0), (z4 16 29)])]⟩
theorem r13Splice_Next.ok (S : Sig) (a0 : Value) (s : St) : evG S Tryz.prog r13Splice_Next.ctx r13Splice_Next.an Tryz.f44 [a0] s = r13Splice_Next.t S a0 s := by kernel_rfl
theorem r13Splice_Next.cok : CtxOk Tryz.prog r13Splice_Next.ctx := .nil
theorem r13Splice_Next.draws : fnDraws r13Splice_Next.an Tryz.f44 = true := by kernel_rfl
theorem r13Splice_Next.can : callOk Tryz.prog 44 = true := by kernel_rfl
theorem r13Splice_Next.sound : FnOk Tryz.prog 44 (.rd r13Splice_Next.w) := FnOk.rd_of (evG_ok r13Splice_Next.cok mixed (f := 44) (fn := Tryz.f44) (by kernel_rfl) r13Splice_Next.draws) fun args s r h => by
  unfold r13Splice_Next.w at h; split at h
  · rw [r13Splice_Next.ok std]; exact h
  · simp at h
def r01Power.ctx : Ctx := []
def r01Power.l2 (S : Sig) (rec6 : List Value → St → Option Cut) (xs4 : List Value) (s5 : St) : Option Cut :=
  S.bd (bin .gtr (xs4.getD 0 undef) (.int .i64 0)) fun x7 => S.cnd x7 (S.bd (bin .mul (xs4.getD 1 undef) (.int .u64 2)) fun x8 => S.bd (bin .sub (xs4.getD 0 undef) (.int .i64 1)) fun x9 => rec6 [x9, x8] s5) (some (0, [(xs4.getD 1 undef)], s5))
def r01Power.t (S : Sig) (a0 : Value) (s : St) : Option Value :=
  S.bd (S.it (r01Power.l2 S) [a0, (.int .u64 1)] s) fun r10 => some ((r10.2.1.getD 0 undef))
def r01Power.r (a0 : Value) (s : St) : Option Value := r01Power.t std a0 s
def r01Power.w : List Value → St → Option Value
  | [a0], s => r01Power.r a0 s
  | _, _ => none
def r01Power.an : An := ⟨11, true, [], [(2, ⟨[.v 0, .v 3], [(.exit 0, [.v 3])]⟩)], [], []⟩
theorem r01Power.ok (S : Sig) (a0 : Value) (s : St) : evG S Tryz.prog r01Power.ctx r01Power.an Tryz.f52 [a0] s = r01Power.t S a0 s := by kernel_rfl
theorem r01Power.cok : CtxOk Tryz.prog r01Power.ctx := .nil
theorem r01Power.draws : fnDraws r01Power.an Tryz.f52 = true := by kernel_rfl
theorem r01Power.can : callOk Tryz.prog 52 = true := by kernel_rfl
theorem r01Power.sound : FnOk Tryz.prog 52 (.rd r01Power.w) := FnOk.rd_of (evG_ok r01Power.cok mixed (f := 52) (fn := Tryz.f52) (by kernel_rfl) r01Power.draws) fun args s r h => by
  unfold r01Power.w at h; split at h
  · rw [r01Power.ok std]; exact h
  · simp at h
def r01Right.ctx : Ctx := [(52, .rd r01Power.w)]
def r01Right.t (S : Sig) (a0 : Value) (s : St) : Option Value :=
  S.bd (bx a0) fun c1 => S.bd (lcl c1 0) fun x2 => S.bd (bin .geq x2 (.int .i64 0)) fun x3 => S.bd (S.gd x3 true (lcl c1 0)) fun x4 => S.bd (S.gd x3 true (bin .leq x4 (.int .i64 32))) fun x5 => S.bd (pik x3 x5 (.bool Bool.false)) fun x6 => S.bd (S.gd x6 true (lcl c1 1)) fun x7 => S.bd (S.gd x6 true (lcl c1 0)) fun x8 => S.bd (S.gd x6 true (r01Power.r x8 s)) fun x9 => S.bd (S.gd x6 true (bin .lss x7 x9)) fun x10 => S.bd (pik x6 x10 (.bool Bool.false)) fun x11 => some (x11)
def r01Right.r (a0 : Value) (s : St) : Option Value := r01Right.t std a0 s
def r01Right.w : List Value → St → Option Value
  | [a0], s => r01Right.r a0 s
  | _, _ => none
def r01Right.an : An := ⟨19, true, [1], [], [], [(1, [(z4 0 0), (z4 1 9), (z4 2 0), (z4 3 0), (z4 4 0), (z4 5 9), (z4 6 0), (z4 7 0), (z4 8 0), (z4 9 0), (z4 10 9), (z4 11 0), (z4 12 9), (z4 13 3), (z4 14 0), (z4 15 0), (z4 16 0)])]⟩
theorem r01Right.ok (S : Sig) (a0 : Value) (s : St) : evG S Tryz.prog r01Right.ctx r01Right.an Tryz.f26 [a0] s = r01Right.t S a0 s := by kernel_rfl
theorem r01Right.cok : CtxOk Tryz.prog r01Right.ctx := .cons r01Power.sound r01Power.can <| .nil
theorem r01Right.draws : fnDraws r01Right.an Tryz.f26 = true := by kernel_rfl
theorem r01Right.can : callOk Tryz.prog 26 = true := by kernel_rfl
theorem r01Right.sound : FnOk Tryz.prog 26 (.rd r01Right.w) := FnOk.rd_of (evG_ok r01Right.cok mixed (f := 26) (fn := Tryz.f26) (by kernel_rfl) r01Right.draws) fun args s r h => by
  unfold r01Right.w at h; split at h
  · rw [r01Right.ok std]; exact h
  · simp at h
def r01Bits.ctx : Ctx := []
def r01Bits.l4 (S : Sig) (rec16 : List Value → St → Option Cut) (xs14 : List Value) (s15 : St) : Option Cut :=
  S.bd (bin .geq (xs14.getD 2 undef) (.int .i64 0)) fun x17 => S.cnd x17 (S.bd (bin .rem (xs14.getD 1 undef) (.int .u64 2)) fun x18 => S.bd (cvi .i64 x18) fun x19 => S.bd (idx s15 1 (xs14.getD 0 undef) (xs14.getD 2 undef)) fun x20 => S.bd (stv s15 1 x20 x19) fun s21 => S.bd (bin .quo (xs14.getD 1 undef) (.int .u64 2)) fun x22 => S.bd (bin .sub (xs14.getD 2 undef) (.int .i64 1)) fun x23 => rec16 [(xs14.getD 0 undef), x22, x23] s21) (some (0, [(xs14.getD 0 undef)], s15))
def r01Bits.t (S : Sig) (a0 : Value) (s : St) : Option (Value × St) :=
  S.bd (bx a0) fun c1 => S.bd (lcl c1 0) fun x2 => S.bd (mks s 1 8 [(.int .i64 0)] x2 x2) fun r3 => S.bd (lcl c1 1) fun x4 => S.bd (lcl c1 0) fun x5 => S.bd (bin .sub x5 (.int .i64 1)) fun x6 => S.bd (S.it (r01Bits.l4 S) [r3.1, x4, x6] r3.2) fun r24 => some ((r24.2.1.getD 0 undef), r24.2.2)
def r01Bits.v (a0 : Value) (s : St) : Option (Value × St) := r01Bits.t std a0 s
def r01Bits.w : List Value → St → Option (Value × St)
  | [a0], s => r01Bits.v a0 s
  | _, _ => none
def r01Bits.an : An := ⟨27, false, [1], [(4, ⟨[.v 3, .v 4, .v 5], [(.exit 0, [.v 3])]⟩)], [], []⟩
theorem r01Bits.ok (S : Sig) (a0 : Value) (s : St) : evF S Tryz.prog r01Bits.ctx r01Bits.an Tryz.f119 [a0] s = r01Bits.t S a0 s := by kernel_rfl
theorem r01Bits.cok : CtxOk Tryz.prog r01Bits.ctx := .nil
theorem r01Bits.draws : fnDraws r01Bits.an Tryz.f119 = true := by kernel_rfl
theorem r01Bits.can : callOk Tryz.prog 119 = true := by kernel_rfl
theorem r01Bits.sound : FnOk Tryz.prog 119 (.st r01Bits.w) := FnOk.st_of (evF_ok r01Bits.cok mixed (f := 119) (fn := Tryz.f119) (by kernel_rfl) r01Bits.draws) fun args s r h => by
  unfold r01Bits.w at h; split at h
  · rw [r01Bits.ok std]; exact h
  · simp at h
def r01Of.ctx : Ctx := []
def r01Of.l3 (S : Sig) (rec18 : List Value → St → Option Cut) (xs16 : List Value) (s17 : St) : Option Cut :=
  S.bd (lenL (xs16.getD 0 undef)) fun x19 => S.bd (bin .lss (xs16.getD 1 undef) x19) fun x20 => S.cnd x20 (S.bd (lcl (cellsA (xs16.getD 3 undef)) 1) fun x21 => S.bd (bin .mul x21 (.int .u64 2)) fun x22 => S.bd (idx s17 1 (xs16.getD 0 undef) (xs16.getD 1 undef)) fun x23 => S.bd (ldc s17 x23) fun x24 => S.bd (cvi .u64 x24) fun x25 => S.bd (bin .add x22 x25) fun x26 => S.bd (stl (cellsA (xs16.getD 3 undef)) 1 1 x26) fun c27 => S.bd (bin .add (xs16.getD 1 undef) (.int .i64 1)) fun x28 => rec18 [(xs16.getD 0 undef), x28, (Value.agg ⟨(cellsA (xs16.getD 2 undef))⟩), (Value.agg ⟨c27⟩)] s17) (some (0, [(Value.agg ⟨(cellsA (xs16.getD 2 undef))⟩), (Value.agg ⟨(cellsA (xs16.getD 3 undef))⟩)], s17))
def r01Of.t (S : Sig) (a0 : Value) (s : St) : Option Value :=
  S.bd (bx (Go.Value.agg #[(.int .i64 0), (.int .u64 0)])) fun c1 => S.bd (lenL a0) fun x2 => S.bd (bld [(.int .i64 0), (.int .u64 0)] [(0, 1, x2)]) fun x3 => S.bd (bx (Go.Value.agg #[(.int .i64 0), (.int .u64 0)])) fun c4 => S.bd (stl c4 0 2 x3) fun c5 => S.bd (S.it (r01Of.l3 S) [a0, (.int .i64 0), (Value.agg ⟨c1⟩), (Value.agg ⟨c5⟩)] s) fun r29 => S.bd (lal (cellsA (r29.2.1.getD 1 undef)) 0 2) fun x30 => S.bd (stl (cellsA (r29.2.1.getD 0 undef)) 0 2 x30) fun c31 => S.bd (lal c31 0 2) fun x32 => some (x32)
def r01Of.r (a0 : Value) (s : St) : Option Value := r01Of.t std a0 s
def r01Of.w : List Value → St → Option Value
  | [a0], s => r01Of.r a0 s
  | _, _ => none
def r01Of.an : An := ⟨25, true, [2, 3], [(3, ⟨[.v 0, .p 2 2 0, .p 3 3 0, .v 4, .l 2, .l 3], [(.exit 0, [.p 2 2 0, .p 3 3 0, .l 2, .l 3])]⟩)], [], [(5, [(z4 0 0), (z4 1 25), (z4 2 0), (z4 3 0), (z4 4 0), (z4 5 2), (z4 6 2), (z4 7 0), (z4 8 0), (z4 9 0), (z4 10 29)])]⟩
theorem r01Of.ok (S : Sig) (a0 : Value) (s : St) : evG S Tryz.prog r01Of.ctx r01Of.an Tryz.f120 [a0] s = r01Of.t S a0 s := by kernel_rfl
theorem r01Of.cok : CtxOk Tryz.prog r01Of.ctx := .nil
theorem r01Of.draws : fnDraws r01Of.an Tryz.f120 = true := by kernel_rfl
theorem r01Of.can : callOk Tryz.prog 120 = true := by kernel_rfl
theorem r01Of.sound : FnOk Tryz.prog 120 (.rd r01Of.w) := FnOk.rd_of (evG_ok r01Of.cok mixed (f := 120) (fn := Tryz.f120) (by kernel_rfl) r01Of.draws) fun args s r h => by
  unfold r01Of.w at h; split at h
  · rw [r01Of.ok std]; exact h
  · simp at h
def r01Prefix.ctx : Ctx := [(26, .rd r01Right.w), (119, .st r01Bits.w), (120, .rd r01Of.w)]
def r01Prefix.t (S : Sig) (a0 a1 : Value) (s : St) : Option (Value × St) :=
  S.bd (bx a0) fun c1 => S.bd (bx (Go.Value.agg #[(.int .i64 0), (.int .u64 0)])) fun c2 => S.bd (lal c1 0 2) fun x3 => S.bd (r01Right.r x3 s) fun x4 => S.bd (un .not x4) fun x5 => S.cnd x5 (S.bd (bld [(.int .i64 0), (.int .u64 0)] []) fun x6 => S.bd (stl c2 0 2 x6) fun c7 => S.bd (lal c7 0 2) fun x8 => some ((Value.tuple ⟨[x8, (.int .i64 10)]⟩), s)) (S.bd (bin .lss a1 (.int .i64 0)) fun x9 => S.bd (S.gd x9 false (some a1)) fun x10 => S.bd (S.gd x9 false (lcl c1 0)) fun x11 => S.bd (S.gd x9 false (bin .gtr x10 x11)) fun x12 => S.bd (pik x9 (.bool Bool.true) x12) fun x13 => S.cnd x13 (S.bd (bld [(.int .i64 0), (.int .u64 0)] []) fun x14 => S.bd (stl c2 0 2 x14) fun c15 => S.bd (lal c15 0 2) fun x16 => some ((Value.tuple ⟨[x16, (.int .i64 5)]⟩), s)) (S.bd (lal c1 0 2) fun x17 => S.bd (r01Bits.v x17 s) fun r18 => S.bd (slc r18.2 1 r18.1 none (some a1) none) fun x19 => S.bd (r01Of.r x19 r18.2) fun x20 => S.bd (stl c2 0 2 x20) fun c21 => S.bd (lal c21 0 2) fun x22 => some ((Value.tuple ⟨[x22, (.int .i64 0)]⟩), r18.2)))
def r01Prefix.v (a0 a1 : Value) (s : St) : Option (Value × St) := r01Prefix.t std a0 a1 s
def r01Prefix.w : List Value → St → Option (Value × St)
  | [a0, a1], s => r01Prefix.v a0 a1 s
  | _, _ => none
def r01Prefix.an : An := ⟨24, false, [2, 4], [], [], []⟩
theorem r01Prefix.ok (S : Sig) (a0 a1 : Value) (s : St) : evF S Tryz.prog r01Prefix.ctx r01Prefix.an Tryz.f83 [a0, a1] s = r01Prefix.t S a0 a1 s := by kernel_rfl
theorem r01Prefix.cok : CtxOk Tryz.prog r01Prefix.ctx := .cons r01Right.sound r01Right.can <| .cons r01Bits.sound r01Bits.can <| .cons r01Of.sound r01Of.can <| .nil
theorem r01Prefix.draws : fnDraws r01Prefix.an Tryz.f83 = true := by kernel_rfl
theorem r01Prefix.can : callOk Tryz.prog 83 = true := by kernel_rfl
theorem r01Prefix.sound : FnOk Tryz.prog 83 (.st r01Prefix.w) := FnOk.st_of (evF_ok r01Prefix.cok mixed (f := 83) (fn := Tryz.f83) (by kernel_rfl) r01Prefix.draws) fun args s r h => by
  unfold r01Prefix.w at h; split at h
  · rw [r01Prefix.ok std]; exact h
  · simp at h
def r01PrefixQ.r (a0 a1 : Value) (s : St) : Option Value := frzR (fun s => r01Prefix.v a0 a1 s) s
def r01PrefixQ.w : List Value → St → Option Value := fun args s => frzR (r01Prefix.w args) s
theorem r01PrefixQ.can : callOk Tryz.prog 83 = true := r01Prefix.can
theorem r01PrefixQ.sound : FnOk Tryz.prog 83 (.rd r01PrefixQ.w) := FnOk.frozen r01Prefix.sound
def r15Insert_list.ctx : Ctx := [(83, .rd r01PrefixQ.w)]
def r15Insert_list.t (S : Sig) (a0 a1 : Value) (s : St) : Option Value :=
  S.bd (bx (Go.Value.agg #[(.int .i64 0), (.int .u64 0)])) fun c1 => S.bd (nck a0) fun x2 => S.bd (fld 0 x2) fun x3 => S.bd (fld 1 x3) fun x4 => S.bd (fld 3 x4) fun x5 => S.bd (lda s 2 x5) fun x6 => S.bd (r01PrefixQ.r x6 a1 s) fun x7 => S.bd (xtr 0 x7) fun x8 => S.bd (xtr 1 x7) fun x9 => S.bd (bx (Go.Value.agg #[(.int .i64 0), (.int .u64 0)])) fun c10 => S.bd (stl c10 0 2 x8) fun c11 => S.bd (lal c11 0 2) fun x12 => S.bd (stl c1 0 2 x12) fun c13 => S.bd (lal c13 0 2) fun x14 => some (x14)
def r15Insert_list.r (a0 a1 : Value) (s : St) : Option Value := r15Insert_list.t std a0 a1 s
def r15Insert_list.w : List Value → St → Option Value
  | [a0, a1], s => r15Insert_list.r a0 a1 s
  | _, _ => none
def r15Insert_list.an : An := ⟨19, true, [4, 5], [], [], []⟩
theorem r15Insert_list.ok (S : Sig) (a0 a1 : Value) (s : St) : evG S Tryz.prog r15Insert_list.ctx r15Insert_list.an Tryz.f45 [a0, a1] s = r15Insert_list.t S a0 a1 s := by kernel_rfl
theorem r15Insert_list.cok : CtxOk Tryz.prog r15Insert_list.ctx := .cons r01PrefixQ.sound r01PrefixQ.can <| .nil
theorem r15Insert_list.draws : fnDraws r15Insert_list.an Tryz.f45 = true := by kernel_rfl
theorem r15Insert_list.can : callOk Tryz.prog 45 = true := by kernel_rfl
theorem r15Insert_list.sound : FnOk Tryz.prog 45 (.rd r15Insert_list.w) := FnOk.rd_of (evG_ok r15Insert_list.cok mixed (f := 45) (fn := Tryz.f45) (by kernel_rfl) r15Insert_list.draws) fun args s r h => by
  unfold r15Insert_list.w at h; split at h
  · rw [r15Insert_list.ok std]; exact h
  · simp at h
def r15Insert_Next.ctx : Ctx := [(43, .rd r12Seek_Next.w), (44, .rd r13Splice_Next.w), (45, .rd r15Insert_list.w)]
def r15Insert_Next.t.p1 (S : Sig) (a0 : Value) (s : St) (c1 : List Value) : Option Value :=
  S.bd (nck a0) fun x20 => S.bd (fld 18 x20) fun x21 => S.bd (lda s 5 x21) fun x22 => S.bd (nck a0) fun x23 => S.bd (fld 14 x23) fun x24 => S.bd (ldc s x24) fun x25 => S.bd (bin .sub x25 (.int .i64 1)) fun x26 => S.bd (r15Insert_list.r a0 x26 s) fun x27 => S.bd (bld [(.int .i64 0), (.int .i64 0), (.int .u64 0), (.int .i64 0), (.int .i64 0), (.int .u64 0), (.int .i64 0), (.int .u64 0), (.int .i64 0), (.int .i64 0), (.int .u64 0), (.int .i64 0), (.int .u64 0), (.int .i64 0), (.int .i64 0)] [(0, 1, (.int .i64 1)), (1, 2, x27)]) fun x28 => S.bd (bld [(.int .i64 0), (.int .i64 0), (.int .i64 0), (.int .u64 0), (.int .i64 0), (.int .u64 0), (.int .i64 0), (.int .i64 0), (.int .u64 0), (.int .i64 0), (.int .i64 0), (.int .u64 0), (.int .i64 0), (.int .u64 0), (.int .i64 0), (.int .i64 0), (.int .u64 0), (.int .i64 0), (.int .u64 0), (.int .i64 0), (.int .i64 0), (.int .i64 0), (.int .u64 0), (.slice none 0 0), (.slice none 0 0), (.int .i64 0), (.int .i64 0), (.int .u64 0), (.int .i64 0), (.int .u64 0), (.int .i64 0), (.int .i64 0), (.int .u64 0), (.int .i64 0), (.int .u64 0), (.bool Bool.false)] [(0, 1, (.int .i64 1)), (1, 5, x22), (6, 15, x28)]) fun x29 => S.bd (stl c1 0 36 x29) fun c30 => S.bd (lal c30 0 36) fun x31 => some (x31)
def r15Insert_Next.t.p2 (S : Sig) (a0 : Value) (s : St) (c1 : List Value) : Option Value :=
  S.bd (nck a0) fun x33 => S.bd (fld 0 x33) fun x34 => S.bd (fld 1 x34) fun x35 => S.bd (lda s 5 x35) fun x36 => S.bd (bld [(.int .i64 0), (.int .i64 0), (.int .u64 0), (.int .i64 0), (.int .i64 0), (.int .u64 0), (.int .i64 0), (.int .u64 0), (.int .i64 0), (.int .i64 0), (.int .u64 0), (.int .i64 0), (.int .u64 0), (.int .i64 0), (.int .i64 0)] [(0, 1, (.int .i64 10))]) fun x37 => S.bd (bld [(.int .i64 0), (.int .i64 0), (.int .i64 0), (.int .u64 0), (.int .i64 0), (.int .u64 0), (.int .i64 0), (.int .i64 0), (.int .u64 0), (.int .i64 0), (.int .i64 0), (.int .u64 0), (.int .i64 0), (.int .u64 0), (.int .i64 0), (.int .i64 0), (.int .u64 0), (.int .i64 0), (.int .u64 0), (.int .i64 0), (.int .i64 0), (.int .i64 0), (.int .u64 0), (.slice none 0 0), (.slice none 0 0), (.int .i64 0), (.int .i64 0), (.int .u64 0), (.int .i64 0), (.int .u64 0), (.int .i64 0), (.int .i64 0), (.int .u64 0), (.int .i64 0), (.int .u64 0), (.bool Bool.false)] [(0, 1, (.int .i64 1)), (1, 5, x36), (6, 15, x37)]) fun x38 => S.bd (stl c1 0 36 x38) fun c39 => S.bd (lal c39 0 36) fun x40 => some (x40)
def r15Insert_Next.t.p3 (S : Sig) (x4 : Value) (a0 : Value) (s : St) (c1 : List Value) : Option Value :=
  S.bd (eqb [1] false false x4 (.int .i64 2)) fun x12 => S.cnd x12 (S.bd (nck a0) fun x13 => S.bd (fld 17 x13) fun x14 => S.bd (ldc s x14) fun x15 => S.bd (r13Splice_Next.r x15 s) fun x16 => S.bd (stl c1 0 36 x16) fun c17 => S.bd (lal c17 0 36) fun x18 => some (x18)) (S.bd (eqb [1] false false x4 (.int .i64 3)) fun x19 => S.cnd x19 (r15Insert_Next.t.p1 S a0 s c1) (S.bd (eqb [1] false false x4 (.int .i64 4)) fun x32 => S.cnd x32 (r15Insert_Next.t.p2 S a0 s c1) (S.bd (nck a0) fun x41 => S.bd (fld 23 x41) fun x42 => S.bd (lda s 15 x42) fun x43 => S.bd (bld [(.int .i64 0), (.int .i64 0), (.int .i64 0), (.int .u64 0), (.int .i64 0), (.int .u64 0), (.int .i64 0), (.int .i64 0), (.int .u64 0), (.int .i64 0), (.int .i64 0), (.int .u64 0), (.int .i64 0), (.int .u64 0), (.int .i64 0), (.int .i64 0), (.int .u64 0), (.int .i64 0), (.int .u64 0), (.int .i64 0), (.int .i64 0), (.int .i64 0), (.int .u64 0), (.slice none 0 0), (.slice none 0 0), (.int .i64 0), (.int .i64 0), (.int .u64 0), (.int .i64 0), (.int .u64 0), (.int .i64 0), (.int .i64 0), (.int .u64 0), (.int .i64 0), (.int .u64 0), (.bool Bool.false)] [(0, 1, (.int .i64 3)), (21, 15, x43)]) fun x44 => S.bd (stl c1 0 36 x44) fun c45 => S.bd (lal c45 0 36) fun x46 => some (x46))))
def r15Insert_Next.t (S : Sig) (a0 : Value) (s : St) : Option Value :=
  S.bd (bx (Go.Value.agg #[(.int .i64 0), (.int .i64 0), (.int .i64 0), (.int .u64 0), (.int .i64 0), (.int .u64 0), (.int .i64 0), (.int .i64 0), (.int .u64 0), (.int .i64 0), (.int .i64 0), (.int .u64 0), (.int .i64 0), (.int .u64 0), (.int .i64 0), (.int .i64 0), (.int .u64 0), (.int .i64 0), (.int .u64 0), (.int .i64 0), (.int .i64 0), (.int .i64 0), (.int .u64 0), (.slice none 0 0), (.slice none 0 0), (.int .i64 0), (.int .i64 0), (.int .u64 0), (.int .i64 0), (.int .u64 0), (.int .i64 0), (.int .i64 0), (.int .u64 0), (.int .i64 0), (.int .u64 0), (.bool Bool.false)])) fun c1 => S.bd (nck a0) fun x2 => S.bd (fld 13 x2) fun x3 => S.bd (ldc s x3) fun x4 => S.bd (eqb [1] false false x4 (.int .i64 1)) fun x5 => S.cnd x5 (S.bd (nck a0) fun x6 => S.bd (fld 16 x6) fun x7 => S.bd (ldc s x7) fun x8 => S.bd (r12Seek_Next.r x8 s) fun x9 => S.bd (stl c1 0 36 x9) fun c10 => S.bd (lal c10 0 36) fun x11 => some (x11)) (r15Insert_Next.t.p3 S x4 a0 s c1)
def r15Insert_Next.r (a0 : Value) (s : St) : Option Value := r15Insert_Next.t std a0 s
def r15Insert_Next.w : List Value → St → Option Value
  | [a0], s => r15Insert_Next.r a0 s
  | _, _ => none
def r15Insert_Next.an : An := ⟨50, true, [2], [], [], [(7, [(z4 0 0), (z4 1 0), (z4 2 0), (z4 3 2), (z4 4 0), (z4 5 0), (z4 6 0), (z4 7 0), (z4 8 2), (z4 9 0), (z4 10 3), (z4 11 0), (z4 12 0), (z4 13 21)])]⟩
theorem r15Insert_Next.ok (S : Sig) (a0 : Value) (s : St) : evG S Tryz.prog r15Insert_Next.ctx r15Insert_Next.an Tryz.f21 [a0] s = r15Insert_Next.t S a0 s := by kernel_rfl
theorem r15Insert_Next.cok : CtxOk Tryz.prog r15Insert_Next.ctx := .cons r12Seek_Next.sound r12Seek_Next.can <| .cons r13Splice_Next.sound r13Splice_Next.can <| .cons r15Insert_list.sound r15Insert_list.can <| .nil
theorem r15Insert_Next.draws : fnDraws r15Insert_Next.an Tryz.f21 = true := by kernel_rfl
theorem r15Insert_Next.can : callOk Tryz.prog 21 = true := by kernel_rfl
theorem r15Insert_Next.sound : FnOk Tryz.prog 21 (.rd r15Insert_Next.w) := FnOk.rd_of (evG_ok r15Insert_Next.cok mixed (f := 21) (fn := Tryz.f21) (by kernel_rfl) r15Insert_Next.draws) fun args s r h => by
  unfold r15Insert_Next.w at h; split at h
  · rw [r15Insert_Next.ok std]; exact h
  · simp at h
def r13Splice_then.ctx : Ctx := []
def r13Splice_then.t (S : Sig) (a0 : Value) (s : St) : Option (Value × St) :=
  S.bd (nck a0) fun x1 => S.bd (fld 15 x1) fun x2 => S.bd (ldc s x2) fun x3 => S.bd (eqb [1] false false x3 (.int .i64 3)) fun x4 => S.cnd x4 (S.bd (nck a0) fun x5 => S.bd (fld 14 x5) fun x6 => S.bd (stv s 1 x6 (.int .i64 11)) fun s7 => some ((Value.tuple ⟨[]⟩), s7)) (S.bd (eqb [1] false false x3 (.int .i64 2)) fun x8 => S.cnd x8 (S.bd (nck a0) fun x9 => S.bd (fld 14 x9) fun x10 => S.bd (stv s 1 x10 (.int .i64 10)) fun s11 => S.bd (nck a0) fun x12 => S.bd (fld 15 x12) fun x13 => S.bd (stv s11 1 x13 (.int .i64 1)) fun s14 => some ((Value.tuple ⟨[]⟩), s14)) (S.bd (eqb [1] false false x3 (.int .i64 4)) fun x15 => S.cnd x15 (S.bd (nck a0) fun x16 => S.bd (fld 16 x16) fun x17 => S.bd (lda s 5 x17) fun x18 => S.bd (nck a0) fun x19 => S.bd (fld 27 x19) fun x20 => S.bd (lda s 5 x20) fun x21 => S.bd (nck a0) fun x22 => S.bd (fld 21 x22) fun x23 => S.bd (stv s 5 x23 x18) fun s24 => S.bd (nck a0) fun x25 => S.bd (fld 26 x25) fun x26 => S.bd (stv s24 1 x26 (.bool Bool.true)) fun s27 => S.bd (nck a0) fun x28 => S.bd (fld 16 x28) fun x29 => S.bd (stv s27 5 x29 x21) fun s30 => S.bd (nck a0) fun x31 => S.bd (fld 14 x31) fun x32 => S.bd (stv s30 1 x32 (.int .i64 1)) fun s33 => some ((Value.tuple ⟨[]⟩), s33)) (S.bd (eqb [1] false false x3 (.int .i64 5)) fun x34 => S.cnd x34 (S.bd (nck a0) fun x35 => S.bd (fld 21 x35) fun x36 => S.bd (lda s 5 x36) fun x37 => S.bd (nck a0) fun x38 => S.bd (fld 16 x38) fun x39 => S.bd (stv s 5 x39 x37) fun s40 => S.bd (nck a0) fun x41 => S.bd (fld 26 x41) fun x42 => S.bd (stv s40 1 x42 (.bool Bool.false)) fun s43 => S.bd (nck a0) fun x44 => S.bd (fld 14 x44) fun x45 => S.bd (stv s43 1 x45 (.int .i64 1)) fun s46 => some ((Value.tuple ⟨[]⟩), s46)) (S.bd (nck a0) fun x47 => S.bd (fld 14 x47) fun x48 => S.bd (stv s 1 x48 (.int .i64 1)) fun s49 => some ((Value.tuple ⟨[]⟩), s49)))))
def r13Splice_then.v (a0 : Value) (s : St) : Option (Value × St) := r13Splice_then.t std a0 s
def r13Splice_then.w : List Value → St → Option (Value × St)
  | [a0], s => r13Splice_then.v a0 s
  | _, _ => none
def r13Splice_then.an : An := ⟨59, false, [], [], [], [(7, [(z4 0 0), (z4 1 0), (z4 2 0), (z4 3 0), (z4 4 0), (z4 5 0), (z4 6 2), (z4 7 0), (z4 8 0), (z4 9 0), (z4 10 2), (z4 11 0), (z4 12 0), (z4 13 4), (z4 14 0), (z4 15 0), (z4 16 4), (z4 17 0), (z4 18 0), (z4 19 4)])]⟩
theorem r13Splice_then.ok (S : Sig) (a0 : Value) (s : St) : evF S Tryz.prog r13Splice_then.ctx r13Splice_then.an Tryz.f84 [a0] s = r13Splice_then.t S a0 s := by kernel_rfl
theorem r13Splice_then.cok : CtxOk Tryz.prog r13Splice_then.ctx := .nil
theorem r13Splice_then.draws : fnDraws r13Splice_then.an Tryz.f84 = true := by kernel_rfl
theorem r13Splice_then.can : callOk Tryz.prog 84 = true := by kernel_rfl
theorem r13Splice_then.sound : FnOk Tryz.prog 84 (.st r13Splice_then.w) := FnOk.st_of (evF_ok r13Splice_then.cok mixed (f := 84) (fn := Tryz.f84) (by kernel_rfl) r13Splice_then.draws) fun args s r h => by
  unfold r13Splice_then.w at h; split at h
  · rw [r13Splice_then.ok std]; exact h
  · simp at h
def r13Splice_Wake.ctx : Ctx := [(84, .st r13Splice_then.w)]
def r13Splice_Wake.t (S : Sig) (a0 : Value) (s : St) : Option (Value × St) :=
  S.bd (nck a0) fun x1 => S.bd (fld 14 x1) fun x2 => S.bd (ldc s x2) fun x3 => S.bd (eqb [1] false false x3 (.int .i64 10)) fun x4 => S.cnd x4 (S.bd (r13Splice_then.v a0 s) fun r5 => some ((Value.tuple ⟨[]⟩), r5.2)) (some ((Value.tuple ⟨[]⟩), s))
def r13Splice_Wake.v (a0 : Value) (s : St) : Option (Value × St) := r13Splice_Wake.t std a0 s
def r13Splice_Wake.w : List Value → St → Option (Value × St)
  | [a0], s => r13Splice_Wake.v a0 s
  | _, _ => none
def r13Splice_Wake.an : An := ⟨9, false, [], [], [], []⟩
theorem r13Splice_Wake.ok (S : Sig) (a0 : Value) (s : St) : evF S Tryz.prog r13Splice_Wake.ctx r13Splice_Wake.an Tryz.f46 [a0] s = r13Splice_Wake.t S a0 s := by kernel_rfl
theorem r13Splice_Wake.cok : CtxOk Tryz.prog r13Splice_Wake.ctx := .cons r13Splice_then.sound r13Splice_then.can <| .nil
theorem r13Splice_Wake.draws : fnDraws r13Splice_Wake.an Tryz.f46 = true := by kernel_rfl
theorem r13Splice_Wake.can : callOk Tryz.prog 46 = true := by kernel_rfl
theorem r13Splice_Wake.sound : FnOk Tryz.prog 46 (.st r13Splice_Wake.w) := FnOk.st_of (evF_ok r13Splice_Wake.cok mixed (f := 46) (fn := Tryz.f46) (by kernel_rfl) r13Splice_Wake.draws) fun args s r h => by
  unfold r13Splice_Wake.w at h; split at h
  · rw [r13Splice_Wake.ok std]; exact h
  · simp at h
def r15Insert_Wake.ctx : Ctx := [(46, .st r13Splice_Wake.w)]
def r15Insert_Wake.t (S : Sig) (a0 : Value) (s : St) : Option (Value × St) :=
  S.bd (nck a0) fun x1 => S.bd (fld 13 x1) fun x2 => S.bd (ldc s x2) fun x3 => S.bd (eqb [1] false false x3 (.int .i64 2)) fun x4 => S.cnd x4 (S.bd (nck a0) fun x5 => S.bd (fld 17 x5) fun x6 => S.bd (ldc s x6) fun x7 => S.bd (r13Splice_Wake.v x7 s) fun r8 => some ((Value.tuple ⟨[]⟩), r8.2)) (some ((Value.tuple ⟨[]⟩), s))
def r15Insert_Wake.v (a0 : Value) (s : St) : Option (Value × St) := r15Insert_Wake.t std a0 s
def r15Insert_Wake.w : List Value → St → Option (Value × St)
  | [a0], s => r15Insert_Wake.v a0 s
  | _, _ => none
def r15Insert_Wake.an : An := ⟨12, false, [], [], [], []⟩
theorem r15Insert_Wake.ok (S : Sig) (a0 : Value) (s : St) : evF S Tryz.prog r15Insert_Wake.ctx r15Insert_Wake.an Tryz.f23 [a0] s = r15Insert_Wake.t S a0 s := by kernel_rfl
theorem r15Insert_Wake.cok : CtxOk Tryz.prog r15Insert_Wake.ctx := .cons r13Splice_Wake.sound r13Splice_Wake.can <| .nil
theorem r15Insert_Wake.draws : fnDraws r15Insert_Wake.an Tryz.f23 = true := by kernel_rfl
theorem r15Insert_Wake.can : callOk Tryz.prog 23 = true := by kernel_rfl
theorem r15Insert_Wake.sound : FnOk Tryz.prog 23 (.st r15Insert_Wake.w) := FnOk.st_of (evF_ok r15Insert_Wake.cok mixed (f := 23) (fn := Tryz.f23) (by kernel_rfl) r15Insert_Wake.draws) fun args s r h => by
  unfold r15Insert_Wake.w at h; split at h
  · rw [r15Insert_Wake.ok std]; exact h
  · simp at h
def r02Check.ctx : Ctx := []
def r02Check.t (S : Sig) (a0 : Value) (s : St) : Option Value :=
  S.bd (bx a0) fun c1 => S.bd (lcl c1 0) fun x2 => S.bd (eqb [1] false false x2 (.int .i64 2)) fun x3 => S.bd (S.gd x3 false (lcl c1 0)) fun x4 => S.bd (S.gd x3 false (eqb [1] false false x4 (.int .i64 1))) fun x5 => S.bd (S.gd x3 false (some x5)) fun x6 => S.bd (S.gd x6 false (lcl c1 0)) fun x7 => S.bd (S.gd x6 false (eqb [1] false false x7 (.int .i64 3))) fun x8 => S.bd (S.gd x3 false (pik x6 (.bool Bool.true) x8)) fun x9 => S.bd (S.gd x3 false (some x9)) fun x10 => S.bd (S.gd x10 true (lcl c1 1)) fun x11 => S.bd (S.gd x10 true (eqb [1] false false x11 (.int .u64 0))) fun x12 => S.bd (S.gd x3 false (pik x10 x12 (.bool Bool.false))) fun x13 => S.bd (pik x3 (.bool Bool.true) x13) fun x14 => S.cnd x14 (some ((.int .i64 0))) (some ((.int .i64 20)))
def r02Check.r (a0 : Value) (s : St) : Option Value := r02Check.t std a0 s
def r02Check.w : List Value → St → Option Value
  | [a0], s => r02Check.r a0 s
  | _, _ => none
def r02Check.an : An := ⟨21, true, [1], [], [], []⟩
theorem r02Check.ok (S : Sig) (a0 : Value) (s : St) : evG S Tryz.prog r02Check.ctx r02Check.an Tryz.f78 [a0] s = r02Check.t S a0 s := by kernel_rfl
theorem r02Check.cok : CtxOk Tryz.prog r02Check.ctx := .nil
theorem r02Check.draws : fnDraws r02Check.an Tryz.f78 = true := by kernel_rfl
theorem r02Check.can : callOk Tryz.prog 78 = true := by kernel_rfl
theorem r02Check.sound : FnOk Tryz.prog 78 (.rd r02Check.w) := FnOk.rd_of (evG_ok r02Check.cok mixed (f := 78) (fn := Tryz.f78) (by kernel_rfl) r02Check.draws) fun args s r h => by
  unfold r02Check.w at h; split at h
  · rw [r02Check.ok std]; exact h
  · simp at h
def r02Compare.ctx : Ctx := []
def r02Compare.t (S : Sig) (a0 a1 : Value) (s : St) : Option Value :=
  S.bd (bx a0) fun c1 => S.bd (bx a1) fun c2 => S.bd (lcl c1 0) fun x3 => S.bd (lcl c2 0) fun x4 => S.bd (bin .lss x3 x4) fun x5 => S.bd (S.gd x5 false (lcl c1 0)) fun x6 => S.bd (S.gd x5 false (lcl c2 0)) fun x7 => S.bd (S.gd x5 false (eqb [1] false false x6 x7)) fun x8 => S.bd (S.gd x5 false (some x8)) fun x9 => S.bd (S.gd x9 true (lcl c1 1)) fun x10 => S.bd (S.gd x9 true (lcl c2 1)) fun x11 => S.bd (S.gd x9 true (bin .lss x10 x11)) fun x12 => S.bd (S.gd x5 false (pik x9 x12 (.bool Bool.false))) fun x13 => S.bd (pik x5 (.bool Bool.true) x13) fun x14 => S.cnd x14 (some ((.int .i64 (-1)))) (S.bd (lal c1 0 2) fun x15 => S.bd (lal c2 0 2) fun x16 => S.bd (eqb [1, 1] true false x15 x16) fun x17 => S.cnd x17 (some ((.int .i64 0))) (some ((.int .i64 1))))
def r02Compare.r (a0 a1 : Value) (s : St) : Option Value := r02Compare.t std a0 a1 s
def r02Compare.w : List Value → St → Option Value
  | [a0, a1], s => r02Compare.r a0 a1 s
  | _, _ => none
def r02Compare.an : An := ⟨29, true, [2, 3], [], [], []⟩
theorem r02Compare.ok (S : Sig) (a0 a1 : Value) (s : St) : evG S Tryz.prog r02Compare.ctx r02Compare.an Tryz.f122 [a0, a1] s = r02Compare.t S a0 a1 s := by kernel_rfl
theorem r02Compare.cok : CtxOk Tryz.prog r02Compare.ctx := .nil
theorem r02Compare.draws : fnDraws r02Compare.an Tryz.f122 = true := by kernel_rfl
theorem r02Compare.can : callOk Tryz.prog 122 = true := by kernel_rfl
theorem r02Compare.sound : FnOk Tryz.prog 122 (.rd r02Compare.w) := FnOk.rd_of (evG_ok r02Compare.cok mixed (f := 122) (fn := Tryz.f122) (by kernel_rfl) r02Compare.draws) fun args s r h => by
  unfold r02Compare.w at h; split at h
  · rw [r02Compare.ok std]; exact h
  · simp at h
def r02Less.ctx : Ctx := [(122, .rd r02Compare.w)]
def r02Less.t (S : Sig) (a0 a1 : Value) (s : St) : Option Value :=
  S.bd (bx a0) fun c1 => S.bd (bx a1) fun c2 => S.bd (lal c1 0 2) fun x3 => S.bd (lal c2 0 2) fun x4 => S.bd (r02Compare.r x3 x4 s) fun x5 => S.bd (bin .lss x5 (.int .i64 0)) fun x6 => some (x6)
def r02Less.r (a0 a1 : Value) (s : St) : Option Value := r02Less.t std a0 a1 s
def r02Less.w : List Value → St → Option Value
  | [a0, a1], s => r02Less.r a0 a1 s
  | _, _ => none
def r02Less.an : An := ⟨9, true, [2, 3], [], [], []⟩
theorem r02Less.ok (S : Sig) (a0 a1 : Value) (s : St) : evG S Tryz.prog r02Less.ctx r02Less.an Tryz.f86 [a0, a1] s = r02Less.t S a0 a1 s := by kernel_rfl
theorem r02Less.cok : CtxOk Tryz.prog r02Less.ctx := .cons r02Compare.sound r02Compare.can <| .nil
theorem r02Less.draws : fnDraws r02Less.an Tryz.f86 = true := by kernel_rfl
theorem r02Less.can : callOk Tryz.prog 86 = true := by kernel_rfl
theorem r02Less.sound : FnOk Tryz.prog 86 (.rd r02Less.w) := FnOk.rd_of (evG_ok r02Less.cok mixed (f := 86) (fn := Tryz.f86) (by kernel_rfl) r02Less.draws) fun args s r h => by
  unfold r02Less.w at h; split at h
  · rw [r02Less.ok std]; exact h
  · simp at h
def r12Seek_end.ctx : Ctx := []
def r12Seek_end.t (S : Sig) (a0 a1 : Value) (s : St) : Option (Value × St) :=
  S.bd (bx a1) fun c1 => S.bd (lal c1 0 15) fun x2 => S.bd (nck a0) fun x3 => S.bd (fld 23 x3) fun x4 => S.bd (stv s 1 x4 (.bool Bool.true)) fun s5 => S.bd (nck a0) fun x6 => S.bd (fld 24 x6) fun x7 => S.bd (stv s5 15 x7 x2) fun s8 => some ((Value.tuple ⟨[]⟩), s8)
def r12Seek_end.v (a0 a1 : Value) (s : St) : Option (Value × St) := r12Seek_end.t std a0 a1 s
def r12Seek_end.w : List Value → St → Option (Value × St)
  | [a0, a1], s => r12Seek_end.v a0 a1 s
  | _, _ => none
def r12Seek_end.an : An := ⟨11, false, [3], [], [], [(1, [(z4 0 0), (z4 1 0), (z4 2 25), (z4 3 0), (z4 4 0), (z4 5 4), (z4 6 0), (z4 7 0), (z4 8 4)])]⟩
theorem r12Seek_end.ok (S : Sig) (a0 a1 : Value) (s : St) : evF S Tryz.prog r12Seek_end.ctx r12Seek_end.an Tryz.f124 [a0, a1] s = r12Seek_end.t S a0 a1 s := by kernel_rfl
theorem r12Seek_end.cok : CtxOk Tryz.prog r12Seek_end.ctx := .nil
theorem r12Seek_end.draws : fnDraws r12Seek_end.an Tryz.f124 = true := by kernel_rfl
theorem r12Seek_end.can : callOk Tryz.prog 124 = true := by kernel_rfl
theorem r12Seek_end.sound : FnOk Tryz.prog 124 (.st r12Seek_end.w) := FnOk.st_of (evF_ok r12Seek_end.cok mixed (f := 124) (fn := Tryz.f124) (by kernel_rfl) r12Seek_end.draws) fun args s r h => by
  unfold r12Seek_end.w at h; split at h
  · rw [r12Seek_end.ok std]; exact h
  · simp at h
def r12Seek_counts.ctx : Ctx := [(124, .st r12Seek_end.w)]
def r12Seek_counts.t (S : Sig) (a0 : Value) (s : St) : Option (Value × St) :=
  S.bd (nck a0) fun x1 => S.bd (fld 22 x1) fun x2 => S.bd (ldc s x2) fun x3 => S.bd (bin .geq x3 (.int .i64 64)) fun x4 => S.cnd x4 (S.bd (bld [(.int .i64 0), (.int .u64 0), (.slice none 0 0), (.slice none 0 0), (.int .i64 0), (.int .i64 0), (.int .u64 0), (.int .i64 0), (.int .u64 0), (.int .i64 0), (.int .i64 0), (.int .u64 0), (.int .i64 0), (.int .u64 0), (.bool Bool.false)] [(0, 1, (.int .i64 121))]) fun x5 => S.bd (r12Seek_end.v a0 x5 s) fun r6 => some ((.bool Bool.false), r6.2)) (S.bd (nck a0) fun x7 => S.bd (fld 22 x7) fun x8 => S.bd (ldc s x8) fun x9 => S.bd (bin .add x9 (.int .i64 1)) fun x10 => S.bd (nck a0) fun x11 => S.bd (fld 22 x11) fun x12 => S.bd (stv s 1 x12 x10) fun s13 => some ((.bool Bool.true), s13))
def r12Seek_counts.v (a0 : Value) (s : St) : Option (Value × St) := r12Seek_counts.t std a0 s
def r12Seek_counts.w : List Value → St → Option (Value × St)
  | [a0], s => r12Seek_counts.v a0 s
  | _, _ => none
def r12Seek_counts.an : An := ⟨18, false, [], [], [], []⟩
theorem r12Seek_counts.ok (S : Sig) (a0 : Value) (s : St) : evF S Tryz.prog r12Seek_counts.ctx r12Seek_counts.an Tryz.f121 [a0] s = r12Seek_counts.t S a0 s := by kernel_rfl
theorem r12Seek_counts.cok : CtxOk Tryz.prog r12Seek_counts.ctx := .cons r12Seek_end.sound r12Seek_end.can <| .nil
theorem r12Seek_counts.draws : fnDraws r12Seek_counts.an Tryz.f121 = true := by kernel_rfl
theorem r12Seek_counts.can : callOk Tryz.prog 121 = true := by kernel_rfl
theorem r12Seek_counts.sound : FnOk Tryz.prog 121 (.st r12Seek_counts.w) := FnOk.st_of (evF_ok r12Seek_counts.cok mixed (f := 121) (fn := Tryz.f121) (by kernel_rfl) r12Seek_counts.draws) fun args s r h => by
  unfold r12Seek_counts.w at h; split at h
  · rw [r12Seek_counts.ok std]; exact h
  · simp at h
def r12Head.ctx : Ctx := []
def r12Head.t (S : Sig) (a0 : Value) (s : St) : Option Value :=
  S.bd (bx (Go.Value.agg #[(.int .i64 0), (.int .i64 0), (.int .u64 0), (.int .i64 0), (.int .u64 0)])) fun c1 => S.bd (bld [(.int .i64 0), (.int .u64 0)] [(0, 1, (.int .i64 1))]) fun x2 => S.bd (bld [(.int .i64 0), (.int .u64 0)] [(0, 1, a0)]) fun x3 => S.bd (bld [(.int .i64 0), (.int .i64 0), (.int .u64 0), (.int .i64 0), (.int .u64 0)] [(1, 2, x2), (3, 2, x3)]) fun x4 => S.bd (stl c1 0 5 x4) fun c5 => S.bd (lal c5 0 5) fun x6 => some (x6)
def r12Head.r (a0 : Value) (s : St) : Option Value := r12Head.t std a0 s
def r12Head.w : List Value → St → Option Value
  | [a0], s => r12Head.r a0 s
  | _, _ => none
def r12Head.an : An := ⟨7, true, [2], [], [], []⟩
theorem r12Head.ok (S : Sig) (a0 : Value) (s : St) : evG S Tryz.prog r12Head.ctx r12Head.an Tryz.f11 [a0] s = r12Head.t S a0 s := by kernel_rfl
theorem r12Head.cok : CtxOk Tryz.prog r12Head.ctx := .nil
theorem r12Head.draws : fnDraws r12Head.an Tryz.f11 = true := by kernel_rfl
theorem r12Head.can : callOk Tryz.prog 11 = true := by kernel_rfl
theorem r12Head.sound : FnOk Tryz.prog 11 (.rd r12Head.w) := FnOk.rd_of (evG_ok r12Head.cok mixed (f := 11) (fn := Tryz.f11) (by kernel_rfl) r12Head.draws) fun args s r h => by
  unfold r12Head.w at h; split at h
  · rw [r12Head.ok std]; exact h
  · simp at h
def r12Seek_again.ctx : Ctx := [(121, .st r12Seek_counts.w), (11, .rd r12Head.w)]
def r12Seek_again.t (S : Sig) (a0 : Value) (s : St) : Option (Value × St) :=
  S.bd (r12Seek_counts.v a0 s) fun r1 => S.cnd r1.1 (S.bd (nck a0) fun x2 => S.bd (fld 0 x2) fun x3 => S.bd (fld 0 x3) fun x4 => S.bd (ldc r1.2 x4) fun x5 => S.bd (nck a0) fun x6 => S.bd (fld 0 x6) fun x7 => S.bd (fld 0 x7) fun x8 => S.bd (ldc r1.2 x8) fun x9 => S.bd (bld [(.int .i64 0), (.int .u64 0)] [(0, 1, x9)]) fun x10 => S.bd (r12Head.r x5 r1.2) fun x11 => S.bd (nck a0) fun x12 => S.bd (fld 8 x12) fun x13 => S.bd (stv r1.2 5 x13 x11) fun s14 => S.bd (nck a0) fun x15 => S.bd (fld 13 x15) fun x16 => S.bd (stv s14 2 x16 x10) fun s17 => S.bd (nck a0) fun x18 => S.bd (fld 15 x18) fun x19 => S.bd (stv s17 1 x19 (.bool Bool.false)) fun s20 => some ((Value.tuple ⟨[]⟩), s20)) (some ((Value.tuple ⟨[]⟩), r1.2))
def r12Seek_again.v (a0 : Value) (s : St) : Option (Value × St) := r12Seek_again.t std a0 s
def r12Seek_again.w : List Value → St → Option (Value × St)
  | [a0], s => r12Seek_again.v a0 s
  | _, _ => none
def r12Seek_again.an : An := ⟨25, false, [], [], [], [(1, [(z4 0 0), (z4 1 0), (z4 2 0), (z4 3 0), (z4 4 0), (z4 5 0), (z4 6 0), (z4 7 2), (z4 9 0), (z4 10 0), (z4 11 0), (z4 12 0), (z4 13 2), (z4 14 0), (z4 8 3), (z4 15 0), (z4 16 0), (z4 17 4), (z4 18 0), (z4 19 0), (z4 20 4), (z4 21 0), (z4 22 0), (z4 23 4)])]⟩
theorem r12Seek_again.ok (S : Sig) (a0 : Value) (s : St) : evF S Tryz.prog r12Seek_again.ctx r12Seek_again.an Tryz.f89 [a0] s = r12Seek_again.t S a0 s := by kernel_rfl
theorem r12Seek_again.cok : CtxOk Tryz.prog r12Seek_again.ctx := .cons r12Seek_counts.sound r12Seek_counts.can <| .cons r12Head.sound r12Head.can <| .nil
theorem r12Seek_again.draws : fnDraws r12Seek_again.an Tryz.f89 = true := by kernel_rfl
theorem r12Seek_again.can : callOk Tryz.prog 89 = true := by kernel_rfl
theorem r12Seek_again.sound : FnOk Tryz.prog 89 (.st r12Seek_again.w) := FnOk.st_of (evF_ok r12Seek_again.cok mixed (f := 89) (fn := Tryz.f89) (by kernel_rfl) r12Seek_again.draws) fun args s r h => by
  unfold r12Seek_again.w at h; split at h
  · rw [r12Seek_again.ok std]; exact h
  · simp at h
def r12Seek_known.ctx : Ctx := []
def r12Seek_known.l2 (S : Sig) (rec32 : List Value → St → Option Cut) (xs30 : List Value) (s31 : St) : Option Cut :=
  S.bd (nck (xs30.getD 0 undef)) fun x33 => S.bd (fld 21 x33) fun x34 => S.bd (ldc s31 x34) fun x35 => S.bd (lenL x35) fun x36 => S.bd (bin .lss (xs30.getD 1 undef) x36) fun x37 => S.cnd x37 (S.bd (nck (xs30.getD 0 undef)) fun x38 => S.bd (fld 21 x38) fun x39 => S.bd (ldc s31 x39) fun x40 => S.bd (idx s31 13 x40 (xs30.getD 1 undef)) fun x41 => S.bd (fld 0 x41) fun x42 => S.bd (ldc s31 x42) fun x43 => S.bd (lcl (cellsA (xs30.getD 2 undef)) 0) fun x44 => S.bd (eqb [1] false false x43 x44) fun x45 => S.bd (S.gd x45 true (some (xs30.getD 0 undef))) fun x46 => S.bd (S.gd x45 true (nck x46)) fun x47 => S.bd (S.gd x45 true (fld 21 x47)) fun x48 => S.bd (S.gd x45 true (ldc s31 x48)) fun x49 => S.bd (S.gd x45 true (some (xs30.getD 1 undef))) fun x50 => S.bd (S.gd x45 true (idx s31 13 x49 x50)) fun x51 => S.bd (S.gd x45 true (fld 1 x51)) fun x52 => S.bd (S.gd x45 true (lda s31 2 x52)) fun x53 => S.bd (S.gd x45 true (some (xs30.getD 0 undef))) fun x54 => S.bd (S.gd x45 true (nck x54)) fun x55 => S.bd (S.gd x45 true (fld 13 x55)) fun x56 => S.bd (S.gd x45 true (lda s31 2 x56)) fun x57 => S.bd (S.gd x45 true (eqb [1, 1] true false x53 x57)) fun x58 => S.bd (pik x45 x58 (.bool Bool.false)) fun x59 => S.cnd x59 (some (1, [(xs30.getD 1 undef)], s31)) (S.bd (bin .add (xs30.getD 1 undef) (.int .i64 1)) fun x60 => rec32 [(xs30.getD 0 undef), x60, (Value.agg ⟨(cellsA (xs30.getD 2 undef))⟩)] s31)) (some (0, [], s31))
def r12Seek_known.t (S : Sig) (a0 a1 : Value) (s : St) : Option Value :=
  S.bd (bx a1) fun c1 => S.bd (S.it (r12Seek_known.l2 S) [a0, (.int .i64 0), (Value.agg ⟨c1⟩)] s) fun r61 => if r61.1 = 0 then (some ((.int .i64 (-1)))) else (some ((r61.2.1.getD 0 undef)))
def r12Seek_known.r (a0 a1 : Value) (s : St) : Option Value := r12Seek_known.t std a0 a1 s
def r12Seek_known.w : List Value → St → Option Value
  | [a0, a1], s => r12Seek_known.r a0 a1 s
  | _, _ => none
def r12Seek_known.an : An := ⟨42, true, [3], [(2, ⟨[.v 0, .p 3 3 0, .v 5, .l 3], [(.exit 0, []), (.ret, [.v 4])]⟩)], [], [(4, [(z4 0 0), (z4 1 0), (z4 2 0), (z4 3 2), (z4 4 0), (z4 5 2), (z4 6 0), (z4 7 2), (z4 8 0), (z4 9 25), (z4 10 0), (z4 11 0), (z4 12 0), (z4 13 0), (z4 14 0), (z4 15 2), (z4 16 0), (z4 17 2), (z4 18 0), (z4 19 2), (z4 20 0), (z4 21 0), (z4 22 0), (z4 23 2), (z4 24 0), (z4 25 0)])]⟩
theorem r12Seek_known.ok (S : Sig) (a0 a1 : Value) (s : St) : evG S Tryz.prog r12Seek_known.ctx r12Seek_known.an Tryz.f123 [a0, a1] s = r12Seek_known.t S a0 a1 s := by kernel_rfl
theorem r12Seek_known.cok : CtxOk Tryz.prog r12Seek_known.ctx := .nil
theorem r12Seek_known.draws : fnDraws r12Seek_known.an Tryz.f123 = true := by kernel_rfl
theorem r12Seek_known.can : callOk Tryz.prog 123 = true := by kernel_rfl
theorem r12Seek_known.sound : FnOk Tryz.prog 123 (.rd r12Seek_known.w) := FnOk.rd_of (evG_ok r12Seek_known.cok mixed (f := 123) (fn := Tryz.f123) (by kernel_rfl) r12Seek_known.draws) fun args s r h => by
  unfold r12Seek_known.w at h; split at h
  · rw [r12Seek_known.ok std]; exact h
  · simp at h
def r12Seek_right.ctx : Ctx := [(78, .rd r02Check.w), (86, .rd r02Less.w), (89, .st r12Seek_again.w), (123, .rd r12Seek_known.w), (83, .rd r01PrefixQ.w), (124, .st r12Seek_end.w)]
def r12Seek_right.l2 (S : Sig) (rec31 : List Value → St → Option Cut) (xs29 : List Value) (s30 : St) : Option Cut :=
  S.bd (lal (cellsA (xs29.getD 1 undef)) 1 2) fun x32 => S.bd (r02Check.r x32 s30) fun x33 => S.bd (eqb [1] false true x33 (.int .i64 0)) fun x34 => S.bd (S.gd x34 false (lal (cellsA (xs29.getD 2 undef)) 0 2)) fun x35 => S.bd (S.gd x34 false (lal (cellsA (xs29.getD 1 undef)) 1 2)) fun x36 => S.bd (S.gd x34 false (r02Less.r x35 x36 s30)) fun x37 => S.bd (S.gd x34 false (un .not x37)) fun x38 => S.bd (pik x34 (.bool Bool.true) x38) fun x39 => S.cnd x39 (S.bd (r12Seek_again.v (xs29.getD 0 undef) s30) fun r40 => some (1, [], r40.2)) (S.bd (lal (cellsA (xs29.getD 1 undef)) 0 5) fun x41 => S.bd (r12Seek_known.r (xs29.getD 0 undef) x41 s30) fun x42 => S.bd (bin .lss x42 (.int .i64 0)) fun x43 => S.cnd x43 (some (0, [(xs29.getD 0 undef), (Value.agg ⟨(cellsA (xs29.getD 1 undef))⟩)], s30)) (S.bd (lal (cellsA (xs29.getD 1 undef)) 1 2) fun x44 => S.bd (nck (xs29.getD 0 undef)) fun x45 => S.bd (fld 21 x45) fun x46 => S.bd (ldc s30 x46) fun x47 => S.bd (idx s30 13 x47 x42) fun x48 => S.bd (fld 8 x48) fun x49 => S.bd (lda s30 5 x49) fun x50 => S.bd (stl (cellsA (xs29.getD 2 undef)) 0 2 x44) fun c51 => S.bd (stl (cellsA (xs29.getD 1 undef)) 0 5 x50) fun c52 => rec31 [(xs29.getD 0 undef), (Value.agg ⟨c52⟩), (Value.agg ⟨c51⟩)] s30))
def r12Seek_right.t.p1 (S : Sig) (r53 : Cut) : Option (Value × St) :=
  S.bd (nck (r53.2.1.getD 0 undef)) fun x67 => S.bd (fld 13 x67) fun x68 => S.bd (fld 0 x68) fun x69 => S.bd (ldc r53.2.2 x69) fun x70 => S.bd (bin .gtr x70 (.int .i64 0)) fun x71 => S.cnd x71 (S.bd (nck (r53.2.1.getD 0 undef)) fun x72 => S.bd (fld 13 x72) fun x73 => S.bd (lda r53.2.2 2 x73) fun x74 => S.bd (nck (r53.2.1.getD 0 undef)) fun x75 => S.bd (fld 13 x75) fun x76 => S.bd (fld 0 x76) fun x77 => S.bd (ldc r53.2.2 x77) fun x78 => S.bd (bin .sub x78 (.int .i64 1)) fun x79 => S.bd (r01PrefixQ.r x74 x79 r53.2.2) fun x80 => S.bd (xtr 0 x80) fun x81 => S.bd (xtr 1 x80) fun x82 => S.bd (nck (r53.2.1.getD 0 undef)) fun x83 => S.bd (fld 13 x83) fun x84 => S.bd (stv r53.2.2 2 x84 x81) fun s85 => S.bd (nck (r53.2.1.getD 0 undef)) fun x86 => S.bd (fld 15 x86) fun x87 => S.bd (stv s85 1 x87 (.bool Bool.false)) fun s88 => some ((Value.tuple ⟨[]⟩), s88)) (S.bd (nck (r53.2.1.getD 0 undef)) fun x89 => S.bd (fld 8 x89) fun x90 => S.bd (lda r53.2.2 5 x90) fun x91 => S.bd (lal (cellsA (r53.2.1.getD 1 undef)) 0 5) fun x92 => S.bd (lal (cellsA (r53.2.1.getD 1 undef)) 1 2) fun x93 => S.bd (nck (r53.2.1.getD 0 undef)) fun x94 => S.bd (fld 0 x94) fun x95 => S.bd (fld 6 x95) fun x96 => S.bd (lda r53.2.2 2 x96) fun x97 => S.bd (eqb [1, 1] true false x93 x97) fun x98 => S.bd (bld [(.int .i64 0), (.int .u64 0), (.slice none 0 0), (.slice none 0 0), (.int .i64 0), (.int .i64 0), (.int .u64 0), (.int .i64 0), (.int .u64 0), (.int .i64 0), (.int .i64 0), (.int .u64 0), (.int .i64 0), (.int .u64 0), (.bool Bool.false)] [(4, 5, x91), (9, 5, x92), (14, 1, x98)]) fun x99 => S.bd (r12Seek_end.v (r53.2.1.getD 0 undef) x99 r53.2.2) fun r100 => S.bd (lda r100.2 5 x90) fun x101 => S.cnd (Value.bool (sameV x101 x91)) (S.bd (lda r100.2 2 x96) fun x102 => S.cnd (Value.bool (sameV x102 x97)) (some ((Value.tuple ⟨[]⟩), r100.2)) (none)) (none))
def r12Seek_right.t (S : Sig) (a0 a1 : Value) (s : St) : Option (Value × St) :=
  S.bd (bx a1) fun c1 => S.bd (nck a0) fun x2 => S.bd (fld 8 x2) fun x3 => S.bd (fld 1 x3) fun x4 => S.bd (lda s 2 x4) fun x5 => S.bd (bx (Go.Value.agg #[(.int .i64 0), (.int .u64 0)])) fun c6 => S.bd (stl c6 0 2 x5) fun c7 => S.bd (S.it (r12Seek_right.l2 S) [a0, (Value.agg ⟨c1⟩), (Value.agg ⟨c7⟩)] s) fun r53 => if r53.1 = 0 then (S.bd (lal (cellsA (r53.2.1.getD 1 undef)) 1 2) fun x54 => S.bd (nck (r53.2.1.getD 0 undef)) fun x55 => S.bd (fld 0 x55) fun x56 => S.bd (fld 6 x56) fun x57 => S.bd (lda r53.2.2 2 x57) fun x58 => S.bd (r02Less.r x54 x58 r53.2.2) fun x59 => S.cnd x59 (S.bd (lal (cellsA (r53.2.1.getD 1 undef)) 0 5) fun x60 => S.bd (nck (r53.2.1.getD 0 undef)) fun x61 => S.bd (fld 15 x61) fun x62 => S.bd (stv r53.2.2 1 x62 (.bool Bool.true)) fun s63 => S.bd (nck (r53.2.1.getD 0 undef)) fun x64 => S.bd (fld 16 x64) fun x65 => S.bd (stv s63 5 x65 x60) fun s66 => some ((Value.tuple ⟨[]⟩), s66)) (r12Seek_right.t.p1 S r53)) else (some ((Value.tuple ⟨[]⟩), r53.2.2))
def r12Seek_right.v (a0 a1 : Value) (s : St) : Option (Value × St) := r12Seek_right.t std a0 a1 s
def r12Seek_right.w : List Value → St → Option (Value × St)
  | [a0, a1], s => r12Seek_right.v a0 a1 s
  | _, _ => none
def r12Seek_right.an : An := ⟨98, false, [3, 4], [(2, ⟨[.v 0, .p 3 3 0, .p 4 4 0, .l 3, .l 4], [(.exit 0, [.v 0, .p 3 3 0, .l 3]), (.ret, [])]⟩)], [], [(6, [(z4 0 0), (z4 1 25), (z4 2 0), (z4 3 0), (z4 4 0), (z4 5 2), (z4 6 0), (z4 7 2), (z4 8 0), (z4 9 2), (z4 10 37), (z4 11 29)]), (8, [(z4 0 0), (z4 1 25), (z4 2 0), (z4 3 0), (z4 4 0), (z4 5 0), (z4 6 2), (z4 7 3), (z4 8 0)]), (9, [(z4 0 0), (z4 1 0), (z4 2 25), (z4 3 0), (z4 4 0), (z4 5 4), (z4 6 0), (z4 7 0), (z4 8 4)]), (11, [(z4 0 0), (z4 1 0), (z4 2 0), (z4 3 0), (z4 4 2), (z4 5 0), (z4 6 0), (z4 7 0), (z4 8 0), (z4 9 2), (z4 10 0), (z4 11 3), (z4 12 0), (z4 13 0), (z4 14 0), (z4 15 0), (z4 16 0), (z4 17 4)]), (7, [(z4 0 0), (z4 1 0), (z4 2 0), (z4 3 0), (z4 4 2), (z4 5 25), (z4 6 0), (z4 7 25), (z4 8 0), (z4 9 0), (z4 10 0), (z4 11 0), (z4 12 2), (z4 13 0), (z4 14 0), (15, 4, [4, 12], [])])]⟩
theorem r12Seek_right.ok (S : Sig) (a0 a1 : Value) (s : St) : evF S Tryz.prog r12Seek_right.ctx r12Seek_right.an Tryz.f87 [a0, a1] s = r12Seek_right.t S a0 a1 s := by kernel_rfl
theorem r12Seek_right.cok : CtxOk Tryz.prog r12Seek_right.ctx := .cons r02Check.sound r02Check.can <| .cons r02Less.sound r02Less.can <| .cons r12Seek_again.sound r12Seek_again.can <| .cons r12Seek_known.sound r12Seek_known.can <| .cons r01PrefixQ.sound r01PrefixQ.can <| .cons r12Seek_end.sound r12Seek_end.can <| .nil
theorem r12Seek_right.draws : fnDraws r12Seek_right.an Tryz.f87 = true := by kernel_rfl
theorem r12Seek_right.can : callOk Tryz.prog 87 = true := by kernel_rfl
theorem r12Seek_right.sound : FnOk Tryz.prog 87 (.st r12Seek_right.w) := FnOk.st_of (evF_ok r12Seek_right.cok mixed (f := 87) (fn := Tryz.f87) (by kernel_rfl) r12Seek_right.draws) fun args s r h => by
  unfold r12Seek_right.w at h; split at h
  · rw [r12Seek_right.ok std]; exact h
  · simp at h
def r12Seek_keep.ctx : Ctx := [(123, .rd r12Seek_known.w)]
def r12Seek_keep.t.p1 (S : Sig) (c2 : List Value) (x5 : Value) (x8 : Value) (x9 : Value) (x4 : Value) (a0 : Value) (s : St) : Option (Value × St) :=
  S.bd (lal c2 7 5) fun x10 => S.bd (bld [(.int .i64 0), (.int .i64 0), (.int .u64 0), (.int .i64 0), (.int .i64 0), (.int .u64 0), (.int .i64 0), (.int .u64 0), (.int .i64 0), (.int .i64 0), (.int .u64 0), (.int .i64 0), (.int .u64 0)] [(0, 1, x5), (1, 2, x8), (3, 5, x9), (8, 5, x10)]) fun x11 => S.bd (bx (Go.Value.agg #[(.int .i64 0), (.int .i64 0), (.int .u64 0), (.int .i64 0), (.int .i64 0), (.int .u64 0), (.int .i64 0), (.int .u64 0), (.int .i64 0), (.int .i64 0), (.int .u64 0), (.int .i64 0), (.int .u64 0)])) fun c12 => S.bd (stl c12 0 13 x11) fun c13 => S.bd (bin .geq x4 (.int .i64 0)) fun x14 => S.cnd x14 (S.bd (nck a0) fun x15 => S.bd (fld 21 x15) fun x16 => S.bd (ldc s x16) fun x17 => S.bd (lal c13 0 13) fun x18 => S.bd (idx s 13 x17 x4) fun x19 => S.bd (stv s 13 x19 x18) fun s20 => some ((Value.tuple ⟨[]⟩), s20)) (S.bd (nck a0) fun x21 => S.bd (fld 21 x21) fun x22 => S.bd (ldc s x22) fun x23 => S.bd (lal c13 0 13) fun x24 => S.bd (S.bd (bls 13 (List.replicate 1 [(.int .i64 0), (.int .i64 0), (.int .u64 0), (.int .i64 0), (.int .i64 0), (.int .u64 0), (.int .i64 0), (.int .u64 0), (.int .i64 0), (.int .i64 0), (.int .u64 0), (.int .i64 0), (.int .u64 0)]) [(0, x24)]) fun rows => als s 13 1 rows) fun r25 => S.bd (app r25.2 13 104 x23 r25.1) fun r26 => S.bd (nck a0) fun x27 => S.bd (fld 21 x27) fun x28 => S.bd (stv r26.2 1 x28 r26.1) fun s29 => some ((Value.tuple ⟨[]⟩), s29))
def r12Seek_keep.t (S : Sig) (a0 a1 a2 : Value) (s : St) : Option (Value × St) :=
  S.bd (bx a1) fun c1 => S.bd (bx a2) fun c2 => S.bd (lal c1 0 5) fun x3 => S.bd (r12Seek_known.r a0 x3 s) fun x4 => S.bd (lcl c1 0) fun x5 => S.bd (nck a0) fun x6 => S.bd (fld 13 x6) fun x7 => S.bd (lda s 2 x7) fun x8 => S.bd (lal c2 2 5) fun x9 => r12Seek_keep.t.p1 S c2 x5 x8 x9 x4 a0 s
def r12Seek_keep.v (a0 a1 a2 : Value) (s : St) : Option (Value × St) := r12Seek_keep.t std a0 a1 a2 s
def r12Seek_keep.w : List Value → St → Option (Value × St)
  | [a0, a1, a2], s => r12Seek_keep.v a0 a1 a2 s
  | _, _ => none
def r12Seek_keep.an : An := ⟨41, false, [4, 5, 7], [], [], [(2, [(z4 0 0), (z4 1 33), (z4 2 0), (z4 3 0), (z4 4 0), (z4 5 2), (z4 6 0), (z4 7 41), (z4 8 0), (z4 9 41), (z4 10 0), (z4 11 6), (z4 12 61)]), (4, [(z4 0 0), (z4 1 0), (z4 2 0), (z4 3 2), (z4 4 0), (z4 5 57), (z4 6 2), (z4 7 4)]), (5, [(z4 0 0), (z4 1 0), (z4 2 0), (z4 3 0), (z4 4 2), (z4 5 57), (z4 6 3), (z4 7 4), (z4 8 0), (z4 9 0), (z4 10 4)])]⟩
theorem r12Seek_keep.ok (S : Sig) (a0 a1 a2 : Value) (s : St) : evF S Tryz.prog r12Seek_keep.ctx r12Seek_keep.an Tryz.f88 [a0, a1, a2] s = r12Seek_keep.t S a0 a1 a2 s := by kernel_rfl
theorem r12Seek_keep.cok : CtxOk Tryz.prog r12Seek_keep.ctx := .cons r12Seek_known.sound r12Seek_known.can <| .nil
theorem r12Seek_keep.draws : fnDraws r12Seek_keep.an Tryz.f88 = true := by kernel_rfl
theorem r12Seek_keep.can : callOk Tryz.prog 88 = true := by kernel_rfl
theorem r12Seek_keep.sound : FnOk Tryz.prog 88 (.st r12Seek_keep.w) := FnOk.st_of (evF_ok r12Seek_keep.cok mixed (f := 88) (fn := Tryz.f88) (by kernel_rfl) r12Seek_keep.draws) fun args s r h => by
  unfold r12Seek_keep.w at h; split at h
  · rw [r12Seek_keep.ok std]; exact h
  · simp at h
def r12Seek_looked.ctx : Ctx := [(87, .st r12Seek_right.w), (88, .st r12Seek_keep.w), (121, .st r12Seek_counts.w), (89, .st r12Seek_again.w)]
def r12Seek_looked.t (S : Sig) (a0 a1 : Value) (s : St) : Option (Value × St) :=
  S.bd (bx a1) fun c1 => S.bd (lcl c1 0) fun x2 => S.bd (eqb [1] false false x2 (.int .i64 1)) fun x3 => S.cnd x3 (S.bd (nck a0) fun x4 => S.bd (fld 16 x4) fun x5 => S.bd (lda s 5 x5) fun x6 => S.bd (nck a0) fun x7 => S.bd (fld 8 x7) fun x8 => S.bd (stv s 5 x8 x6) fun s9 => S.bd (nck a0) fun x10 => S.bd (fld 15 x10) fun x11 => S.bd (stv s9 1 x11 (.bool Bool.false)) fun s12 => S.bd (lal c1 7 5) fun x13 => S.bd (r12Seek_right.v a0 x13 s12) fun r14 => some ((Value.tuple ⟨[]⟩), r14.2)) (S.bd (eqb [1] false false x2 (.int .i64 3)) fun x15 => S.cnd x15 (S.bd (nck a0) fun x16 => S.bd (fld 16 x16) fun x17 => S.bd (lda s 5 x17) fun x18 => S.bd (lal c1 0 13) fun x19 => S.bd (r12Seek_keep.v a0 x18 x19 s) fun r20 => S.bd (r12Seek_counts.v a0 r20.2) fun r21 => S.cnd r21.1 (S.bd (nck a0) fun x22 => S.bd (fld 15 x22) fun x23 => S.bd (stv r21.2 1 x23 (.bool Bool.false)) fun s24 => some ((Value.tuple ⟨[]⟩), s24)) (some ((Value.tuple ⟨[]⟩), r21.2))) (S.bd (r12Seek_again.v a0 s) fun r25 => some ((Value.tuple ⟨[]⟩), r25.2)))
def r12Seek_looked.v (a0 a1 : Value) (s : St) : Option (Value × St) := r12Seek_looked.t std a0 a1 s
def r12Seek_looked.w : List Value → St → Option (Value × St)
  | [a0, a1], s => r12Seek_looked.v a0 a1 s
  | _, _ => none
def r12Seek_looked.an : An := ⟨38, false, [3], [], [], [(7, [(z4 0 0), (z4 1 0), (z4 2 0), (z4 3 0), (z4 4 2), (z4 5 25), (z4 6 4)])]⟩
theorem r12Seek_looked.ok (S : Sig) (a0 a1 : Value) (s : St) : evF S Tryz.prog r12Seek_looked.ctx r12Seek_looked.an Tryz.f85 [a0, a1] s = r12Seek_looked.t S a0 a1 s := by kernel_rfl
theorem r12Seek_looked.cok : CtxOk Tryz.prog r12Seek_looked.ctx := .cons r12Seek_right.sound r12Seek_right.can <| .cons r12Seek_keep.sound r12Seek_keep.can <| .cons r12Seek_counts.sound r12Seek_counts.can <| .cons r12Seek_again.sound r12Seek_again.can <| .nil
theorem r12Seek_looked.draws : fnDraws r12Seek_looked.an Tryz.f85 = true := by kernel_rfl
theorem r12Seek_looked.can : callOk Tryz.prog 85 = true := by kernel_rfl
theorem r12Seek_looked.sound : FnOk Tryz.prog 85 (.st r12Seek_looked.w) := FnOk.st_of (evF_ok r12Seek_looked.cok mixed (f := 85) (fn := Tryz.f85) (by kernel_rfl) r12Seek_looked.draws) fun args s r h => by
  unfold r12Seek_looked.w at h; split at h
  · rw [r12Seek_looked.ok std]; exact h
  · simp at h
def r12Seek_Tell.ctx : Ctx := [(85, .st r12Seek_looked.w), (86, .rd r02Less.w), (87, .st r12Seek_right.w), (78, .rd r02Check.w), (88, .st r12Seek_keep.w), (89, .st r12Seek_again.w)]
def r12Seek_Tell.t.p1 (S : Sig) (c1 : List Value) (a0 : Value) (s : St) : Option (Value × St) :=
  S.bd (lcl c1 0) fun x10 => S.bd (eqb [1] false false x10 (.int .i64 1)) fun x11 => S.bd (S.gd x11 true (some a0)) fun x12 => S.bd (S.gd x11 true (nck x12)) fun x13 => S.bd (S.gd x11 true (fld 8 x13)) fun x14 => S.bd (S.gd x11 true (fld 1 x14)) fun x15 => S.bd (S.gd x11 true (lda s 2 x15)) fun x16 => S.bd (S.gd x11 true (some a0)) fun x17 => S.bd (S.gd x11 true (nck x17)) fun x18 => S.bd (S.gd x11 true (fld 0 x18)) fun x19 => S.bd (S.gd x11 true (fld 6 x19)) fun x20 => S.bd (S.gd x11 true (lda s 2 x20)) fun x21 => S.bd (S.gd x11 true (r02Less.r x16 x21 s)) fun x22 => S.bd (pik x11 x22 (.bool Bool.false)) fun x23 => S.cnd x23 (S.bd (lal c1 7 5) fun x24 => S.bd (r12Seek_right.v a0 x24 s) fun r25 => some ((Value.tuple ⟨[]⟩), r25.2)) (S.bd (lcl c1 0) fun x26 => S.bd (eqb [1] false false x26 (.int .i64 1)) fun x27 => S.bd (S.gd x27 true (lal c1 3 2)) fun x28 => S.bd (S.gd x27 true (r02Check.r x28 s)) fun x29 => S.bd (S.gd x27 true (eqb [1] false false x29 (.int .i64 0))) fun x30 => S.bd (pik x27 x30 (.bool Bool.false)) fun x31 => S.bd (S.gd x31 true (lal c1 3 2)) fun x32 => S.bd (S.gd x31 true (some a0)) fun x33 => S.bd (S.gd x31 true (nck x33)) fun x34 => S.bd (S.gd x31 true (fld 8 x34)) fun x35 => S.bd (S.gd x31 true (fld 1 x35)) fun x36 => S.bd (S.gd x31 true (lda s 2 x36)) fun x37 => S.bd (S.gd x31 true (r02Less.r x32 x37 s)) fun x38 => S.bd (pik x31 x38 (.bool Bool.false)) fun x39 => S.cnd x39 (S.bd (lal c1 2 5) fun x40 => S.bd (nck a0) fun x41 => S.bd (fld 8 x41) fun x42 => S.bd (stv s 5 x42 x40) fun s43 => some ((Value.tuple ⟨[]⟩), s43)) (S.bd (lcl c1 0) fun x44 => S.bd (eqb [1] false false x44 (.int .i64 3)) fun x45 => S.cnd x45 (S.bd (nck a0) fun x46 => S.bd (fld 8 x46) fun x47 => S.bd (lda s 5 x47) fun x48 => S.bd (lal c1 0 13) fun x49 => S.bd (r12Seek_keep.v a0 x48 x49 s) fun r50 => S.bd (r12Seek_again.v a0 r50.2) fun r51 => some ((Value.tuple ⟨[]⟩), r51.2)) (S.bd (r12Seek_again.v a0 s) fun r52 => some ((Value.tuple ⟨[]⟩), r52.2))))
def r12Seek_Tell.t (S : Sig) (a0 a1 : Value) (s : St) : Option (Value × St) :=
  S.bd (bx a1) fun c1 => S.bd (nck a0) fun x2 => S.bd (fld 23 x2) fun x3 => S.bd (ldc s x3) fun x4 => S.cnd x4 (some ((Value.tuple ⟨[]⟩), s)) (S.bd (nck a0) fun x5 => S.bd (fld 15 x5) fun x6 => S.bd (ldc s x6) fun x7 => S.cnd x7 (S.bd (lal c1 0 13) fun x8 => S.bd (r12Seek_looked.v a0 x8 s) fun r9 => some ((Value.tuple ⟨[]⟩), r9.2)) (r12Seek_Tell.t.p1 S c1 a0 s))
def r12Seek_Tell.v (a0 a1 : Value) (s : St) : Option (Value × St) := r12Seek_Tell.t std a0 a1 s
def r12Seek_Tell.w : List Value → St → Option (Value × St)
  | [a0, a1], s => r12Seek_Tell.v a0 a1 s
  | _, _ => none
def r12Seek_Tell.an : An := ⟨77, false, [3], [], [], [(7, [(z4 0 0), (z4 1 25), (z4 2 0), (z4 3 0), (z4 4 0), (z4 5 0), (z4 6 0), (z4 7 0), (z4 8 2), (z4 9 0), (z4 10 0), (z4 11 0), (z4 12 0), (z4 13 2), (z4 14 3), (z4 15 0), (z4 16 0)]), (9, [(z4 0 0), (z4 1 25), (z4 2 0), (z4 3 0), (z4 4 0), (z4 5 0), (z4 6 25), (z4 7 3), (z4 8 0), (z4 9 0), (z4 10 0), (z4 11 0), (z4 12 0), (z4 13 25), (z4 14 0), (z4 15 0), (z4 16 0), (z4 17 0), (z4 18 2), (z4 19 3), (z4 20 0), (z4 21 0)]), (2, [(z4 0 0), (z4 1 0), (z4 2 0), (z4 3 0), (z4 4 2), (z4 5 25), (z4 6 4)])]⟩
theorem r12Seek_Tell.ok (S : Sig) (a0 a1 : Value) (s : St) : evF S Tryz.prog r12Seek_Tell.ctx r12Seek_Tell.an Tryz.f47 [a0, a1] s = r12Seek_Tell.t S a0 a1 s := by kernel_rfl
theorem r12Seek_Tell.cok : CtxOk Tryz.prog r12Seek_Tell.ctx := .cons r12Seek_looked.sound r12Seek_looked.can <| .cons r02Less.sound r02Less.can <| .cons r12Seek_right.sound r12Seek_right.can <| .cons r02Check.sound r02Check.can <| .cons r12Seek_keep.sound r12Seek_keep.can <| .cons r12Seek_again.sound r12Seek_again.can <| .nil
theorem r12Seek_Tell.draws : fnDraws r12Seek_Tell.an Tryz.f47 = true := by kernel_rfl
theorem r12Seek_Tell.can : callOk Tryz.prog 47 = true := by kernel_rfl
theorem r12Seek_Tell.sound : FnOk Tryz.prog 47 (.st r12Seek_Tell.w) := FnOk.st_of (evF_ok r12Seek_Tell.cok mixed (f := 47) (fn := Tryz.f47) (by kernel_rfl) r12Seek_Tell.draws) fun args s r h => by
  unfold r12Seek_Tell.w at h; split at h
  · rw [r12Seek_Tell.ok std]; exact h
  · simp at h
def r09Less.ctx : Ctx := []
def r09Less.t (S : Sig) (a0 a1 : Value) (s : St) : Option Value :=
  S.bd (bx a0) fun c1 => S.bd (bx a1) fun c2 => S.bd (lcl c1 0) fun x3 => S.bd (lcl c2 0) fun x4 => S.bd (bin .lss x3 x4) fun x5 => S.bd (S.gd x5 false (lcl c1 0)) fun x6 => S.bd (S.gd x5 false (lcl c2 0)) fun x7 => S.bd (S.gd x5 false (eqb [1] false false x6 x7)) fun x8 => S.bd (S.gd x5 false (some x8)) fun x9 => S.bd (S.gd x9 true (lcl c1 1)) fun x10 => S.bd (S.gd x9 true (lcl c2 1)) fun x11 => S.bd (S.gd x9 true (bin .lss x10 x11)) fun x12 => S.bd (S.gd x5 false (pik x9 x12 (.bool Bool.false))) fun x13 => S.bd (pik x5 (.bool Bool.true) x13) fun x14 => some (x14)
def r09Less.r (a0 a1 : Value) (s : St) : Option Value := r09Less.t std a0 a1 s
def r09Less.w : List Value → St → Option Value
  | [a0, a1], s => r09Less.r a0 a1 s
  | _, _ => none
def r09Less.an : An := ⟨24, true, [2, 3], [], [], []⟩
theorem r09Less.ok (S : Sig) (a0 a1 : Value) (s : St) : evG S Tryz.prog r09Less.ctx r09Less.an Tryz.f81 [a0, a1] s = r09Less.t S a0 a1 s := by kernel_rfl
theorem r09Less.cok : CtxOk Tryz.prog r09Less.ctx := .nil
theorem r09Less.draws : fnDraws r09Less.an Tryz.f81 = true := by kernel_rfl
theorem r09Less.can : callOk Tryz.prog 81 = true := by kernel_rfl
theorem r09Less.sound : FnOk Tryz.prog 81 (.rd r09Less.w) := FnOk.rd_of (evG_ok r09Less.cok mixed (f := 81) (fn := Tryz.f81) (by kernel_rfl) r09Less.draws) fun args s r h => by
  unfold r09Less.w at h; split at h
  · rw [r09Less.ok std]; exact h
  · simp at h
def r13Splice_free.ctx : Ctx := [(84, .st r13Splice_then.w)]
def r13Splice_free.t (S : Sig) (a0 a1 : Value) (s : St) : Option (Value × St) :=
  S.bd (nck a0) fun x1 => S.bd (fld 15 x1) fun x2 => S.bd (stv s 1 x2 a1) fun s3 => S.bd (nck a0) fun x4 => S.bd (fld 32 x4) fun x5 => S.bd (ldc s3 x5) fun x6 => S.cnd x6 (S.bd (r13Splice_then.v a0 s3) fun r7 => some ((Value.tuple ⟨[]⟩), r7.2)) (S.bd (nck a0) fun x8 => S.bd (fld 14 x8) fun x9 => S.bd (stv s3 1 x9 (.int .i64 9)) fun s10 => some ((Value.tuple ⟨[]⟩), s10))
def r13Splice_free.v (a0 a1 : Value) (s : St) : Option (Value × St) := r13Splice_free.t std a0 a1 s
def r13Splice_free.w : List Value → St → Option (Value × St)
  | [a0, a1], s => r13Splice_free.v a0 a1 s
  | _, _ => none
def r13Splice_free.an : An := ⟨17, false, [], [], [], []⟩
theorem r13Splice_free.ok (S : Sig) (a0 a1 : Value) (s : St) : evF S Tryz.prog r13Splice_free.ctx r13Splice_free.an Tryz.f92 [a0, a1] s = r13Splice_free.t S a0 a1 s := by kernel_rfl
theorem r13Splice_free.cok : CtxOk Tryz.prog r13Splice_free.ctx := .cons r13Splice_then.sound r13Splice_then.can <| .nil
theorem r13Splice_free.draws : fnDraws r13Splice_free.an Tryz.f92 = true := by kernel_rfl
theorem r13Splice_free.can : callOk Tryz.prog 92 = true := by kernel_rfl
theorem r13Splice_free.sound : FnOk Tryz.prog 92 (.st r13Splice_free.w) := FnOk.st_of (evF_ok r13Splice_free.cok mixed (f := 92) (fn := Tryz.f92) (by kernel_rfl) r13Splice_free.draws) fun args s r h => by
  unfold r13Splice_free.w at h; split at h
  · rw [r13Splice_free.ok std]; exact h
  · simp at h
def r13Splice_end.ctx : Ctx := [(92, .st r13Splice_free.w)]
def r13Splice_end.t (S : Sig) (a0 a1 : Value) (s : St) : Option (Value × St) :=
  S.bd (bld [(.int .i64 0), (.int .u64 0), (.slice none 0 0), (.slice none 0 0), (.int .i64 0), (.int .i64 0), (.int .u64 0), (.int .i64 0), (.int .u64 0), (.int .i64 0), (.int .i64 0), (.int .u64 0), (.int .i64 0), (.int .u64 0), (.bool Bool.false)] [(0, 1, a1)]) fun x1 => S.bd (nck a0) fun x2 => S.bd (fld 33 x2) fun x3 => S.bd (stv s 15 x3 x1) fun s4 => S.bd (eqb [1] false false a1 (.int .i64 0)) fun x5 => S.bd (S.gd x5 false (some a1)) fun x6 => S.bd (S.gd x5 false (eqb [1] false false x6 (.int .i64 100))) fun x7 => S.bd (pik x5 (.bool Bool.true) x7) fun x8 => S.cnd x8 (S.bd (nck a0) fun x9 => S.bd (fld 16 x9) fun x10 => S.bd (lda s4 5 x10) fun x11 => S.bd (nck a0) fun x12 => S.bd (fld 27 x12) fun x13 => S.bd (lda s4 5 x13) fun x14 => S.bd (nck a0) fun x15 => S.bd (fld 33 x15) fun x16 => S.bd (fld 4 x16) fun x17 => S.bd (stv s4 5 x17 x11) fun s18 => S.bd (nck a0) fun x19 => S.bd (fld 33 x19) fun x20 => S.bd (fld 9 x20) fun x21 => S.bd (stv s18 5 x21 x14) fun s22 => S.bd (r13Splice_free.v a0 (.int .i64 3) s22) fun r23 => some ((Value.tuple ⟨[]⟩), r23.2)) (S.bd (r13Splice_free.v a0 (.int .i64 3) s4) fun r24 => some ((Value.tuple ⟨[]⟩), r24.2))
def r13Splice_end.v (a0 a1 : Value) (s : St) : Option (Value × St) := r13Splice_end.t std a0 a1 s
def r13Splice_end.w : List Value → St → Option (Value × St)
  | [a0, a1], s => r13Splice_end.v a0 a1 s
  | _, _ => none
def r13Splice_end.an : An := ⟨33, false, [], [], [], [(2, [(z4 0 0), (z4 1 0), (z4 2 0), (z4 3 0), (z4 4 0), (z4 5 2), (z4 6 0), (z4 7 0), (z4 8 0), (z4 9 2), (z4 10 0), (z4 11 0), (z4 12 0), (z4 13 4), (z4 14 0), (z4 15 0), (z4 16 0), (z4 17 4)])]⟩
theorem r13Splice_end.ok (S : Sig) (a0 a1 : Value) (s : St) : evF S Tryz.prog r13Splice_end.ctx r13Splice_end.an Tryz.f91 [a0, a1] s = r13Splice_end.t S a0 a1 s := by kernel_rfl
theorem r13Splice_end.cok : CtxOk Tryz.prog r13Splice_end.ctx := .cons r13Splice_free.sound r13Splice_free.can <| .nil
theorem r13Splice_end.draws : fnDraws r13Splice_end.an Tryz.f91 = true := by kernel_rfl
theorem r13Splice_end.can : callOk Tryz.prog 91 = true := by kernel_rfl
theorem r13Splice_end.sound : FnOk Tryz.prog 91 (.st r13Splice_end.w) := FnOk.st_of (evF_ok r13Splice_end.cok mixed (f := 91) (fn := Tryz.f91) (by kernel_rfl) r13Splice_end.draws) fun args s r h => by
  unfold r13Splice_end.w at h; split at h
  · rw [r13Splice_end.ok std]; exact h
  · simp at h
def r13Splice_look.ctx : Ctx := [(81, .rd r09Less.w), (91, .st r13Splice_end.w), (92, .st r13Splice_free.w)]
def r13Splice_look.t.p1 (S : Sig) (a0 : Value) (s : St) : Option (Value × St) :=
  S.bd (nck a0) fun x12 => S.bd (fld 27 x12) fun x13 => S.bd (fld 1 x13) fun x14 => S.bd (lda s 2 x14) fun x15 => S.bd (nck a0) fun x16 => S.bd (fld 0 x16) fun x17 => S.bd (fld 2 x17) fun x18 => S.bd (fld 1 x18) fun x19 => S.bd (lda s 2 x19) fun x20 => S.bd (r09Less.r x15 x20 s) fun x21 => S.cnd x21 (S.bd (r13Splice_free.v a0 (.int .i64 4) s) fun r22 => some ((Value.tuple ⟨[]⟩), r22.2)) (S.bd (nck a0) fun x23 => S.bd (fld 27 x23) fun x24 => S.bd (fld 1 x24) fun x25 => S.bd (lda s 2 x25) fun x26 => S.bd (nck a0) fun x27 => S.bd (fld 0 x27) fun x28 => S.bd (fld 2 x28) fun x29 => S.bd (fld 1 x29) fun x30 => S.bd (lda s 2 x30) fun x31 => S.bd (eqb [1, 1] true false x26 x31) fun x32 => S.bd (S.gd x32 true (some a0)) fun x33 => S.bd (S.gd x32 true (nck x33)) fun x34 => S.bd (S.gd x32 true (fld 0 x34)) fun x35 => S.bd (S.gd x32 true (fld 0 x35)) fun x36 => S.bd (S.gd x32 true (fld 0 x36)) fun x37 => S.bd (S.gd x32 true (ldc s x37)) fun x38 => S.bd (S.gd x32 true (bin .gtr x38 (.int .i64 0))) fun x39 => S.bd (pik x32 x39 (.bool Bool.false)) fun x40 => S.cnd x40 (S.bd (r13Splice_free.v a0 (.int .i64 2) s) fun r41 => some ((Value.tuple ⟨[]⟩), r41.2)) (S.bd (nck a0) fun x42 => S.bd (fld 27 x42) fun x43 => S.bd (fld 1 x43) fun x44 => S.bd (lda s 2 x44) fun x45 => S.bd (nck a0) fun x46 => S.bd (fld 0 x46) fun x47 => S.bd (fld 2 x47) fun x48 => S.bd (fld 1 x48) fun x49 => S.bd (lda s 2 x49) fun x50 => S.bd (eqb [1, 1] true false x45 x50) fun x51 => S.cnd x51 (S.bd (nck a0) fun x52 => S.bd (fld 14 x52) fun x53 => S.bd (stv s 1 x53 (.int .i64 3)) fun s54 => some ((Value.tuple ⟨[]⟩), s54)) (S.bd (nck a0) fun x55 => S.bd (fld 14 x55) fun x56 => S.bd (stv s 1 x56 (.int .i64 4)) fun s57 => some ((Value.tuple ⟨[]⟩), s57))))
def r13Splice_look.t (S : Sig) (a0 : Value) (s : St) : Option (Value × St) :=
  S.bd (nck a0) fun x1 => S.bd (fld 16 x1) fun x2 => S.bd (fld 1 x2) fun x3 => S.bd (lda s 2 x3) fun x4 => S.bd (nck a0) fun x5 => S.bd (fld 27 x5) fun x6 => S.bd (fld 1 x6) fun x7 => S.bd (lda s 2 x7) fun x8 => S.bd (r09Less.r x4 x8 s) fun x9 => S.bd (un .not x9) fun x10 => S.cnd x10 (S.bd (r13Splice_end.v a0 (.int .i64 131) s) fun r11 => some ((Value.tuple ⟨[]⟩), r11.2)) (r13Splice_look.t.p1 S a0 s)
def r13Splice_look.v (a0 : Value) (s : St) : Option (Value × St) := r13Splice_look.t std a0 s
def r13Splice_look.w : List Value → St → Option (Value × St)
  | [a0], s => r13Splice_look.v a0 s
  | _, _ => none
def r13Splice_look.an : An := ⟨75, false, [], [], [], [(1, [(z4 0 0), (z4 1 0), (z4 2 0), (z4 3 0), (z4 4 2), (z4 5 0), (z4 6 0), (z4 7 0), (z4 8 0), (z4 9 2), (z4 10 3), (z4 11 0), (z4 12 0)]), (3, [(z4 0 0), (z4 1 0), (z4 2 0), (z4 3 0), (z4 4 2), (z4 5 0), (z4 6 0), (z4 7 0), (z4 8 0), (z4 9 0), (z4 10 2), (z4 11 3), (z4 12 0)]), (5, [(z4 0 0), (z4 1 0), (z4 2 0), (z4 3 0), (z4 4 2), (z4 5 0), (z4 6 0), (z4 7 0), (z4 8 0), (z4 9 0), (z4 10 2), (z4 11 0), (z4 12 0), (z4 13 0), (z4 14 0), (z4 15 0), (z4 16 0), (z4 17 0), (z4 18 2), (z4 19 0), (z4 20 0), (z4 21 0)]), (7, [(z4 0 0), (z4 1 0), (z4 2 0), (z4 3 0), (z4 4 2), (z4 5 0), (z4 6 0), (z4 7 0), (z4 8 0), (z4 9 0), (z4 10 2), (z4 11 0), (z4 12 0)])]⟩
theorem r13Splice_look.ok (S : Sig) (a0 : Value) (s : St) : evF S Tryz.prog r13Splice_look.ctx r13Splice_look.an Tryz.f125 [a0] s = r13Splice_look.t S a0 s := by kernel_rfl
theorem r13Splice_look.cok : CtxOk Tryz.prog r13Splice_look.ctx := .cons r09Less.sound r09Less.can <| .cons r13Splice_end.sound r13Splice_end.can <| .cons r13Splice_free.sound r13Splice_free.can <| .nil
theorem r13Splice_look.draws : fnDraws r13Splice_look.an Tryz.f125 = true := by kernel_rfl
theorem r13Splice_look.can : callOk Tryz.prog 125 = true := by kernel_rfl
theorem r13Splice_look.sound : FnOk Tryz.prog 125 (.st r13Splice_look.w) := FnOk.st_of (evF_ok r13Splice_look.cok mixed (f := 125) (fn := Tryz.f125) (by kernel_rfl) r13Splice_look.draws) fun args s r h => by
  unfold r13Splice_look.w at h; split at h
  · rw [r13Splice_look.ok std]; exact h
  · simp at h
def r13Splice_locked.ctx : Ctx := [(125, .st r13Splice_look.w)]
def r13Splice_locked.t (S : Sig) (a0 a1 : Value) (s : St) : Option (Value × St) :=
  S.bd (bx a1) fun c1 => S.bd (lcl c1 0) fun x2 => S.bd (eqb [1] false false x2 (.int .i64 1)) fun x3 => S.cnd x3 (S.bd (lal c1 7 5) fun x4 => S.bd (nck a0) fun x5 => S.bd (fld 27 x5) fun x6 => S.bd (stv s 5 x6 x4) fun s7 => S.bd (r13Splice_look.v a0 s7) fun r8 => some ((Value.tuple ⟨[]⟩), r8.2)) (S.bd (lcl c1 0) fun x9 => S.bd (eqb [1] false true x9 (.int .i64 2)) fun x10 => S.bd (S.gd x10 true (lcl c1 0)) fun x11 => S.bd (S.gd x10 true (eqb [1] false true x11 (.int .i64 3))) fun x12 => S.bd (pik x10 x12 (.bool Bool.false)) fun x13 => S.cnd x13 (S.bd (nck a0) fun x14 => S.bd (fld 14 x14) fun x15 => S.bd (stv s 1 x15 (.int .i64 10)) fun s16 => S.bd (nck a0) fun x17 => S.bd (fld 15 x17) fun x18 => S.bd (stv s16 1 x18 (.int .i64 1)) fun s19 => some ((Value.tuple ⟨[]⟩), s19)) (S.bd (nck a0) fun x20 => S.bd (fld 26 x20) fun x21 => S.bd (ldc s x21) fun x22 => S.cnd x22 (S.bd (nck a0) fun x23 => S.bd (fld 14 x23) fun x24 => S.bd (stv s 1 x24 (.int .i64 10)) fun s25 => S.bd (nck a0) fun x26 => S.bd (fld 15 x26) fun x27 => S.bd (stv s25 1 x27 (.int .i64 5)) fun s28 => some ((Value.tuple ⟨[]⟩), s28)) (S.bd (bld [(.int .i64 0), (.int .u64 0), (.slice none 0 0), (.slice none 0 0), (.int .i64 0), (.int .i64 0), (.int .u64 0), (.int .i64 0), (.int .u64 0), (.int .i64 0), (.int .i64 0), (.int .u64 0), (.int .i64 0), (.int .u64 0), (.bool Bool.false)] [(0, 1, (.int .i64 131))]) fun x29 => S.bd (nck a0) fun x30 => S.bd (fld 33 x30) fun x31 => S.bd (stv s 15 x31 x29) fun s32 => S.bd (nck a0) fun x33 => S.bd (fld 14 x33) fun x34 => S.bd (stv s32 1 x34 (.int .i64 11)) fun s35 => some ((Value.tuple ⟨[]⟩), s35))))
def r13Splice_locked.v (a0 a1 : Value) (s : St) : Option (Value × St) := r13Splice_locked.t std a0 a1 s
def r13Splice_locked.w : List Value → St → Option (Value × St)
  | [a0, a1], s => r13Splice_locked.v a0 a1 s
  | _, _ => none
def r13Splice_locked.an : An := ⟨48, false, [3], [], [], []⟩
theorem r13Splice_locked.ok (S : Sig) (a0 a1 : Value) (s : St) : evF S Tryz.prog r13Splice_locked.ctx r13Splice_locked.an Tryz.f90 [a0, a1] s = r13Splice_locked.t S a0 a1 s := by kernel_rfl
theorem r13Splice_locked.cok : CtxOk Tryz.prog r13Splice_locked.ctx := .cons r13Splice_look.sound r13Splice_look.can <| .nil
theorem r13Splice_locked.draws : fnDraws r13Splice_locked.an Tryz.f90 = true := by kernel_rfl
theorem r13Splice_locked.can : callOk Tryz.prog 90 = true := by kernel_rfl
theorem r13Splice_locked.sound : FnOk Tryz.prog 90 (.st r13Splice_locked.w) := FnOk.st_of (evF_ok r13Splice_locked.cok mixed (f := 90) (fn := Tryz.f90) (by kernel_rfl) r13Splice_locked.draws) fun args s r h => by
  unfold r13Splice_locked.w at h; split at h
  · rw [r13Splice_locked.ok std]; exact h
  · simp at h
def r13Splice_Tell.ctx : Ctx := [(90, .st r13Splice_locked.w), (91, .st r13Splice_end.w), (92, .st r13Splice_free.w), (84, .st r13Splice_then.w)]
def r13Splice_Tell.t.p1 (S : Sig) (x8 : Value) (a0 : Value) (s : St) (x5 : Value) (x3 : Value) (c1 : List Value) : Option (Value × St) :=
  S.bd (eqb [1] false false x8 (.int .i64 5)) fun x24 => S.cnd x24 (S.bd (nck a0) fun x25 => S.bd (fld 32 x25) fun x26 => S.bd (stv s 1 x26 x5) fun s27 => S.bd (S.gd x3 false (some x5)) fun x28 => S.bd (S.gd x3 false (some x28)) fun x29 => S.bd (S.gd x29 true (lcl c1 7)) fun x30 => S.bd (S.gd x29 true (some a0)) fun x31 => S.bd (S.gd x29 true (nck x31)) fun x32 => S.bd (S.gd x29 true (fld 0 x32)) fun x33 => S.bd (S.gd x29 true (fld 2 x33)) fun x34 => S.bd (S.gd x29 true (fld 0 x34)) fun x35 => S.bd (S.gd x29 true (ldc s27 x35)) fun x36 => S.bd (S.gd x29 true (eqb [1] false false x30 x36)) fun x37 => S.bd (S.gd x3 false (pik x29 x37 (.bool Bool.false))) fun x38 => S.bd (pik x3 (.bool Bool.true) x38) fun x39 => S.cnd x39 (S.bd (nck a0) fun x40 => S.bd (fld 14 x40) fun x41 => S.bd (stv s27 1 x41 (.int .i64 6)) fun s42 => some ((Value.tuple ⟨[]⟩), s42)) (S.bd (nck a0) fun x43 => S.bd (fld 14 x43) fun x44 => S.bd (stv s27 1 x44 (.int .i64 8)) fun s45 => some ((Value.tuple ⟨[]⟩), s45))) (S.bd (eqb [1] false false x8 (.int .i64 6)) fun x46 => S.cnd x46 (S.bd (nck a0) fun x47 => S.bd (fld 14 x47) fun x48 => S.bd (stv s 1 x48 (.int .i64 7)) fun s49 => some ((Value.tuple ⟨[]⟩), s49)) (S.bd (eqb [1] false false x8 (.int .i64 7)) fun x50 => S.cnd x50 (S.cnd x5 (S.bd (r13Splice_end.v a0 (.int .i64 132) s) fun r51 => some ((Value.tuple ⟨[]⟩), r51.2)) (S.bd (r13Splice_end.v a0 (.int .i64 0) s) fun r52 => some ((Value.tuple ⟨[]⟩), r52.2))) (S.bd (eqb [1] false false x8 (.int .i64 8)) fun x53 => S.cnd x53 (S.cnd x5 (S.bd (r13Splice_end.v a0 (.int .i64 132) s) fun r54 => some ((Value.tuple ⟨[]⟩), r54.2)) (S.bd (r13Splice_end.v a0 (.int .i64 131) s) fun r55 => some ((Value.tuple ⟨[]⟩), r55.2))) (S.bd (eqb [1] false false x8 (.int .i64 9)) fun x56 => S.cnd x56 (S.bd (r13Splice_then.v a0 s) fun r57 => some ((Value.tuple ⟨[]⟩), r57.2)) (some ((Value.tuple ⟨[]⟩), s))))))
def r13Splice_Tell.t (S : Sig) (a0 a1 : Value) (s : St) : Option (Value × St) :=
  S.bd (bx a1) fun c1 => S.bd (lcl c1 0) fun x2 => S.bd (eqb [1] false false x2 (.int .i64 1)) fun x3 => S.bd (lcl c1 0) fun x4 => S.bd (eqb [1] false false x4 (.int .i64 3)) fun x5 => S.bd (nck a0) fun x6 => S.bd (fld 14 x6) fun x7 => S.bd (ldc s x7) fun x8 => S.bd (eqb [1] false false x8 (.int .i64 1)) fun x9 => S.cnd x9 (S.bd (lal c1 0 13) fun x10 => S.bd (r13Splice_locked.v a0 x10 s) fun r11 => some ((Value.tuple ⟨[]⟩), r11.2)) (S.bd (eqb [1] false false x8 (.int .i64 3)) fun x12 => S.cnd x12 (S.bd (S.gd x3 true (lcl c1 1)) fun x13 => S.bd (S.gd x3 true (un .not x13)) fun x14 => S.bd (pik x3 x14 (.bool Bool.false)) fun x15 => S.cnd x15 (S.bd (r13Splice_end.v a0 (.int .i64 100) s) fun r16 => some ((Value.tuple ⟨[]⟩), r16.2)) (S.bd (r13Splice_free.v a0 (.int .i64 2) s) fun r17 => some ((Value.tuple ⟨[]⟩), r17.2))) (S.bd (eqb [1] false false x8 (.int .i64 4)) fun x18 => S.cnd x18 (S.cnd x3 (S.bd (nck a0) fun x19 => S.bd (fld 14 x19) fun x20 => S.bd (stv s 1 x20 (.int .i64 5)) fun s21 => some ((Value.tuple ⟨[]⟩), s21)) (S.cnd x5 (S.bd (r13Splice_end.v a0 (.int .i64 132) s) fun r22 => some ((Value.tuple ⟨[]⟩), r22.2)) (S.bd (r13Splice_end.v a0 (.int .i64 133) s) fun r23 => some ((Value.tuple ⟨[]⟩), r23.2)))) (r13Splice_Tell.t.p1 S x8 a0 s x5 x3 c1)))
def r13Splice_Tell.v (a0 a1 : Value) (s : St) : Option (Value × St) := r13Splice_Tell.t std a0 a1 s
def r13Splice_Tell.w : List Value → St → Option (Value × St)
  | [a0, a1], s => r13Splice_Tell.v a0 a1 s
  | _, _ => none
def r13Splice_Tell.an : An := ⟨97, false, [3], [], [], [(1, [(z4 0 0), (z4 1 25), (z4 2 0), (z4 3 0), (z4 4 25), (z4 5 0), (z4 6 0), (z4 7 0)]), (17, [(z4 0 0), (z4 1 0), (z4 2 0), (z4 3 0), (z4 4 0), (z4 5 0), (z4 6 25), (z4 7 0), (z4 8 0), (z4 9 0), (z4 10 0), (z4 11 0), (z4 12 2), (z4 13 0), (z4 14 0), (z4 15 0)])]⟩
theorem r13Splice_Tell.ok (S : Sig) (a0 a1 : Value) (s : St) : evF S Tryz.prog r13Splice_Tell.ctx r13Splice_Tell.an Tryz.f48 [a0, a1] s = r13Splice_Tell.t S a0 a1 s := by kernel_rfl
theorem r13Splice_Tell.cok : CtxOk Tryz.prog r13Splice_Tell.ctx := .cons r13Splice_locked.sound r13Splice_locked.can <| .cons r13Splice_end.sound r13Splice_end.can <| .cons r13Splice_free.sound r13Splice_free.can <| .cons r13Splice_then.sound r13Splice_then.can <| .nil
theorem r13Splice_Tell.draws : fnDraws r13Splice_Tell.an Tryz.f48 = true := by kernel_rfl
theorem r13Splice_Tell.can : callOk Tryz.prog 48 = true := by kernel_rfl
theorem r13Splice_Tell.sound : FnOk Tryz.prog 48 (.st r13Splice_Tell.w) := FnOk.st_of (evF_ok r13Splice_Tell.cok mixed (f := 48) (fn := Tryz.f48) (by kernel_rfl) r13Splice_Tell.draws) fun args s r h => by
  unfold r13Splice_Tell.w at h; split at h
  · rw [r13Splice_Tell.ok std]; exact h
  · simp at h
def r15Insert_over.ctx : Ctx := []
def r15Insert_over.t (S : Sig) (a0 a1 : Value) (s : St) : Option (Value × St) :=
  S.bd (bld [(.int .i64 0), (.int .u64 0), (.slice none 0 0), (.slice none 0 0), (.int .i64 0), (.int .i64 0), (.int .u64 0), (.int .i64 0), (.int .u64 0), (.int .i64 0), (.int .i64 0), (.int .u64 0), (.int .i64 0), (.int .u64 0), (.bool Bool.false)] [(0, 1, a1)]) fun x1 => S.bd (nck a0) fun x2 => S.bd (fld 13 x2) fun x3 => S.bd (stv s 1 x3 (.int .i64 5)) fun s4 => S.bd (nck a0) fun x5 => S.bd (fld 23 x5) fun x6 => S.bd (stv s4 15 x6 x1) fun s7 => some ((Value.tuple ⟨[]⟩), s7)
def r15Insert_over.v (a0 a1 : Value) (s : St) : Option (Value × St) := r15Insert_over.t std a0 a1 s
def r15Insert_over.w : List Value → St → Option (Value × St)
  | [a0, a1], s => r15Insert_over.v a0 a1 s
  | _, _ => none
def r15Insert_over.an : An := ⟨12, false, [], [], [], []⟩
theorem r15Insert_over.ok (S : Sig) (a0 a1 : Value) (s : St) : evF S Tryz.prog r15Insert_over.ctx r15Insert_over.an Tryz.f50 [a0, a1] s = r15Insert_over.t S a0 a1 s := by kernel_rfl
theorem r15Insert_over.cok : CtxOk Tryz.prog r15Insert_over.ctx := .nil
theorem r15Insert_over.draws : fnDraws r15Insert_over.an Tryz.f50 = true := by kernel_rfl
theorem r15Insert_over.can : callOk Tryz.prog 50 = true := by kernel_rfl
theorem r15Insert_over.sound : FnOk Tryz.prog 50 (.st r15Insert_over.w) := FnOk.st_of (evF_ok r15Insert_over.cok mixed (f := 50) (fn := Tryz.f50) (by kernel_rfl) r15Insert_over.draws) fun args s r h => by
  unfold r15Insert_over.w at h; split at h
  · rw [r15Insert_over.ok std]; exact h
  · simp at h
def r03IsKey.ctx : Ctx := []
def r03IsKey.t (S : Sig) (a0 : Value) (s : St) : Option Value :=
  S.bd (bx a0) fun c1 => S.bd (lcl c1 0) fun x2 => S.bd (eqb [1] false false x2 (.int .i64 2)) fun x3 => S.bd (S.gd x3 false (lcl c1 1)) fun x4 => S.bd (S.gd x3 false (eqb [1] false false x4 (.int .u64 0))) fun x5 => S.bd (S.gd x3 false (some x5)) fun x6 => S.bd (S.gd x6 true (lcl c1 0)) fun x7 => S.bd (S.gd x6 true (eqb [1] false false x7 (.int .i64 1))) fun x8 => S.bd (S.gd x6 true (some x8)) fun x9 => S.bd (S.gd x9 false (lcl c1 0)) fun x10 => S.bd (S.gd x9 false (eqb [1] false false x10 (.int .i64 3))) fun x11 => S.bd (S.gd x6 true (pik x9 (.bool Bool.true) x11)) fun x12 => S.bd (S.gd x3 false (pik x6 x12 (.bool Bool.false))) fun x13 => S.bd (pik x3 (.bool Bool.true) x13) fun x14 => some (x14)
def r03IsKey.r (a0 : Value) (s : St) : Option Value := r03IsKey.t std a0 s
def r03IsKey.w : List Value → St → Option Value
  | [a0], s => r03IsKey.r a0 s
  | _, _ => none
def r03IsKey.an : An := ⟨21, true, [1], [], [], []⟩
theorem r03IsKey.ok (S : Sig) (a0 : Value) (s : St) : evG S Tryz.prog r03IsKey.ctx r03IsKey.an Tryz.f80 [a0] s = r03IsKey.t S a0 s := by kernel_rfl
theorem r03IsKey.cok : CtxOk Tryz.prog r03IsKey.ctx := .nil
theorem r03IsKey.draws : fnDraws r03IsKey.an Tryz.f80 = true := by kernel_rfl
theorem r03IsKey.can : callOk Tryz.prog 80 = true := by kernel_rfl
theorem r03IsKey.sound : FnOk Tryz.prog 80 (.rd r03IsKey.w) := FnOk.rd_of (evG_ok r03IsKey.cok mixed (f := 80) (fn := Tryz.f80) (by kernel_rfl) r03IsKey.draws) fun args s r h => by
  unfold r03IsKey.w at h; split at h
  · rw [r03IsKey.ok std]; exact h
  · simp at h
def r01common.ctx : Ctx := []
def r01common.l2 (S : Sig) (rec21 : List Value → St → Option Cut) (xs19 : List Value) (s20 : St) : Option Cut :=
  S.bd (lenL (xs19.getD 0 undef)) fun x22 => S.bd (bin .lss (xs19.getD 2 undef) x22) fun x23 => S.bd (S.gd x23 true (some (xs19.getD 2 undef))) fun x24 => S.bd (S.gd x23 true (some (xs19.getD 1 undef))) fun x25 => S.bd (S.gd x23 true (lenL x25)) fun x26 => S.bd (S.gd x23 true (bin .lss x24 x26)) fun x27 => S.bd (pik x23 x27 (.bool Bool.false)) fun x28 => S.bd (S.gd x28 true (some (xs19.getD 0 undef))) fun x29 => S.bd (S.gd x28 true (some (xs19.getD 2 undef))) fun x30 => S.bd (S.gd x28 true (idx s20 1 x29 x30)) fun x31 => S.bd (S.gd x28 true (ldc s20 x31)) fun x32 => S.bd (S.gd x28 true (some (xs19.getD 1 undef))) fun x33 => S.bd (S.gd x28 true (some (xs19.getD 2 undef))) fun x34 => S.bd (S.gd x28 true (idx s20 1 x33 x34)) fun x35 => S.bd (S.gd x28 true (ldc s20 x35)) fun x36 => S.bd (S.gd x28 true (eqb [1] false false x32 x36)) fun x37 => S.bd (pik x28 x37 (.bool Bool.false)) fun x38 => S.cnd x38 (S.bd (bin .add (xs19.getD 2 undef) (.int .i64 1)) fun x39 => rec21 [(xs19.getD 0 undef), (xs19.getD 1 undef), x39] s20) (some (0, [(xs19.getD 2 undef)], s20))
def r01common.t (S : Sig) (a0 a1 : Value) (s : St) : Option Value :=
  S.bd (S.it (r01common.l2 S) [a0, a1, (.int .i64 0)] s) fun r40 => some ((r40.2.1.getD 0 undef))
def r01common.r (a0 a1 : Value) (s : St) : Option Value := r01common.t std a0 a1 s
def r01common.w : List Value → St → Option Value
  | [a0, a1], s => r01common.r a0 a1 s
  | _, _ => none
def r01common.an : An := ⟨30, true, [], [(2, ⟨[.v 0, .v 1, .v 5], [(.exit 0, [.v 5])]⟩)], [], [(2, [(z4 0 0), (z4 1 0), (z4 2 2), (z4 3 0), (z4 4 0), (z4 5 0), (z4 6 0), (z4 7 2), (z4 8 0), (z4 9 0), (z4 10 0), (z4 11 0), (z4 12 0), (z4 13 2), (z4 14 2), (z4 15 0), (z4 16 0), (z4 17 2), (z4 18 2), (z4 19 0), (z4 20 0)])]⟩
theorem r01common.ok (S : Sig) (a0 a1 : Value) (s : St) : evG S Tryz.prog r01common.ctx r01common.an Tryz.f118 [a0, a1] s = r01common.t S a0 a1 s := by kernel_rfl
theorem r01common.cok : CtxOk Tryz.prog r01common.ctx := .nil
theorem r01common.draws : fnDraws r01common.an Tryz.f118 = true := by kernel_rfl
theorem r01common.can : callOk Tryz.prog 118 = true := by kernel_rfl
theorem r01common.sound : FnOk Tryz.prog 118 (.rd r01common.w) := FnOk.rd_of (evG_ok r01common.cok mixed (f := 118) (fn := Tryz.f118) (by kernel_rfl) r01common.draws) fun args s r h => by
  unfold r01common.w at h; split at h
  · rw [r01common.ok std]; exact h
  · simp at h
def r01Begins.ctx : Ctx := [(26, .rd r01Right.w), (119, .st r01Bits.w), (118, .rd r01common.w)]
def r01Begins.t (S : Sig) (a0 a1 : Value) (s : St) : Option (Value × St) :=
  S.bd (bx a0) fun c1 => S.bd (bx a1) fun c2 => S.bd (lal c1 0 2) fun x3 => S.bd (r01Right.r x3 s) fun x4 => S.bd (S.gd x4 true (lal c2 0 2)) fun x5 => S.bd (S.gd x4 true (r01Right.r x5 s)) fun x6 => S.bd (pik x4 x6 (.bool Bool.false)) fun x7 => S.bd (S.gd x7 true (lal c1 0 2)) fun x8 => S.bd (S.gd x7 true (lal c2 0 2)) fun x9 => S.bd (S.gd x7 true (lcl c2 0)) fun x10 => S.bd (S.gdS x7 true (r01Bits.v x8 s) s) fun r11 => S.bd (S.gdS x7 true (r01Bits.v x9 r11.2) r11.2) fun r12 => S.bd (S.gd x7 true (r01common.r r11.1 r12.1 r12.2)) fun x13 => S.bd (S.gd x7 true (eqb [1] false false x13 x10)) fun x14 => S.bd (pik x7 x14 (.bool Bool.false)) fun x15 => some (x15, r12.2)
def r01Begins.v (a0 a1 : Value) (s : St) : Option (Value × St) := r01Begins.t std a0 a1 s
def r01Begins.w : List Value → St → Option (Value × St)
  | [a0, a1], s => r01Begins.v a0 a1 s
  | _, _ => none
def r01Begins.an : An := ⟨21, false, [2, 3], [], [], [(1, [(z4 0 17), (z4 1 3), (z4 2 0), (z4 3 25), (z4 4 3), (z4 5 0), (z4 6 0), (z4 7 17), (z4 9 25), (z4 12 0), (z4 13 25), (z4 8 4), (z4 10 4), (z4 11 3), (z4 14 0), (z4 15 0), (z4 16 0)])]⟩
theorem r01Begins.ok (S : Sig) (a0 a1 : Value) (s : St) : evF S Tryz.prog r01Begins.ctx r01Begins.an Tryz.f79 [a0, a1] s = r01Begins.t S a0 a1 s := by kernel_rfl
theorem r01Begins.cok : CtxOk Tryz.prog r01Begins.ctx := .cons r01Right.sound r01Right.can <| .cons r01Bits.sound r01Bits.can <| .cons r01common.sound r01common.can <| .nil
theorem r01Begins.draws : fnDraws r01Begins.an Tryz.f79 = true := by kernel_rfl
theorem r01Begins.can : callOk Tryz.prog 79 = true := by kernel_rfl
theorem r01Begins.sound : FnOk Tryz.prog 79 (.st r01Begins.w) := FnOk.st_of (evF_ok r01Begins.cok mixed (f := 79) (fn := Tryz.f79) (by kernel_rfl) r01Begins.draws) fun args s r h => by
  unfold r01Begins.w at h; split at h
  · rw [r01Begins.ok std]; exact h
  · simp at h
def r01BeginsQ.r (a0 a1 : Value) (s : St) : Option Value := frzR (fun s => r01Begins.v a0 a1 s) s
def r01BeginsQ.w : List Value → St → Option Value := fun args s => frzR (r01Begins.w args) s
theorem r01BeginsQ.can : callOk Tryz.prog 79 = true := r01Begins.can
theorem r01BeginsQ.sound : FnOk Tryz.prog 79 (.rd r01BeginsQ.w) := FnOk.frozen r01Begins.sound
def r07IsOwner.ctx : Ctx := []
def r07IsOwner.t (S : Sig) (a0 : Value) (s : St) : Option Value :=
  S.bd (bx a0) fun c1 => S.bd (lcl c1 0) fun x2 => S.bd (bin .geq x2 (.int .i64 0)) fun x3 => S.bd (S.gd x3 true (lcl c1 0)) fun x4 => S.bd (S.gd x3 true (bin .lss x4 (.int .i64 1024))) fun x5 => S.bd (pik x3 x5 (.bool Bool.false)) fun x6 => S.bd (S.gd x6 true (lcl c1 1)) fun x7 => S.bd (S.gd x6 true (bin .geq x7 (.int .i64 1))) fun x8 => S.bd (pik x6 x8 (.bool Bool.false)) fun x9 => S.bd (S.gd x9 true (lcl c1 1)) fun x10 => S.bd (S.gd x9 true (bin .leq x10 (.int .i64 1073741824))) fun x11 => S.bd (pik x9 x11 (.bool Bool.false)) fun x12 => some (x12)
def r07IsOwner.r (a0 : Value) (s : St) : Option Value := r07IsOwner.t std a0 s
def r07IsOwner.w : List Value → St → Option Value
  | [a0], s => r07IsOwner.r a0 s
  | _, _ => none
def r07IsOwner.an : An := ⟨21, true, [1], [], [], []⟩
theorem r07IsOwner.ok (S : Sig) (a0 : Value) (s : St) : evG S Tryz.prog r07IsOwner.ctx r07IsOwner.an Tryz.f82 [a0] s = r07IsOwner.t S a0 s := by kernel_rfl
theorem r07IsOwner.cok : CtxOk Tryz.prog r07IsOwner.ctx := .nil
theorem r07IsOwner.draws : fnDraws r07IsOwner.an Tryz.f82 = true := by kernel_rfl
theorem r07IsOwner.can : callOk Tryz.prog 82 = true := by kernel_rfl
theorem r07IsOwner.sound : FnOk Tryz.prog 82 (.rd r07IsOwner.w) := FnOk.rd_of (evG_ok r07IsOwner.cok mixed (f := 82) (fn := Tryz.f82) (by kernel_rfl) r07IsOwner.draws) fun args s r h => by
  unfold r07IsOwner.w at h; split at h
  · rw [r07IsOwner.ok std]; exact h
  · simp at h
def r13New.ctx : Ctx := [(26, .rd r01Right.w), (79, .rd r01BeginsQ.w), (80, .rd r03IsKey.w), (81, .rd r09Less.w), (82, .rd r07IsOwner.w)]
def r13New.t.p1 (S : Sig) (c1 : List Value) (s : St) : Option (Value × St) :=
  S.bd (lal c1 0 14) fun x26 => S.bd (lal c1 7 5) fun x27 => S.bd (bld [(.int .i64 0), (.int .u64 0), (.int .i64 0), (.int .i64 0), (.int .u64 0), (.int .i64 0), (.int .u64 0), (.int .i64 0), (.int .i64 0), (.int .u64 0), (.int .i64 0), (.int .u64 0), (.int .i64 0), (.int .i64 0), (.int .i64 0), (.int .i64 0), (.int .i64 0), (.int .i64 0), (.int .u64 0), (.int .i64 0), (.int .u64 0), (.int .i64 0), (.int .i64 0), (.int .u64 0), (.int .i64 0), (.int .u64 0), (.bool Bool.false), (.int .i64 0), (.int .i64 0), (.int .u64 0), (.int .i64 0), (.int .u64 0), (.bool Bool.false), (.int .i64 0), (.int .u64 0), (.slice none 0 0), (.slice none 0 0), (.int .i64 0), (.int .i64 0), (.int .u64 0), (.int .i64 0), (.int .u64 0), (.int .i64 0), (.int .i64 0), (.int .u64 0), (.int .i64 0), (.int .u64 0), (.bool Bool.false)] [(0, 14, x26), (14, 1, (.int .i64 1)), (16, 5, x27)]) fun x28 => S.bd (alv s x28) fun r29 => some ((Value.tuple ⟨[r29.1, (.int .i64 0)]⟩), r29.2)
def r13New.t (S : Sig) (a0 : Value) (s : St) : Option (Value × St) :=
  S.bd (bx a0) fun c1 => S.bd (lal c1 0 2) fun x2 => S.bd (r01Right.r x2 s) fun x3 => S.bd (un .not x3) fun x4 => S.bd (S.gd x4 false (lcl c1 3)) fun x5 => S.bd (S.gd x4 false (eqb [1] false true x5 (.int .i64 2))) fun x6 => S.bd (pik x4 (.bool Bool.true) x6) fun x7 => S.bd (S.gd x7 false (lal c1 5 2)) fun x8 => S.bd (S.gd x7 false (lal c1 0 2)) fun x9 => S.bd (S.gd x7 false (r01BeginsQ.r x8 x9 s)) fun x10 => S.bd (S.gd x7 false (un .not x10)) fun x11 => S.bd (pik x7 (.bool Bool.true) x11) fun x12 => S.bd (S.gd x12 false (lal c1 8 2)) fun x13 => S.bd (S.gd x12 false (r03IsKey.r x13 s)) fun x14 => S.bd (S.gd x12 false (un .not x14)) fun x15 => S.bd (pik x12 (.bool Bool.true) x15) fun x16 => S.bd (S.gd x16 false (lal c1 8 2)) fun x17 => S.bd (S.gd x16 false (lal c1 3 2)) fun x18 => S.bd (S.gd x16 false (r09Less.r x17 x18 s)) fun x19 => S.bd (S.gd x16 false (un .not x19)) fun x20 => S.bd (pik x16 (.bool Bool.true) x20) fun x21 => S.bd (S.gd x21 false (lal c1 12 2)) fun x22 => S.bd (S.gd x21 false (r07IsOwner.r x22 s)) fun x23 => S.bd (S.gd x21 false (un .not x23)) fun x24 => S.bd (pik x21 (.bool Bool.true) x24) fun x25 => S.cnd x25 (some ((Value.tuple ⟨[(.pointer none), (.int .i64 130)]⟩), s)) (r13New.t.p1 S c1 s)
def r13New.v (a0 : Value) (s : St) : Option (Value × St) := r13New.t std a0 s
def r13New.w : List Value → St → Option (Value × St)
  | [a0], s => r13New.v a0 s
  | _, _ => none
def r13New.an : An := ⟨52, false, [1], [], [], []⟩
theorem r13New.ok (S : Sig) (a0 : Value) (s : St) : evF S Tryz.prog r13New.ctx r13New.an Tryz.f41 [a0] s = r13New.t S a0 s := by kernel_rfl
theorem r13New.cok : CtxOk Tryz.prog r13New.ctx := .cons r01Right.sound r01Right.can <| .cons r01BeginsQ.sound r01BeginsQ.can <| .cons r03IsKey.sound r03IsKey.can <| .cons r09Less.sound r09Less.can <| .cons r07IsOwner.sound r07IsOwner.can <| .nil
theorem r13New.draws : fnDraws r13New.an Tryz.f41 = true := by kernel_rfl
theorem r13New.can : callOk Tryz.prog 41 = true := by kernel_rfl
theorem r13New.sound : FnOk Tryz.prog 41 (.st r13New.w) := FnOk.st_of (evF_ok r13New.cok mixed (f := 41) (fn := Tryz.f41) (by kernel_rfl) r13New.draws) fun args s r h => by
  unfold r13New.w at h; split at h
  · rw [r13New.ok std]; exact h
  · simp at h
def r15Insert_splice.ctx : Ctx := [(45, .rd r15Insert_list.w), (41, .st r13New.w)]
def r15Insert_splice.t (S : Sig) (a0 a1 : Value) (s : St) : Option (Value × St) :=
  S.bd (bx a1) fun c1 => S.bd (nck a0) fun x2 => S.bd (fld 14 x2) fun x3 => S.bd (ldc s x3) fun x4 => S.bd (nck a0) fun x5 => S.bd (fld 0 x5) fun x6 => S.bd (fld 1 x6) fun x7 => S.bd (lda s 5 x7) fun x8 => S.bd (lal c1 0 5) fun x9 => S.bd (nck a0) fun x10 => S.bd (fld 0 x10) fun x11 => S.bd (fld 11 x11) fun x12 => S.bd (lda s 2 x12) fun x13 => S.bd (r15Insert_list.r a0 x4 s) fun x14 => S.bd (bld [(.int .i64 0), (.int .u64 0), (.int .i64 0), (.int .i64 0), (.int .u64 0), (.int .i64 0), (.int .u64 0), (.int .i64 0), (.int .i64 0), (.int .u64 0), (.int .i64 0), (.int .u64 0), (.int .i64 0), (.int .i64 0)] [(0, 2, x14), (2, 5, x8), (7, 5, x9), (12, 2, x13)]) fun x15 => S.bd (r13New.v x15 s) fun r16 => S.bd (lda r16.2 5 x7) fun x17 => S.cnd (Value.bool (sameV x17 x8)) (S.bd (lda r16.2 2 x12) fun x18 => S.cnd (Value.bool (sameV x18 x13)) (S.bd (xtr 0 r16.1) fun x19 => S.bd (xtr 1 r16.1) fun x20 => S.bd (nck a0) fun x21 => S.bd (fld 17 x21) fun x22 => S.bd (stv r16.2 1 x22 x19) fun s23 => S.bd (nck a0) fun x24 => S.bd (fld 13 x24) fun x25 => S.bd (stv s23 1 x25 (.int .i64 2)) fun s26 => some ((Value.tuple ⟨[]⟩), s26)) (none)) (none)
def r15Insert_splice.v (a0 a1 : Value) (s : St) : Option (Value × St) := r15Insert_splice.t std a0 a1 s
def r15Insert_splice.w : List Value → St → Option (Value × St)
  | [a0, a1], s => r15Insert_splice.v a0 a1 s
  | _, _ => none
def r15Insert_splice.an : An := ⟨32, false, [3], [], [], [(1, [(z4 0 0), (z4 1 0), (z4 2 0), (z4 3 0), (z4 4 0), (z4 5 2), (z4 7 0), (z4 8 0), (z4 9 0), (z4 10 0), (z4 11 2), (z4 12 25), (z4 13 0), (z4 14 0), (z4 15 0), (z4 16 0), (z4 17 2), (z4 6 3), (z4 18 0), (19, 4, [11, 17], []), (z4 20 0), (z4 21 0), (z4 22 0), (z4 23 0), (z4 24 0), (z4 25 4)])]⟩
theorem r15Insert_splice.ok (S : Sig) (a0 a1 : Value) (s : St) : evF S Tryz.prog r15Insert_splice.ctx r15Insert_splice.an Tryz.f93 [a0, a1] s = r15Insert_splice.t S a0 a1 s := by kernel_rfl
theorem r15Insert_splice.cok : CtxOk Tryz.prog r15Insert_splice.ctx := .cons r15Insert_list.sound r15Insert_list.can <| .cons r13New.sound r13New.can <| .nil
theorem r15Insert_splice.draws : fnDraws r15Insert_splice.an Tryz.f93 = true := by kernel_rfl
theorem r15Insert_splice.can : callOk Tryz.prog 93 = true := by kernel_rfl
theorem r15Insert_splice.sound : FnOk Tryz.prog 93 (.st r15Insert_splice.w) := FnOk.st_of (evF_ok r15Insert_splice.cok mixed (f := 93) (fn := Tryz.f93) (by kernel_rfl) r15Insert_splice.draws) fun args s r h => by
  unfold r15Insert_splice.w at h; split at h
  · rw [r15Insert_splice.ok std]; exact h
  · simp at h
def r15Insert_walked.ctx : Ctx := [(50, .st r15Insert_over.w), (80, .rd r03IsKey.w), (81, .rd r09Less.w), (11, .rd r12Head.w), (93, .st r15Insert_splice.w), (45, .rd r15Insert_list.w), (79, .rd r01BeginsQ.w)]
def r15Insert_walked.t.p1 (S : Sig) (c1 : List Value) (c4 : List Value) (s : St) (a0 : Value) : Option (Value × St) :=
  S.bd (lcl c1 0) fun x19 => S.bd (eqb [1] false true x19 (.int .i64 1)) fun x20 => S.bd (S.gd x20 false (lal c4 1 2)) fun x21 => S.bd (S.gd x20 false (r03IsKey.r x21 s)) fun x22 => S.bd (S.gd x20 false (un .not x22)) fun x23 => S.bd (pik x20 (.bool Bool.true) x23) fun x24 => S.bd (S.gd x24 false (lal c4 1 2)) fun x25 => S.bd (S.gd x24 false (some a0)) fun x26 => S.bd (S.gd x24 false (nck x26)) fun x27 => S.bd (S.gd x24 false (fld 18 x27)) fun x28 => S.bd (S.gd x24 false (fld 1 x28)) fun x29 => S.bd (S.gd x24 false (lda s 2 x29)) fun x30 => S.bd (S.gd x24 false (r09Less.r x25 x30 s)) fun x31 => S.bd (S.gd x24 false (un .not x31)) fun x32 => S.bd (pik x24 (.bool Bool.true) x32) fun x33 => S.cnd x33 (S.bd (nck a0) fun x34 => S.bd (fld 0 x34) fun x35 => S.bd (fld 0 x35) fun x36 => S.bd (ldc s x36) fun x37 => S.bd (r12Head.r x37 s) fun x38 => S.bd (r15Insert_splice.v a0 x38 s) fun r39 => some ((Value.tuple ⟨[]⟩), r39.2)) (S.bd (lcl c4 1) fun x40 => S.bd (eqb [1] false false x40 (.int .i64 1)) fun x41 => S.bd (S.gd x41 false (lal c4 3 2)) fun x42 => S.bd (S.gd x41 false (some a0)) fun x43 => S.bd (S.gd x41 false (some a0)) fun x44 => S.bd (S.gd x41 false (nck x44)) fun x45 => S.bd (S.gd x41 false (fld 14 x45)) fun x46 => S.bd (S.gd x41 false (ldc s x46)) fun x47 => S.bd (S.gd x41 false (r15Insert_list.r x43 x47 s)) fun x48 => S.bd (S.gd x41 false (r01BeginsQ.r x42 x48 s)) fun x49 => S.bd (pik x41 (.bool Bool.true) x49) fun x50 => S.cnd x50 (S.bd (lal c4 0 5) fun x51 => S.bd (r15Insert_splice.v a0 x51 s) fun r52 => some ((Value.tuple ⟨[]⟩), r52.2)) (S.bd (lal c4 0 5) fun x53 => S.bd (nck a0) fun x54 => S.bd (fld 18 x54) fun x55 => S.bd (stv s 5 x55 x53) fun s56 => some ((Value.tuple ⟨[]⟩), s56)))
def r15Insert_walked.t (S : Sig) (a0 a1 : Value) (s : St) : Option (Value × St) :=
  S.bd (bx a1) fun c1 => S.bd (lal c1 2 5) fun x2 => S.bd (bx (Go.Value.agg #[(.int .i64 0), (.int .i64 0), (.int .u64 0), (.int .i64 0), (.int .u64 0)])) fun c3 => S.bd (stl c3 0 5 x2) fun c4 => S.bd (lcl c1 0) fun x5 => S.bd (eqb [1] false false x5 (.int .i64 3)) fun x6 => S.bd (S.gd x6 true (some a0)) fun x7 => S.bd (S.gd x6 true (nck x7)) fun x8 => S.bd (S.gd x6 true (fld 18 x8)) fun x9 => S.bd (S.gd x6 true (lda s 5 x9)) fun x10 => S.bd (S.gd x6 true (some a0)) fun x11 => S.bd (S.gd x6 true (nck x11)) fun x12 => S.bd (S.gd x6 true (fld 0 x12)) fun x13 => S.bd (S.gd x6 true (fld 1 x13)) fun x14 => S.bd (S.gd x6 true (lda s 5 x14)) fun x15 => S.bd (S.gd x6 true (eqb [1, 1, 1, 1, 1] true false x10 x15)) fun x16 => S.bd (pik x6 x16 (.bool Bool.false)) fun x17 => S.cnd x17 (S.bd (r15Insert_over.v a0 (.int .i64 132) s) fun r18 => some ((Value.tuple ⟨[]⟩), r18.2)) (r15Insert_walked.t.p1 S c1 c4 s a0)
def r15Insert_walked.v (a0 a1 : Value) (s : St) : Option (Value × St) := r15Insert_walked.t std a0 a1 s
def r15Insert_walked.w : List Value → St → Option (Value × St)
  | [a0, a1], s => r15Insert_walked.v a0 a1 s
  | _, _ => none
def r15Insert_walked.an : An := ⟨77, false, [3, 4], [], [], [(3, [(z4 0 0), (z4 1 25), (z4 2 0), (z4 3 0), (z4 4 0), (z4 5 0), (z4 6 0), (z4 7 2), (z4 8 0), (z4 9 0), (z4 10 0), (z4 11 0), (z4 12 2), (z4 13 0), (z4 14 0), (z4 15 0)]), (5, [(z4 0 0), (z4 1 25), (z4 2 0), (z4 3 0), (z4 4 0), (z4 5 33), (z4 6 3), (z4 7 0), (z4 8 0), (z4 9 0), (z4 10 0), (z4 11 33), (z4 12 0), (z4 13 0), (z4 14 0), (z4 15 0), (z4 16 2), (z4 17 3), (z4 18 0), (z4 19 0), (z4 20 0)]), (7, [(z4 0 0), (z4 1 0), (z4 2 33), (z4 3 0), (z4 4 0), (z4 5 0), (z4 6 33), (z4 7 0), (z4 8 0), (z4 9 0), (z4 10 0), (z4 11 2), (z4 12 3), (z4 13 3), (z4 14 0), (z4 15 0)])]⟩
theorem r15Insert_walked.ok (S : Sig) (a0 a1 : Value) (s : St) : evF S Tryz.prog r15Insert_walked.ctx r15Insert_walked.an Tryz.f49 [a0, a1] s = r15Insert_walked.t S a0 a1 s := by kernel_rfl
theorem r15Insert_walked.cok : CtxOk Tryz.prog r15Insert_walked.ctx := .cons r15Insert_over.sound r15Insert_over.can <| .cons r03IsKey.sound r03IsKey.can <| .cons r09Less.sound r09Less.can <| .cons r12Head.sound r12Head.can <| .cons r15Insert_splice.sound r15Insert_splice.can <| .cons r15Insert_list.sound r15Insert_list.can <| .cons r01BeginsQ.sound r01BeginsQ.can <| .nil
theorem r15Insert_walked.draws : fnDraws r15Insert_walked.an Tryz.f49 = true := by kernel_rfl
theorem r15Insert_walked.can : callOk Tryz.prog 49 = true := by kernel_rfl
theorem r15Insert_walked.sound : FnOk Tryz.prog 49 (.st r15Insert_walked.w) := FnOk.st_of (evF_ok r15Insert_walked.cok mixed (f := 49) (fn := Tryz.f49) (by kernel_rfl) r15Insert_walked.draws) fun args s r h => by
  unfold r15Insert_walked.w at h; split at h
  · rw [r15Insert_walked.ok std]; exact h
  · simp at h
def r15Insert_sought.ctx : Ctx := [(50, .st r15Insert_over.w), (93, .st r15Insert_splice.w)]
def r15Insert_sought.t (S : Sig) (a0 a1 : Value) (s : St) : Option (Value × St) :=
  S.bd (bx a1) fun c1 => S.bd (lcl c1 0) fun x2 => S.bd (eqb [1] false true x2 (.int .i64 0)) fun x3 => S.cnd x3 (S.bd (lcl c1 0) fun x4 => S.bd (r15Insert_over.v a0 x4 s) fun r5 => some ((Value.tuple ⟨[]⟩), r5.2)) (S.bd (nck a0) fun x6 => S.bd (fld 14 x6) fun x7 => S.bd (stv s 1 x7 (.int .i64 0)) fun s8 => S.bd (lal c1 4 5) fun x9 => S.bd (r15Insert_splice.v a0 x9 s8) fun r10 => some ((Value.tuple ⟨[]⟩), r10.2))
def r15Insert_sought.v (a0 a1 : Value) (s : St) : Option (Value × St) := r15Insert_sought.t std a0 a1 s
def r15Insert_sought.w : List Value → St → Option (Value × St)
  | [a0, a1], s => r15Insert_sought.v a0 a1 s
  | _, _ => none
def r15Insert_sought.an : An := ⟨18, false, [3], [], [], []⟩
theorem r15Insert_sought.ok (S : Sig) (a0 a1 : Value) (s : St) : evF S Tryz.prog r15Insert_sought.ctx r15Insert_sought.an Tryz.f94 [a0, a1] s = r15Insert_sought.t S a0 a1 s := by kernel_rfl
theorem r15Insert_sought.cok : CtxOk Tryz.prog r15Insert_sought.ctx := .cons r15Insert_over.sound r15Insert_over.can <| .cons r15Insert_splice.sound r15Insert_splice.can <| .nil
theorem r15Insert_sought.draws : fnDraws r15Insert_sought.an Tryz.f94 = true := by kernel_rfl
theorem r15Insert_sought.can : callOk Tryz.prog 94 = true := by kernel_rfl
theorem r15Insert_sought.sound : FnOk Tryz.prog 94 (.st r15Insert_sought.w) := FnOk.st_of (evF_ok r15Insert_sought.cok mixed (f := 94) (fn := Tryz.f94) (by kernel_rfl) r15Insert_sought.draws) fun args s r h => by
  unfold r15Insert_sought.w at h; split at h
  · rw [r15Insert_sought.ok std]; exact h
  · simp at h
def r15Insert_up.ctx : Ctx := []
def r15Insert_up.t (S : Sig) (a0 : Value) (s : St) : Option (Value × St) :=
  S.bd (nck a0) fun x1 => S.bd (fld 14 x1) fun x2 => S.bd (ldc s x2) fun x3 => S.bd (nck a0) fun x4 => S.bd (fld 0 x4) fun x5 => S.bd (fld 0 x5) fun x6 => S.bd (ldc s x6) fun x7 => S.bd (eqb [1] false false x3 x7) fun x8 => S.cnd x8 (S.bd (nck a0) fun x9 => S.bd (fld 13 x9) fun x10 => S.bd (stv s 1 x10 (.int .i64 4)) fun s11 => some ((Value.tuple ⟨[]⟩), s11)) (S.bd (nck a0) fun x12 => S.bd (fld 14 x12) fun x13 => S.bd (ldc s x13) fun x14 => S.bd (bin .add x14 (.int .i64 1)) fun x15 => S.bd (nck a0) fun x16 => S.bd (fld 14 x16) fun x17 => S.bd (stv s 1 x17 x15) fun s18 => S.bd (nck a0) fun x19 => S.bd (fld 0 x19) fun x20 => S.bd (fld 1 x20) fun x21 => S.bd (lda s18 5 x21) fun x22 => S.bd (nck a0) fun x23 => S.bd (fld 13 x23) fun x24 => S.bd (stv s18 1 x24 (.int .i64 3)) fun s25 => S.bd (nck a0) fun x26 => S.bd (fld 18 x26) fun x27 => S.bd (stv s25 5 x27 x22) fun s28 => some ((Value.tuple ⟨[]⟩), s28))
def r15Insert_up.v (a0 : Value) (s : St) : Option (Value × St) := r15Insert_up.t std a0 s
def r15Insert_up.w : List Value → St → Option (Value × St)
  | [a0], s => r15Insert_up.v a0 s
  | _, _ => none
def r15Insert_up.an : An := ⟨33, false, [], [], [], [(0, [(z4 0 0), (z4 1 0), (z4 2 0), (z4 3 2), (z4 4 0), (z4 5 0), (z4 6 0), (z4 7 0), (z4 8 2), (z4 9 0)])]⟩
theorem r15Insert_up.ok (S : Sig) (a0 : Value) (s : St) : evF S Tryz.prog r15Insert_up.ctx r15Insert_up.an Tryz.f126 [a0] s = r15Insert_up.t S a0 s := by kernel_rfl
theorem r15Insert_up.cok : CtxOk Tryz.prog r15Insert_up.ctx := .nil
theorem r15Insert_up.draws : fnDraws r15Insert_up.an Tryz.f126 = true := by kernel_rfl
theorem r15Insert_up.can : callOk Tryz.prog 126 = true := by kernel_rfl
theorem r15Insert_up.sound : FnOk Tryz.prog 126 (.st r15Insert_up.w) := FnOk.st_of (evF_ok r15Insert_up.cok mixed (f := 126) (fn := Tryz.f126) (by kernel_rfl) r15Insert_up.draws) fun args s r h => by
  unfold r15Insert_up.w at h; split at h
  · rw [r15Insert_up.ok std]; exact h
  · simp at h
def r12Right.ctx : Ctx := [(78, .rd r02Check.w), (26, .rd r01Right.w)]
def r12Right.t (S : Sig) (a0 a1 : Value) (s : St) : Option Value :=
  S.bd (bx a0) fun c1 => S.bd (lal c1 1 2) fun x2 => S.bd (r02Check.r x2 s) fun x3 => S.bd (eqb [1] false false x3 (.int .i64 0)) fun x4 => S.bd (S.gd x4 true (lal c1 3 2)) fun x5 => S.bd (S.gd x4 true (r01Right.r x5 s)) fun x6 => S.bd (pik x4 x6 (.bool Bool.false)) fun x7 => S.bd (S.gd x7 true (lcl c1 3)) fun x8 => S.bd (S.gd x7 true (some a1)) fun x9 => S.bd (S.gd x7 true (eqb [1] false false x8 x9)) fun x10 => S.bd (pik x7 x10 (.bool Bool.false)) fun x11 => some (x11)
def r12Right.r (a0 a1 : Value) (s : St) : Option Value := r12Right.t std a0 a1 s
def r12Right.w : List Value → St → Option Value
  | [a0, a1], s => r12Right.r a0 a1 s
  | _, _ => none
def r12Right.an : An := ⟨21, true, [2], [], [], []⟩
theorem r12Right.ok (S : Sig) (a0 a1 : Value) (s : St) : evG S Tryz.prog r12Right.ctx r12Right.an Tryz.f77 [a0, a1] s = r12Right.t S a0 a1 s := by kernel_rfl
theorem r12Right.cok : CtxOk Tryz.prog r12Right.ctx := .cons r02Check.sound r02Check.can <| .cons r01Right.sound r01Right.can <| .nil
theorem r12Right.draws : fnDraws r12Right.an Tryz.f77 = true := by kernel_rfl
theorem r12Right.can : callOk Tryz.prog 77 = true := by kernel_rfl
theorem r12Right.sound : FnOk Tryz.prog 77 (.rd r12Right.w) := FnOk.rd_of (evG_ok r12Right.cok mixed (f := 77) (fn := Tryz.f77) (by kernel_rfl) r12Right.draws) fun args s r h => by
  unfold r12Right.w at h; split at h
  · rw [r12Right.ok std]; exact h
  · simp at h
def r12New.ctx : Ctx := [(77, .rd r12Right.w), (78, .rd r02Check.w)]
def r12New.t.p1 (S : Sig) (x6 : Value) (x9 : Value) (c1 : List Value) (s : St) : Option (Value × St) :=
  S.bd (S.gd x6 false (un .not x9)) fun x10 => S.bd (pik x6 (.bool Bool.true) x10) fun x11 => S.bd (S.gd x11 false (lal c1 6 2)) fun x12 => S.bd (S.gd x11 false (r02Check.r x12 s)) fun x13 => S.bd (S.gd x11 false (eqb [1] false true x13 (.int .i64 0))) fun x14 => S.bd (pik x11 (.bool Bool.true) x14) fun x15 => S.bd (S.gd x15 false (lcl c1 6)) fun x16 => S.bd (S.gd x15 false (eqb [1] false false x16 (.int .i64 1))) fun x17 => S.bd (pik x15 (.bool Bool.true) x17) fun x18 => S.cnd x18 (some ((Value.tuple ⟨[(.pointer none), (.int .i64 120)]⟩), s)) (S.bd (lal c1 0 8) fun x19 => S.bd (lal c1 1 5) fun x20 => S.bd (lal c1 4 2) fun x21 => S.bd (bld [(.int .i64 0), (.int .i64 0), (.int .i64 0), (.int .u64 0), (.int .i64 0), (.int .u64 0), (.int .i64 0), (.int .u64 0), (.int .i64 0), (.int .i64 0), (.int .u64 0), (.int .i64 0), (.int .u64 0), (.int .i64 0), (.int .u64 0), (.bool Bool.false), (.int .i64 0), (.int .i64 0), (.int .u64 0), (.int .i64 0), (.int .u64 0), (.slice none 0 0), (.int .i64 0), (.bool Bool.false), (.int .i64 0), (.int .u64 0), (.slice none 0 0), (.slice none 0 0), (.int .i64 0), (.int .i64 0), (.int .u64 0), (.int .i64 0), (.int .u64 0), (.int .i64 0), (.int .i64 0), (.int .u64 0), (.int .i64 0), (.int .u64 0), (.bool Bool.false)] [(0, 8, x19), (8, 5, x20), (13, 2, x21)]) fun x22 => S.bd (alv s x22) fun r23 => some ((Value.tuple ⟨[r23.1, (.int .i64 0)]⟩), r23.2))
def r12New.t (S : Sig) (a0 : Value) (s : St) : Option (Value × St) :=
  S.bd (bx a0) fun c1 => S.bd (lcl c1 0) fun x2 => S.bd (bin .lss x2 (.int .i64 0)) fun x3 => S.bd (S.gd x3 false (lcl c1 0)) fun x4 => S.bd (S.gd x3 false (bin .gtr x4 (.int .i64 32))) fun x5 => S.bd (pik x3 (.bool Bool.true) x5) fun x6 => S.bd (S.gd x6 false (lal c1 1 5)) fun x7 => S.bd (S.gd x6 false (lcl c1 0)) fun x8 => S.bd (S.gd x6 false (r12Right.r x7 x8 s)) fun x9 => r12New.t.p1 S x6 x9 c1 s
def r12New.v (a0 : Value) (s : St) : Option (Value × St) := r12New.t std a0 s
def r12New.w : List Value → St → Option (Value × St)
  | [a0], s => r12New.v a0 s
  | _, _ => none
def r12New.an : An := ⟨40, false, [1], [], [], []⟩
theorem r12New.ok (S : Sig) (a0 : Value) (s : St) : evF S Tryz.prog r12New.ctx r12New.an Tryz.f40 [a0] s = r12New.t S a0 s := by kernel_rfl
theorem r12New.cok : CtxOk Tryz.prog r12New.ctx := .cons r12Right.sound r12Right.can <| .cons r02Check.sound r02Check.can <| .nil
theorem r12New.draws : fnDraws r12New.an Tryz.f40 = true := by kernel_rfl
theorem r12New.can : callOk Tryz.prog 40 = true := by kernel_rfl
theorem r12New.sound : FnOk Tryz.prog 40 (.st r12New.w) := FnOk.st_of (evF_ok r12New.cok mixed (f := 40) (fn := Tryz.f40) (by kernel_rfl) r12New.draws) fun args s r h => by
  unfold r12New.w at h; split at h
  · rw [r12New.ok std]; exact h
  · simp at h
def r15Insert_spliced.ctx : Ctx := [(126, .st r15Insert_up.w), (50, .st r15Insert_over.w), (11, .rd r12Head.w), (93, .st r15Insert_splice.w), (40, .st r12New.w)]
def r15Insert_spliced.t.p1 (S : Sig) (a0 : Value) (s : St) : Option (Value × St) :=
  S.bd (nck a0) fun x19 => S.bd (fld 14 x19) fun x20 => S.bd (ldc s x20) fun x21 => S.bd (bin .gtr x21 (.int .i64 0)) fun x22 => S.cnd x22 (S.bd (nck a0) fun x23 => S.bd (fld 0 x23) fun x24 => S.bd (fld 0 x24) fun x25 => S.bd (ldc s x25) fun x26 => S.bd (r12Head.r x26 s) fun x27 => S.bd (r15Insert_splice.v a0 x27 s) fun r28 => some ((Value.tuple ⟨[]⟩), r28.2)) (S.bd (nck a0) fun x29 => S.bd (fld 15 x29) fun x30 => S.bd (ldc s x30) fun x31 => S.bd (bin .geq x31 (.int .i64 64)) fun x32 => S.cnd x32 (S.bd (r15Insert_over.v a0 (.int .i64 121) s) fun r33 => some ((Value.tuple ⟨[]⟩), r33.2)) (S.bd (nck a0) fun x34 => S.bd (fld 15 x34) fun x35 => S.bd (ldc s x35) fun x36 => S.bd (bin .add x36 (.int .i64 1)) fun x37 => S.bd (nck a0) fun x38 => S.bd (fld 15 x38) fun x39 => S.bd (stv s 1 x39 x37) fun s40 => S.bd (nck a0) fun x41 => S.bd (fld 0 x41) fun x42 => S.bd (fld 0 x42) fun x43 => S.bd (ldc s40 x43) fun x44 => S.bd (nck a0) fun x45 => S.bd (fld 0 x45) fun x46 => S.bd (fld 0 x46) fun x47 => S.bd (ldc s40 x47) fun x48 => S.bd (nck a0) fun x49 => S.bd (fld 0 x49) fun x50 => S.bd (fld 1 x50) fun x51 => S.bd (fld 1 x51) fun x52 => S.bd (lda s40 2 x52) fun x53 => S.bd (r12Head.r x48 s40) fun x54 => S.bd (bld [(.int .i64 0), (.int .i64 0), (.int .i64 0), (.int .u64 0), (.int .i64 0), (.int .u64 0), (.int .i64 0), (.int .u64 0)] [(0, 1, x44), (1, 5, x54), (6, 2, x53)]) fun x55 => S.bd (r12New.v x55 s40) fun r56 => S.bd (ldc r56.2 x43) fun x57 => S.cnd (Value.bool (sameV x57 x44)) (S.bd (lda r56.2 2 x52) fun x58 => S.cnd (Value.bool (sameV x58 x53)) (S.bd (xtr 0 r56.1) fun x59 => S.bd (xtr 1 r56.1) fun x60 => S.bd (nck a0) fun x61 => S.bd (fld 16 x61) fun x62 => S.bd (stv r56.2 1 x62 x59) fun s63 => S.bd (nck a0) fun x64 => S.bd (fld 13 x64) fun x65 => S.bd (stv s63 1 x65 (.int .i64 1)) fun s66 => some ((Value.tuple ⟨[]⟩), s66)) (none)) (none)))
def r15Insert_spliced.t (S : Sig) (a0 a1 : Value) (s : St) : Option (Value × St) :=
  S.bd (bx a1) fun c1 => S.bd (lcl c1 0) fun x2 => S.bd (eqb [1] false false x2 (.int .i64 0)) fun x3 => S.bd (S.gd x3 false (lcl c1 0)) fun x4 => S.bd (S.gd x3 false (eqb [1] false false x4 (.int .i64 133))) fun x5 => S.bd (S.gd x3 false (some x5)) fun x6 => S.bd (S.gd x6 true (some a0)) fun x7 => S.bd (S.gd x6 true (nck x7)) fun x8 => S.bd (S.gd x6 true (fld 14 x8)) fun x9 => S.bd (S.gd x6 true (ldc s x9)) fun x10 => S.bd (S.gd x6 true (bin .gtr x10 (.int .i64 0))) fun x11 => S.bd (S.gd x3 false (pik x6 x11 (.bool Bool.false))) fun x12 => S.bd (pik x3 (.bool Bool.true) x12) fun x13 => S.cnd x13 (S.bd (r15Insert_up.v a0 s) fun r14 => some ((Value.tuple ⟨[]⟩), r14.2)) (S.bd (lcl c1 0) fun x15 => S.bd (eqb [1] false true x15 (.int .i64 131)) fun x16 => S.cnd x16 (S.bd (lcl c1 0) fun x17 => S.bd (r15Insert_over.v a0 x17 s) fun r18 => some ((Value.tuple ⟨[]⟩), r18.2)) (r15Insert_spliced.t.p1 S a0 s))
def r15Insert_spliced.v (a0 a1 : Value) (s : St) : Option (Value × St) := r15Insert_spliced.t std a0 a1 s
def r15Insert_spliced.w : List Value → St → Option (Value × St)
  | [a0, a1], s => r15Insert_spliced.v a0 a1 s
  | _, _ => none
def r15Insert_spliced.an : An := ⟨87, false, [3], [], [], [(2, [(z4 0 0), (z4 1 0), (z4 2 0), (z4 3 0), (z4 4 0), (z4 5 2), (z4 6 0), (z4 7 0), (z4 8 0), (z4 9 0), (z4 10 2), (z4 12 0), (z4 13 0), (z4 14 0), (z4 15 0), (z4 16 0), (z4 17 2), (z4 11 3), (z4 18 0), (19, 4, [5, 17], []), (z4 20 0), (z4 21 0), (z4 22 0), (z4 23 0), (z4 24 0), (z4 25 4)])]⟩
theorem r15Insert_spliced.ok (S : Sig) (a0 a1 : Value) (s : St) : evF S Tryz.prog r15Insert_spliced.ctx r15Insert_spliced.an Tryz.f95 [a0, a1] s = r15Insert_spliced.t S a0 a1 s := by kernel_rfl
theorem r15Insert_spliced.cok : CtxOk Tryz.prog r15Insert_spliced.ctx := .cons r15Insert_up.sound r15Insert_up.can <| .cons r15Insert_over.sound r15Insert_over.can <| .cons r12Head.sound r12Head.can <| .cons r15Insert_splice.sound r15Insert_splice.can <| .cons r12New.sound r12New.can <| .nil
theorem r15Insert_spliced.draws : fnDraws r15Insert_spliced.an Tryz.f95 = true := by kernel_rfl
theorem r15Insert_spliced.can : callOk Tryz.prog 95 = true := by kernel_rfl
theorem r15Insert_spliced.sound : FnOk Tryz.prog 95 (.st r15Insert_spliced.w) := FnOk.st_of (evF_ok r15Insert_spliced.cok mixed (f := 95) (fn := Tryz.f95) (by kernel_rfl) r15Insert_spliced.draws) fun args s r h => by
  unfold r15Insert_spliced.w at h; split at h
  · rw [r15Insert_spliced.ok std]; exact h
  · simp at h
def r15Insert_settle.ctx : Ctx := [(43, .rd r12Seek_Next.w), (94, .st r15Insert_sought.w), (44, .rd r13Splice_Next.w), (95, .st r15Insert_spliced.w)]
def r15Insert_settle.t (S : Sig) (a0 : Value) (s : St) : Option (Value × St) :=
  S.bd (show Option Cut from S.bd (nck a0) fun x15 => S.bd (fld 13 x15) fun x16 => S.bd (ldc s x16) fun x17 => S.bd (eqb [1] false false x17 (.int .i64 1)) fun x18 => S.cnd x18 (S.bd (nck a0) fun x19 => S.bd (fld 16 x19) fun x20 => S.bd (ldc s x20) fun x21 => S.bd (r12Seek_Next.r x21 s) fun x22 => S.bd (bx (Go.Value.agg #[(.int .i64 0), (.int .i64 0), (.int .i64 0), (.int .u64 0), (.int .i64 0), (.int .u64 0), (.int .i64 0), (.int .i64 0), (.int .u64 0), (.int .i64 0), (.int .i64 0), (.int .u64 0), (.int .i64 0), (.int .u64 0), (.int .i64 0), (.int .i64 0), (.int .u64 0), (.int .i64 0), (.int .u64 0), (.int .i64 0), (.int .i64 0), (.int .i64 0), (.int .u64 0), (.slice none 0 0), (.slice none 0 0), (.int .i64 0), (.int .i64 0), (.int .u64 0), (.int .i64 0), (.int .u64 0), (.int .i64 0), (.int .i64 0), (.int .u64 0), (.int .i64 0), (.int .u64 0), (.bool Bool.false)])) fun c23 => S.bd (stl c23 0 36 x22) fun c24 => S.bd (lcl c24 0) fun x25 => S.bd (eqb [1] false false x25 (.int .i64 3)) fun x26 => S.cnd x26 (S.bd (lal c24 21 15) fun x27 => S.bd (r15Insert_sought.v a0 x27 s) fun r28 => some (0, [a0], r28.2)) (some (0, [a0], s))) (some (0, [a0], s))) fun r29 => S.bd (nck (r29.2.1.getD 0 undef)) fun x30 => S.bd (fld 13 x30) fun x31 => S.bd (ldc r29.2.2 x31) fun x32 => S.bd (eqb [1] false false x32 (.int .i64 2)) fun x33 => S.cnd x33 (S.bd (nck (r29.2.1.getD 0 undef)) fun x34 => S.bd (fld 17 x34) fun x35 => S.bd (ldc r29.2.2 x35) fun x36 => S.bd (r13Splice_Next.r x36 r29.2.2) fun x37 => S.bd (bx (Go.Value.agg #[(.int .i64 0), (.int .i64 0), (.int .i64 0), (.int .u64 0), (.int .i64 0), (.int .u64 0), (.int .i64 0), (.int .i64 0), (.int .u64 0), (.int .i64 0), (.int .i64 0), (.int .u64 0), (.int .i64 0), (.int .u64 0), (.int .i64 0), (.int .i64 0), (.int .u64 0), (.int .i64 0), (.int .u64 0), (.int .i64 0), (.int .i64 0), (.int .i64 0), (.int .u64 0), (.slice none 0 0), (.slice none 0 0), (.int .i64 0), (.int .i64 0), (.int .u64 0), (.int .i64 0), (.int .u64 0), (.int .i64 0), (.int .i64 0), (.int .u64 0), (.int .i64 0), (.int .u64 0), (.bool Bool.false)])) fun c38 => S.bd (stl c38 0 36 x37) fun c39 => S.bd (lcl c39 0) fun x40 => S.bd (eqb [1] false false x40 (.int .i64 3)) fun x41 => S.cnd x41 (S.bd (lal c39 21 15) fun x42 => S.bd (r15Insert_spliced.v (r29.2.1.getD 0 undef) x42 r29.2.2) fun r43 => some ((Value.tuple ⟨[]⟩), r43.2)) (some ((Value.tuple ⟨[]⟩), r29.2.2))) (some ((Value.tuple ⟨[]⟩), r29.2.2))
def r15Insert_settle.v (a0 : Value) (s : St) : Option (Value × St) := r15Insert_settle.t std a0 s
def r15Insert_settle.w : List Value → St → Option (Value × St)
  | [a0], s => r15Insert_settle.v a0 s
  | _, _ => none
def r15Insert_settle.an : An := ⟨38, false, [2, 3], [], [(4, ⟨[], [(.normal, [.v 0])]⟩)], []⟩
theorem r15Insert_settle.ok (S : Sig) (a0 : Value) (s : St) : evF S Tryz.prog r15Insert_settle.ctx r15Insert_settle.an Tryz.f51 [a0] s = r15Insert_settle.t S a0 s := by kernel_rfl
theorem r15Insert_settle.cok : CtxOk Tryz.prog r15Insert_settle.ctx := .cons r12Seek_Next.sound r12Seek_Next.can <| .cons r15Insert_sought.sound r15Insert_sought.can <| .cons r13Splice_Next.sound r13Splice_Next.can <| .cons r15Insert_spliced.sound r15Insert_spliced.can <| .nil
theorem r15Insert_settle.draws : fnDraws r15Insert_settle.an Tryz.f51 = true := by kernel_rfl
theorem r15Insert_settle.can : callOk Tryz.prog 51 = true := by kernel_rfl
theorem r15Insert_settle.sound : FnOk Tryz.prog 51 (.st r15Insert_settle.w) := FnOk.st_of (evF_ok r15Insert_settle.cok mixed (f := 51) (fn := Tryz.f51) (by kernel_rfl) r15Insert_settle.draws) fun args s r h => by
  unfold r15Insert_settle.w at h; split at h
  · rw [r15Insert_settle.ok std]; exact h
  · simp at h
def r15Insert_Tell.ctx : Ctx := [(47, .st r12Seek_Tell.w), (51, .st r15Insert_settle.w), (48, .st r13Splice_Tell.w), (49, .st r15Insert_walked.w), (50, .st r15Insert_over.w)]
def r15Insert_Tell.t (S : Sig) (a0 a1 : Value) (s : St) : Option (Value × St) :=
  S.bd (bx a1) fun c1 => S.bd (nck a0) fun x2 => S.bd (fld 13 x2) fun x3 => S.bd (ldc s x3) fun x4 => S.bd (eqb [1] false false x4 (.int .i64 1)) fun x5 => S.cnd x5 (S.bd (nck a0) fun x6 => S.bd (fld 16 x6) fun x7 => S.bd (ldc s x7) fun x8 => S.bd (lal c1 0 13) fun x9 => S.bd (r12Seek_Tell.v x8 x9 s) fun r10 => S.bd (r15Insert_settle.v a0 r10.2) fun r11 => some ((Value.tuple ⟨[]⟩), r11.2)) (S.bd (eqb [1] false false x4 (.int .i64 2)) fun x12 => S.cnd x12 (S.bd (nck a0) fun x13 => S.bd (fld 17 x13) fun x14 => S.bd (ldc s x14) fun x15 => S.bd (lal c1 0 13) fun x16 => S.bd (r13Splice_Tell.v x15 x16 s) fun r17 => S.bd (r15Insert_settle.v a0 r17.2) fun r18 => some ((Value.tuple ⟨[]⟩), r18.2)) (S.bd (eqb [1] false false x4 (.int .i64 3)) fun x19 => S.cnd x19 (S.bd (lal c1 0 13) fun x20 => S.bd (r15Insert_walked.v a0 x20 s) fun r21 => S.bd (r15Insert_settle.v a0 r21.2) fun r22 => some ((Value.tuple ⟨[]⟩), r22.2)) (S.bd (eqb [1] false false x4 (.int .i64 4)) fun x23 => S.cnd x23 (S.bd (lcl c1 0) fun x24 => S.bd (eqb [1] false false x24 (.int .i64 3)) fun x25 => S.cnd x25 (S.bd (r15Insert_over.v a0 (.int .i64 132) s) fun r26 => S.bd (r15Insert_settle.v a0 r26.2) fun r27 => some ((Value.tuple ⟨[]⟩), r27.2)) (S.bd (r15Insert_over.v a0 (.int .i64 0) s) fun r28 => S.bd (r15Insert_settle.v a0 r28.2) fun r29 => some ((Value.tuple ⟨[]⟩), r29.2))) (some ((Value.tuple ⟨[]⟩), s)))))
def r15Insert_Tell.v (a0 a1 : Value) (s : St) : Option (Value × St) := r15Insert_Tell.t std a0 a1 s
def r15Insert_Tell.w : List Value → St → Option (Value × St)
  | [a0, a1], s => r15Insert_Tell.v a0 a1 s
  | _, _ => none
def r15Insert_Tell.an : An := ⟨40, false, [3], [], [], [(3, [(z4 0 0), (z4 1 0), (z4 2 0), (z4 3 2), (z4 4 25), (z4 5 4)]), (5, [(z4 0 0), (z4 1 0), (z4 2 0), (z4 3 2), (z4 4 25), (z4 5 4)])]⟩
theorem r15Insert_Tell.ok (S : Sig) (a0 a1 : Value) (s : St) : evF S Tryz.prog r15Insert_Tell.ctx r15Insert_Tell.an Tryz.f24 [a0, a1] s = r15Insert_Tell.t S a0 a1 s := by kernel_rfl
theorem r15Insert_Tell.cok : CtxOk Tryz.prog r15Insert_Tell.ctx := .cons r12Seek_Tell.sound r12Seek_Tell.can <| .cons r15Insert_settle.sound r15Insert_settle.can <| .cons r13Splice_Tell.sound r13Splice_Tell.can <| .cons r15Insert_walked.sound r15Insert_walked.can <| .cons r15Insert_over.sound r15Insert_over.can <| .nil
theorem r15Insert_Tell.draws : fnDraws r15Insert_Tell.an Tryz.f24 = true := by kernel_rfl
theorem r15Insert_Tell.can : callOk Tryz.prog 24 = true := by kernel_rfl
theorem r15Insert_Tell.sound : FnOk Tryz.prog 24 (.st r15Insert_Tell.w) := FnOk.st_of (evF_ok r15Insert_Tell.cok mixed (f := 24) (fn := Tryz.f24) (by kernel_rfl) r15Insert_Tell.draws) fun args s r h => by
  unfold r15Insert_Tell.w at h; split at h
  · rw [r15Insert_Tell.ok std]; exact h
  · simp at h
def kS_is.ctx : Ctx := []
def kS_is.t (S : Sig) (a0 : Value) (s : St) : Option Value :=
  S.bd (eqb [3] false true a0 (.pointer none)) fun x1 => S.bd (S.gd x1 true (some a0)) fun x2 => S.bd (S.gd x1 true (nck x2)) fun x3 => S.bd (S.gd x1 true (fld 8 x3)) fun x4 => S.bd (S.gd x1 true (ldc s x4)) fun x5 => S.bd (pik x1 x5 (.bool Bool.false)) fun x6 => some (x6)
def kS_is.r (a0 : Value) (s : St) : Option Value := kS_is.t std a0 s
def kS_is.w : List Value → St → Option Value
  | [a0], s => kS_is.r a0 s
  | _, _ => none
def kS_is.an : An := ⟨11, true, [], [], [], []⟩
theorem kS_is.ok (S : Sig) (a0 : Value) (s : St) : evG S Tryz.prog kS_is.ctx kS_is.an Tryz.f159 [a0] s = kS_is.t S a0 s := by kernel_rfl
theorem kS_is.cok : CtxOk Tryz.prog kS_is.ctx := .nil
theorem kS_is.draws : fnDraws kS_is.an Tryz.f159 = true := by kernel_rfl
theorem kS_is.can : callOk Tryz.prog 159 = true := by kernel_rfl
theorem kS_is.sound : FnOk Tryz.prog 159 (.rd kS_is.w) := FnOk.rd_of (evG_ok kS_is.cok mixed (f := 159) (fn := Tryz.f159) (by kernel_rfl) kS_is.draws) fun args s r h => by
  unfold kS_is.w at h; split at h
  · rw [kS_is.ok std]; exact h
  · simp at h
def kS_Next.ctx : Ctx := [(159, .rd kS_is.w)]
def kS_Next.t.p1 (S : Sig) (r35 : Cut) (x38 : Value) (x36 : Value) : Option Value :=
  S.bd (lda r35.2.2 2 x38) fun x39 => S.bd (bld [(.int .i64 0), (.int .i64 0), (.int .u64 0), (.int .i64 0), (.int .i64 0), (.int .u64 0), (.int .i64 0), (.int .u64 0), (.int .i64 0), (.int .i64 0), (.int .u64 0), (.int .i64 0), (.int .u64 0), (.int .i64 0), (.int .i64 0)] [(0, 1, (.int .i64 1)), (1, 2, x39)]) fun x40 => S.bd (bld [(.int .i64 0), (.int .i64 0), (.int .i64 0), (.int .u64 0), (.int .i64 0), (.int .u64 0), (.int .i64 0), (.int .i64 0), (.int .u64 0), (.int .i64 0), (.int .i64 0), (.int .u64 0), (.int .i64 0), (.int .u64 0), (.int .i64 0), (.int .i64 0), (.int .u64 0), (.int .i64 0), (.int .u64 0), (.int .i64 0), (.int .i64 0), (.int .i64 0), (.int .u64 0), (.slice none 0 0), (.slice none 0 0), (.int .i64 0), (.int .i64 0), (.int .u64 0), (.int .i64 0), (.int .u64 0), (.int .i64 0), (.int .i64 0), (.int .u64 0), (.int .i64 0), (.int .u64 0), (.bool Bool.false)] [(0, 1, (.int .i64 1)), (1, 5, x36), (6, 15, x40)]) fun x41 => S.bd (stl (cellsA (r35.2.1.getD 1 undef)) 0 36 x41) fun c42 => S.bd (lal c42 0 36) fun x43 => some (x43)
def kS_Next.t.p2 (S : Sig) (a0 : Value) (s : St) (c1 : List Value) : Option Value :=
  S.bd (nck a0) fun x7 => S.bd (fld 24 x7) fun x8 => S.bd (ldc s x8) fun x9 => S.cnd x9 (S.bd (nck a0) fun x10 => S.bd (fld 25 x10) fun x11 => S.bd (lda s 15 x11) fun x12 => S.bd (bld [(.int .i64 0), (.int .i64 0), (.int .i64 0), (.int .u64 0), (.int .i64 0), (.int .u64 0), (.int .i64 0), (.int .i64 0), (.int .u64 0), (.int .i64 0), (.int .i64 0), (.int .u64 0), (.int .i64 0), (.int .u64 0), (.int .i64 0), (.int .i64 0), (.int .u64 0), (.int .i64 0), (.int .u64 0), (.int .i64 0), (.int .i64 0), (.int .i64 0), (.int .u64 0), (.slice none 0 0), (.slice none 0 0), (.int .i64 0), (.int .i64 0), (.int .u64 0), (.int .i64 0), (.int .u64 0), (.int .i64 0), (.int .i64 0), (.int .u64 0), (.int .i64 0), (.int .u64 0), (.bool Bool.false)] [(0, 1, (.int .i64 3)), (21, 15, x12)]) fun x13 => S.bd (stl c1 0 36 x13) fun c14 => S.bd (lal c14 0 36) fun x15 => some (x15)) (S.bd (nck a0) fun x16 => S.bd (fld 9 x16) fun x17 => S.bd (lda s 5 x17) fun x18 => S.bd (bx (Go.Value.agg #[(.int .i64 0), (.int .i64 0), (.int .u64 0), (.int .i64 0), (.int .u64 0)])) fun c19 => S.bd (stl c19 0 5 x18) fun c20 => S.bd (show Option Cut from S.bd (nck a0) fun x28 => S.bd (fld 16 x28) fun x29 => S.bd (ldc s x29) fun x30 => S.cnd x30 (S.bd (nck a0) fun x31 => S.bd (fld 17 x31) fun x32 => S.bd (lda s 5 x32) fun x33 => S.bd (stl c20 0 5 x33) fun c34 => some (0, [a0, (Value.agg ⟨c1⟩), (Value.agg ⟨c34⟩)], s)) (some (0, [a0, (Value.agg ⟨c1⟩), (Value.agg ⟨c20⟩)], s))) fun r35 => S.bd (lal (cellsA (r35.2.1.getD 2 undef)) 0 5) fun x36 => S.bd (nck (r35.2.1.getD 0 undef)) fun x37 => S.bd (fld 14 x37) fun x38 => kS_Next.t.p1 S r35 x38 x36)
def kS_Next.t (S : Sig) (a0 : Value) (s : St) : Option Value :=
  S.bd (bx (Go.Value.agg #[(.int .i64 0), (.int .i64 0), (.int .i64 0), (.int .u64 0), (.int .i64 0), (.int .u64 0), (.int .i64 0), (.int .i64 0), (.int .u64 0), (.int .i64 0), (.int .i64 0), (.int .u64 0), (.int .i64 0), (.int .u64 0), (.int .i64 0), (.int .i64 0), (.int .u64 0), (.int .i64 0), (.int .u64 0), (.int .i64 0), (.int .i64 0), (.int .i64 0), (.int .u64 0), (.slice none 0 0), (.slice none 0 0), (.int .i64 0), (.int .i64 0), (.int .u64 0), (.int .i64 0), (.int .u64 0), (.int .i64 0), (.int .i64 0), (.int .u64 0), (.int .i64 0), (.int .u64 0), (.bool Bool.false)])) fun c1 => S.bd (kS_is.r a0 s) fun x2 => S.bd (un .not x2) fun x3 => S.cnd x3 (S.bd (bld [(.int .i64 0), (.int .i64 0), (.int .i64 0), (.int .u64 0), (.int .i64 0), (.int .u64 0), (.int .i64 0), (.int .i64 0), (.int .u64 0), (.int .i64 0), (.int .i64 0), (.int .u64 0), (.int .i64 0), (.int .u64 0), (.int .i64 0), (.int .i64 0), (.int .u64 0), (.int .i64 0), (.int .u64 0), (.int .i64 0), (.int .i64 0), (.int .i64 0), (.int .u64 0), (.slice none 0 0), (.slice none 0 0), (.int .i64 0), (.int .i64 0), (.int .u64 0), (.int .i64 0), (.int .u64 0), (.int .i64 0), (.int .i64 0), (.int .u64 0), (.int .i64 0), (.int .u64 0), (.bool Bool.false)] []) fun x4 => S.bd (stl c1 0 36 x4) fun c5 => S.bd (lal c5 0 36) fun x6 => some (x6)) (kS_Next.t.p2 S a0 s c1)
def kS_Next.r (a0 : Value) (s : St) : Option Value := kS_Next.t std a0 s
def kS_Next.w : List Value → St → Option Value
  | [a0], s => kS_Next.r a0 s
  | _, _ => none
def kS_Next.an : An := ⟨36, true, [2, 3], [], [(8, ⟨[], [(.normal, [.v 0, .p 2 2 0, .p 3 3 0, .l 2, .l 3])]⟩)], [(8, [(z4 0 25), (z4 1 0), (z4 2 0), (z4 3 0), (z4 4 2), (z4 5 0), (z4 6 0), (z4 7 21)])]⟩
theorem kS_Next.ok (S : Sig) (a0 : Value) (s : St) : evG S Tryz.prog kS_Next.ctx kS_Next.an Tryz.f156 [a0] s = kS_Next.t S a0 s := by kernel_rfl
theorem kS_Next.cok : CtxOk Tryz.prog kS_Next.ctx := .cons kS_is.sound kS_is.can <| .nil
theorem kS_Next.draws : fnDraws kS_Next.an Tryz.f156 = true := by kernel_rfl
theorem kS_Next.can : callOk Tryz.prog 156 = true := by kernel_rfl
theorem kS_Next.sound : FnOk Tryz.prog 156 (.rd kS_Next.w) := FnOk.rd_of (evG_ok kS_Next.cok mixed (f := 156) (fn := Tryz.f156) (by kernel_rfl) kS_Next.draws) fun args s r h => by
  unfold kS_Next.w at h; split at h
  · rw [kS_Next.ok std]; exact h
  · simp at h
def key_Check.ctx : Ctx := []
def key_Check.t (S : Sig) (a0 : Value) (s : St) : Option Value :=
  S.bd (bx a0) fun c1 => S.bd (lcl c1 0) fun x2 => S.bd (eqb [1] false false x2 (.int .i64 2)) fun x3 => S.bd (S.gd x3 false (lcl c1 0)) fun x4 => S.bd (S.gd x3 false (eqb [1] false false x4 (.int .i64 1))) fun x5 => S.bd (S.gd x3 false (some x5)) fun x6 => S.bd (S.gd x6 false (lcl c1 0)) fun x7 => S.bd (S.gd x6 false (eqb [1] false false x7 (.int .i64 3))) fun x8 => S.bd (S.gd x3 false (pik x6 (.bool Bool.true) x8)) fun x9 => S.bd (S.gd x3 false (some x9)) fun x10 => S.bd (S.gd x10 true (lcl c1 1)) fun x11 => S.bd (S.gd x10 true (eqb [1] false false x11 (.int .u64 0))) fun x12 => S.bd (S.gd x3 false (pik x10 x12 (.bool Bool.false))) fun x13 => S.bd (pik x3 (.bool Bool.true) x13) fun x14 => S.cnd x14 (some ((.int .i64 0))) (some ((.int .i64 20)))
def key_Check.r (a0 : Value) (s : St) : Option Value := key_Check.t std a0 s
def key_Check.w : List Value → St → Option Value
  | [a0], s => key_Check.r a0 s
  | _, _ => none
def key_Check.an : An := ⟨21, true, [1], [], [], []⟩
theorem key_Check.ok (S : Sig) (a0 : Value) (s : St) : evG S Tryz.prog key_Check.ctx key_Check.an Tryz.f56 [a0] s = key_Check.t S a0 s := by kernel_rfl
theorem key_Check.cok : CtxOk Tryz.prog key_Check.ctx := .nil
theorem key_Check.draws : fnDraws key_Check.an Tryz.f56 = true := by kernel_rfl
theorem key_Check.can : callOk Tryz.prog 56 = true := by kernel_rfl
theorem key_Check.sound : FnOk Tryz.prog 56 (.rd key_Check.w) := FnOk.rd_of (evG_ok key_Check.cok mixed (f := 56) (fn := Tryz.f56) (by kernel_rfl) key_Check.draws) fun args s r h => by
  unfold key_Check.w at h; split at h
  · rw [key_Check.ok std]; exact h
  · simp at h
def cmp_isNaN_api_Rank.ctx : Ctx := []
def cmp_isNaN_api_Rank.t (S : Sig) (a0 : Value) (s : St) : Option Value :=
  S.bd (eqb [1] false true a0 a0) fun x1 => some (x1)
def cmp_isNaN_api_Rank.r (a0 : Value) (s : St) : Option Value := cmp_isNaN_api_Rank.t std a0 s
def cmp_isNaN_api_Rank.w : List Value → St → Option Value
  | [a0], s => cmp_isNaN_api_Rank.r a0 s
  | _, _ => none
def cmp_isNaN_api_Rank.an : An := ⟨6, true, [], [], [], []⟩
theorem cmp_isNaN_api_Rank.ok (S : Sig) (a0 : Value) (s : St) : evG S Tryz.prog cmp_isNaN_api_Rank.ctx cmp_isNaN_api_Rank.an Tryz.f137 [a0] s = cmp_isNaN_api_Rank.t S a0 s := by kernel_rfl
theorem cmp_isNaN_api_Rank.cok : CtxOk Tryz.prog cmp_isNaN_api_Rank.ctx := .nil
theorem cmp_isNaN_api_Rank.draws : fnDraws cmp_isNaN_api_Rank.an Tryz.f137 = true := by kernel_rfl
theorem cmp_isNaN_api_Rank.can : callOk Tryz.prog 137 = true := by kernel_rfl
theorem cmp_isNaN_api_Rank.sound : FnOk Tryz.prog 137 (.rd cmp_isNaN_api_Rank.w) := FnOk.rd_of (evG_ok cmp_isNaN_api_Rank.cok mixed (f := 137) (fn := Tryz.f137) (by kernel_rfl) cmp_isNaN_api_Rank.draws) fun args s r h => by
  unfold cmp_isNaN_api_Rank.w at h; split at h
  · rw [cmp_isNaN_api_Rank.ok std]; exact h
  · simp at h
def cmp_Compare_api_Rank.ctx : Ctx := [(137, .rd cmp_isNaN_api_Rank.w)]
def cmp_Compare_api_Rank.t (S : Sig) (a0 a1 : Value) (s : St) : Option Value :=
  S.bd (cmp_isNaN_api_Rank.r a0 s) fun x1 => S.bd (cmp_isNaN_api_Rank.r a1 s) fun x2 => S.cnd x1 (S.cnd x2 (some ((.int .i64 0))) (some ((.int .i64 (-1))))) (S.cnd x2 (some ((.int .i64 1))) (S.bd (bin .lss a0 a1) fun x3 => S.cnd x3 (some ((.int .i64 (-1)))) (S.bd (bin .gtr a0 a1) fun x4 => S.cnd x4 (some ((.int .i64 1))) (some ((.int .i64 0))))))
def cmp_Compare_api_Rank.r (a0 a1 : Value) (s : St) : Option Value := cmp_Compare_api_Rank.t std a0 a1 s
def cmp_Compare_api_Rank.w : List Value → St → Option Value
  | [a0, a1], s => cmp_Compare_api_Rank.r a0 a1 s
  | _, _ => none
def cmp_Compare_api_Rank.an : An := ⟨20, true, [], [], [], []⟩
theorem cmp_Compare_api_Rank.ok (S : Sig) (a0 a1 : Value) (s : St) : evG S Tryz.prog cmp_Compare_api_Rank.ctx cmp_Compare_api_Rank.an Tryz.f132 [a0, a1] s = cmp_Compare_api_Rank.t S a0 a1 s := by kernel_rfl
theorem cmp_Compare_api_Rank.cok : CtxOk Tryz.prog cmp_Compare_api_Rank.ctx := .cons cmp_isNaN_api_Rank.sound cmp_isNaN_api_Rank.can <| .nil
theorem cmp_Compare_api_Rank.draws : fnDraws cmp_Compare_api_Rank.an Tryz.f132 = true := by kernel_rfl
theorem cmp_Compare_api_Rank.can : callOk Tryz.prog 132 = true := by kernel_rfl
theorem cmp_Compare_api_Rank.sound : FnOk Tryz.prog 132 (.rd cmp_Compare_api_Rank.w) := FnOk.rd_of (evG_ok cmp_Compare_api_Rank.cok mixed (f := 132) (fn := Tryz.f132) (by kernel_rfl) cmp_Compare_api_Rank.draws) fun args s r h => by
  unfold cmp_Compare_api_Rank.w at h; split at h
  · rw [cmp_Compare_api_Rank.ok std]; exact h
  · simp at h
def cmp_isNaN_uint64.ctx : Ctx := []
def cmp_isNaN_uint64.t (S : Sig) (a0 : Value) (s : St) : Option Value :=
  S.bd (eqb [1] false true a0 a0) fun x1 => some (x1)
def cmp_isNaN_uint64.r (a0 : Value) (s : St) : Option Value := cmp_isNaN_uint64.t std a0 s
def cmp_isNaN_uint64.w : List Value → St → Option Value
  | [a0], s => cmp_isNaN_uint64.r a0 s
  | _, _ => none
def cmp_isNaN_uint64.an : An := ⟨6, true, [], [], [], []⟩
theorem cmp_isNaN_uint64.ok (S : Sig) (a0 : Value) (s : St) : evG S Tryz.prog cmp_isNaN_uint64.ctx cmp_isNaN_uint64.an Tryz.f138 [a0] s = cmp_isNaN_uint64.t S a0 s := by kernel_rfl
theorem cmp_isNaN_uint64.cok : CtxOk Tryz.prog cmp_isNaN_uint64.ctx := .nil
theorem cmp_isNaN_uint64.draws : fnDraws cmp_isNaN_uint64.an Tryz.f138 = true := by kernel_rfl
theorem cmp_isNaN_uint64.can : callOk Tryz.prog 138 = true := by kernel_rfl
theorem cmp_isNaN_uint64.sound : FnOk Tryz.prog 138 (.rd cmp_isNaN_uint64.w) := FnOk.rd_of (evG_ok cmp_isNaN_uint64.cok mixed (f := 138) (fn := Tryz.f138) (by kernel_rfl) cmp_isNaN_uint64.draws) fun args s r h => by
  unfold cmp_isNaN_uint64.w at h; split at h
  · rw [cmp_isNaN_uint64.ok std]; exact h
  · simp at h
def cmp_Compare_uint64.ctx : Ctx := [(138, .rd cmp_isNaN_uint64.w)]
def cmp_Compare_uint64.t (S : Sig) (a0 a1 : Value) (s : St) : Option Value :=
  S.bd (cmp_isNaN_uint64.r a0 s) fun x1 => S.bd (cmp_isNaN_uint64.r a1 s) fun x2 => S.cnd x1 (S.cnd x2 (some ((.int .i64 0))) (some ((.int .i64 (-1))))) (S.cnd x2 (some ((.int .i64 1))) (S.bd (bin .lss a0 a1) fun x3 => S.cnd x3 (some ((.int .i64 (-1)))) (S.bd (bin .gtr a0 a1) fun x4 => S.cnd x4 (some ((.int .i64 1))) (some ((.int .i64 0))))))
def cmp_Compare_uint64.r (a0 a1 : Value) (s : St) : Option Value := cmp_Compare_uint64.t std a0 a1 s
def cmp_Compare_uint64.w : List Value → St → Option Value
  | [a0, a1], s => cmp_Compare_uint64.r a0 a1 s
  | _, _ => none
def cmp_Compare_uint64.an : An := ⟨20, true, [], [], [], []⟩
theorem cmp_Compare_uint64.ok (S : Sig) (a0 a1 : Value) (s : St) : evG S Tryz.prog cmp_Compare_uint64.ctx cmp_Compare_uint64.an Tryz.f133 [a0, a1] s = cmp_Compare_uint64.t S a0 a1 s := by kernel_rfl
theorem cmp_Compare_uint64.cok : CtxOk Tryz.prog cmp_Compare_uint64.ctx := .cons cmp_isNaN_uint64.sound cmp_isNaN_uint64.can <| .nil
theorem cmp_Compare_uint64.draws : fnDraws cmp_Compare_uint64.an Tryz.f133 = true := by kernel_rfl
theorem cmp_Compare_uint64.can : callOk Tryz.prog 133 = true := by kernel_rfl
theorem cmp_Compare_uint64.sound : FnOk Tryz.prog 133 (.rd cmp_Compare_uint64.w) := FnOk.rd_of (evG_ok cmp_Compare_uint64.cok mixed (f := 133) (fn := Tryz.f133) (by kernel_rfl) cmp_Compare_uint64.draws) fun args s r h => by
  unfold cmp_Compare_uint64.w at h; split at h
  · rw [cmp_Compare_uint64.ok std]; exact h
  · simp at h
def cmp_Or_int.ctx : Ctx := []
def cmp_Or_int.l3 (S : Sig) (rec9 : List Value → St → Option Cut) (xs7 : List Value) (s8 : St) : Option Cut :=
  S.bd (bin .lss (xs7.getD 3 undef) (xs7.getD 2 undef)) fun x10 => S.cnd x10 (S.bd (idx s8 1 (xs7.getD 1 undef) (xs7.getD 3 undef)) fun x11 => S.bd (ldc s8 x11) fun x12 => S.bd (eqb [1] false true x12 (xs7.getD 0 undef)) fun x13 => S.cnd x13 (some (1, [x12], s8)) (S.bd (bin .add (xs7.getD 3 undef) (.int .i64 1)) fun x14 => rec9 [(xs7.getD 0 undef), (xs7.getD 1 undef), (xs7.getD 2 undef), x14] s8)) (some (0, [(xs7.getD 0 undef)], s8))
def cmp_Or_int.t (S : Sig) (a0 : Value) (s : St) : Option Value :=
  S.bd (lenL a0) fun x1 => S.bd (S.it (cmp_Or_int.l3 S) [(.int .i64 0), a0, x1, (.int .i64 0)] s) fun r15 => if r15.1 = 0 then (some ((r15.2.1.getD 0 undef))) else (some ((r15.2.1.getD 0 undef)))
def cmp_Or_int.r (a0 : Value) (s : St) : Option Value := cmp_Or_int.t std a0 s
def cmp_Or_int.w : List Value → St → Option Value
  | [a0], s => cmp_Or_int.r a0 s
  | _, _ => none
def cmp_Or_int.an : An := ⟨18, true, [], [(3, ⟨[.v 3, .v 6, .v 7, .v 8], [(.exit 0, [.v 3]), (.ret, [.v 2])]⟩)], [], []⟩
theorem cmp_Or_int.ok (S : Sig) (a0 : Value) (s : St) : evG S Tryz.prog cmp_Or_int.ctx cmp_Or_int.an Tryz.f131 [a0] s = cmp_Or_int.t S a0 s := by kernel_rfl
theorem cmp_Or_int.cok : CtxOk Tryz.prog cmp_Or_int.ctx := .nil
theorem cmp_Or_int.draws : fnDraws cmp_Or_int.an Tryz.f131 = true := by kernel_rfl
theorem cmp_Or_int.can : callOk Tryz.prog 131 = true := by kernel_rfl
theorem cmp_Or_int.sound : FnOk Tryz.prog 131 (.rd cmp_Or_int.w) := FnOk.rd_of (evG_ok cmp_Or_int.cok mixed (f := 131) (fn := Tryz.f131) (by kernel_rfl) cmp_Or_int.draws) fun args s r h => by
  unfold cmp_Or_int.w at h; split at h
  · rw [cmp_Or_int.ok std]; exact h
  · simp at h
def key_Compare.ctx : Ctx := [(132, .rd cmp_Compare_api_Rank.w), (133, .rd cmp_Compare_uint64.w), (131, .rd cmp_Or_int.w)]
def key_Compare.t (S : Sig) (a0 a1 : Value) (s : St) : Option (Value × St) :=
  S.bd (bx a0) fun c1 => S.bd (bx a1) fun c2 => S.bd (lcl c1 0) fun x3 => S.bd (lcl c2 0) fun x4 => S.bd (lcl c1 1) fun x5 => S.bd (lcl c2 1) fun x6 => S.bd (cmp_Compare_api_Rank.r x3 x4 s) fun x7 => S.bd (cmp_Compare_uint64.r x5 x6 s) fun x8 => S.bd (S.bd (bls 1 (List.replicate 2 [(.int .i64 0)]) [(0, x7), (1, x8)]) fun rows => als s 1 2 rows) fun r9 => S.bd (cmp_Or_int.r r9.1 r9.2) fun x10 => some (x10, r9.2)
def key_Compare.v (a0 a1 : Value) (s : St) : Option (Value × St) := key_Compare.t std a0 a1 s
def key_Compare.w : List Value → St → Option (Value × St)
  | [a0, a1], s => key_Compare.v a0 a1 s
  | _, _ => none
def key_Compare.an : An := ⟨17, false, [2, 3], [], [], [(1, [(z4 0 0), (z4 1 17), (z4 2 0), (z4 3 25), (z4 5 0), (z4 6 17), (z4 7 0), (z4 8 25), (z4 4 3), (z4 9 3), (z4 10 3), (z4 11 3), (z4 12 0)])]⟩
theorem key_Compare.ok (S : Sig) (a0 a1 : Value) (s : St) : evF S Tryz.prog key_Compare.ctx key_Compare.an Tryz.f101 [a0, a1] s = key_Compare.t S a0 a1 s := by kernel_rfl
theorem key_Compare.cok : CtxOk Tryz.prog key_Compare.ctx := .cons cmp_Compare_api_Rank.sound cmp_Compare_api_Rank.can <| .cons cmp_Compare_uint64.sound cmp_Compare_uint64.can <| .cons cmp_Or_int.sound cmp_Or_int.can <| .nil
theorem key_Compare.draws : fnDraws key_Compare.an Tryz.f101 = true := by kernel_rfl
theorem key_Compare.can : callOk Tryz.prog 101 = true := by kernel_rfl
theorem key_Compare.sound : FnOk Tryz.prog 101 (.st key_Compare.w) := FnOk.st_of (evF_ok key_Compare.cok mixed (f := 101) (fn := Tryz.f101) (by kernel_rfl) key_Compare.draws) fun args s r h => by
  unfold key_Compare.w at h; split at h
  · rw [key_Compare.ok std]; exact h
  · simp at h
def key_CompareQ.r (a0 a1 : Value) (s : St) : Option Value := frzR (fun s => key_Compare.v a0 a1 s) s
def key_CompareQ.w : List Value → St → Option Value := fun args s => frzR (key_Compare.w args) s
theorem key_CompareQ.can : callOk Tryz.prog 101 = true := key_Compare.can
theorem key_CompareQ.sound : FnOk Tryz.prog 101 (.rd key_CompareQ.w) := FnOk.frozen key_Compare.sound
def key_Less.ctx : Ctx := [(101, .rd key_CompareQ.w)]
def key_Less.t (S : Sig) (a0 a1 : Value) (s : St) : Option Value :=
  S.bd (bx a0) fun c1 => S.bd (bx a1) fun c2 => S.bd (lal c1 0 2) fun x3 => S.bd (lal c2 0 2) fun x4 => S.bd (key_CompareQ.r x3 x4 s) fun x5 => S.bd (bin .lss x5 (.int .i64 0)) fun x6 => some (x6)
def key_Less.r (a0 a1 : Value) (s : St) : Option Value := key_Less.t std a0 a1 s
def key_Less.w : List Value → St → Option Value
  | [a0, a1], s => key_Less.r a0 a1 s
  | _, _ => none
def key_Less.an : An := ⟨9, true, [2, 3], [], [], []⟩
theorem key_Less.ok (S : Sig) (a0 a1 : Value) (s : St) : evG S Tryz.prog key_Less.ctx key_Less.an Tryz.f59 [a0, a1] s = key_Less.t S a0 a1 s := by kernel_rfl
theorem key_Less.cok : CtxOk Tryz.prog key_Less.ctx := .cons key_CompareQ.sound key_CompareQ.can <| .nil
theorem key_Less.draws : fnDraws key_Less.an Tryz.f59 = true := by kernel_rfl
theorem key_Less.can : callOk Tryz.prog 59 = true := by kernel_rfl
theorem key_Less.sound : FnOk Tryz.prog 59 (.rd key_Less.w) := FnOk.rd_of (evG_ok key_Less.cok mixed (f := 59) (fn := Tryz.f59) (by kernel_rfl) key_Less.draws) fun args s r h => by
  unfold key_Less.w at h; split at h
  · rw [key_Less.ok std]; exact h
  · simp at h
def kS_counts.ctx : Ctx := []
def kS_counts.t (S : Sig) (a0 : Value) (s : St) : Option (Value × St) :=
  S.bd (nck a0) fun x1 => S.bd (fld 23 x1) fun x2 => S.bd (ldc s x2) fun x3 => S.bd (bin .geq x3 (.int .i64 64)) fun x4 => S.cnd x4 (S.bd (bld [(.int .i64 0), (.int .u64 0), (.slice none 0 0), (.slice none 0 0), (.int .i64 0), (.int .i64 0), (.int .u64 0), (.int .i64 0), (.int .u64 0), (.int .i64 0), (.int .i64 0), (.int .u64 0), (.int .i64 0), (.int .u64 0), (.bool Bool.false)] [(0, 1, (.int .i64 121))]) fun x5 => S.bd (nck a0) fun x6 => S.bd (fld 24 x6) fun x7 => S.bd (stv s 1 x7 (.bool Bool.true)) fun s8 => S.bd (nck a0) fun x9 => S.bd (fld 25 x9) fun x10 => S.bd (stv s8 15 x10 x5) fun s11 => some ((.bool Bool.false), s11)) (S.bd (nck a0) fun x12 => S.bd (fld 23 x12) fun x13 => S.bd (ldc s x13) fun x14 => S.bd (bin .add x14 (.int .i64 1)) fun x15 => S.bd (nck a0) fun x16 => S.bd (fld 23 x16) fun x17 => S.bd (stv s 1 x17 x15) fun s18 => some ((.bool Bool.true), s18))
def kS_counts.v (a0 : Value) (s : St) : Option (Value × St) := kS_counts.t std a0 s
def kS_counts.w : List Value → St → Option (Value × St)
  | [a0], s => kS_counts.v a0 s
  | _, _ => none
def kS_counts.an : An := ⟨22, false, [], [], [], []⟩
theorem kS_counts.ok (S : Sig) (a0 : Value) (s : St) : evF S Tryz.prog kS_counts.ctx kS_counts.an Tryz.f164 [a0] s = kS_counts.t S a0 s := by kernel_rfl
theorem kS_counts.cok : CtxOk Tryz.prog kS_counts.ctx := .nil
theorem kS_counts.draws : fnDraws kS_counts.an Tryz.f164 = true := by kernel_rfl
theorem kS_counts.can : callOk Tryz.prog 164 = true := by kernel_rfl
theorem kS_counts.sound : FnOk Tryz.prog 164 (.st kS_counts.w) := FnOk.st_of (evF_ok kS_counts.cok mixed (f := 164) (fn := Tryz.f164) (by kernel_rfl) kS_counts.draws) fun args s r h => by
  unfold kS_counts.w at h; split at h
  · rw [kS_counts.ok std]; exact h
  · simp at h
def kS_again.ctx : Ctx := [(164, .st kS_counts.w)]
def kS_again.t (S : Sig) (a0 : Value) (s : St) : Option (Value × St) :=
  S.bd (kS_counts.v a0 s) fun r1 => S.cnd r1.1 (S.bd (bld [(.int .i64 0), (.int .u64 0)] [(0, 1, (.int .i64 1))]) fun x2 => S.bd (nck a0) fun x3 => S.bd (fld 0 x3) fun x4 => S.bd (fld 0 x4) fun x5 => S.bd (ldc r1.2 x5) fun x6 => S.bd (bld [(.int .i64 0), (.int .u64 0)] [(0, 1, x6)]) fun x7 => S.bd (bld [(.int .i64 0), (.int .i64 0), (.int .u64 0), (.int .i64 0), (.int .u64 0)] [(1, 2, x2), (3, 2, x7)]) fun x8 => S.bd (nck a0) fun x9 => S.bd (fld 9 x9) fun x10 => S.bd (stv r1.2 5 x10 x8) fun s11 => S.bd (nck a0) fun x12 => S.bd (fld 0 x12) fun x13 => S.bd (fld 0 x13) fun x14 => S.bd (ldc s11 x14) fun x15 => S.bd (bld [(.int .i64 0), (.int .u64 0)] [(0, 1, x15)]) fun x16 => S.bd (nck a0) fun x17 => S.bd (fld 14 x17) fun x18 => S.bd (stv s11 2 x18 x16) fun s19 => S.bd (nck a0) fun x20 => S.bd (fld 16 x20) fun x21 => S.bd (stv s19 1 x21 (.bool Bool.false)) fun s22 => some ((Value.tuple ⟨[]⟩), s22)) (some ((Value.tuple ⟨[]⟩), r1.2))
def kS_again.v (a0 : Value) (s : St) : Option (Value × St) := kS_again.t std a0 s
def kS_again.w : List Value → St → Option (Value × St)
  | [a0], s => kS_again.v a0 s
  | _, _ => none
def kS_again.an : An := ⟨27, false, [], [], [], []⟩
theorem kS_again.ok (S : Sig) (a0 : Value) (s : St) : evF S Tryz.prog kS_again.ctx kS_again.an Tryz.f165 [a0] s = kS_again.t S a0 s := by kernel_rfl
theorem kS_again.cok : CtxOk Tryz.prog kS_again.ctx := .cons kS_counts.sound kS_counts.can <| .nil
theorem kS_again.draws : fnDraws kS_again.an Tryz.f165 = true := by kernel_rfl
theorem kS_again.can : callOk Tryz.prog 165 = true := by kernel_rfl
theorem kS_again.sound : FnOk Tryz.prog 165 (.st kS_again.w) := FnOk.st_of (evF_ok kS_again.cok mixed (f := 165) (fn := Tryz.f165) (by kernel_rfl) kS_again.draws) fun args s r h => by
  unfold kS_again.w at h; split at h
  · rw [kS_again.ok std]; exact h
  · simp at h
def vec_low.ctx : Ctx := []
def vec_low.t (S : Sig) (a0 : Value) (s : St) : Option Value :=
  S.bd (cvi .u64 a0) fun x1 => S.bd (bin .shl (.int .u64 1) x1) fun x2 => S.bd (bin .sub x2 (.int .u64 1)) fun x3 => some (x3)
def vec_low.r (a0 : Value) (s : St) : Option Value := vec_low.t std a0 s
def vec_low.w : List Value → St → Option Value
  | [a0], s => vec_low.r a0 s
  | _, _ => none
def vec_low.an : An := ⟨7, true, [], [], [], []⟩
theorem vec_low.ok (S : Sig) (a0 : Value) (s : St) : evG S Tryz.prog vec_low.ctx vec_low.an Tryz.f57 [a0] s = vec_low.t S a0 s := by kernel_rfl
theorem vec_low.cok : CtxOk Tryz.prog vec_low.ctx := .nil
theorem vec_low.draws : fnDraws vec_low.an Tryz.f57 = true := by kernel_rfl
theorem vec_low.can : callOk Tryz.prog 57 = true := by kernel_rfl
theorem vec_low.sound : FnOk Tryz.prog 57 (.rd vec_low.w) := FnOk.rd_of (evG_ok vec_low.cok mixed (f := 57) (fn := Tryz.f57) (by kernel_rfl) vec_low.draws) fun args s r h => by
  unfold vec_low.w at h; split at h
  · rw [vec_low.ok std]; exact h
  · simp at h
def vec_Right.ctx : Ctx := [(57, .rd vec_low.w)]
def vec_Right.t (S : Sig) (a0 : Value) (s : St) : Option Value :=
  S.bd (bx a0) fun c1 => S.bd (lcl c1 0) fun x2 => S.bd (bin .lss x2 (.int .i64 0)) fun x3 => S.bd (S.gd x3 false (lcl c1 0)) fun x4 => S.bd (S.gd x3 false (bin .gtr x4 (.int .i64 32))) fun x5 => S.bd (pik x3 (.bool Bool.true) x5) fun x6 => S.bd (S.gd x6 false (lcl c1 1)) fun x7 => S.bd (S.gd x6 false (lcl c1 0)) fun x8 => S.bd (S.gd x6 false (vec_low.r x8 s)) fun x9 => S.bd (S.gd x6 false (bin .gtr x7 x9)) fun x10 => S.bd (pik x6 (.bool Bool.true) x10) fun x11 => S.cnd x11 (some ((.int .i64 10))) (some ((.int .i64 0)))
def vec_Right.r (a0 : Value) (s : St) : Option Value := vec_Right.t std a0 s
def vec_Right.w : List Value → St → Option Value
  | [a0], s => vec_Right.r a0 s
  | _, _ => none
def vec_Right.an : An := ⟨19, true, [1], [], [], [(1, [(z4 0 0), (z4 1 9), (z4 2 0), (z4 3 0), (z4 4 0), (z4 5 9), (z4 6 0), (z4 7 0), (z4 8 0), (z4 9 0), (z4 10 9), (z4 11 0), (z4 12 9), (z4 13 3), (z4 14 0), (z4 15 0)])]⟩
theorem vec_Right.ok (S : Sig) (a0 : Value) (s : St) : evG S Tryz.prog vec_Right.ctx vec_Right.an Tryz.f30 [a0] s = vec_Right.t S a0 s := by kernel_rfl
theorem vec_Right.cok : CtxOk Tryz.prog vec_Right.ctx := .cons vec_low.sound vec_low.can <| .nil
theorem vec_Right.draws : fnDraws vec_Right.an Tryz.f30 = true := by kernel_rfl
theorem vec_Right.can : callOk Tryz.prog 30 = true := by kernel_rfl
theorem vec_Right.sound : FnOk Tryz.prog 30 (.rd vec_Right.w) := FnOk.rd_of (evG_ok vec_Right.cok mixed (f := 30) (fn := Tryz.f30) (by kernel_rfl) vec_Right.draws) fun args s r h => by
  unfold vec_Right.w at h; split at h
  · rw [vec_Right.ok std]; exact h
  · simp at h
def vec_upTo.ctx : Ctx := [(30, .rd vec_Right.w)]
def vec_upTo.t (S : Sig) (a0 a1 : Value) (s : St) : Option Value :=
  S.bd (bx a0) fun c1 => S.bd (lal c1 0 2) fun x2 => S.bd (vec_Right.r x2 s) fun x3 => S.bd (eqb [1] false true x3 (.int .i64 0)) fun x4 => S.cnd x4 (some (x3)) (S.bd (bin .lss a1 (.int .i64 0)) fun x5 => S.bd (S.gd x5 false (some a1)) fun x6 => S.bd (S.gd x5 false (lcl c1 0)) fun x7 => S.bd (S.gd x5 false (bin .gtr x6 x7)) fun x8 => S.bd (pik x5 (.bool Bool.true) x8) fun x9 => S.cnd x9 (some ((.int .i64 5))) (some ((.int .i64 0))))
def vec_upTo.r (a0 a1 : Value) (s : St) : Option Value := vec_upTo.t std a0 a1 s
def vec_upTo.w : List Value → St → Option Value
  | [a0, a1], s => vec_upTo.r a0 a1 s
  | _, _ => none
def vec_upTo.an : An := ⟨19, true, [2], [], [], []⟩
theorem vec_upTo.ok (S : Sig) (a0 a1 : Value) (s : St) : evG S Tryz.prog vec_upTo.ctx vec_upTo.an Tryz.f102 [a0, a1] s = vec_upTo.t S a0 a1 s := by kernel_rfl
theorem vec_upTo.cok : CtxOk Tryz.prog vec_upTo.ctx := .cons vec_Right.sound vec_Right.can <| .nil
theorem vec_upTo.draws : fnDraws vec_upTo.an Tryz.f102 = true := by kernel_rfl
theorem vec_upTo.can : callOk Tryz.prog 102 = true := by kernel_rfl
theorem vec_upTo.sound : FnOk Tryz.prog 102 (.rd vec_upTo.w) := FnOk.rd_of (evG_ok vec_upTo.cok mixed (f := 102) (fn := Tryz.f102) (by kernel_rfl) vec_upTo.draws) fun args s r h => by
  unfold vec_upTo.w at h; split at h
  · rw [vec_upTo.ok std]; exact h
  · simp at h
def vec_prefix.ctx : Ctx := []
def vec_prefix.t (S : Sig) (a0 a1 : Value) (s : St) : Option Value :=
  S.bd (bx a0) fun c1 => S.bd (bx (Go.Value.agg #[(.int .i64 0), (.int .u64 0)])) fun c2 => S.bd (lcl c1 1) fun x3 => S.bd (lcl c1 0) fun x4 => S.bd (bin .sub x4 a1) fun x5 => S.bd (cvi .u64 x5) fun x6 => S.bd (bin .shr x3 x6) fun x7 => S.bd (bld [(.int .i64 0), (.int .u64 0)] [(0, 1, a1), (1, 1, x7)]) fun x8 => S.bd (stl c2 0 2 x8) fun c9 => S.bd (lal c9 0 2) fun x10 => some (x10)
def vec_prefix.r (a0 a1 : Value) (s : St) : Option Value := vec_prefix.t std a0 a1 s
def vec_prefix.w : List Value → St → Option Value
  | [a0, a1], s => vec_prefix.r a0 a1 s
  | _, _ => none
def vec_prefix.an : An := ⟨15, true, [2, 4], [], [], []⟩
theorem vec_prefix.ok (S : Sig) (a0 a1 : Value) (s : St) : evG S Tryz.prog vec_prefix.ctx vec_prefix.an Tryz.f100 [a0, a1] s = vec_prefix.t S a0 a1 s := by kernel_rfl
theorem vec_prefix.cok : CtxOk Tryz.prog vec_prefix.ctx := .nil
theorem vec_prefix.draws : fnDraws vec_prefix.an Tryz.f100 = true := by kernel_rfl
theorem vec_prefix.can : callOk Tryz.prog 100 = true := by kernel_rfl
theorem vec_prefix.sound : FnOk Tryz.prog 100 (.rd vec_prefix.w) := FnOk.rd_of (evG_ok vec_prefix.cok mixed (f := 100) (fn := Tryz.f100) (by kernel_rfl) vec_prefix.draws) fun args s r h => by
  unfold vec_prefix.w at h; split at h
  · rw [vec_prefix.ok std]; exact h
  · simp at h
def vec_Prefix.ctx : Ctx := [(102, .rd vec_upTo.w), (100, .rd vec_prefix.w)]
def vec_Prefix.t (S : Sig) (a0 a1 : Value) (s : St) : Option Value :=
  S.bd (bx a0) fun c1 => S.bd (bx (Go.Value.agg #[(.int .i64 0), (.int .u64 0)])) fun c2 => S.bd (lal c1 0 2) fun x3 => S.bd (vec_upTo.r x3 a1 s) fun x4 => S.bd (eqb [1] false true x4 (.int .i64 0)) fun x5 => S.cnd x5 (S.bd (bld [(.int .i64 0), (.int .u64 0)] []) fun x6 => S.bd (stl c2 0 2 x6) fun c7 => S.bd (lal c7 0 2) fun x8 => some ((Value.tuple ⟨[x8, x4]⟩))) (S.bd (lal c1 0 2) fun x9 => S.bd (vec_prefix.r x9 a1 s) fun x10 => S.bd (stl c2 0 2 x10) fun c11 => S.bd (lal c11 0 2) fun x12 => some ((Value.tuple ⟨[x12, (.int .i64 0)]⟩)))
def vec_Prefix.r (a0 a1 : Value) (s : St) : Option Value := vec_Prefix.t std a0 a1 s
def vec_Prefix.w : List Value → St → Option Value
  | [a0, a1], s => vec_Prefix.r a0 a1 s
  | _, _ => none
def vec_Prefix.an : An := ⟨17, true, [2, 4], [], [], []⟩
theorem vec_Prefix.ok (S : Sig) (a0 a1 : Value) (s : St) : evG S Tryz.prog vec_Prefix.ctx vec_Prefix.an Tryz.f61 [a0, a1] s = vec_Prefix.t S a0 a1 s := by kernel_rfl
theorem vec_Prefix.cok : CtxOk Tryz.prog vec_Prefix.ctx := .cons vec_upTo.sound vec_upTo.can <| .cons vec_prefix.sound vec_prefix.can <| .nil
theorem vec_Prefix.draws : fnDraws vec_Prefix.an Tryz.f61 = true := by kernel_rfl
theorem vec_Prefix.can : callOk Tryz.prog 61 = true := by kernel_rfl
theorem vec_Prefix.sound : FnOk Tryz.prog 61 (.rd vec_Prefix.w) := FnOk.rd_of (evG_ok vec_Prefix.cok mixed (f := 61) (fn := Tryz.f61) (by kernel_rfl) vec_Prefix.draws) fun args s r h => by
  unfold vec_Prefix.w at h; split at h
  · rw [vec_Prefix.ok std]; exact h
  · simp at h
def kS_goes.ctx : Ctx := [(56, .rd key_Check.w), (59, .rd key_Less.w), (165, .st kS_again.w), (61, .rd vec_Prefix.w)]
def kS_goes.l2 (S : Sig) (rec37 : List Value → St → Option Cut) (xs35 : List Value) (s36 : St) : Option Cut :=
  S.bd (lal (cellsA (xs35.getD 1 undef)) 1 2) fun x38 => S.bd (key_Check.r x38 s36) fun x39 => S.bd (eqb [1] false true x39 (.int .i64 0)) fun x40 => S.bd (S.gd x40 false (lal (cellsA (xs35.getD 2 undef)) 0 2)) fun x41 => S.bd (S.gd x40 false (lal (cellsA (xs35.getD 1 undef)) 1 2)) fun x42 => S.bd (S.gd x40 false (key_Less.r x41 x42 s36)) fun x43 => S.bd (S.gd x40 false (un .not x43)) fun x44 => S.bd (pik x40 (.bool Bool.true) x44) fun x45 => S.cnd x45 (S.bd (kS_again.v (xs35.getD 0 undef) s36) fun r46 => some (1, [], r46.2)) (S.bd (nck (xs35.getD 0 undef)) fun x47 => S.bd (fld 22 x47) fun x48 => S.bd (ldc s36 x48) fun x49 => S.bd (lcl (cellsA (xs35.getD 1 undef)) 0) fun x50 => S.bd (nck (xs35.getD 0 undef)) fun x51 => S.bd (fld 14 x51) fun x52 => S.bd (lda s36 2 x52) fun x53 => S.bd (bld [(.int .i64 0), (.int .i64 0), (.int .u64 0)] [(0, 1, x50), (1, 2, x53)]) fun x54 => S.bd (lkp s36 [1, 1, 1] true (Go.Value.agg #[(.int .i64 0), (.int .i64 0), (.int .u64 0), (.int .i64 0), (.int .u64 0)]) true x49 x54) fun x55 => S.bd (xtr 0 x55) fun x56 => S.bd (xtr 1 x55) fun x57 => S.bd (bx (Go.Value.agg #[(.int .i64 0), (.int .i64 0), (.int .u64 0), (.int .i64 0), (.int .u64 0)])) fun c58 => S.bd (stl c58 0 5 x56) fun c59 => S.bd (un .not x57) fun x60 => S.cnd x60 (some (0, [(xs35.getD 0 undef), (Value.agg ⟨(cellsA (xs35.getD 1 undef))⟩)], s36)) (S.bd (lal (cellsA (xs35.getD 1 undef)) 1 2) fun x61 => S.bd (lal c59 0 5) fun x62 => S.bd (stl (cellsA (xs35.getD 2 undef)) 0 2 x61) fun c63 => S.bd (stl (cellsA (xs35.getD 1 undef)) 0 5 x62) fun c64 => rec37 [(xs35.getD 0 undef), (Value.agg ⟨c64⟩), (Value.agg ⟨c63⟩)] s36))
def kS_goes.t.p1 (S : Sig) (r65 : Cut) : Option (Value × St) :=
  S.bd (nck (r65.2.1.getD 0 undef)) fun x79 => S.bd (fld 14 x79) fun x80 => S.bd (fld 0 x80) fun x81 => S.bd (ldc r65.2.2 x81) fun x82 => S.bd (bin .gtr x82 (.int .i64 0)) fun x83 => S.cnd x83 (S.bd (nck (r65.2.1.getD 0 undef)) fun x84 => S.bd (fld 14 x84) fun x85 => S.bd (lda r65.2.2 2 x85) fun x86 => S.bd (nck (r65.2.1.getD 0 undef)) fun x87 => S.bd (fld 14 x87) fun x88 => S.bd (fld 0 x88) fun x89 => S.bd (ldc r65.2.2 x89) fun x90 => S.bd (bin .sub x90 (.int .i64 1)) fun x91 => S.bd (vec_Prefix.r x86 x91 r65.2.2) fun x92 => S.bd (xtr 0 x92) fun x93 => S.bd (xtr 1 x92) fun x94 => S.bd (nck (r65.2.1.getD 0 undef)) fun x95 => S.bd (fld 14 x95) fun x96 => S.bd (stv r65.2.2 2 x96 x93) fun s97 => S.bd (nck (r65.2.1.getD 0 undef)) fun x98 => S.bd (fld 16 x98) fun x99 => S.bd (stv s97 1 x99 (.bool Bool.false)) fun s100 => some ((Value.tuple ⟨[]⟩), s100)) (S.bd (nck (r65.2.1.getD 0 undef)) fun x101 => S.bd (fld 9 x101) fun x102 => S.bd (lda r65.2.2 5 x102) fun x103 => S.bd (lal (cellsA (r65.2.1.getD 1 undef)) 0 5) fun x104 => S.bd (lal (cellsA (r65.2.1.getD 1 undef)) 1 2) fun x105 => S.bd (nck (r65.2.1.getD 0 undef)) fun x106 => S.bd (fld 0 x106) fun x107 => S.bd (fld 6 x107) fun x108 => S.bd (lda r65.2.2 2 x108) fun x109 => S.bd (eqb [1, 1] true false x105 x109) fun x110 => S.bd (bld [(.int .i64 0), (.int .u64 0), (.slice none 0 0), (.slice none 0 0), (.int .i64 0), (.int .i64 0), (.int .u64 0), (.int .i64 0), (.int .u64 0), (.int .i64 0), (.int .i64 0), (.int .u64 0), (.int .i64 0), (.int .u64 0), (.bool Bool.false)] [(4, 5, x103), (9, 5, x104), (14, 1, x110)]) fun x111 => S.bd (nck (r65.2.1.getD 0 undef)) fun x112 => S.bd (fld 24 x112) fun x113 => S.bd (stv r65.2.2 1 x113 (.bool Bool.true)) fun s114 => S.bd (nck (r65.2.1.getD 0 undef)) fun x115 => S.bd (fld 25 x115) fun x116 => S.bd (stv s114 15 x116 x111) fun s117 => some ((Value.tuple ⟨[]⟩), s117))
def kS_goes.t (S : Sig) (a0 a1 : Value) (s : St) : Option (Value × St) :=
  S.bd (bx a1) fun c1 => S.bd (nck a0) fun x2 => S.bd (fld 9 x2) fun x3 => S.bd (fld 1 x3) fun x4 => S.bd (lda s 2 x4) fun x5 => S.bd (bx (Go.Value.agg #[(.int .i64 0), (.int .u64 0)])) fun c6 => S.bd (stl c6 0 2 x5) fun c7 => S.bd (S.it (kS_goes.l2 S) [a0, (Value.agg ⟨c1⟩), (Value.agg ⟨c7⟩)] s) fun r65 => if r65.1 = 0 then (S.bd (lal (cellsA (r65.2.1.getD 1 undef)) 1 2) fun x66 => S.bd (nck (r65.2.1.getD 0 undef)) fun x67 => S.bd (fld 0 x67) fun x68 => S.bd (fld 6 x68) fun x69 => S.bd (lda r65.2.2 2 x69) fun x70 => S.bd (key_Less.r x66 x70 r65.2.2) fun x71 => S.cnd x71 (S.bd (lal (cellsA (r65.2.1.getD 1 undef)) 0 5) fun x72 => S.bd (nck (r65.2.1.getD 0 undef)) fun x73 => S.bd (fld 16 x73) fun x74 => S.bd (stv r65.2.2 1 x74 (.bool Bool.true)) fun s75 => S.bd (nck (r65.2.1.getD 0 undef)) fun x76 => S.bd (fld 17 x76) fun x77 => S.bd (stv s75 5 x77 x72) fun s78 => some ((Value.tuple ⟨[]⟩), s78)) (kS_goes.t.p1 S r65)) else (some ((Value.tuple ⟨[]⟩), r65.2.2))
def kS_goes.v (a0 a1 : Value) (s : St) : Option (Value × St) := kS_goes.t std a0 a1 s
def kS_goes.w : List Value → St → Option (Value × St)
  | [a0, a1], s => kS_goes.v a0 a1 s
  | _, _ => none
def kS_goes.an : An := ⟨108, false, [3, 4, 5], [(2, ⟨[.v 0, .p 3 3 0, .p 4 4 0, .l 3, .l 4], [(.exit 0, [.v 0, .p 3 3 0, .l 3]), (.ret, [])]⟩)], [], [(4, [(z4 0 0), (z4 1 0), (z4 2 0), (z4 3 2), (z4 4 0), (z4 5 25), (z4 6 0), (z4 7 0), (z4 8 0), (z4 9 2), (z4 10 0), (z4 11 2), (z4 12 0), (z4 13 0), (z4 14 0), (z4 15 6), (z4 16 45), (z4 17 0)]), (6, [(z4 0 0), (z4 1 25), (z4 2 41), (z4 3 37), (z4 4 29)]), (8, [(z4 0 0), (z4 1 25), (z4 2 0), (z4 3 0), (z4 4 0), (z4 5 0), (z4 6 2), (z4 7 3), (z4 8 0)]), (9, [(z4 0 0), (z4 1 0), (z4 2 25), (z4 3 0), (z4 4 0), (z4 5 4), (z4 6 0), (z4 7 0), (z4 8 4)]), (11, [(z4 0 0), (z4 1 0), (z4 2 0), (z4 3 0), (z4 4 2), (z4 5 0), (z4 6 0), (z4 7 0), (z4 8 0), (z4 9 2), (z4 10 0), (z4 11 3), (z4 12 0), (z4 13 0), (z4 14 0), (z4 15 0), (z4 16 0), (z4 17 4)]), (7, [(z4 0 0), (z4 1 0), (z4 2 0), (z4 3 0), (z4 4 0), (z4 5 2), (z4 6 25), (z4 7 0), (z4 8 25), (z4 9 0), (z4 10 0), (z4 11 0), (z4 12 0), (z4 13 2), (z4 14 0), (z4 15 0), (z4 16 0), (z4 17 0), (z4 18 4), (z4 19 0), (z4 20 0), (z4 21 4)])]⟩
theorem kS_goes.ok (S : Sig) (a0 a1 : Value) (s : St) : evF S Tryz.prog kS_goes.ctx kS_goes.an Tryz.f162 [a0, a1] s = kS_goes.t S a0 a1 s := by kernel_rfl
theorem kS_goes.cok : CtxOk Tryz.prog kS_goes.ctx := .cons key_Check.sound key_Check.can <| .cons key_Less.sound key_Less.can <| .cons kS_again.sound kS_again.can <| .cons vec_Prefix.sound vec_Prefix.can <| .nil
theorem kS_goes.draws : fnDraws kS_goes.an Tryz.f162 = true := by kernel_rfl
theorem kS_goes.can : callOk Tryz.prog 162 = true := by kernel_rfl
theorem kS_goes.sound : FnOk Tryz.prog 162 (.st kS_goes.w) := FnOk.st_of (evF_ok kS_goes.cok mixed (f := 162) (fn := Tryz.f162) (by kernel_rfl) kS_goes.draws) fun args s r h => by
  unfold kS_goes.w at h; split at h
  · rw [kS_goes.ok std]; exact h
  · simp at h
def kS_keep.ctx : Ctx := []
def kS_keep.t (S : Sig) (a0 a1 a2 : Value) (s : St) : Option (Value × St) :=
  S.bd (bx a1) fun c1 => S.bd (bx a2) fun c2 => S.bd (nck a0) fun x3 => S.bd (fld 22 x3) fun x4 => S.bd (ldc s x4) fun x5 => S.bd (lcl c1 0) fun x6 => S.bd (nck a0) fun x7 => S.bd (fld 14 x7) fun x8 => S.bd (lda s 2 x8) fun x9 => S.bd (bld [(.int .i64 0), (.int .i64 0), (.int .u64 0)] [(0, 1, x6), (1, 2, x9)]) fun x10 => S.bd (lal c2 7 5) fun x11 => S.bd (upm s [1, 1, 1] true x5 x10 x11) fun s12 => some ((Value.tuple ⟨[]⟩), s12)
def kS_keep.v (a0 a1 a2 : Value) (s : St) : Option (Value × St) := kS_keep.t std a0 a1 a2 s
def kS_keep.w : List Value → St → Option (Value × St)
  | [a0, a1, a2], s => kS_keep.v a0 a1 a2 s
  | _, _ => none
def kS_keep.an : An := ⟨19, false, [4, 5], [], [], [(1, [(z4 0 0), (z4 1 0), (z4 2 0), (z4 3 2), (z4 4 0), (z4 5 33), (z4 6 0), (z4 7 0), (z4 8 0), (z4 9 2), (z4 10 0), (z4 11 0), (z4 12 41), (z4 13 4)])]⟩
theorem kS_keep.ok (S : Sig) (a0 a1 a2 : Value) (s : St) : evF S Tryz.prog kS_keep.ctx kS_keep.an Tryz.f163 [a0, a1, a2] s = kS_keep.t S a0 a1 a2 s := by kernel_rfl
theorem kS_keep.cok : CtxOk Tryz.prog kS_keep.ctx := .nil
theorem kS_keep.draws : fnDraws kS_keep.an Tryz.f163 = true := by kernel_rfl
theorem kS_keep.can : callOk Tryz.prog 163 = true := by kernel_rfl
theorem kS_keep.sound : FnOk Tryz.prog 163 (.st kS_keep.w) := FnOk.st_of (evF_ok kS_keep.cok mixed (f := 163) (fn := Tryz.f163) (by kernel_rfl) kS_keep.draws) fun args s r h => by
  unfold kS_keep.w at h; split at h
  · rw [kS_keep.ok std]; exact h
  · simp at h
def kS_looked.ctx : Ctx := [(162, .st kS_goes.w), (163, .st kS_keep.w), (164, .st kS_counts.w), (165, .st kS_again.w)]
def kS_looked.t (S : Sig) (a0 a1 : Value) (s : St) : Option (Value × St) :=
  S.bd (bx a1) fun c1 => S.bd (lcl c1 0) fun x2 => S.bd (eqb [1] false false x2 (.int .i64 1)) fun x3 => S.cnd x3 (S.bd (nck a0) fun x4 => S.bd (fld 17 x4) fun x5 => S.bd (lda s 5 x5) fun x6 => S.bd (nck a0) fun x7 => S.bd (fld 9 x7) fun x8 => S.bd (stv s 5 x8 x6) fun s9 => S.bd (nck a0) fun x10 => S.bd (fld 16 x10) fun x11 => S.bd (stv s9 1 x11 (.bool Bool.false)) fun s12 => S.bd (lal c1 7 5) fun x13 => S.bd (kS_goes.v a0 x13 s12) fun r14 => some ((Value.tuple ⟨[]⟩), r14.2)) (S.bd (eqb [1] false false x2 (.int .i64 3)) fun x15 => S.cnd x15 (S.bd (nck a0) fun x16 => S.bd (fld 17 x16) fun x17 => S.bd (lda s 5 x17) fun x18 => S.bd (lal c1 0 13) fun x19 => S.bd (kS_keep.v a0 x18 x19 s) fun r20 => S.bd (kS_counts.v a0 r20.2) fun r21 => S.cnd r21.1 (S.bd (nck a0) fun x22 => S.bd (fld 16 x22) fun x23 => S.bd (stv r21.2 1 x23 (.bool Bool.false)) fun s24 => some ((Value.tuple ⟨[]⟩), s24)) (some ((Value.tuple ⟨[]⟩), r21.2))) (S.bd (kS_again.v a0 s) fun r25 => some ((Value.tuple ⟨[]⟩), r25.2)))
def kS_looked.v (a0 a1 : Value) (s : St) : Option (Value × St) := kS_looked.t std a0 a1 s
def kS_looked.w : List Value → St → Option (Value × St)
  | [a0, a1], s => kS_looked.v a0 a1 s
  | _, _ => none
def kS_looked.an : An := ⟨38, false, [3], [], [], [(7, [(z4 0 0), (z4 1 0), (z4 2 0), (z4 3 0), (z4 4 2), (z4 5 25), (z4 6 4)])]⟩
theorem kS_looked.ok (S : Sig) (a0 a1 : Value) (s : St) : evF S Tryz.prog kS_looked.ctx kS_looked.an Tryz.f160 [a0, a1] s = kS_looked.t S a0 a1 s := by kernel_rfl
theorem kS_looked.cok : CtxOk Tryz.prog kS_looked.ctx := .cons kS_goes.sound kS_goes.can <| .cons kS_keep.sound kS_keep.can <| .cons kS_counts.sound kS_counts.can <| .cons kS_again.sound kS_again.can <| .nil
theorem kS_looked.draws : fnDraws kS_looked.an Tryz.f160 = true := by kernel_rfl
theorem kS_looked.can : callOk Tryz.prog 160 = true := by kernel_rfl
theorem kS_looked.sound : FnOk Tryz.prog 160 (.st kS_looked.w) := FnOk.st_of (evF_ok kS_looked.cok mixed (f := 160) (fn := Tryz.f160) (by kernel_rfl) kS_looked.draws) fun args s r h => by
  unfold kS_looked.w at h; split at h
  · rw [kS_looked.ok std]; exact h
  · simp at h
def kS_stood.ctx : Ctx := [(59, .rd key_Less.w), (162, .st kS_goes.w), (56, .rd key_Check.w), (165, .st kS_again.w), (163, .st kS_keep.w)]
def kS_stood.t (S : Sig) (a0 a1 : Value) (s : St) : Option (Value × St) :=
  S.bd (bx a1) fun c1 => S.bd (lcl c1 0) fun x2 => S.bd (eqb [1] false false x2 (.int .i64 1)) fun x3 => S.cnd x3 (S.bd (nck a0) fun x4 => S.bd (fld 9 x4) fun x5 => S.bd (fld 1 x5) fun x6 => S.bd (lda s 2 x6) fun x7 => S.bd (nck a0) fun x8 => S.bd (fld 0 x8) fun x9 => S.bd (fld 6 x9) fun x10 => S.bd (lda s 2 x10) fun x11 => S.bd (key_Less.r x7 x11 s) fun x12 => S.cnd x12 (S.bd (lal c1 7 5) fun x13 => S.bd (kS_goes.v a0 x13 s) fun r14 => some ((Value.tuple ⟨[]⟩), r14.2)) (S.bd (lal c1 3 2) fun x15 => S.bd (key_Check.r x15 s) fun x16 => S.bd (eqb [1] false false x16 (.int .i64 0)) fun x17 => S.bd (S.gd x17 true (lal c1 3 2)) fun x18 => S.bd (S.gd x17 true (some a0)) fun x19 => S.bd (S.gd x17 true (nck x19)) fun x20 => S.bd (S.gd x17 true (fld 9 x20)) fun x21 => S.bd (S.gd x17 true (fld 1 x21)) fun x22 => S.bd (S.gd x17 true (lda s 2 x22)) fun x23 => S.bd (S.gd x17 true (key_Less.r x18 x23 s)) fun x24 => S.bd (pik x17 x24 (.bool Bool.false)) fun x25 => S.cnd x25 (S.bd (lal c1 2 5) fun x26 => S.bd (nck a0) fun x27 => S.bd (fld 9 x27) fun x28 => S.bd (stv s 5 x28 x26) fun s29 => some ((Value.tuple ⟨[]⟩), s29)) (S.bd (kS_again.v a0 s) fun r30 => some ((Value.tuple ⟨[]⟩), r30.2)))) (S.bd (eqb [1] false false x2 (.int .i64 3)) fun x31 => S.cnd x31 (S.bd (nck a0) fun x32 => S.bd (fld 9 x32) fun x33 => S.bd (lda s 5 x33) fun x34 => S.bd (lal c1 0 13) fun x35 => S.bd (kS_keep.v a0 x34 x35 s) fun r36 => S.bd (kS_again.v a0 r36.2) fun r37 => some ((Value.tuple ⟨[]⟩), r37.2)) (S.bd (kS_again.v a0 s) fun r38 => some ((Value.tuple ⟨[]⟩), r38.2)))
def kS_stood.v (a0 a1 : Value) (s : St) : Option (Value × St) := kS_stood.t std a0 a1 s
def kS_stood.w : List Value → St → Option (Value × St)
  | [a0, a1], s => kS_stood.v a0 a1 s
  | _, _ => none
def kS_stood.an : An := ⟨55, false, [3], [], [], [(4, [(z4 0 0), (z4 1 0), (z4 2 0), (z4 3 0), (z4 4 2), (z4 5 0), (z4 6 0), (z4 7 0), (z4 8 0), (z4 9 2), (z4 10 3)]), (6, [(z4 0 0), (z4 1 0), (z4 2 25), (z4 3 3), (z4 4 0), (z4 5 0), (z4 6 0), (z4 7 0), (z4 8 25), (z4 9 0), (z4 10 0), (z4 11 0), (z4 12 0), (z4 13 2), (z4 14 3), (z4 15 0)]), (8, [(z4 0 0), (z4 1 0), (z4 2 0), (z4 3 0), (z4 4 2), (z4 5 25), (z4 6 4)])]⟩
theorem kS_stood.ok (S : Sig) (a0 a1 : Value) (s : St) : evF S Tryz.prog kS_stood.ctx kS_stood.an Tryz.f161 [a0, a1] s = kS_stood.t S a0 a1 s := by kernel_rfl
theorem kS_stood.cok : CtxOk Tryz.prog kS_stood.ctx := .cons key_Less.sound key_Less.can <| .cons kS_goes.sound kS_goes.can <| .cons key_Check.sound key_Check.can <| .cons kS_again.sound kS_again.can <| .cons kS_keep.sound kS_keep.can <| .nil
theorem kS_stood.draws : fnDraws kS_stood.an Tryz.f161 = true := by kernel_rfl
theorem kS_stood.can : callOk Tryz.prog 161 = true := by kernel_rfl
theorem kS_stood.sound : FnOk Tryz.prog 161 (.st kS_stood.w) := FnOk.st_of (evF_ok kS_stood.cok mixed (f := 161) (fn := Tryz.f161) (by kernel_rfl) kS_stood.draws) fun args s r h => by
  unfold kS_stood.w at h; split at h
  · rw [kS_stood.ok std]; exact h
  · simp at h
def kS_Tell.ctx : Ctx := [(159, .rd kS_is.w), (160, .st kS_looked.w), (161, .st kS_stood.w)]
def kS_Tell.t (S : Sig) (a0 a1 : Value) (s : St) : Option (Value × St) :=
  S.bd (bx a1) fun c1 => S.bd (kS_is.r a0 s) fun x2 => S.bd (un .not x2) fun x3 => S.bd (S.gd x3 false (some a0)) fun x4 => S.bd (S.gd x3 false (nck x4)) fun x5 => S.bd (S.gd x3 false (fld 24 x5)) fun x6 => S.bd (S.gd x3 false (ldc s x6)) fun x7 => S.bd (pik x3 (.bool Bool.true) x7) fun x8 => S.cnd x8 (some ((Value.tuple ⟨[]⟩), s)) (S.bd (nck a0) fun x9 => S.bd (fld 16 x9) fun x10 => S.bd (ldc s x10) fun x11 => S.cnd x11 (S.bd (lal c1 0 13) fun x12 => S.bd (kS_looked.v a0 x12 s) fun r13 => some ((Value.tuple ⟨[]⟩), r13.2)) (S.bd (lal c1 0 13) fun x14 => S.bd (kS_stood.v a0 x14 s) fun r15 => some ((Value.tuple ⟨[]⟩), r15.2)))
def kS_Tell.v (a0 a1 : Value) (s : St) : Option (Value × St) := kS_Tell.t std a0 a1 s
def kS_Tell.w : List Value → St → Option (Value × St)
  | [a0, a1], s => kS_Tell.v a0 a1 s
  | _, _ => none
def kS_Tell.an : An := ⟨25, false, [3], [], [], []⟩
theorem kS_Tell.ok (S : Sig) (a0 a1 : Value) (s : St) : evF S Tryz.prog kS_Tell.ctx kS_Tell.an Tryz.f157 [a0, a1] s = kS_Tell.t S a0 a1 s := by kernel_rfl
theorem kS_Tell.cok : CtxOk Tryz.prog kS_Tell.ctx := .cons kS_is.sound kS_is.can <| .cons kS_looked.sound kS_looked.can <| .cons kS_stood.sound kS_stood.can <| .nil
theorem kS_Tell.draws : fnDraws kS_Tell.an Tryz.f157 = true := by kernel_rfl
theorem kS_Tell.can : callOk Tryz.prog 157 = true := by kernel_rfl
theorem kS_Tell.sound : FnOk Tryz.prog 157 (.st kS_Tell.w) := FnOk.st_of (evF_ok kS_Tell.cok mixed (f := 157) (fn := Tryz.f157) (by kernel_rfl) kS_Tell.draws) fun args s r h => by
  unfold kS_Tell.w at h; split at h
  · rw [kS_Tell.ok std]; exact h
  · simp at h
def kS_Wake.ctx : Ctx := []
def kS_Wake.t (S : Sig) (a0 : Value) (s : St) : Option Value :=
  some ((Value.tuple ⟨[]⟩))
def kS_Wake.r (a0 : Value) (s : St) : Option Value := kS_Wake.t std a0 s
def kS_Wake.w : List Value → St → Option Value
  | [a0], s => kS_Wake.r a0 s
  | _, _ => none
def kS_Wake.an : An := ⟨2, true, [], [], [], []⟩
theorem kS_Wake.ok (S : Sig) (a0 : Value) (s : St) : evG S Tryz.prog kS_Wake.ctx kS_Wake.an Tryz.f158 [a0] s = kS_Wake.t S a0 s := by kernel_rfl
theorem kS_Wake.cok : CtxOk Tryz.prog kS_Wake.ctx := .nil
theorem kS_Wake.draws : fnDraws kS_Wake.an Tryz.f158 = true := by kernel_rfl
theorem kS_Wake.can : callOk Tryz.prog 158 = true := by kernel_rfl
theorem kS_Wake.sound : FnOk Tryz.prog 158 (.rd kS_Wake.w) := FnOk.rd_of (evG_ok kS_Wake.cok mixed (f := 158) (fn := Tryz.f158) (by kernel_rfl) kS_Wake.draws) fun args s r h => by
  unfold kS_Wake.w at h; split at h
  · rw [kS_Wake.ok std]; exact h
  · simp at h
def pS_ask.ctx : Ctx := []
def pS_ask.t (S : Sig) (a0 a1 a2 : Value) (s : St) : Option Value :=
  S.bd (bx a1) fun c1 => S.bd (bx a2) fun c2 => S.bd (bx (Go.Value.agg #[(.int .i64 0), (.int .i64 0), (.int .i64 0), (.int .u64 0), (.int .i64 0), (.int .u64 0), (.int .i64 0), (.int .i64 0), (.int .u64 0), (.int .i64 0), (.int .i64 0), (.int .u64 0), (.int .i64 0), (.int .u64 0), (.int .i64 0), (.int .i64 0), (.int .u64 0), (.int .i64 0), (.int .u64 0), (.int .i64 0), (.int .i64 0), (.int .i64 0), (.int .u64 0), (.slice none 0 0), (.slice none 0 0), (.int .i64 0), (.int .i64 0), (.int .u64 0), (.int .i64 0), (.int .u64 0), (.int .i64 0), (.int .i64 0), (.int .u64 0), (.int .i64 0), (.int .u64 0), (.bool Bool.false)])) fun c3 => S.bd (nck a0) fun x4 => S.bd (fld 0 x4) fun x5 => S.bd (fld 0 x5) fun x6 => S.bd (lda s 2 x6) fun x7 => S.bd (stl c2 1 2 x7) fun c8 => S.bd (lal c1 0 5) fun x9 => S.bd (lal c8 0 15) fun x10 => S.bd (bld [(.int .i64 0), (.int .i64 0), (.int .i64 0), (.int .u64 0), (.int .i64 0), (.int .u64 0), (.int .i64 0), (.int .i64 0), (.int .u64 0), (.int .i64 0), (.int .i64 0), (.int .u64 0), (.int .i64 0), (.int .u64 0), (.int .i64 0), (.int .i64 0), (.int .u64 0), (.int .i64 0), (.int .u64 0), (.int .i64 0), (.int .i64 0), (.int .i64 0), (.int .u64 0), (.slice none 0 0), (.slice none 0 0), (.int .i64 0), (.int .i64 0), (.int .u64 0), (.int .i64 0), (.int .u64 0), (.int .i64 0), (.int .i64 0), (.int .u64 0), (.int .i64 0), (.int .u64 0), (.bool Bool.false)] [(0, 1, (.int .i64 1)), (1, 5, x9), (6, 15, x10)]) fun x11 => S.bd (stl c3 0 36 x11) fun c12 => S.bd (lal c12 0 36) fun x13 => some (x13)
def pS_ask.r (a0 a1 a2 : Value) (s : St) : Option Value := pS_ask.t std a0 a1 a2 s
def pS_ask.w : List Value → St → Option Value
  | [a0, a1, a2], s => pS_ask.r a0 a1 a2 s
  | _, _ => none
def pS_ask.an : An := ⟨16, true, [4, 5, 6], [], [], []⟩
theorem pS_ask.ok (S : Sig) (a0 a1 a2 : Value) (s : St) : evG S Tryz.prog pS_ask.ctx pS_ask.an Tryz.f169 [a0, a1, a2] s = pS_ask.t S a0 a1 a2 s := by kernel_rfl
theorem pS_ask.cok : CtxOk Tryz.prog pS_ask.ctx := .nil
theorem pS_ask.draws : fnDraws pS_ask.an Tryz.f169 = true := by kernel_rfl
theorem pS_ask.can : callOk Tryz.prog 169 = true := by kernel_rfl
theorem pS_ask.sound : FnOk Tryz.prog 169 (.rd pS_ask.w) := FnOk.rd_of (evG_ok pS_ask.cok mixed (f := 169) (fn := Tryz.f169) (by kernel_rfl) pS_ask.draws) fun args s r h => by
  unfold pS_ask.w at h; split at h
  · rw [pS_ask.ok std]; exact h
  · simp at h
end
end Go.Proofs.YteafgjpbfhjbjaaGreat
