/-
  What the functions answer that RemoveRuns, RemoveOnce reaches (part 1): for each function of the program a plain function over abstract values, and that the model answers as it does.
-/
import Derived.Test.YtdppefkjoeefnaaGW0
set_option linter.unusedVariables false
set_option maxRecDepth 100000
namespace Go.Proofs.Ytdppefkjoeefnaa
open Go.Sim
noncomputable section
/-! ### (*leapfrog/remove.Remove).leaves: function 31 -/
def remove_Remove_leaves.ctx : Ctx := [(45, .rd vec_Prefix.w), (46, .st unsplice_New.w), (32, .st remove_Remove_ends.w)]
def remove_Remove_leaves.t (S : Sig) (a0 a1 : Value) (s : St) : Option (Value × St) :=
  S.bd (nck a0) fun x1 => S.bd (fld 10 x1) fun x2 => S.bd (fld 3 x2) fun x3 => S.bd (lda s 2 x3) fun x4 => S.bd (vec_Prefix.r x4 a1 s) fun x5 => S.bd (xtr 0 x5) fun x6 => S.bd (xtr 1 x5) fun x7 => S.bd (bx (Go.Value.agg #[(Go.Value.int Go.IntKind.i64 0), (Go.Value.int Go.IntKind.u64 0)])) fun c8 => S.bd (stl c8 0 2 x6) fun c9 => S.bd (lal c9 0 2) fun x10 => S.bd (nck a0) fun x11 => S.bd (fld 10 x11) fun x12 => S.bd (lda s 5 x12) fun x13 => S.bd (nck a0) fun x14 => S.bd (fld 0 x14) fun x15 => S.bd (fld 7 x15) fun x16 => S.bd (lda s 2 x16) fun x17 => S.bd (bld [(Go.Value.int Go.IntKind.i64 0), (Go.Value.int Go.IntKind.u64 0), (Go.Value.int Go.IntKind.i64 0), (Go.Value.int Go.IntKind.i64 0), (Go.Value.int Go.IntKind.u64 0), (Go.Value.int Go.IntKind.i64 0), (Go.Value.int Go.IntKind.u64 0), (Go.Value.int Go.IntKind.i64 0), (Go.Value.int Go.IntKind.i64 0)] [(0, 2, x10), (2, 5, x13), (7, 2, x17)]) fun x18 => S.bd (unsplice_New.v x18 s) fun r19 => S.bd (lda r19.2 5 x12) fun x20 => S.cnd (Value.bool (sameV x20 x13)) (S.bd (lda r19.2 2 x16) fun x21 => S.cnd (Value.bool (sameV x21 x17)) (S.bd (xtr 0 r19.1) fun x22 => S.bd (xtr 1 r19.1) fun x23 => S.bd (eqb [1] false true x7 (Go.Value.int Go.IntKind.i64 0)) fun x24 => S.bd (S.gd x24 false (some x23)) fun x25 => S.bd (S.gd x24 false (eqb [1] false true x25 (Go.Value.int Go.IntKind.i64 0))) fun x26 => S.bd (pik x24 (Go.Value.bool Bool.true) x26) fun x27 => S.cnd x27 (S.bd (remove_Remove_ends.v a0 (Go.Value.int Go.IntKind.i64 0) r19.2) fun r28 => some ((Value.tuple ⟨[]⟩), r28.2)) (S.bd (nck a0) fun x29 => S.bd (fld 15 x29) fun x30 => S.bd (stv r19.2 1 x30 a1) fun s31 => S.bd (nck a0) fun x32 => S.bd (fld 9 x32) fun x33 => S.bd (stv s31 1 x33 (Value.iface 107 x22)) fun s34 => some ((Value.tuple ⟨[]⟩), s34))) (none)) (none)
def remove_Remove_leaves.v (a0 a1 : Value) (s : St) : Option (Value × St) := remove_Remove_leaves.t std a0 a1 s
def remove_Remove_leaves.w : List Value → St → Option (Value × St)
  | [a0, a1], s => remove_Remove_leaves.v a0 a1 s
  | _, _ => none
def remove_Remove_leaves.an : An := ⟨50, false, [4], [], [], [(1, [(0, 33, [], []), (1, 0, [], []), (2, 0, [], []), (3, 0, [], []), (4, 2, [], []), (5, 0, [], []), (6, 0, [], []), (7, 0, [], []), (8, 0, [], []), (9, 2, [], []), (10, 0, [], []), (11, 4, [4, 9], []), (12, 0, [], []), (13, 0, [], []), (14, 0, [], []), (15, 0, [], []), (16, 0, [], [])])]⟩
theorem remove_Remove_leaves.ok (S : Sig) (a0 a1 : Value) (s : St) : evF S Try.prog remove_Remove_leaves.ctx remove_Remove_leaves.an Try.f31 [a0, a1] s = remove_Remove_leaves.t S a0 a1 s := by kernel_rfl
theorem remove_Remove_leaves.cok : CtxOk Try.prog remove_Remove_leaves.ctx := .cons vec_Prefix.sound vec_Prefix.can <| .cons unsplice_New.sound unsplice_New.can <| .cons remove_Remove_ends.sound remove_Remove_ends.can <| .nil
theorem remove_Remove_leaves.draws : fnDraws remove_Remove_leaves.an Try.f31 = true := by kernel_rfl
theorem remove_Remove_leaves.can : callOk Try.prog 31 = true := by kernel_rfl
theorem remove_Remove_leaves.sound : FnOk Try.prog 31 (.st remove_Remove_leaves.w) := FnOk.st_of (evF_ok remove_Remove_leaves.cok mixed (f := 31) (fn := Try.f31) (by kernel_rfl) remove_Remove_leaves.draws) fun args s r h => by
  unfold remove_Remove_leaves.w at h; split at h
  · rw [remove_Remove_leaves.ok std]; exact h
  · simp at h

/-! ### (*leapfrog/remove.Remove).settles: function 30 -/
def remove_Remove_settles.ctx : Ctx := [(10, .st remove_Remove_Next.w), (11, .rd leapfrogref16x_Remove_Next.w), (29, .rd leapfrogref12x_Seek_Next.w), (28, .rd leapfrogref14x_Unsplice_Next.w), (88, .rd seek_Seek_Next.w), (105, .rd unsplice_Unsplice_Next.w), (32, .st remove_Remove_ends.w), (31, .st remove_Remove_leaves.w)]
def remove_Remove_settles.t (S : Sig) (a0 : Value) (s : St) : Option (Value × St) :=
  S.bd (nck a0) fun x1 => S.bd (fld 9 x1) fun x2 => S.bd (ldc s x2) fun x3 => S.bd (callI Try.prog (remove_Remove_settles.ctx) "Next" x3 [] s) fun r4 => S.bd (bx (Go.Value.agg #[(Go.Value.int Go.IntKind.i64 0), (Go.Value.int Go.IntKind.i64 0), (Go.Value.int Go.IntKind.i64 0), (Go.Value.int Go.IntKind.u64 0), (Go.Value.int Go.IntKind.i64 0), (Go.Value.int Go.IntKind.u64 0), (Go.Value.int Go.IntKind.i64 0), (Go.Value.int Go.IntKind.i64 0), (Go.Value.int Go.IntKind.u64 0), (Go.Value.int Go.IntKind.i64 0), (Go.Value.int Go.IntKind.i64 0), (Go.Value.int Go.IntKind.u64 0), (Go.Value.int Go.IntKind.i64 0), (Go.Value.int Go.IntKind.u64 0), (Go.Value.int Go.IntKind.i64 0), (Go.Value.int Go.IntKind.i64 0), (Go.Value.int Go.IntKind.u64 0), (Go.Value.int Go.IntKind.i64 0), (Go.Value.int Go.IntKind.u64 0), (Go.Value.int Go.IntKind.i64 0), (Go.Value.int Go.IntKind.i64 0), (Go.Value.int Go.IntKind.i64 0), (Go.Value.int Go.IntKind.u64 0), (Go.Value.slice Option.none 0 0), (Go.Value.slice Option.none 0 0), (Go.Value.int Go.IntKind.i64 0), (Go.Value.int Go.IntKind.i64 0), (Go.Value.int Go.IntKind.u64 0), (Go.Value.int Go.IntKind.i64 0), (Go.Value.int Go.IntKind.u64 0), (Go.Value.int Go.IntKind.i64 0), (Go.Value.int Go.IntKind.i64 0), (Go.Value.int Go.IntKind.u64 0), (Go.Value.int Go.IntKind.i64 0), (Go.Value.int Go.IntKind.u64 0), (Go.Value.bool Bool.false)])) fun c5 => S.bd (stl c5 0 36 r4.1) fun c6 => S.bd (lcl c6 0) fun x7 => S.bd (eqb [1] false true x7 (Go.Value.int Go.IntKind.i64 3)) fun x8 => S.cnd x8 (some ((Value.tuple ⟨[]⟩), r4.2)) (S.bd (nck a0) fun x9 => S.bd (fld 15 x9) fun x10 => S.bd (ldc r4.2 x10) fun x11 => S.bd (eqb [1] false false x11 (Go.Value.int Go.IntKind.i64 (-1))) fun x12 => S.cnd x12 (S.bd (nck a0) fun x13 => S.bd (fld 9 x13) fun x14 => S.bd (stv r4.2 1 x14 Go.Value.nilIface) fun s15 => S.bd (lal c6 30 5) fun x16 => S.bd (nck a0) fun x17 => S.bd (fld 10 x17) fun x18 => S.bd (stv s15 5 x18 x16) fun s19 => S.bd (lcl c6 21) fun x20 => S.bd (eqb [1] false true x20 (Go.Value.int Go.IntKind.i64 0)) fun x21 => S.cnd x21 (S.bd (lcl c6 21) fun x22 => S.bd (remove_Remove_ends.v a0 x22 s19) fun r23 => some ((Value.tuple ⟨[]⟩), r23.2)) (S.bd (lcl c6 35) fun x24 => S.bd (un .not x24) fun x25 => S.cnd x25 (S.bd (remove_Remove_ends.v a0 (Go.Value.int Go.IntKind.i64 101) s19) fun r26 => some ((Value.tuple ⟨[]⟩), r26.2)) (some ((Value.tuple ⟨[]⟩), s19)))) (S.bd (eqb [1] false false x11 (Go.Value.int Go.IntKind.i64 0)) fun x27 => S.cnd x27 (S.bd (remove_Remove_ends.v a0 (Go.Value.int Go.IntKind.i64 0) r4.2) fun r28 => some ((Value.tuple ⟨[]⟩), r28.2)) (S.bd (lcl c6 21) fun x29 => S.bd (eqb [1] false true x29 (Go.Value.int Go.IntKind.i64 0)) fun x30 => S.cnd x30 (S.bd (remove_Remove_ends.v a0 (Go.Value.int Go.IntKind.i64 0) r4.2) fun r31 => some ((Value.tuple ⟨[]⟩), r31.2)) (S.bd (nck a0) fun x32 => S.bd (fld 15 x32) fun x33 => S.bd (ldc r4.2 x33) fun x34 => S.bd (bin .sub x34 (Go.Value.int Go.IntKind.i64 1)) fun x35 => S.bd (remove_Remove_leaves.v a0 x35 r4.2) fun r36 => some ((Value.tuple ⟨[]⟩), r36.2)))))
def remove_Remove_settles.v (a0 : Value) (s : St) : Option (Value × St) := remove_Remove_settles.t std a0 s
def remove_Remove_settles.w : List Value → St → Option (Value × St)
  | [a0], s => remove_Remove_settles.v a0 s
  | _, _ => none
def remove_Remove_settles.an : An := ⟨58, false, [2], [], [], []⟩
theorem remove_Remove_settles.ok (S : Sig) (a0 : Value) (s : St) : evF S Try.prog remove_Remove_settles.ctx remove_Remove_settles.an Try.f30 [a0] s = remove_Remove_settles.t S a0 s := by kernel_rfl
theorem remove_Remove_settles.cok : CtxOk Try.prog remove_Remove_settles.ctx := .cons remove_Remove_Next.sound remove_Remove_Next.can <| .cons leapfrogref16x_Remove_Next.sound leapfrogref16x_Remove_Next.can <| .cons leapfrogref12x_Seek_Next.sound leapfrogref12x_Seek_Next.can <| .cons leapfrogref14x_Unsplice_Next.sound leapfrogref14x_Unsplice_Next.can <| .cons seek_Seek_Next.sound seek_Seek_Next.can <| .cons unsplice_Unsplice_Next.sound unsplice_Unsplice_Next.can <| .cons remove_Remove_ends.sound remove_Remove_ends.can <| .cons remove_Remove_leaves.sound remove_Remove_leaves.can <| .nil
theorem remove_Remove_settles.draws : fnDraws remove_Remove_settles.an Try.f30 = true := by kernel_rfl
theorem remove_Remove_settles.can : callOk Try.prog 30 = true := by kernel_rfl
theorem remove_Remove_settles.sound : FnOk Try.prog 30 (.st remove_Remove_settles.w) := FnOk.st_of (evF_ok remove_Remove_settles.cok mixed (f := 30) (fn := Try.f30) (by kernel_rfl) remove_Remove_settles.draws) fun args s r h => by
  unfold remove_Remove_settles.w at h; split at h
  · rw [remove_Remove_settles.ok std]; exact h
  · simp at h

/-! ### (*leapfrog/remove.Remove).Tell: function 13 -/
def remove_Remove_Tell.ctx : Ctx := [(27, .rd remove_Remove_is.w), (14, .st leapfrogref16x_Remove_Tell.w), (37, .st leapfrogref12x_Seek_Tell.w), (35, .st leapfrogref14x_Unsplice_Tell.w), (89, .st seek_Seek_Tell.w), (106, .st unsplice_Unsplice_Tell.w), (30, .st remove_Remove_settles.w), (31, .st remove_Remove_leaves.w), (32, .st remove_Remove_ends.w)]
def remove_Remove_Tell.t (S : Sig) (a0 a1 : Value) (s : St) : Option (Value × St) :=
  S.bd (bx a1) fun c1 => S.bd (remove_Remove_is.r a0 s) fun x2 => S.bd (un .not x2) fun x3 => S.bd (S.gd x3 false (some a0)) fun x4 => S.bd (S.gd x3 false (nck x4)) fun x5 => S.bd (S.gd x3 false (fld 17 x5)) fun x6 => S.bd (S.gd x3 false (ldc s x6)) fun x7 => S.bd (pik x3 (Go.Value.bool Bool.true) x7) fun x8 => S.cnd x8 (some ((Value.tuple ⟨[]⟩), s)) (S.bd (nck a0) fun x9 => S.bd (fld 9 x9) fun x10 => S.bd (ldc s x10) fun x11 => S.bd (eqI true x11 Go.Value.nilIface) fun x12 => S.cnd x12 (S.bd (nck a0) fun x13 => S.bd (fld 9 x13) fun x14 => S.bd (ldc s x14) fun x15 => S.bd (lal c1 0 13) fun x16 => S.bd (callI Try.prog (remove_Remove_Tell.ctx) "Tell" x15 [x16] s) fun r17 => S.bd (remove_Remove_settles.v a0 r17.2) fun r18 => some ((Value.tuple ⟨[]⟩), r18.2)) (S.bd (lcl c1 0) fun x19 => S.bd (eqb [1] false false x19 (Go.Value.int Go.IntKind.i64 1)) fun x20 => S.cnd x20 (S.bd (nck a0) fun x21 => S.bd (fld 16 x21) fun x22 => S.bd (stv s 1 x22 (Go.Value.bool Bool.true)) fun s23 => S.bd (nck a0) fun x24 => S.bd (fld 10 x24) fun x25 => S.bd (fld 3 x25) fun x26 => S.bd (fld 0 x26) fun x27 => S.bd (ldc s23 x27) fun x28 => S.bd (remove_Remove_leaves.v a0 x28 s23) fun r29 => some ((Value.tuple ⟨[]⟩), r29.2)) (S.bd (lcl c1 0) fun x30 => S.bd (eqb [1] false false x30 (Go.Value.int Go.IntKind.i64 3)) fun x31 => S.cnd x31 (S.bd (remove_Remove_ends.v a0 (Go.Value.int Go.IntKind.i64 132) s) fun r32 => some ((Value.tuple ⟨[]⟩), r32.2)) (S.bd (remove_Remove_ends.v a0 (Go.Value.int Go.IntKind.i64 101) s) fun r33 => some ((Value.tuple ⟨[]⟩), r33.2)))))
def remove_Remove_Tell.v (a0 a1 : Value) (s : St) : Option (Value × St) := remove_Remove_Tell.t std a0 a1 s
def remove_Remove_Tell.w : List Value → St → Option (Value × St)
  | [a0, a1], s => remove_Remove_Tell.v a0 a1 s
  | _, _ => none
def remove_Remove_Tell.an : An := ⟨51, false, [3], [], [], [(4, [(0, 0, [], []), (1, 0, [], []), (2, 0, [], []), (3, 2, [], []), (4, 25, [], []), (5, 4, [], [])])]⟩
theorem remove_Remove_Tell.ok (S : Sig) (a0 a1 : Value) (s : St) : evF S Try.prog remove_Remove_Tell.ctx remove_Remove_Tell.an Try.f13 [a0, a1] s = remove_Remove_Tell.t S a0 a1 s := by kernel_rfl
theorem remove_Remove_Tell.cok : CtxOk Try.prog remove_Remove_Tell.ctx := .cons remove_Remove_is.sound remove_Remove_is.can <| .cons leapfrogref16x_Remove_Tell.sound leapfrogref16x_Remove_Tell.can <| .cons leapfrogref12x_Seek_Tell.sound leapfrogref12x_Seek_Tell.can <| .cons leapfrogref14x_Unsplice_Tell.sound leapfrogref14x_Unsplice_Tell.can <| .cons seek_Seek_Tell.sound seek_Seek_Tell.can <| .cons unsplice_Unsplice_Tell.sound unsplice_Unsplice_Tell.can <| .cons remove_Remove_settles.sound remove_Remove_settles.can <| .cons remove_Remove_leaves.sound remove_Remove_leaves.can <| .cons remove_Remove_ends.sound remove_Remove_ends.can <| .nil
theorem remove_Remove_Tell.draws : fnDraws remove_Remove_Tell.an Try.f13 = true := by kernel_rfl
theorem remove_Remove_Tell.can : callOk Try.prog 13 = true := by kernel_rfl
theorem remove_Remove_Tell.sound : FnOk Try.prog 13 (.st remove_Remove_Tell.w) := FnOk.st_of (evF_ok remove_Remove_Tell.cok mixed (f := 13) (fn := Try.f13) (by kernel_rfl) remove_Remove_Tell.draws) fun args s r h => by
  unfold remove_Remove_Tell.w at h; split at h
  · rw [remove_Remove_Tell.ok std]; exact h
  · simp at h

/-! ### (*leapfrog/remove.Remove).Wake: function 15 -/
def remove_Remove_Wake.ctx : Ctx := [(27, .rd remove_Remove_is.w), (16, .st leapfrogref16x_Remove_Wake.w), (39, .st leapfrogref14x_Unsplice_Wake.w), (90, .rd seek_Seek_Wake.w), (107, .st unsplice_Unsplice_Wake.w), (30, .st remove_Remove_settles.w)]
def remove_Remove_Wake.t (S : Sig) (a0 : Value) (s : St) : Option (Value × St) :=
  S.bd (remove_Remove_is.r a0 s) fun x1 => S.bd (S.gd x1 true (some a0)) fun x2 => S.bd (S.gd x1 true (nck x2)) fun x3 => S.bd (S.gd x1 true (fld 17 x3)) fun x4 => S.bd (S.gd x1 true (ldc s x4)) fun x5 => S.bd (S.gd x1 true (un .not x5)) fun x6 => S.bd (pik x1 x6 (Go.Value.bool Bool.false)) fun x7 => S.bd (S.gd x7 true (some a0)) fun x8 => S.bd (S.gd x7 true (nck x8)) fun x9 => S.bd (S.gd x7 true (fld 9 x9)) fun x10 => S.bd (S.gd x7 true (ldc s x10)) fun x11 => S.bd (S.gd x7 true (eqI true x11 Go.Value.nilIface)) fun x12 => S.bd (pik x7 x12 (Go.Value.bool Bool.false)) fun x13 => S.cnd x13 (S.bd (nck a0) fun x14 => S.bd (fld 9 x14) fun x15 => S.bd (ldc s x15) fun x16 => S.bd (callI Try.prog (remove_Remove_Wake.ctx) "Wake" x16 [] s) fun r17 => S.bd (remove_Remove_settles.v a0 r17.2) fun r18 => some ((Value.tuple ⟨[]⟩), r18.2)) (some ((Value.tuple ⟨[]⟩), s))
def remove_Remove_Wake.v (a0 : Value) (s : St) : Option (Value × St) := remove_Remove_Wake.t std a0 s
def remove_Remove_Wake.w : List Value → St → Option (Value × St)
  | [a0], s => remove_Remove_Wake.v a0 s
  | _, _ => none
def remove_Remove_Wake.an : An := ⟨25, false, [], [], [], []⟩
theorem remove_Remove_Wake.ok (S : Sig) (a0 : Value) (s : St) : evF S Try.prog remove_Remove_Wake.ctx remove_Remove_Wake.an Try.f15 [a0] s = remove_Remove_Wake.t S a0 s := by kernel_rfl
theorem remove_Remove_Wake.cok : CtxOk Try.prog remove_Remove_Wake.ctx := .cons remove_Remove_is.sound remove_Remove_is.can <| .cons leapfrogref16x_Remove_Wake.sound leapfrogref16x_Remove_Wake.can <| .cons leapfrogref14x_Unsplice_Wake.sound leapfrogref14x_Unsplice_Wake.can <| .cons seek_Seek_Wake.sound seek_Seek_Wake.can <| .cons unsplice_Unsplice_Wake.sound unsplice_Unsplice_Wake.can <| .cons remove_Remove_settles.sound remove_Remove_settles.can <| .nil
theorem remove_Remove_Wake.draws : fnDraws remove_Remove_Wake.an Try.f15 = true := by kernel_rfl
theorem remove_Remove_Wake.can : callOk Try.prog 15 = true := by kernel_rfl
theorem remove_Remove_Wake.sound : FnOk Try.prog 15 (.st remove_Remove_Wake.w) := FnOk.st_of (evF_ok remove_Remove_Wake.cok mixed (f := 15) (fn := Try.f15) (by kernel_rfl) remove_Remove_Wake.draws) fun args s r h => by
  unfold remove_Remove_Wake.w at h; split at h
  · rw [remove_Remove_Wake.ok std]; exact h
  · simp at h

/-! ### leapfrog/leapfroglaw16.Owner: function 20 -/
def leapfroglaw16x_Owner.ctx : Ctx := []
def leapfroglaw16x_Owner.t (S : Sig) (s : St) : Option Value :=
  S.bd (bx (Go.Value.agg #[(Go.Value.int Go.IntKind.i64 0), (Go.Value.int Go.IntKind.i64 0)])) fun c1 => S.bd (bld [(Go.Value.int Go.IntKind.i64 0), (Go.Value.int Go.IntKind.i64 0)] [(0, 1, (Go.Value.int Go.IntKind.i64 1)), (1, 1, (Go.Value.int Go.IntKind.i64 1))]) fun x2 => S.bd (stl c1 0 2 x2) fun c3 => S.bd (lal c3 0 2) fun x4 => some (x4)
def leapfroglaw16x_Owner.r (s : St) : Option Value := leapfroglaw16x_Owner.t std  s
def leapfroglaw16x_Owner.w : List Value → St → Option Value
  | [], s => leapfroglaw16x_Owner.r  s
  | _, _ => none
def leapfroglaw16x_Owner.an : An := ⟨2, true, [0], [], [], []⟩
theorem leapfroglaw16x_Owner.ok (S : Sig) (s : St) : evG S Try.prog leapfroglaw16x_Owner.ctx leapfroglaw16x_Owner.an Try.f20 [] s = leapfroglaw16x_Owner.t S  s := by kernel_rfl
theorem leapfroglaw16x_Owner.cok : CtxOk Try.prog leapfroglaw16x_Owner.ctx := .nil
theorem leapfroglaw16x_Owner.draws : fnDraws leapfroglaw16x_Owner.an Try.f20 = true := by kernel_rfl
theorem leapfroglaw16x_Owner.can : callOk Try.prog 20 = true := by kernel_rfl
theorem leapfroglaw16x_Owner.sound : FnOk Try.prog 20 (.rd leapfroglaw16x_Owner.w) := FnOk.rd_of (evG_ok leapfroglaw16x_Owner.cok mixed (f := 20) (fn := Try.f20) (by kernel_rfl) leapfroglaw16x_Owner.draws) fun args s r h => by
  unfold leapfroglaw16x_Owner.w at h; split at h
  · rw [leapfroglaw16x_Owner.ok std]; exact h
  · simp at h

/-! ### leapfrog/seek.right: function 40 -/
def seek_right.ctx : Ctx := [(41, .rd key_Check.w), (57, .rd vec_Right.w)]
def seek_right.t (S : Sig) (a0 a1 : Value) (s : St) : Option Value :=
  S.bd (bx a0) fun c1 => S.bd (lal c1 1 2) fun x2 => S.bd (key_Check.r x2 s) fun x3 => S.bd (eqb [1] false false x3 (Go.Value.int Go.IntKind.i64 0)) fun x4 => S.bd (S.gd x4 true (lal c1 3 2)) fun x5 => S.bd (S.gd x4 true (vec_Right.r x5 s)) fun x6 => S.bd (S.gd x4 true (eqb [1] false false x6 (Go.Value.int Go.IntKind.i64 0))) fun x7 => S.bd (pik x4 x7 (Go.Value.bool Bool.false)) fun x8 => S.bd (S.gd x8 true (lcl c1 3)) fun x9 => S.bd (S.gd x8 true (some a1)) fun x10 => S.bd (S.gd x8 true (eqb [1] false false x9 x10)) fun x11 => S.bd (pik x8 x11 (Go.Value.bool Bool.false)) fun x12 => some (x12)
def seek_right.r (a0 a1 : Value) (s : St) : Option Value := seek_right.t std a0 a1 s
def seek_right.w : List Value → St → Option Value
  | [a0, a1], s => seek_right.r a0 a1 s
  | _, _ => none
def seek_right.an : An := ⟨22, true, [2], [], [], []⟩
theorem seek_right.ok (S : Sig) (a0 a1 : Value) (s : St) : evG S Try.prog seek_right.ctx seek_right.an Try.f40 [a0, a1] s = seek_right.t S a0 a1 s := by kernel_rfl
theorem seek_right.cok : CtxOk Try.prog seek_right.ctx := .cons key_Check.sound key_Check.can <| .cons vec_Right.sound vec_Right.can <| .nil
theorem seek_right.draws : fnDraws seek_right.an Try.f40 = true := by kernel_rfl
theorem seek_right.can : callOk Try.prog 40 = true := by kernel_rfl
theorem seek_right.sound : FnOk Try.prog 40 (.rd seek_right.w) := FnOk.rd_of (evG_ok seek_right.cok mixed (f := 40) (fn := Try.f40) (by kernel_rfl) seek_right.draws) fun args s r h => by
  unfold seek_right.w at h; split at h
  · rw [seek_right.ok std]; exact h
  · simp at h

/-! ### leapfrog/seek.New: function 22 -/
def seek_New.ctx : Ctx := [(40, .rd seek_right.w), (41, .rd key_Check.w)]
def seek_New.t.p1 (S : Sig) (x6 : Value) (x9 : Value) (c1 : List Value) (s : St) : Option (Value × St) :=
  S.bd (S.gd x6 false (un .not x9)) fun x10 => S.bd (pik x6 (Go.Value.bool Bool.true) x10) fun x11 => S.bd (S.gd x11 false (lal c1 6 2)) fun x12 => S.bd (S.gd x11 false (key_Check.r x12 s)) fun x13 => S.bd (S.gd x11 false (eqb [1] false true x13 (Go.Value.int Go.IntKind.i64 0))) fun x14 => S.bd (pik x11 (Go.Value.bool Bool.true) x14) fun x15 => S.bd (S.gd x15 false (lcl c1 6)) fun x16 => S.bd (S.gd x15 false (eqb [1] false false x16 (Go.Value.int Go.IntKind.i64 1))) fun x17 => S.bd (pik x15 (Go.Value.bool Bool.true) x17) fun x18 => S.cnd x18 (some ((Value.tuple ⟨[(Go.Value.pointer Option.none), (Go.Value.int Go.IntKind.i64 120)]⟩), s)) (S.bd (lal c1 0 8) fun x19 => S.bd (lal c1 1 5) fun x20 => S.bd (lal c1 4 2) fun x21 => S.bd (mkm s) fun r22 => S.bd (bld [(Go.Value.int Go.IntKind.i64 0), (Go.Value.int Go.IntKind.i64 0), (Go.Value.int Go.IntKind.i64 0), (Go.Value.int Go.IntKind.u64 0), (Go.Value.int Go.IntKind.i64 0), (Go.Value.int Go.IntKind.u64 0), (Go.Value.int Go.IntKind.i64 0), (Go.Value.int Go.IntKind.u64 0), (Go.Value.bool Bool.false), (Go.Value.int Go.IntKind.i64 0), (Go.Value.int Go.IntKind.i64 0), (Go.Value.int Go.IntKind.u64 0), (Go.Value.int Go.IntKind.i64 0), (Go.Value.int Go.IntKind.u64 0), (Go.Value.int Go.IntKind.i64 0), (Go.Value.int Go.IntKind.u64 0), (Go.Value.bool Bool.false), (Go.Value.int Go.IntKind.i64 0), (Go.Value.int Go.IntKind.i64 0), (Go.Value.int Go.IntKind.u64 0), (Go.Value.int Go.IntKind.i64 0), (Go.Value.int Go.IntKind.u64 0), (Go.Value.map Option.none), (Go.Value.int Go.IntKind.i64 0), (Go.Value.bool Bool.false), (Go.Value.int Go.IntKind.i64 0), (Go.Value.int Go.IntKind.u64 0), (Go.Value.slice Option.none 0 0), (Go.Value.slice Option.none 0 0), (Go.Value.int Go.IntKind.i64 0), (Go.Value.int Go.IntKind.i64 0), (Go.Value.int Go.IntKind.u64 0), (Go.Value.int Go.IntKind.i64 0), (Go.Value.int Go.IntKind.u64 0), (Go.Value.int Go.IntKind.i64 0), (Go.Value.int Go.IntKind.i64 0), (Go.Value.int Go.IntKind.u64 0), (Go.Value.int Go.IntKind.i64 0), (Go.Value.int Go.IntKind.u64 0), (Go.Value.bool Bool.false)] [(0, 8, x19), (8, 1, (Go.Value.bool Bool.true)), (9, 5, x20), (14, 2, x21), (22, 1, r22.1)]) fun x23 => S.bd (alv r22.2 x23) fun r24 => some ((Value.tuple ⟨[r24.1, (Go.Value.int Go.IntKind.i64 0)]⟩), r24.2))

def seek_New.t (S : Sig) (a0 : Value) (s : St) : Option (Value × St) :=
  S.bd (bx a0) fun c1 => S.bd (lcl c1 0) fun x2 => S.bd (bin .lss x2 (Go.Value.int Go.IntKind.i64 0)) fun x3 => S.bd (S.gd x3 false (lcl c1 0)) fun x4 => S.bd (S.gd x3 false (bin .gtr x4 (Go.Value.int Go.IntKind.i64 32))) fun x5 => S.bd (pik x3 (Go.Value.bool Bool.true) x5) fun x6 => S.bd (S.gd x6 false (lal c1 1 5)) fun x7 => S.bd (S.gd x6 false (lcl c1 0)) fun x8 => S.bd (S.gd x6 false (seek_right.r x7 x8 s)) fun x9 => seek_New.t.p1 S x6 x9 c1 s
def seek_New.v (a0 : Value) (s : St) : Option (Value × St) := seek_New.t std a0 s
def seek_New.w : List Value → St → Option (Value × St)
  | [a0], s => seek_New.v a0 s
  | _, _ => none
def seek_New.an : An := ⟨41, false, [1], [], [], []⟩
theorem seek_New.ok (S : Sig) (a0 : Value) (s : St) : evF S Try.prog seek_New.ctx seek_New.an Try.f22 [a0] s = seek_New.t S a0 s := by kernel_rfl
theorem seek_New.cok : CtxOk Try.prog seek_New.ctx := .cons seek_right.sound seek_right.can <| .cons key_Check.sound key_Check.can <| .nil
theorem seek_New.draws : fnDraws seek_New.an Try.f22 = true := by kernel_rfl
theorem seek_New.can : callOk Try.prog 22 = true := by kernel_rfl
theorem seek_New.sound : FnOk Try.prog 22 (.st seek_New.w) := FnOk.st_of (evF_ok seek_New.cok mixed (f := 22) (fn := Try.f22) (by kernel_rfl) seek_New.draws) fun args s r h => by
  unfold seek_New.w at h; split at h
  · rw [seek_New.ok std]; exact h
  · simp at h

/-! ### leapfrog/remove.New: function 7 -/
def remove_New.ctx : Ctx := [(22, .st seek_New.w), (23, .rd lock_Check.w)]
def remove_New.t (S : Sig) (a0 : Value) (s : St) : Option (Value × St) :=
  S.bd (bx a0) fun c1 => S.bd (lcl c1 0) fun x2 => S.bd (lal c1 1 5) fun x3 => S.bd (lcl c1 6) fun x4 => S.bd (bld [(Go.Value.int Go.IntKind.i64 0), (Go.Value.int Go.IntKind.u64 0)] [(0, 1, (Go.Value.int Go.IntKind.i64 2)), (1, 1, x4)]) fun x5 => S.bd (bld [(Go.Value.int Go.IntKind.i64 0), (Go.Value.int Go.IntKind.i64 0), (Go.Value.int Go.IntKind.i64 0), (Go.Value.int Go.IntKind.u64 0), (Go.Value.int Go.IntKind.i64 0), (Go.Value.int Go.IntKind.u64 0), (Go.Value.int Go.IntKind.i64 0), (Go.Value.int Go.IntKind.u64 0)] [(0, 1, x2), (1, 5, x3), (6, 2, x5)]) fun x6 => S.bd (seek_New.v x6 s) fun r7 => S.bd (xtr 0 r7.1) fun x8 => S.bd (xtr 1 r7.1) fun x9 => S.bd (eqb [1] false true x9 (Go.Value.int Go.IntKind.i64 0)) fun x10 => S.bd (S.gd x10 false (lal c1 7 2)) fun x11 => S.bd (S.gd x10 false (lock_Check.r x11 r7.2)) fun x12 => S.bd (S.gd x10 false (eqb [1] false true x12 (Go.Value.int Go.IntKind.i64 0))) fun x13 => S.bd (pik x10 (Go.Value.bool Bool.true) x13) fun x14 => S.cnd x14 (some ((Value.tuple ⟨[(Go.Value.pointer Option.none), (Go.Value.int Go.IntKind.i64 160)]⟩), r7.2)) (S.bd (lal c1 0 9) fun x15 => S.bd (bld [(Go.Value.int Go.IntKind.i64 0), (Go.Value.int Go.IntKind.i64 0), (Go.Value.int Go.IntKind.i64 0), (Go.Value.int Go.IntKind.u64 0), (Go.Value.int Go.IntKind.i64 0), (Go.Value.int Go.IntKind.u64 0), (Go.Value.int Go.IntKind.u64 0), (Go.Value.int Go.IntKind.i64 0), (Go.Value.int Go.IntKind.i64 0), Go.Value.nilIface, (Go.Value.int Go.IntKind.i64 0), (Go.Value.int Go.IntKind.i64 0), (Go.Value.int Go.IntKind.u64 0), (Go.Value.int Go.IntKind.i64 0), (Go.Value.int Go.IntKind.u64 0), (Go.Value.int Go.IntKind.i64 0), (Go.Value.bool Bool.false), (Go.Value.bool Bool.false), (Go.Value.int Go.IntKind.i64 0), (Go.Value.bool Bool.false)] [(0, 9, x15), (9, 1, (Value.iface 77 x8)), (15, 1, (Go.Value.int Go.IntKind.i64 (-1))), (19, 1, (Go.Value.bool Bool.true))]) fun x16 => S.bd (alv r7.2 x16) fun r17 => some ((Value.tuple ⟨[r17.1, (Go.Value.int Go.IntKind.i64 0)]⟩), r17.2))
def remove_New.v (a0 : Value) (s : St) : Option (Value × St) := remove_New.t std a0 s
def remove_New.w : List Value → St → Option (Value × St)
  | [a0], s => remove_New.v a0 s
  | _, _ => none
def remove_New.an : An := ⟨31, false, [1], [], [], []⟩
theorem remove_New.ok (S : Sig) (a0 : Value) (s : St) : evF S Try.prog remove_New.ctx remove_New.an Try.f7 [a0] s = remove_New.t S a0 s := by kernel_rfl
theorem remove_New.cok : CtxOk Try.prog remove_New.ctx := .cons seek_New.sound seek_New.can <| .cons lock_Check.sound lock_Check.can <| .nil
theorem remove_New.draws : fnDraws remove_New.an Try.f7 = true := by kernel_rfl
theorem remove_New.can : callOk Try.prog 7 = true := by kernel_rfl
theorem remove_New.sound : FnOk Try.prog 7 (.st remove_New.w) := FnOk.st_of (evF_ok remove_New.cok mixed (f := 7) (fn := Try.f7) (by kernel_rfl) remove_New.draws) fun args s r h => by
  unfold remove_New.w at h; split at h
  · rw [remove_New.ok std]; exact h
  · simp at h

/-! ### leapfrog/leapfrogref12.Tail: function 21 -/
def leapfrogref12x_Tail.ctx : Ctx := []
def leapfrogref12x_Tail.t (S : Sig) (a0 : Value) (s : St) : Option Value :=
  S.bd (bx (Go.Value.agg #[(Go.Value.int Go.IntKind.i64 0), (Go.Value.int Go.IntKind.i64 0), (Go.Value.int Go.IntKind.u64 0), (Go.Value.int Go.IntKind.i64 0), (Go.Value.int Go.IntKind.u64 0)])) fun c1 => S.bd (bld [(Go.Value.int Go.IntKind.i64 0), (Go.Value.int Go.IntKind.u64 0)] [(0, 1, (Go.Value.int Go.IntKind.i64 3))]) fun x2 => S.bd (bld [(Go.Value.int Go.IntKind.i64 0), (Go.Value.int Go.IntKind.u64 0)] [(0, 1, a0)]) fun x3 => S.bd (bld [(Go.Value.int Go.IntKind.i64 0), (Go.Value.int Go.IntKind.i64 0), (Go.Value.int Go.IntKind.u64 0), (Go.Value.int Go.IntKind.i64 0), (Go.Value.int Go.IntKind.u64 0)] [(0, 1, (Go.Value.int Go.IntKind.i64 1)), (1, 2, x2), (3, 2, x3)]) fun x4 => S.bd (stl c1 0 5 x4) fun c5 => S.bd (lal c5 0 5) fun x6 => some (x6)
def leapfrogref12x_Tail.r (a0 : Value) (s : St) : Option Value := leapfrogref12x_Tail.t std a0 s
def leapfrogref12x_Tail.w : List Value → St → Option Value
  | [a0], s => leapfrogref12x_Tail.r a0 s
  | _, _ => none
def leapfrogref12x_Tail.an : An := ⟨7, true, [2], [], [], []⟩
theorem leapfrogref12x_Tail.ok (S : Sig) (a0 : Value) (s : St) : evG S Try.prog leapfrogref12x_Tail.ctx leapfrogref12x_Tail.an Try.f21 [a0] s = leapfrogref12x_Tail.t S a0 s := by kernel_rfl
theorem leapfrogref12x_Tail.cok : CtxOk Try.prog leapfrogref12x_Tail.ctx := .nil
theorem leapfrogref12x_Tail.draws : fnDraws leapfrogref12x_Tail.an Try.f21 = true := by kernel_rfl
theorem leapfrogref12x_Tail.can : callOk Try.prog 21 = true := by kernel_rfl
theorem leapfrogref12x_Tail.sound : FnOk Try.prog 21 (.rd leapfrogref12x_Tail.w) := FnOk.rd_of (evG_ok leapfrogref12x_Tail.cok mixed (f := 21) (fn := Try.f21) (by kernel_rfl) leapfrogref12x_Tail.draws) fun args s r h => by
  unfold leapfrogref12x_Tail.w at h; split at h
  · rw [leapfrogref12x_Tail.ok std]; exact h
  · simp at h

/-! ### (*leapfrog/remove.Remove).Marked: function 12 -/
def remove_Remove_Marked.ctx : Ctx := [(27, .rd remove_Remove_is.w)]
def remove_Remove_Marked.t (S : Sig) (a0 : Value) (s : St) : Option Value :=
  S.bd (remove_Remove_is.r a0 s) fun x1 => S.bd (S.gd x1 true (some a0)) fun x2 => S.bd (S.gd x1 true (nck x2)) fun x3 => S.bd (S.gd x1 true (fld 16 x3)) fun x4 => S.bd (S.gd x1 true (ldc s x4)) fun x5 => S.bd (pik x1 x5 (Go.Value.bool Bool.false)) fun x6 => some (x6)
def remove_Remove_Marked.r (a0 : Value) (s : St) : Option Value := remove_Remove_Marked.t std a0 s
def remove_Remove_Marked.w : List Value → St → Option Value
  | [a0], s => remove_Remove_Marked.r a0 s
  | _, _ => none
def remove_Remove_Marked.an : An := ⟨11, true, [], [], [], []⟩
theorem remove_Remove_Marked.ok (S : Sig) (a0 : Value) (s : St) : evG S Try.prog remove_Remove_Marked.ctx remove_Remove_Marked.an Try.f12 [a0] s = remove_Remove_Marked.t S a0 s := by kernel_rfl
theorem remove_Remove_Marked.cok : CtxOk Try.prog remove_Remove_Marked.ctx := .cons remove_Remove_is.sound remove_Remove_is.can <| .nil
theorem remove_Remove_Marked.draws : fnDraws remove_Remove_Marked.an Try.f12 = true := by kernel_rfl
theorem remove_Remove_Marked.can : callOk Try.prog 12 = true := by kernel_rfl
theorem remove_Remove_Marked.sound : FnOk Try.prog 12 (.rd remove_Remove_Marked.w) := FnOk.rd_of (evG_ok remove_Remove_Marked.cok mixed (f := 12) (fn := Try.f12) (by kernel_rfl) remove_Remove_Marked.draws) fun args s r h => by
  unfold remove_Remove_Marked.w at h; split at h
  · rw [remove_Remove_Marked.ok std]; exact h
  · simp at h

/-! ### leapfrog/leapfroglaw16.awake: function 6 -/
def leapfroglaw16x_awake.ctx : Ctx := [(19, .rd leapfrogref12x_Head.w), (20, .rd leapfroglaw16x_Owner.w), (7, .st remove_New.w), (10, .st remove_Remove_Next.w), (21, .rd leapfrogref12x_Tail.w), (13, .st remove_Remove_Tell.w), (12, .rd remove_Remove_Marked.w)]
def leapfroglaw16x_awake.t.p1 (S : Sig) (x5 : Value) (r4 : Value × St) : Option (Value × St) :=
  S.bd (remove_Remove_Next.v x5 r4.2) fun r11 => S.bd (bx (Go.Value.agg #[(Go.Value.int Go.IntKind.i64 0), (Go.Value.int Go.IntKind.i64 0), (Go.Value.int Go.IntKind.i64 0), (Go.Value.int Go.IntKind.u64 0), (Go.Value.int Go.IntKind.i64 0), (Go.Value.int Go.IntKind.u64 0), (Go.Value.int Go.IntKind.i64 0), (Go.Value.int Go.IntKind.i64 0), (Go.Value.int Go.IntKind.u64 0), (Go.Value.int Go.IntKind.i64 0), (Go.Value.int Go.IntKind.i64 0), (Go.Value.int Go.IntKind.u64 0), (Go.Value.int Go.IntKind.i64 0), (Go.Value.int Go.IntKind.u64 0), (Go.Value.int Go.IntKind.i64 0), (Go.Value.int Go.IntKind.i64 0), (Go.Value.int Go.IntKind.u64 0), (Go.Value.int Go.IntKind.i64 0), (Go.Value.int Go.IntKind.u64 0), (Go.Value.int Go.IntKind.i64 0), (Go.Value.int Go.IntKind.i64 0), (Go.Value.int Go.IntKind.i64 0), (Go.Value.int Go.IntKind.u64 0), (Go.Value.slice Option.none 0 0), (Go.Value.slice Option.none 0 0), (Go.Value.int Go.IntKind.i64 0), (Go.Value.int Go.IntKind.i64 0), (Go.Value.int Go.IntKind.u64 0), (Go.Value.int Go.IntKind.i64 0), (Go.Value.int Go.IntKind.u64 0), (Go.Value.int Go.IntKind.i64 0), (Go.Value.int Go.IntKind.i64 0), (Go.Value.int Go.IntKind.u64 0), (Go.Value.int Go.IntKind.i64 0), (Go.Value.int Go.IntKind.u64 0), (Go.Value.bool Bool.false)])) fun c12 => S.bd (stl c12 0 36 r11.1) fun c13 => S.bd (leapfrogref12x_Tail.r (Go.Value.int Go.IntKind.i64 0) r11.2) fun x14 => S.bd (bld [(Go.Value.int Go.IntKind.i64 0), (Go.Value.bool Bool.false), (Go.Value.int Go.IntKind.i64 0), (Go.Value.int Go.IntKind.i64 0), (Go.Value.int Go.IntKind.u64 0), (Go.Value.int Go.IntKind.i64 0), (Go.Value.int Go.IntKind.u64 0), (Go.Value.int Go.IntKind.i64 0), (Go.Value.int Go.IntKind.i64 0), (Go.Value.int Go.IntKind.u64 0), (Go.Value.int Go.IntKind.i64 0), (Go.Value.int Go.IntKind.u64 0), (Go.Value.slice Option.none 0 0)] [(0, 1, (Go.Value.int Go.IntKind.i64 1)), (7, 5, x14)]) fun x15 => S.bd (remove_Remove_Tell.v x5 x15 r11.2) fun r16 => S.bd (remove_Remove_Next.v x5 r16.2) fun r17 => S.bd (bx (Go.Value.agg #[(Go.Value.int Go.IntKind.i64 0), (Go.Value.int Go.IntKind.i64 0), (Go.Value.int Go.IntKind.i64 0), (Go.Value.int Go.IntKind.u64 0), (Go.Value.int Go.IntKind.i64 0), (Go.Value.int Go.IntKind.u64 0), (Go.Value.int Go.IntKind.i64 0), (Go.Value.int Go.IntKind.i64 0), (Go.Value.int Go.IntKind.u64 0), (Go.Value.int Go.IntKind.i64 0), (Go.Value.int Go.IntKind.i64 0), (Go.Value.int Go.IntKind.u64 0), (Go.Value.int Go.IntKind.i64 0), (Go.Value.int Go.IntKind.u64 0), (Go.Value.int Go.IntKind.i64 0), (Go.Value.int Go.IntKind.i64 0), (Go.Value.int Go.IntKind.u64 0), (Go.Value.int Go.IntKind.i64 0), (Go.Value.int Go.IntKind.u64 0), (Go.Value.int Go.IntKind.i64 0), (Go.Value.int Go.IntKind.i64 0), (Go.Value.int Go.IntKind.i64 0), (Go.Value.int Go.IntKind.u64 0), (Go.Value.slice Option.none 0 0), (Go.Value.slice Option.none 0 0), (Go.Value.int Go.IntKind.i64 0), (Go.Value.int Go.IntKind.i64 0), (Go.Value.int Go.IntKind.u64 0), (Go.Value.int Go.IntKind.i64 0), (Go.Value.int Go.IntKind.u64 0), (Go.Value.int Go.IntKind.i64 0), (Go.Value.int Go.IntKind.i64 0), (Go.Value.int Go.IntKind.u64 0), (Go.Value.int Go.IntKind.i64 0), (Go.Value.int Go.IntKind.u64 0), (Go.Value.bool Bool.false)])) fun c18 => S.bd (stl c18 0 36 r17.1) fun c19 => S.bd (lcl c13 0) fun x20 => S.bd (eqb [1] false false x20 (Go.Value.int Go.IntKind.i64 1)) fun x21 => S.bd (S.gd x21 true (lcl c13 6)) fun x22 => S.bd (S.gd x21 true (eqb [1] false false x22 (Go.Value.int Go.IntKind.i64 1))) fun x23 => S.bd (pik x21 x23 (Go.Value.bool Bool.false)) fun x24 => S.bd (S.gd x24 true (lcl c19 0)) fun x25 => S.bd (S.gd x24 true (eqb [1] false false x25 (Go.Value.int Go.IntKind.i64 3))) fun x26 => S.bd (pik x24 x26 (Go.Value.bool Bool.false)) fun x27 => S.bd (S.gd x27 true (lcl c19 21)) fun x28 => S.bd (S.gd x27 true (eqb [1] false false x28 (Go.Value.int Go.IntKind.i64 101))) fun x29 => S.bd (pik x27 x29 (Go.Value.bool Bool.false)) fun x30 => S.bd (S.gd x30 true (some x5)) fun x31 => S.bd (S.gd x30 true (remove_Remove_Marked.r x31 r17.2)) fun x32 => S.bd (S.gd x30 true (un .not x32)) fun x33 => S.bd (pik x30 x33 (Go.Value.bool Bool.false)) fun x34 => some (x34, r17.2)

def leapfroglaw16x_awake.t (S : Sig) (s : St) : Option (Value × St) :=
  S.bd (leapfrogref12x_Head.r (Go.Value.int Go.IntKind.i64 0) s) fun x1 => S.bd (leapfroglaw16x_Owner.r  s) fun x2 => S.bd (bld [(Go.Value.int Go.IntKind.i64 0), (Go.Value.int Go.IntKind.i64 0), (Go.Value.int Go.IntKind.i64 0), (Go.Value.int Go.IntKind.u64 0), (Go.Value.int Go.IntKind.i64 0), (Go.Value.int Go.IntKind.u64 0), (Go.Value.int Go.IntKind.u64 0), (Go.Value.int Go.IntKind.i64 0), (Go.Value.int Go.IntKind.i64 0)] [(1, 5, x1), (6, 1, (Go.Value.int Go.IntKind.u64 7)), (7, 2, x2)]) fun x3 => S.bd (remove_New.v x3 s) fun r4 => S.bd (xtr 0 r4.1) fun x5 => S.bd (xtr 1 r4.1) fun x6 => S.bd (eqb [1] false true x6 (Go.Value.int Go.IntKind.i64 0)) fun x7 => S.bd (S.gd x7 false (some x5)) fun x8 => S.bd (S.gd x7 false (eqb [3] false false x8 (Go.Value.pointer Option.none))) fun x9 => S.bd (pik x7 (Go.Value.bool Bool.true) x9) fun x10 => S.cnd x10 (some ((Go.Value.bool Bool.false), r4.2)) (leapfroglaw16x_awake.t.p1 S x5 r4)
def leapfroglaw16x_awake.v (s : St) : Option (Value × St) := leapfroglaw16x_awake.t std  s
def leapfroglaw16x_awake.w : List Value → St → Option (Value × St)
  | [], s => leapfroglaw16x_awake.v  s
  | _, _ => none
def leapfroglaw16x_awake.an : An := ⟨51, false, [3, 4], [], [], []⟩
theorem leapfroglaw16x_awake.ok (S : Sig) (s : St) : evF S Try.prog leapfroglaw16x_awake.ctx leapfroglaw16x_awake.an Try.f6 [] s = leapfroglaw16x_awake.t S  s := by kernel_rfl
theorem leapfroglaw16x_awake.cok : CtxOk Try.prog leapfroglaw16x_awake.ctx := .cons leapfrogref12x_Head.sound leapfrogref12x_Head.can <| .cons leapfroglaw16x_Owner.sound leapfroglaw16x_Owner.can <| .cons remove_New.sound remove_New.can <| .cons remove_Remove_Next.sound remove_Remove_Next.can <| .cons leapfrogref12x_Tail.sound leapfrogref12x_Tail.can <| .cons remove_Remove_Tell.sound remove_Remove_Tell.can <| .cons remove_Remove_Marked.sound remove_Remove_Marked.can <| .nil
theorem leapfroglaw16x_awake.draws : fnDraws leapfroglaw16x_awake.an Try.f6 = true := by kernel_rfl
theorem leapfroglaw16x_awake.can : callOk Try.prog 6 = true := by kernel_rfl
theorem leapfroglaw16x_awake.sound : FnOk Try.prog 6 (.st leapfroglaw16x_awake.w) := FnOk.st_of (evF_ok leapfroglaw16x_awake.cok mixed (f := 6) (fn := Try.f6) (by kernel_rfl) leapfroglaw16x_awake.draws) fun args s r h => by
  unfold leapfroglaw16x_awake.w at h; split at h
  · rw [leapfroglaw16x_awake.ok std]; exact h
  · simp at h

/-! ### leapfrog/leapfroglaw16.awake: function 6, closed -/
def leapfroglaw16x_awakeC.r (s : St) : Option Value := some (Value.bool true)
def leapfroglaw16x_awakeC.w : List Value → St → Option Value := closedW (Value.bool true)
theorem leapfroglaw16x_awakeC.can : callOk Try.prog 6 = true := leapfroglaw16x_awake.can
theorem leapfroglaw16x_awakeC.sound : FnOk Try.prog 6 (.rd leapfroglaw16x_awakeC.w) := FnOk.closed leapfroglaw16x_awake.sound (by kernel_rfl) rfl

/-! ### leapfrog/leapfrogref02.At: function 17 -/
def leapfrogref02x_At.ctx : Ctx := []
def leapfrogref02x_At.t (S : Sig) (a0 : Value) (s : St) : Option Value :=
  S.bd (bx (Go.Value.agg #[(Go.Value.int Go.IntKind.i64 0), (Go.Value.int Go.IntKind.u64 0)])) fun c1 => S.bd (bld [(Go.Value.int Go.IntKind.i64 0), (Go.Value.int Go.IntKind.u64 0)] [(0, 1, (Go.Value.int Go.IntKind.i64 2)), (1, 1, a0)]) fun x2 => S.bd (stl c1 0 2 x2) fun c3 => S.bd (lal c3 0 2) fun x4 => some (x4)
def leapfrogref02x_At.r (a0 : Value) (s : St) : Option Value := leapfrogref02x_At.t std a0 s
def leapfrogref02x_At.w : List Value → St → Option Value
  | [a0], s => leapfrogref02x_At.r a0 s
  | _, _ => none
def leapfrogref02x_At.an : An := ⟨5, true, [2], [], [], []⟩
theorem leapfrogref02x_At.ok (S : Sig) (a0 : Value) (s : St) : evG S Try.prog leapfrogref02x_At.ctx leapfrogref02x_At.an Try.f17 [a0] s = leapfrogref02x_At.t S a0 s := by kernel_rfl
theorem leapfrogref02x_At.cok : CtxOk Try.prog leapfrogref02x_At.ctx := .nil
theorem leapfrogref02x_At.draws : fnDraws leapfrogref02x_At.an Try.f17 = true := by kernel_rfl
theorem leapfrogref02x_At.can : callOk Try.prog 17 = true := by kernel_rfl
theorem leapfrogref02x_At.sound : FnOk Try.prog 17 (.rd leapfrogref02x_At.w) := FnOk.rd_of (evG_ok leapfrogref02x_At.cok mixed (f := 17) (fn := Try.f17) (by kernel_rfl) leapfrogref02x_At.draws) fun args s r h => by
  unfold leapfrogref02x_At.w at h; split at h
  · rw [leapfrogref02x_At.ok std]; exact h
  · simp at h

/-! ### leapfrog/leapfrogref12.Right: function 42 -/
def leapfrogref12x_Right.ctx : Ctx := [(43, .rd leapfrogref02x_Check.w), (58, .rd leapfrogref01x_Right.w)]
def leapfrogref12x_Right.t (S : Sig) (a0 a1 : Value) (s : St) : Option Value :=
  S.bd (bx a0) fun c1 => S.bd (lal c1 1 2) fun x2 => S.bd (leapfrogref02x_Check.r x2 s) fun x3 => S.bd (eqb [1] false false x3 (Go.Value.int Go.IntKind.i64 0)) fun x4 => S.bd (S.gd x4 true (lal c1 3 2)) fun x5 => S.bd (S.gd x4 true (leapfrogref01x_Right.r x5 s)) fun x6 => S.bd (pik x4 x6 (Go.Value.bool Bool.false)) fun x7 => S.bd (S.gd x7 true (lcl c1 3)) fun x8 => S.bd (S.gd x7 true (some a1)) fun x9 => S.bd (S.gd x7 true (eqb [1] false false x8 x9)) fun x10 => S.bd (pik x7 x10 (Go.Value.bool Bool.false)) fun x11 => some (x11)
def leapfrogref12x_Right.r (a0 a1 : Value) (s : St) : Option Value := leapfrogref12x_Right.t std a0 a1 s
def leapfrogref12x_Right.w : List Value → St → Option Value
  | [a0, a1], s => leapfrogref12x_Right.r a0 a1 s
  | _, _ => none
def leapfrogref12x_Right.an : An := ⟨21, true, [2], [], [], []⟩
theorem leapfrogref12x_Right.ok (S : Sig) (a0 a1 : Value) (s : St) : evG S Try.prog leapfrogref12x_Right.ctx leapfrogref12x_Right.an Try.f42 [a0, a1] s = leapfrogref12x_Right.t S a0 a1 s := by kernel_rfl
theorem leapfrogref12x_Right.cok : CtxOk Try.prog leapfrogref12x_Right.ctx := .cons leapfrogref02x_Check.sound leapfrogref02x_Check.can <| .cons leapfrogref01x_Right.sound leapfrogref01x_Right.can <| .nil
theorem leapfrogref12x_Right.draws : fnDraws leapfrogref12x_Right.an Try.f42 = true := by kernel_rfl
theorem leapfrogref12x_Right.can : callOk Try.prog 42 = true := by kernel_rfl
theorem leapfrogref12x_Right.sound : FnOk Try.prog 42 (.rd leapfrogref12x_Right.w) := FnOk.rd_of (evG_ok leapfrogref12x_Right.cok mixed (f := 42) (fn := Try.f42) (by kernel_rfl) leapfrogref12x_Right.draws) fun args s r h => by
  unfold leapfrogref12x_Right.w at h; split at h
  · rw [leapfrogref12x_Right.ok std]; exact h
  · simp at h

/-! ### leapfrog/leapfrogref12.New: function 24 -/
def leapfrogref12x_New.ctx : Ctx := [(42, .rd leapfrogref12x_Right.w), (43, .rd leapfrogref02x_Check.w)]
def leapfrogref12x_New.t.p1 (S : Sig) (x6 : Value) (x9 : Value) (c1 : List Value) (s : St) : Option (Value × St) :=
  S.bd (S.gd x6 false (un .not x9)) fun x10 => S.bd (pik x6 (Go.Value.bool Bool.true) x10) fun x11 => S.bd (S.gd x11 false (lal c1 6 2)) fun x12 => S.bd (S.gd x11 false (leapfrogref02x_Check.r x12 s)) fun x13 => S.bd (S.gd x11 false (eqb [1] false true x13 (Go.Value.int Go.IntKind.i64 0))) fun x14 => S.bd (pik x11 (Go.Value.bool Bool.true) x14) fun x15 => S.bd (S.gd x15 false (lcl c1 6)) fun x16 => S.bd (S.gd x15 false (eqb [1] false false x16 (Go.Value.int Go.IntKind.i64 1))) fun x17 => S.bd (pik x15 (Go.Value.bool Bool.true) x17) fun x18 => S.cnd x18 (some ((Value.tuple ⟨[(Go.Value.pointer Option.none), (Go.Value.int Go.IntKind.i64 120)]⟩), s)) (S.bd (lal c1 0 8) fun x19 => S.bd (lal c1 1 5) fun x20 => S.bd (lal c1 4 2) fun x21 => S.bd (bld [(Go.Value.int Go.IntKind.i64 0), (Go.Value.int Go.IntKind.i64 0), (Go.Value.int Go.IntKind.i64 0), (Go.Value.int Go.IntKind.u64 0), (Go.Value.int Go.IntKind.i64 0), (Go.Value.int Go.IntKind.u64 0), (Go.Value.int Go.IntKind.i64 0), (Go.Value.int Go.IntKind.u64 0), (Go.Value.int Go.IntKind.i64 0), (Go.Value.int Go.IntKind.i64 0), (Go.Value.int Go.IntKind.u64 0), (Go.Value.int Go.IntKind.i64 0), (Go.Value.int Go.IntKind.u64 0), (Go.Value.int Go.IntKind.i64 0), (Go.Value.int Go.IntKind.u64 0), (Go.Value.bool Bool.false), (Go.Value.int Go.IntKind.i64 0), (Go.Value.int Go.IntKind.i64 0), (Go.Value.int Go.IntKind.u64 0), (Go.Value.int Go.IntKind.i64 0), (Go.Value.int Go.IntKind.u64 0), (Go.Value.slice Option.none 0 0), (Go.Value.int Go.IntKind.i64 0), (Go.Value.bool Bool.false), (Go.Value.int Go.IntKind.i64 0), (Go.Value.int Go.IntKind.u64 0), (Go.Value.slice Option.none 0 0), (Go.Value.slice Option.none 0 0), (Go.Value.int Go.IntKind.i64 0), (Go.Value.int Go.IntKind.i64 0), (Go.Value.int Go.IntKind.u64 0), (Go.Value.int Go.IntKind.i64 0), (Go.Value.int Go.IntKind.u64 0), (Go.Value.int Go.IntKind.i64 0), (Go.Value.int Go.IntKind.i64 0), (Go.Value.int Go.IntKind.u64 0), (Go.Value.int Go.IntKind.i64 0), (Go.Value.int Go.IntKind.u64 0), (Go.Value.bool Bool.false)] [(0, 8, x19), (8, 5, x20), (13, 2, x21)]) fun x22 => S.bd (alv s x22) fun r23 => some ((Value.tuple ⟨[r23.1, (Go.Value.int Go.IntKind.i64 0)]⟩), r23.2))

def leapfrogref12x_New.t (S : Sig) (a0 : Value) (s : St) : Option (Value × St) :=
  S.bd (bx a0) fun c1 => S.bd (lcl c1 0) fun x2 => S.bd (bin .lss x2 (Go.Value.int Go.IntKind.i64 0)) fun x3 => S.bd (S.gd x3 false (lcl c1 0)) fun x4 => S.bd (S.gd x3 false (bin .gtr x4 (Go.Value.int Go.IntKind.i64 32))) fun x5 => S.bd (pik x3 (Go.Value.bool Bool.true) x5) fun x6 => S.bd (S.gd x6 false (lal c1 1 5)) fun x7 => S.bd (S.gd x6 false (lcl c1 0)) fun x8 => S.bd (S.gd x6 false (leapfrogref12x_Right.r x7 x8 s)) fun x9 => leapfrogref12x_New.t.p1 S x6 x9 c1 s
def leapfrogref12x_New.v (a0 : Value) (s : St) : Option (Value × St) := leapfrogref12x_New.t std a0 s
def leapfrogref12x_New.w : List Value → St → Option (Value × St)
  | [a0], s => leapfrogref12x_New.v a0 s
  | _, _ => none
def leapfrogref12x_New.an : An := ⟨40, false, [1], [], [], []⟩
theorem leapfrogref12x_New.ok (S : Sig) (a0 : Value) (s : St) : evF S Try.prog leapfrogref12x_New.ctx leapfrogref12x_New.an Try.f24 [a0] s = leapfrogref12x_New.t S a0 s := by kernel_rfl
theorem leapfrogref12x_New.cok : CtxOk Try.prog leapfrogref12x_New.ctx := .cons leapfrogref12x_Right.sound leapfrogref12x_Right.can <| .cons leapfrogref02x_Check.sound leapfrogref02x_Check.can <| .nil
theorem leapfrogref12x_New.draws : fnDraws leapfrogref12x_New.an Try.f24 = true := by kernel_rfl
theorem leapfrogref12x_New.can : callOk Try.prog 24 = true := by kernel_rfl
theorem leapfrogref12x_New.sound : FnOk Try.prog 24 (.st leapfrogref12x_New.w) := FnOk.st_of (evF_ok leapfrogref12x_New.cok mixed (f := 24) (fn := Try.f24) (by kernel_rfl) leapfrogref12x_New.draws) fun args s r h => by
  unfold leapfrogref12x_New.w at h; split at h
  · rw [leapfrogref12x_New.ok std]; exact h
  · simp at h

/-! ### leapfrog/leapfrogref16.New: function 8 -/
def leapfrogref16x_New.ctx : Ctx := [(17, .rd leapfrogref02x_At.w), (24, .st leapfrogref12x_New.w), (25, .rd leapfrogref07x_IsOwner.w)]
def leapfrogref16x_New.t (S : Sig) (a0 : Value) (s : St) : Option (Value × St) :=
  S.bd (bx a0) fun c1 => S.bd (lcl c1 0) fun x2 => S.bd (lal c1 1 5) fun x3 => S.bd (lcl c1 6) fun x4 => S.bd (leapfrogref02x_At.r x4 s) fun x5 => S.bd (bld [(Go.Value.int Go.IntKind.i64 0), (Go.Value.int Go.IntKind.i64 0), (Go.Value.int Go.IntKind.i64 0), (Go.Value.int Go.IntKind.u64 0), (Go.Value.int Go.IntKind.i64 0), (Go.Value.int Go.IntKind.u64 0), (Go.Value.int Go.IntKind.i64 0), (Go.Value.int Go.IntKind.u64 0)] [(0, 1, x2), (1, 5, x3), (6, 2, x5)]) fun x6 => S.bd (leapfrogref12x_New.v x6 s) fun r7 => S.bd (xtr 0 r7.1) fun x8 => S.bd (xtr 1 r7.1) fun x9 => S.bd (eqb [1] false true x9 (Go.Value.int Go.IntKind.i64 0)) fun x10 => S.bd (S.gd x10 false (lal c1 7 2)) fun x11 => S.bd (S.gd x10 false (leapfrogref07x_IsOwner.r x11 r7.2)) fun x12 => S.bd (S.gd x10 false (un .not x12)) fun x13 => S.bd (pik x10 (Go.Value.bool Bool.true) x13) fun x14 => S.cnd x14 (some ((Value.tuple ⟨[(Go.Value.pointer Option.none), (Go.Value.int Go.IntKind.i64 160)]⟩), r7.2)) (S.bd (lal c1 0 9) fun x15 => S.bd (bld [(Go.Value.int Go.IntKind.i64 0), (Go.Value.int Go.IntKind.i64 0), (Go.Value.int Go.IntKind.i64 0), (Go.Value.int Go.IntKind.u64 0), (Go.Value.int Go.IntKind.i64 0), (Go.Value.int Go.IntKind.u64 0), (Go.Value.int Go.IntKind.u64 0), (Go.Value.int Go.IntKind.i64 0), (Go.Value.int Go.IntKind.i64 0), (Go.Value.pointer Option.none), (Go.Value.int Go.IntKind.i64 0), (Go.Value.int Go.IntKind.i64 0), (Go.Value.int Go.IntKind.u64 0), (Go.Value.int Go.IntKind.i64 0), (Go.Value.int Go.IntKind.u64 0), (Go.Value.bool Bool.false), (Go.Value.bool Bool.false), (Go.Value.pointer Option.none), (Go.Value.bool Bool.false), (Go.Value.int Go.IntKind.i64 0)] [(0, 9, x15), (9, 1, x8)]) fun x16 => S.bd (alv r7.2 x16) fun r17 => some ((Value.tuple ⟨[r17.1, (Go.Value.int Go.IntKind.i64 0)]⟩), r17.2))
def leapfrogref16x_New.v (a0 : Value) (s : St) : Option (Value × St) := leapfrogref16x_New.t std a0 s
def leapfrogref16x_New.w : List Value → St → Option (Value × St)
  | [a0], s => leapfrogref16x_New.v a0 s
  | _, _ => none
def leapfrogref16x_New.an : An := ⟨30, false, [1], [], [], [(1, [(0, 0, [], []), (1, 9, [], []), (2, 0, [], []), (3, 9, [], []), (4, 0, [], []), (5, 9, [], []), (6, 3, [], []), (7, 0, [], []), (8, 4, [], []), (9, 0, [], []), (10, 0, [], []), (11, 0, [], []), (12, 0, [], []), (13, 0, [], [])])]⟩
theorem leapfrogref16x_New.ok (S : Sig) (a0 : Value) (s : St) : evF S Try.prog leapfrogref16x_New.ctx leapfrogref16x_New.an Try.f8 [a0] s = leapfrogref16x_New.t S a0 s := by kernel_rfl
theorem leapfrogref16x_New.cok : CtxOk Try.prog leapfrogref16x_New.ctx := .cons leapfrogref02x_At.sound leapfrogref02x_At.can <| .cons leapfrogref12x_New.sound leapfrogref12x_New.can <| .cons leapfrogref07x_IsOwner.sound leapfrogref07x_IsOwner.can <| .nil
theorem leapfrogref16x_New.draws : fnDraws leapfrogref16x_New.an Try.f8 = true := by kernel_rfl
theorem leapfrogref16x_New.can : callOk Try.prog 8 = true := by kernel_rfl
theorem leapfrogref16x_New.sound : FnOk Try.prog 8 (.st leapfrogref16x_New.w) := FnOk.st_of (evF_ok leapfrogref16x_New.cok mixed (f := 8) (fn := Try.f8) (by kernel_rfl) leapfrogref16x_New.draws) fun args s r h => by
  unfold leapfrogref16x_New.w at h; split at h
  · rw [leapfrogref16x_New.ok std]; exact h
  · simp at h

/-! ### leapfrog/leapfrogref12.SameResult: function 26 -/
def leapfrogref12x_SameResult.ctx : Ctx := []
def leapfrogref12x_SameResult.l4 (S : Sig) (rec63 : List Value → St → Option Cut) (xs61 : List Value) (s62 : St) : Option Cut :=
  S.bd (lcl (cellsA (xs61.getD 1 undef)) 3) fun x64 => S.bd (lenL x64) fun x65 => S.bd (bin .lss (xs61.getD 0 undef) x65) fun x66 => S.cnd x66 (S.bd (lcl (cellsA (xs61.getD 1 undef)) 3) fun x67 => S.bd (idx s62 2 x67 (xs61.getD 0 undef)) fun x68 => S.bd (fld 0 x68) fun x69 => S.bd (ldc s62 x69) fun x70 => S.bd (lcl (cellsA (xs61.getD 2 undef)) 3) fun x71 => S.bd (idx s62 2 x71 (xs61.getD 0 undef)) fun x72 => S.bd (fld 0 x72) fun x73 => S.bd (ldc s62 x73) fun x74 => S.bd (eqb [1] false true x70 x74) fun x75 => S.bd (S.gd x75 false (lcl (cellsA (xs61.getD 1 undef)) 3)) fun x76 => S.bd (S.gd x75 false (some (xs61.getD 0 undef))) fun x77 => S.bd (S.gd x75 false (idx s62 2 x76 x77)) fun x78 => S.bd (S.gd x75 false (fld 1 x78)) fun x79 => S.bd (S.gd x75 false (ldc s62 x79)) fun x80 => S.bd (S.gd x75 false (b2s s62 x80)) fun x81 => S.bd (S.gd x75 false (lcl (cellsA (xs61.getD 2 undef)) 3)) fun x82 => S.bd (S.gd x75 false (some (xs61.getD 0 undef))) fun x83 => S.bd (S.gd x75 false (idx s62 2 x82 x83)) fun x84 => S.bd (S.gd x75 false (fld 1 x84)) fun x85 => S.bd (S.gd x75 false (ldc s62 x85)) fun x86 => S.bd (S.gd x75 false (b2s s62 x86)) fun x87 => S.bd (S.gd x75 false (eqb [2] false true x81 x87)) fun x88 => S.bd (pik x75 (Go.Value.bool Bool.true) x88) fun x89 => S.cnd x89 (some (1, [(Go.Value.bool Bool.false)], s62)) (S.bd (bin .add (xs61.getD 0 undef) (Go.Value.int Go.IntKind.i64 1)) fun x90 => rec63 [x90, (Value.agg ⟨(cellsA (xs61.getD 1 undef))⟩), (Value.agg ⟨(cellsA (xs61.getD 2 undef))⟩)] s62)) (some (0, [], s62))

def leapfrogref12x_SameResult.t (S : Sig) (a0 a1 : Value) (s : St) : Option Value :=
  S.bd (bx a0) fun c1 => S.bd (bx a1) fun c2 => S.bd (lcl c1 0) fun x3 => S.bd (lcl c2 0) fun x4 => S.bd (eqb [1] false true x3 x4) fun x5 => S.bd (S.gd x5 false (lcl c1 1)) fun x6 => S.bd (S.gd x5 false (lcl c2 1)) fun x7 => S.bd (S.gd x5 false (eqb [1] false true x6 x7)) fun x8 => S.bd (pik x5 (Go.Value.bool Bool.true) x8) fun x9 => S.bd (S.gd x9 false (lcl c1 2)) fun x10 => S.bd (S.gd x9 false (b2s s x10)) fun x11 => S.bd (S.gd x9 false (lcl c2 2)) fun x12 => S.bd (S.gd x9 false (b2s s x12)) fun x13 => S.bd (S.gd x9 false (eqb [2] false true x11 x13)) fun x14 => S.bd (pik x9 (Go.Value.bool Bool.true) x14) fun x15 => S.bd (S.gd x15 false (lcl c1 3)) fun x16 => S.bd (S.gd x15 false (lenL x16)) fun x17 => S.bd (S.gd x15 false (lcl c2 3)) fun x18 => S.bd (S.gd x15 false (lenL x18)) fun x19 => S.bd (S.gd x15 false (eqb [1] false true x17 x19)) fun x20 => S.bd (pik x15 (Go.Value.bool Bool.true) x20) fun x21 => S.bd (S.gd x21 false (lal c1 4 5)) fun x22 => S.bd (S.gd x21 false (lal c2 4 5)) fun x23 => S.bd (S.gd x21 false (eqb [1, 1, 1, 1, 1] true true x22 x23)) fun x24 => S.bd (pik x21 (Go.Value.bool Bool.true) x24) fun x25 => S.bd (S.gd x25 false (lal c1 9 5)) fun x26 => S.bd (S.gd x25 false (lal c2 9 5)) fun x27 => S.bd (S.gd x25 false (eqb [1, 1, 1, 1, 1] true true x26 x27)) fun x28 => S.bd (pik x25 (Go.Value.bool Bool.true) x28) fun x29 => S.bd (S.gd x29 false (lcl c1 14)) fun x30 => S.bd (S.gd x29 false (lcl c2 14)) fun x31 => S.bd (S.gd x29 false (eqb [0] false true x30 x31)) fun x32 => S.bd (pik x29 (Go.Value.bool Bool.true) x32) fun x33 => S.cnd x33 (some ((Go.Value.bool Bool.false))) (S.bd (S.it (leapfrogref12x_SameResult.l4 S) [(Go.Value.int Go.IntKind.i64 0), (Value.agg ⟨c1⟩), (Value.agg ⟨c2⟩)] s) fun r91 => if r91.1 = 0 then (some ((Go.Value.bool Bool.true))) else (some ((r91.2.1.getD 0 undef))))
def leapfrogref12x_SameResult.r (a0 a1 : Value) (s : St) : Option Value := leapfrogref12x_SameResult.t std a0 a1 s
def leapfrogref12x_SameResult.w : List Value → St → Option Value
  | [a0, a1], s => leapfrogref12x_SameResult.r a0 a1 s
  | _, _ => none
def leapfrogref12x_SameResult.an : An := ⟨94, true, [2, 3], [(4, ⟨[.p 2 2 0, .p 3 3 0, .v 5, .l 2, .l 3], [(.exit 0, []), (.ret, [.v 4])]⟩)], [], [(6, [(0, 0, [], []), (1, 17, [], []), (2, 0, [], []), (3, 2, [], []), (4, 0, [], []), (5, 2, [], []), (6, 0, [], []), (7, 25, [], []), (8, 0, [], []), (9, 2, [], []), (10, 0, [], []), (11, 2, [], []), (12, 0, [], []), (13, 0, [], []), (14, 0, [], []), (15, 17, [], []), (16, 0, [], []), (17, 2, [], []), (18, 0, [], []), (19, 2, [], []), (20, 2, [], []), (21, 0, [], []), (22, 25, [], []), (23, 0, [], []), (24, 2, [], []), (25, 0, [], []), (26, 2, [], []), (27, 2, [], []), (28, 0, [], []), (29, 0, [], [])])]⟩
theorem leapfrogref12x_SameResult.ok (S : Sig) (a0 a1 : Value) (s : St) : evG S Try.prog leapfrogref12x_SameResult.ctx leapfrogref12x_SameResult.an Try.f26 [a0, a1] s = leapfrogref12x_SameResult.t S a0 a1 s := by kernel_rfl
theorem leapfrogref12x_SameResult.cok : CtxOk Try.prog leapfrogref12x_SameResult.ctx := .nil
theorem leapfrogref12x_SameResult.draws : fnDraws leapfrogref12x_SameResult.an Try.f26 = true := by kernel_rfl
theorem leapfrogref12x_SameResult.can : callOk Try.prog 26 = true := by kernel_rfl
theorem leapfrogref12x_SameResult.sound : FnOk Try.prog 26 (.rd leapfrogref12x_SameResult.w) := FnOk.rd_of (evG_ok leapfrogref12x_SameResult.cok mixed (f := 26) (fn := Try.f26) (by kernel_rfl) leapfrogref12x_SameResult.draws) fun args s r h => by
  unfold leapfrogref12x_SameResult.w at h; split at h
  · rw [leapfrogref12x_SameResult.ok std]; exact h
  · simp at h

/-! ### leapfrog/leapfrogref12.SameStep: function 9 -/
def leapfrogref12x_SameStep.ctx : Ctx := [(26, .rd leapfrogref12x_SameResult.w)]
def leapfrogref12x_SameStep.t (S : Sig) (a0 a1 : Value) (s : St) : Option Value :=
  S.bd (bx a0) fun c1 => S.bd (bx a1) fun c2 => S.bd (lcl c1 0) fun x3 => S.bd (lcl c2 0) fun x4 => S.bd (eqb [1] false false x3 x4) fun x5 => S.bd (S.gd x5 true (lal c1 1 5)) fun x6 => S.bd (S.gd x5 true (lal c2 1 5)) fun x7 => S.bd (S.gd x5 true (eqb [1, 1, 1, 1, 1] true false x6 x7)) fun x8 => S.bd (pik x5 x8 (Go.Value.bool Bool.false)) fun x9 => S.bd (S.gd x9 true (lal c1 6 15)) fun x10 => S.bd (S.gd x9 true (lal c2 6 15)) fun x11 => S.bd (S.gd x9 true (eqb [1, 1, 1, 1, 1, 1, 1, 1, 1, 1, 1, 1, 1, 1, 1] true false x10 x11)) fun x12 => S.bd (pik x9 x12 (Go.Value.bool Bool.false)) fun x13 => S.bd (S.gd x13 true (lal c1 21 15)) fun x14 => S.bd (S.gd x13 true (lal c2 21 15)) fun x15 => S.bd (S.gd x13 true (leapfrogref12x_SameResult.r x14 x15 s)) fun x16 => S.bd (pik x13 x16 (Go.Value.bool Bool.false)) fun x17 => some (x17)
def leapfrogref12x_SameStep.r (a0 a1 : Value) (s : St) : Option Value := leapfrogref12x_SameStep.t std a0 a1 s
def leapfrogref12x_SameStep.w : List Value → St → Option Value
  | [a0, a1], s => leapfrogref12x_SameStep.r a0 a1 s
  | _, _ => none
def leapfrogref12x_SameStep.an : An := ⟨31, true, [2, 3], [], [], []⟩
theorem leapfrogref12x_SameStep.ok (S : Sig) (a0 a1 : Value) (s : St) : evG S Try.prog leapfrogref12x_SameStep.ctx leapfrogref12x_SameStep.an Try.f9 [a0, a1] s = leapfrogref12x_SameStep.t S a0 a1 s := by kernel_rfl
theorem leapfrogref12x_SameStep.cok : CtxOk Try.prog leapfrogref12x_SameStep.ctx := .cons leapfrogref12x_SameResult.sound leapfrogref12x_SameResult.can <| .nil
theorem leapfrogref12x_SameStep.draws : fnDraws leapfrogref12x_SameStep.an Try.f9 = true := by kernel_rfl
theorem leapfrogref12x_SameStep.can : callOk Try.prog 9 = true := by kernel_rfl
theorem leapfrogref12x_SameStep.sound : FnOk Try.prog 9 (.rd leapfrogref12x_SameStep.w) := FnOk.rd_of (evG_ok leapfrogref12x_SameStep.cok mixed (f := 9) (fn := Try.f9) (by kernel_rfl) leapfrogref12x_SameStep.draws) fun args s r h => by
  unfold leapfrogref12x_SameStep.w at h; split at h
  · rw [leapfrogref12x_SameStep.ok std]; exact h
  · simp at h

/-! ### leapfrog/leapfroglaw16.RemoveRuns: function 3 -/
def leapfroglaw16x_RemoveRuns.ctx : Ctx := [(6, .rd leapfroglaw16x_awakeC.w), (7, .st remove_New.w), (8, .st leapfrogref16x_New.w), (10, .st remove_Remove_Next.w), (11, .rd leapfrogref16x_Remove_Next.w), (9, .rd leapfrogref12x_SameStep.w), (12, .rd remove_Remove_Marked.w), (13, .st remove_Remove_Tell.w), (14, .st leapfrogref16x_Remove_Tell.w), (15, .st remove_Remove_Wake.w), (16, .st leapfrogref16x_Remove_Wake.w)]
def leapfroglaw16x_RemoveRuns.l8.p1 (S : Sig) (xs54 : List Value) (s55 : St) (rec56 : List Value → St → Option Cut) : Option Cut :=
  S.bd (remove_Remove_Next.v (xs54.getD 2 undef) s55) fun r65 => S.bd (leapfrogref16x_Remove_Next.r (xs54.getD 3 undef) r65.2) fun x66 => S.bd (leapfrogref12x_SameStep.r r65.1 x66 r65.2) fun x67 => S.bd (un .not x67) fun x68 => S.bd (S.gd x68 false (some (xs54.getD 2 undef))) fun x69 => S.bd (S.gd x68 false (some (xs54.getD 3 undef))) fun x70 => S.bd (S.gd x68 false (nck x70)) fun x71 => S.bd (S.gd x68 false (fld 16 x71)) fun x72 => S.bd (S.gd x68 false (ldc r65.2 x72)) fun x73 => S.bd (S.gd x68 false (remove_Remove_Marked.r x69 r65.2)) fun x74 => S.bd (S.gd x68 false (eqb [0] false true x74 x73)) fun x75 => S.bd (pik x68 (Go.Value.bool Bool.true) x75) fun x76 => S.cnd x76 (some (1, [(Go.Value.bool Bool.false)], r65.2)) (S.bd (idx r65.2 13 (xs54.getD 0 undef) (xs54.getD 4 undef)) fun x77 => S.bd (lda r65.2 13 x77) fun x78 => S.bd (remove_Remove_Tell.v (xs54.getD 2 undef) x78 r65.2) fun r79 => S.bd (idx r79.2 13 (xs54.getD 0 undef) (xs54.getD 4 undef)) fun x80 => S.bd (lda r79.2 13 x80) fun x81 => S.bd (leapfrogref16x_Remove_Tell.v (xs54.getD 3 undef) x81 r79.2) fun r82 => S.bd (bin .rem (xs54.getD 4 undef) (Go.Value.int Go.IntKind.i64 64)) fun x83 => S.bd (cvi .u64 x83) fun x84 => S.bd (bin .shr (xs54.getD 1 undef) x84) fun x85 => S.bd (bin .and x85 (Go.Value.int Go.IntKind.u64 1)) fun x86 => S.bd (eqb [1] false false x86 (Go.Value.int Go.IntKind.u64 1)) fun x87 => S.cnd x87 (S.bd (remove_Remove_Wake.v (xs54.getD 2 undef) r82.2) fun r88 => S.bd (leapfrogref16x_Remove_Wake.v (xs54.getD 3 undef) r88.2) fun r89 => S.bd (bin .add (xs54.getD 4 undef) (Go.Value.int Go.IntKind.i64 1)) fun x90 => rec56 [(xs54.getD 0 undef), (xs54.getD 1 undef), (xs54.getD 2 undef), (xs54.getD 3 undef), x90] r89.2) (S.bd (bin .add (xs54.getD 4 undef) (Go.Value.int Go.IntKind.i64 1)) fun x91 => rec56 [(xs54.getD 0 undef), (xs54.getD 1 undef), (xs54.getD 2 undef), (xs54.getD 3 undef), x91] r82.2))

def leapfroglaw16x_RemoveRuns.l8 (S : Sig) (rec56 : List Value → St → Option Cut) (xs54 : List Value) (s55 : St) : Option Cut :=
  S.bd (lenL (xs54.getD 0 undef)) fun x57 => S.bd (bin .lss (xs54.getD 4 undef) x57) fun x58 => S.bd (S.gd x58 true (some (xs54.getD 4 undef))) fun x59 => S.bd (S.gd x58 true (bin .lss x59 (Go.Value.int Go.IntKind.i64 300))) fun x60 => S.bd (pik x58 x60 (Go.Value.bool Bool.false)) fun x61 => S.bd (S.gd x61 true (some (xs54.getD 3 undef))) fun x62 => S.bd (S.gd x61 true (eqb [3] false true x62 (Go.Value.pointer Option.none))) fun x63 => S.bd (pik x61 x63 (Go.Value.bool Bool.false)) fun x64 => S.cnd x64 (leapfroglaw16x_RemoveRuns.l8.p1 S xs54 s55 rec56) (some (0, [(xs54.getD 2 undef), (xs54.getD 3 undef)], s55))

def leapfroglaw16x_RemoveRuns.t.p1 (S : Sig) (c1 : List Value) (s : St) (a1 : Value) (a2 : Value) : Option (Value × St) :=
  S.bd (lal c1 0 9) fun x4 => S.bd (remove_New.v x4 s) fun r5 => S.bd (xtr 0 r5.1) fun x6 => S.bd (xtr 1 r5.1) fun x7 => S.bd (lal c1 0 9) fun x8 => S.bd (leapfrogref16x_New.v x8 r5.2) fun r9 => S.bd (xtr 0 r9.1) fun x10 => S.bd (xtr 1 r9.1) fun x11 => S.bd (eqb [1] false true x7 x11) fun x12 => S.bd (S.gd x12 false (some x6)) fun x13 => S.bd (S.gd x12 false (eqb [3] false false x13 (Go.Value.pointer Option.none))) fun x14 => S.bd (S.gd x12 false (some x10)) fun x15 => S.bd (S.gd x12 false (eqb [3] false false x15 (Go.Value.pointer Option.none))) fun x16 => S.bd (S.gd x12 false (eqb [0] false true x14 x16)) fun x17 => S.bd (pik x12 (Go.Value.bool Bool.true) x17) fun x18 => S.cnd x18 (some ((Go.Value.bool Bool.false), r9.2)) (S.bd (S.it (leapfroglaw16x_RemoveRuns.l8 S) [a1, a2, x6, x10, (Go.Value.int Go.IntKind.i64 0)] r9.2) fun r92 => if r92.1 = 0 then (S.bd (eqb [3] false false (r92.2.1.getD 1 undef) (Go.Value.pointer Option.none)) fun x93 => S.bd (S.gd x93 false (some (r92.2.1.getD 0 undef))) fun x94 => S.bd (S.gd x93 false (some (r92.2.1.getD 1 undef))) fun x95 => S.bd (S.gdS x93 false (remove_Remove_Next.v x94 r92.2.2) r92.2.2) fun r96 => S.bd (S.gd x93 false (leapfrogref16x_Remove_Next.r x95 r96.2)) fun x97 => S.bd (S.gd x93 false (leapfrogref12x_SameStep.r r96.1 x97 r96.2)) fun x98 => S.bd (S.gd x93 false (some x98)) fun x99 => S.bd (S.gd x99 true (some (r92.2.1.getD 0 undef))) fun x100 => S.bd (S.gd x99 true (some (r92.2.1.getD 1 undef))) fun x101 => S.bd (S.gd x99 true (nck x101)) fun x102 => S.bd (S.gd x99 true (fld 16 x102)) fun x103 => S.bd (S.gd x99 true (ldc r96.2 x103)) fun x104 => S.bd (S.gd x99 true (remove_Remove_Marked.r x100 r96.2)) fun x105 => S.bd (S.gd x99 true (eqb [0] false false x105 x104)) fun x106 => S.bd (S.gd x93 false (pik x99 x106 (Go.Value.bool Bool.false))) fun x107 => S.bd (pik x93 (Go.Value.bool Bool.true) x107) fun x108 => some (x108, r96.2)) else (some ((r92.2.1.getD 0 undef), r92.2.2)))

def leapfroglaw16x_RemoveRuns.t (S : Sig) (a0 a1 a2 : Value) (s : St) : Option (Value × St) :=
  S.bd (bx a0) fun c1 => S.bd (leapfroglaw16x_awakeC.r  s) fun x2 => S.bd (un .not x2) fun x3 => S.cnd x3 (some ((Go.Value.bool Bool.false), s)) (leapfroglaw16x_RemoveRuns.t.p1 S c1 s a1 a2)
def leapfroglaw16x_RemoveRuns.v (a0 a1 a2 : Value) (s : St) : Option (Value × St) := leapfroglaw16x_RemoveRuns.t std a0 a1 a2 s
def leapfroglaw16x_RemoveRuns.w : List Value → St → Option (Value × St)
  | [a0, a1, a2], s => leapfroglaw16x_RemoveRuns.v a0 a1 a2 s
  | _, _ => none
def leapfroglaw16x_RemoveRuns.an : An := ⟨104, false, [3], [(8, ⟨[.v 1, .v 2, .v 7, .v 9, .v 11], [(.exit 0, [.v 7, .v 9]), (.ret, [.v 6])]⟩)], [], [(10, [(0, 0, [], []), (2, 0, [], []), (1, 4, [], []), (3, 3, [], []), (4, 3, [], []), (5, 0, [], []), (6, 0, [], []), (7, 0, [], []), (9, 0, [], []), (10, 0, [], []), (11, 0, [], []), (12, 2, [], []), (8, 3, [], []), (13, 0, [], []), (14, 0, [], [])]), (17, [(0, 0, [], []), (1, 0, [], []), (2, 0, [], []), (3, 0, [], []), (5, 0, [], []), (4, 4, [], []), (6, 3, [], []), (7, 3, [], []), (8, 0, [], []), (9, 0, [], []), (11, 0, [], []), (12, 0, [], []), (13, 0, [], []), (14, 2, [], []), (10, 3, [], []), (15, 0, [], []), (16, 0, [], []), (17, 0, [], []), (18, 0, [], [])])]⟩
theorem leapfroglaw16x_RemoveRuns.ok (S : Sig) (a0 a1 a2 : Value) (s : St) : evF S Try.prog leapfroglaw16x_RemoveRuns.ctx leapfroglaw16x_RemoveRuns.an Try.f3 [a0, a1, a2] s = leapfroglaw16x_RemoveRuns.t S a0 a1 a2 s := by kernel_rfl
theorem leapfroglaw16x_RemoveRuns.cok : CtxOk Try.prog leapfroglaw16x_RemoveRuns.ctx := .cons leapfroglaw16x_awakeC.sound leapfroglaw16x_awakeC.can <| .cons remove_New.sound remove_New.can <| .cons leapfrogref16x_New.sound leapfrogref16x_New.can <| .cons remove_Remove_Next.sound remove_Remove_Next.can <| .cons leapfrogref16x_Remove_Next.sound leapfrogref16x_Remove_Next.can <| .cons leapfrogref12x_SameStep.sound leapfrogref12x_SameStep.can <| .cons remove_Remove_Marked.sound remove_Remove_Marked.can <| .cons remove_Remove_Tell.sound remove_Remove_Tell.can <| .cons leapfrogref16x_Remove_Tell.sound leapfrogref16x_Remove_Tell.can <| .cons remove_Remove_Wake.sound remove_Remove_Wake.can <| .cons leapfrogref16x_Remove_Wake.sound leapfrogref16x_Remove_Wake.can <| .nil
theorem leapfroglaw16x_RemoveRuns.draws : fnDraws leapfroglaw16x_RemoveRuns.an Try.f3 = true := by kernel_rfl
theorem leapfroglaw16x_RemoveRuns.can : callOk Try.prog 3 = true := by kernel_rfl
theorem leapfroglaw16x_RemoveRuns.sound : FnOk Try.prog 3 (.st leapfroglaw16x_RemoveRuns.w) := FnOk.st_of (evF_ok leapfroglaw16x_RemoveRuns.cok mixed (f := 3) (fn := Try.f3) (by kernel_rfl) leapfroglaw16x_RemoveRuns.draws) fun args s r h => by
  unfold leapfroglaw16x_RemoveRuns.w at h; split at h
  · rw [leapfroglaw16x_RemoveRuns.ok std]; exact h
  · simp at h

/-! ### leapfrog/leapfroglaw16.drop: function 18 -/
def leapfroglaw16x_drop.ctx : Ctx := []
def leapfroglaw16x_drop.l3 (S : Sig) (rec16 : List Value → St → Option Cut) (xs14 : List Value) (s15 : St) : Option Cut :=
  S.bd (lenL (xs14.getD 0 undef)) fun x17 => S.bd (bin .lss (xs14.getD 2 undef) x17) fun x18 => S.cnd x18 (S.bd (idx s15 5 (xs14.getD 0 undef) (xs14.getD 2 undef)) fun x19 => S.bd (lda s15 5 x19) fun x20 => S.bd (lal (cellsA (xs14.getD 3 undef)) 0 5) fun x21 => S.bd (eqb [1, 1, 1, 1, 1] true true x20 x21) fun x22 => S.cnd x22 (S.bd (idx s15 5 (xs14.getD 0 undef) (xs14.getD 2 undef)) fun x23 => S.bd (lda s15 5 x23) fun x24 => S.bd (S.bd (bls 5 (List.replicate 1 [(Go.Value.int Go.IntKind.i64 0), (Go.Value.int Go.IntKind.i64 0), (Go.Value.int Go.IntKind.u64 0), (Go.Value.int Go.IntKind.i64 0), (Go.Value.int Go.IntKind.u64 0)]) [(0, x24)]) fun rows => als s15 5 1 rows) fun r25 => S.bd (app r25.2 5 40 (xs14.getD 1 undef) r25.1) fun r26 => S.bd (bin .add (xs14.getD 2 undef) (Go.Value.int Go.IntKind.i64 1)) fun x27 => rec16 [(xs14.getD 0 undef), r26.1, x27, (Value.agg ⟨(cellsA (xs14.getD 3 undef))⟩)] r26.2) (S.bd (bin .add (xs14.getD 2 undef) (Go.Value.int Go.IntKind.i64 1)) fun x28 => rec16 [(xs14.getD 0 undef), (xs14.getD 1 undef), x28, (Value.agg ⟨(cellsA (xs14.getD 3 undef))⟩)] s15)) (some (0, [(xs14.getD 1 undef)], s15))

def leapfroglaw16x_drop.t (S : Sig) (a0 a1 : Value) (s : St) : Option (Value × St) :=
  S.bd (bx a1) fun c1 => S.bd (S.it (leapfroglaw16x_drop.l3 S) [a0, (Go.Value.slice Option.none 0 0), (Go.Value.int Go.IntKind.i64 0), (Value.agg ⟨c1⟩)] s) fun r29 => some ((r29.2.1.getD 0 undef), r29.2.2)
def leapfroglaw16x_drop.v (a0 a1 : Value) (s : St) : Option (Value × St) := leapfroglaw16x_drop.t std a0 a1 s
def leapfroglaw16x_drop.w : List Value → St → Option (Value × St)
  | [a0, a1], s => leapfroglaw16x_drop.v a0 a1 s
  | _, _ => none
def leapfroglaw16x_drop.an : An := ⟨27, false, [3], [(3, ⟨[.v 0, .p 3 3 0, .v 5, .v 6, .l 3], [(.exit 0, [.v 5])]⟩)], [], [(5, [(0, 0, [], []), (1, 0, [], []), (2, 2, [], []), (3, 2, [], []), (4, 25, [], []), (5, 0, [], [])])]⟩
theorem leapfroglaw16x_drop.ok (S : Sig) (a0 a1 : Value) (s : St) : evF S Try.prog leapfroglaw16x_drop.ctx leapfroglaw16x_drop.an Try.f18 [a0, a1] s = leapfroglaw16x_drop.t S a0 a1 s := by kernel_rfl
theorem leapfroglaw16x_drop.cok : CtxOk Try.prog leapfroglaw16x_drop.ctx := .nil
theorem leapfroglaw16x_drop.draws : fnDraws leapfroglaw16x_drop.an Try.f18 = true := by kernel_rfl
theorem leapfroglaw16x_drop.can : callOk Try.prog 18 = true := by kernel_rfl
theorem leapfroglaw16x_drop.sound : FnOk Try.prog 18 (.st leapfroglaw16x_drop.w) := FnOk.st_of (evF_ok leapfroglaw16x_drop.cok mixed (f := 18) (fn := Try.f18) (by kernel_rfl) leapfroglaw16x_drop.draws) fun args s r h => by
  unfold leapfroglaw16x_drop.w at h; split at h
  · rw [leapfroglaw16x_drop.ok std]; exact h
  · simp at h

/-! ### leapfrog/leapfroglaw16.RemoveOnce: function 4 -/
def leapfroglaw16x_RemoveOnce.ctx : Ctx := [(6, .rd leapfroglaw16x_awakeC.w), (7, .st remove_New.w), (10, .st remove_Remove_Next.w), (15, .st remove_Remove_Wake.w), (13, .st remove_Remove_Tell.w), (17, .rd leapfrogref02x_At.w), (12, .rd remove_Remove_Marked.w), (18, .st leapfroglaw16x_drop.w)]
def leapfroglaw16x_RemoveOnce.l9.p1 (S : Sig) (x122 : Value) (c112 : List Value) (xs102 : List Value) (r110 : Value × St) (x107 : Value) (x108 : Value) : Option Cut :=
  S.bd (eqb [1] false false x122 (Go.Value.int Go.IntKind.i64 4)) fun x142 => S.cnd x142 (S.bd (lal c112 1 5) fun x143 => S.bd (leapfroglaw16x_drop.v (xs102.getD 4 undef) x143 r110.2) fun r144 => some (0, [(xs102.getD 0 undef), (xs102.getD 1 undef), (xs102.getD 2 undef), (xs102.getD 3 undef), r144.1, (xs102.getD 5 undef), x107, x108, (Value.agg ⟨(cellsA (xs102.getD 6 undef))⟩)], r144.2)) (S.bd (eqb [1] false false x122 (Go.Value.int Go.IntKind.i64 3)) fun x145 => S.cnd x145 (S.bd (remove_Remove_Marked.r (xs102.getD 1 undef) r110.2) fun x146 => S.bd (un .not x146) fun x147 => S.cnd x147 (some (1, [(Go.Value.bool Bool.false)], r110.2)) (S.bd (idx r110.2 13 (xs102.getD 0 undef) (xs102.getD 5 undef)) fun x148 => S.bd (fld 0 x148) fun x149 => S.bd (ldc r110.2 x149) fun x150 => S.bd (eqb [1] false false x150 (Go.Value.int Go.IntKind.i64 1)) fun x151 => S.cnd x151 (S.bd (lal c112 1 5) fun x152 => S.bd (S.bd (bls 5 (List.replicate 1 [(Go.Value.int Go.IntKind.i64 0), (Go.Value.int Go.IntKind.i64 0), (Go.Value.int Go.IntKind.u64 0), (Go.Value.int Go.IntKind.i64 0), (Go.Value.int Go.IntKind.u64 0)]) [(0, x152)]) fun rows => als r110.2 5 1 rows) fun r153 => S.bd (app r153.2 5 40 (xs102.getD 4 undef) r153.1) fun r154 => some (0, [(xs102.getD 0 undef), (xs102.getD 1 undef), (xs102.getD 2 undef), (xs102.getD 3 undef), r154.1, (xs102.getD 5 undef), x107, x108, (Value.agg ⟨(cellsA (xs102.getD 6 undef))⟩)], r154.2)) (some (0, [(xs102.getD 0 undef), (xs102.getD 1 undef), (xs102.getD 2 undef), (xs102.getD 3 undef), (xs102.getD 4 undef), (xs102.getD 5 undef), x107, x108, (Value.agg ⟨(cellsA (xs102.getD 6 undef))⟩)], r110.2)))) (S.bd (remove_Remove_Marked.r (xs102.getD 1 undef) r110.2) fun x155 => S.bd (un .not x155) fun x156 => S.cnd x156 (some (1, [(Go.Value.bool Bool.false)], r110.2)) (some (0, [(xs102.getD 0 undef), (xs102.getD 1 undef), (xs102.getD 2 undef), (xs102.getD 3 undef), (xs102.getD 4 undef), (xs102.getD 5 undef), x107, x108, (Value.agg ⟨(cellsA (xs102.getD 6 undef))⟩)], r110.2))))

def leapfroglaw16x_RemoveOnce.l9.p2 (S : Sig) (c112 : List Value) (xs102 : List Value) (r110 : Value × St) (x107 : Value) (x108 : Value) (rec104 : List Value → St → Option Cut) : Option Cut :=
  S.bd (show Option Cut from S.bd (lcl c112 6) fun x122 => S.bd (eqb [1] false false x122 (Go.Value.int Go.IntKind.i64 9)) fun x123 => S.cnd x123 (S.bd (bin .add (xs102.getD 2 undef) (Go.Value.int Go.IntKind.i64 1)) fun x124 => S.bd (bin .gtr x124 (Go.Value.int Go.IntKind.i64 1)) fun x125 => S.bd (S.gd x125 false (lal c112 2 2)) fun x126 => S.bd (S.gd x125 false (lcl (cellsA (xs102.getD 6 undef)) 6)) fun x127 => S.bd (S.gd x125 false (leapfrogref02x_At.r x127 r110.2)) fun x128 => S.bd (S.gd x125 false (eqb [1, 1] true true x126 x128)) fun x129 => S.bd (pik x125 (Go.Value.bool Bool.true) x129) fun x130 => S.cnd x130 (some (1, [(Go.Value.bool Bool.false)], r110.2)) (some (0, [(xs102.getD 0 undef), (xs102.getD 1 undef), x124, (xs102.getD 3 undef), (xs102.getD 4 undef), (xs102.getD 5 undef), x107, x108, (Value.agg ⟨(cellsA (xs102.getD 6 undef))⟩)], r110.2))) (S.bd (eqb [1] false false x122 (Go.Value.int Go.IntKind.i64 1)) fun x131 => S.cnd x131 (some (0, [(xs102.getD 0 undef), (xs102.getD 1 undef), (xs102.getD 2 undef), (xs102.getD 3 undef), (xs102.getD 4 undef), (xs102.getD 5 undef), x107, x108, (Value.agg ⟨(cellsA (xs102.getD 6 undef))⟩)], r110.2)) (S.bd (eqb [1] false false x122 (Go.Value.int Go.IntKind.i64 8)) fun x132 => S.cnd x132 (S.bd (remove_Remove_Marked.r (xs102.getD 1 undef) r110.2) fun x133 => S.bd (un .not x133) fun x134 => S.bd (S.gd x134 false (lcl c112 7)) fun x135 => S.bd (S.gd x134 false (some (xs102.getD 3 undef))) fun x136 => S.bd (S.gd x134 false (bin .gtr x135 x136)) fun x137 => S.bd (pik x134 (Go.Value.bool Bool.true) x137) fun x138 => S.cnd x138 (some (1, [(Go.Value.bool Bool.false)], r110.2)) (S.bd (lcl c112 7) fun x139 => S.bd (lal c112 1 5) fun x140 => S.bd (leapfroglaw16x_drop.v (xs102.getD 4 undef) x140 r110.2) fun r141 => some (0, [(xs102.getD 0 undef), (xs102.getD 1 undef), (xs102.getD 2 undef), x139, r141.1, (xs102.getD 5 undef), x107, x108, (Value.agg ⟨(cellsA (xs102.getD 6 undef))⟩)], r141.2))) (leapfroglaw16x_RemoveOnce.l9.p1 S x122 c112 xs102 r110 x107 x108)))) fun r157 => if r157.1 = 0 then (S.bd (idx r157.2.2 13 (r157.2.1.getD 0 undef) (r157.2.1.getD 5 undef)) fun x158 => S.bd (lda r157.2.2 13 x158) fun x159 => S.bd (remove_Remove_Tell.v (r157.2.1.getD 1 undef) x159 r157.2.2) fun r160 => S.bd (bin .add (r157.2.1.getD 5 undef) (Go.Value.int Go.IntKind.i64 1)) fun x161 => rec104 [(r157.2.1.getD 0 undef), (r157.2.1.getD 1 undef), (r157.2.1.getD 2 undef), (r157.2.1.getD 3 undef), (r157.2.1.getD 4 undef), x161, (Value.agg ⟨(cellsA (r157.2.1.getD 8 undef))⟩)] r160.2) else (some (1, [(r157.2.1.getD 0 undef)], r157.2.2))

def leapfroglaw16x_RemoveOnce.l9.p3 (S : Sig) (xs102 : List Value) (s103 : St) (rec104 : List Value → St → Option Cut) (x107 : Value) (x108 : Value) : Option Cut :=
  S.bd (remove_Remove_Next.v (xs102.getD 1 undef) s103) fun r110 => S.bd (bx (Go.Value.agg #[(Go.Value.int Go.IntKind.i64 0), (Go.Value.int Go.IntKind.i64 0), (Go.Value.int Go.IntKind.i64 0), (Go.Value.int Go.IntKind.u64 0), (Go.Value.int Go.IntKind.i64 0), (Go.Value.int Go.IntKind.u64 0), (Go.Value.int Go.IntKind.i64 0), (Go.Value.int Go.IntKind.i64 0), (Go.Value.int Go.IntKind.u64 0), (Go.Value.int Go.IntKind.i64 0), (Go.Value.int Go.IntKind.i64 0), (Go.Value.int Go.IntKind.u64 0), (Go.Value.int Go.IntKind.i64 0), (Go.Value.int Go.IntKind.u64 0), (Go.Value.int Go.IntKind.i64 0), (Go.Value.int Go.IntKind.i64 0), (Go.Value.int Go.IntKind.u64 0), (Go.Value.int Go.IntKind.i64 0), (Go.Value.int Go.IntKind.u64 0), (Go.Value.int Go.IntKind.i64 0), (Go.Value.int Go.IntKind.i64 0), (Go.Value.int Go.IntKind.i64 0), (Go.Value.int Go.IntKind.u64 0), (Go.Value.slice Option.none 0 0), (Go.Value.slice Option.none 0 0), (Go.Value.int Go.IntKind.i64 0), (Go.Value.int Go.IntKind.i64 0), (Go.Value.int Go.IntKind.u64 0), (Go.Value.int Go.IntKind.i64 0), (Go.Value.int Go.IntKind.u64 0), (Go.Value.int Go.IntKind.i64 0), (Go.Value.int Go.IntKind.i64 0), (Go.Value.int Go.IntKind.u64 0), (Go.Value.int Go.IntKind.i64 0), (Go.Value.int Go.IntKind.u64 0), (Go.Value.bool Bool.false)])) fun c111 => S.bd (stl c111 0 36 r110.1) fun c112 => S.bd (lcl c112 0) fun x113 => S.bd (eqb [1] false true x113 (Go.Value.int Go.IntKind.i64 1)) fun x114 => S.cnd x114 (S.bd (lenL (xs102.getD 4 undef)) fun x115 => S.bd (bin .gtr x115 (Go.Value.int Go.IntKind.i64 0)) fun x116 => S.cnd x116 (some (1, [(Go.Value.bool Bool.false)], r110.2)) (S.bd (remove_Remove_Wake.v (xs102.getD 1 undef) r110.2) fun r117 => S.bd (idx r117.2 13 (xs102.getD 0 undef) (xs102.getD 5 undef)) fun x118 => S.bd (lda r117.2 13 x118) fun x119 => S.bd (remove_Remove_Tell.v (xs102.getD 1 undef) x119 r117.2) fun r120 => S.bd (bin .add (xs102.getD 5 undef) (Go.Value.int Go.IntKind.i64 1)) fun x121 => rec104 [(xs102.getD 0 undef), (xs102.getD 1 undef), (xs102.getD 2 undef), (xs102.getD 3 undef), (xs102.getD 4 undef), x121, (Value.agg ⟨(cellsA (xs102.getD 6 undef))⟩)] r120.2)) (leapfroglaw16x_RemoveOnce.l9.p2 S c112 xs102 r110 x107 x108 rec104)

def leapfroglaw16x_RemoveOnce.l9 (S : Sig) (rec104 : List Value → St → Option Cut) (xs102 : List Value) (s103 : St) : Option Cut :=
  S.bd (lenL (xs102.getD 0 undef)) fun x105 => S.bd (bin .lss (xs102.getD 5 undef) x105) fun x106 => S.bd (S.gd x106 true (some (xs102.getD 5 undef))) fun x107 => S.bd (S.gd x106 true (bin .lss x107 (Go.Value.int Go.IntKind.i64 300))) fun x108 => S.bd (pik x106 x108 (Go.Value.bool Bool.false)) fun x109 => S.cnd x109 (leapfroglaw16x_RemoveOnce.l9.p3 S xs102 s103 rec104 x107 x108) (some (0, [], s103))

def leapfroglaw16x_RemoveOnce.t (S : Sig) (a0 a1 : Value) (s : St) : Option (Value × St) :=
  S.bd (bx a0) fun c1 => S.bd (leapfroglaw16x_awakeC.r  s) fun x2 => S.bd (un .not x2) fun x3 => S.cnd x3 (some ((Go.Value.bool Bool.false), s)) (S.bd (lal c1 0 9) fun x4 => S.bd (remove_New.v x4 s) fun r5 => S.bd (xtr 0 r5.1) fun x6 => S.bd (xtr 1 r5.1) fun x7 => S.bd (eqb [1] false true x7 (Go.Value.int Go.IntKind.i64 0)) fun x8 => S.cnd x8 (S.bd (eqb [3] false false x6 (Go.Value.pointer Option.none)) fun x9 => some (x9, r5.2)) (S.bd (S.it (leapfroglaw16x_RemoveOnce.l9 S) [a1, x6, (Go.Value.int Go.IntKind.i64 0), (Go.Value.int Go.IntKind.i64 99), (Go.Value.slice Option.none 0 0), (Go.Value.int Go.IntKind.i64 0), (Value.agg ⟨c1⟩)] r5.2) fun r162 => if r162.1 = 0 then (some ((Go.Value.bool Bool.true), r162.2.2)) else (some ((r162.2.1.getD 0 undef), r162.2.2))))
def leapfroglaw16x_RemoveOnce.v (a0 a1 : Value) (s : St) : Option (Value × St) := leapfroglaw16x_RemoveOnce.t std a0 a1 s
def leapfroglaw16x_RemoveOnce.w : List Value → St → Option (Value × St)
  | [a0, a1], s => leapfroglaw16x_RemoveOnce.v a0 a1 s
  | _, _ => none
def leapfroglaw16x_RemoveOnce.an : An := ⟨121, false, [2, 11], [(9, ⟨[.v 1, .p 2 2 0, .v 5, .v 7, .v 8, .v 9, .v 10, .l 2], [(.exit 0, []), (.ret, [.v 4])]⟩)], [(37, ⟨[], [(.normal, [.v 1, .p 2 2 0, .v 5, .v 7, .v 8, .v 9, .v 10, .v 28, .v 29, .l 2]), (.ret, [.v 4])]⟩)], [(22, [(0, 0, [], []), (1, 0, [], []), (2, 0, [], []), (3, 0, [], []), (4, 0, [], []), (5, 89, [], []), (6, 0, [], []), (7, 17, [], []), (8, 3, [], []), (9, 0, [], []), (10, 0, [], [])])]⟩
theorem leapfroglaw16x_RemoveOnce.ok (S : Sig) (a0 a1 : Value) (s : St) : evF S Try.prog leapfroglaw16x_RemoveOnce.ctx leapfroglaw16x_RemoveOnce.an Try.f4 [a0, a1] s = leapfroglaw16x_RemoveOnce.t S a0 a1 s := by kernel_rfl
theorem leapfroglaw16x_RemoveOnce.cok : CtxOk Try.prog leapfroglaw16x_RemoveOnce.ctx := .cons leapfroglaw16x_awakeC.sound leapfroglaw16x_awakeC.can <| .cons remove_New.sound remove_New.can <| .cons remove_Remove_Next.sound remove_Remove_Next.can <| .cons remove_Remove_Wake.sound remove_Remove_Wake.can <| .cons remove_Remove_Tell.sound remove_Remove_Tell.can <| .cons leapfrogref02x_At.sound leapfrogref02x_At.can <| .cons remove_Remove_Marked.sound remove_Remove_Marked.can <| .cons leapfroglaw16x_drop.sound leapfroglaw16x_drop.can <| .nil
theorem leapfroglaw16x_RemoveOnce.draws : fnDraws leapfroglaw16x_RemoveOnce.an Try.f4 = true := by kernel_rfl
theorem leapfroglaw16x_RemoveOnce.can : callOk Try.prog 4 = true := by kernel_rfl
theorem leapfroglaw16x_RemoveOnce.sound : FnOk Try.prog 4 (.st leapfroglaw16x_RemoveOnce.w) := FnOk.st_of (evF_ok leapfroglaw16x_RemoveOnce.cok mixed (f := 4) (fn := Try.f4) (by kernel_rfl) leapfroglaw16x_RemoveOnce.draws) fun args s r h => by
  unfold leapfroglaw16x_RemoveOnce.w at h; split at h
  · rw [leapfroglaw16x_RemoveOnce.ok std]; exact h
  · simp at h


end
end Go.Proofs.Ytdppefkjoeefnaa
