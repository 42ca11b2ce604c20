/-
  What the functions answer that InsertNobody reaches (part 1): for each function of the program a plain function over abstract values, and that the model answers as it does.
-/
import Derived.Test.YtdehahoffhjpmaaGreatGN0
set_option linter.unusedVariables false
set_option maxRecDepth 100000
namespace Go.Proofs.YtdehahoffhjpmaaGreat
open Go.Sim
noncomputable section
/-! ### (*leapfrog/insert.Insert).splice: function 21 -/
def insert_Insert_splice.ctx : Ctx := [(13, .rd insert_Insert_list.w), (29, .st splice_New.w), (24, .rd insert_Insert_head.w)]
def insert_Insert_splice.t.p1 (S : Sig) (r16 : Value × St) (x12 : Value) (x13 : Value) (a0 : Value) : Option (Value × St) :=
  S.bd (lda r16.2 2 x12) fun x18 => S.cnd (Value.bool (sameV x18 x13)) (S.bd (xtr 0 r16.1) fun x19 => S.bd (xtr 1 r16.1) fun x20 => S.bd (show Option Cut from S.bd (eqb [1] false true x20 (Go.Value.int Go.IntKind.i64 0)) fun x41 => S.cnd x41 (S.bd (nck a0) fun x42 => S.bd (fld 15 x42) fun x43 => S.bd (ldc r16.2 x43) fun x44 => S.bd (nck a0) fun x45 => S.bd (fld 0 x45) fun x46 => S.bd (fld 1 x46) fun x47 => S.bd (lda r16.2 5 x47) fun x48 => S.bd (nck a0) fun x49 => S.bd (fld 0 x49) fun x50 => S.bd (fld 11 x50) fun x51 => S.bd (lda r16.2 2 x51) fun x52 => S.bd (insert_Insert_list.r a0 x44 r16.2) fun x53 => S.bd (insert_Insert_head.r a0 r16.2) fun x54 => S.bd (bld [(Go.Value.int Go.IntKind.i64 0), (Go.Value.int Go.IntKind.u64 0), (Go.Value.int Go.IntKind.i64 0), (Go.Value.int Go.IntKind.i64 0), (Go.Value.int Go.IntKind.u64 0), (Go.Value.int Go.IntKind.i64 0), (Go.Value.int Go.IntKind.u64 0), (Go.Value.int Go.IntKind.i64 0), (Go.Value.int Go.IntKind.i64 0), (Go.Value.int Go.IntKind.u64 0), (Go.Value.int Go.IntKind.i64 0), (Go.Value.int Go.IntKind.u64 0), (Go.Value.int Go.IntKind.i64 0), (Go.Value.int Go.IntKind.i64 0)] [(0, 2, x53), (2, 5, x48), (7, 5, x54), (12, 2, x52)]) fun x55 => S.bd (splice_New.v x55 r16.2) fun r56 => S.bd (lda r56.2 5 x47) fun x57 => S.cnd (Value.bool (sameV x57 x48)) (S.bd (lda r56.2 2 x51) fun x58 => S.cnd (Value.bool (sameV x58 x52)) (S.bd (xtr 0 r56.1) fun x59 => S.bd (xtr 1 r56.1) fun x60 => some (0, [a0, x59], r56.2)) (none)) (none)) (some (0, [a0, x19], r16.2))) fun r61 => S.bd (nck (r61.2.1.getD 0 undef)) fun x62 => S.bd (fld 13 x62) fun x63 => S.bd (stv r61.2.2 1 x63 (Go.Value.int Go.IntKind.i64 1)) fun s64 => S.bd (nck (r61.2.1.getD 0 undef)) fun x65 => S.bd (fld 14 x65) fun x66 => S.bd (stv s64 1 x66 (Value.iface 75 (r61.2.1.getD 1 undef))) fun s67 => some ((Value.tuple ⟨[]⟩), s67)) (none)

def insert_Insert_splice.t (S : Sig) (a0 a1 : Value) (s : St) : Option (Value × St) :=
  S.bd (bx a1) fun c1 => S.bd (nck a0) fun x2 => S.bd (fld 15 x2) fun x3 => S.bd (ldc s x3) fun x4 => S.bd (nck a0) fun x5 => S.bd (fld 0 x5) fun x6 => S.bd (fld 1 x6) fun x7 => S.bd (lda s 5 x7) fun x8 => S.bd (lal c1 0 5) fun x9 => S.bd (nck a0) fun x10 => S.bd (fld 0 x10) fun x11 => S.bd (fld 11 x11) fun x12 => S.bd (lda s 2 x12) fun x13 => S.bd (insert_Insert_list.r a0 x4 s) fun x14 => S.bd (bld [(Go.Value.int Go.IntKind.i64 0), (Go.Value.int Go.IntKind.u64 0), (Go.Value.int Go.IntKind.i64 0), (Go.Value.int Go.IntKind.i64 0), (Go.Value.int Go.IntKind.u64 0), (Go.Value.int Go.IntKind.i64 0), (Go.Value.int Go.IntKind.u64 0), (Go.Value.int Go.IntKind.i64 0), (Go.Value.int Go.IntKind.i64 0), (Go.Value.int Go.IntKind.u64 0), (Go.Value.int Go.IntKind.i64 0), (Go.Value.int Go.IntKind.u64 0), (Go.Value.int Go.IntKind.i64 0), (Go.Value.int Go.IntKind.i64 0)] [(0, 2, x14), (2, 5, x8), (7, 5, x9), (12, 2, x13)]) fun x15 => S.bd (splice_New.v x15 s) fun r16 => S.bd (lda r16.2 5 x7) fun x17 => S.cnd (Value.bool (sameV x17 x8)) (insert_Insert_splice.t.p1 S r16 x12 x13 a0) (none)
def insert_Insert_splice.v (a0 a1 : Value) (s : St) : Option (Value × St) := insert_Insert_splice.t std a0 a1 s
def insert_Insert_splice.w : List Value → St → Option (Value × St)
  | [a0, a1], s => insert_Insert_splice.v a0 a1 s
  | _, _ => none
def insert_Insert_splice.an : An := ⟨61, false, [3], [], [(4, ⟨[], [(.normal, [.v 0, .v 4])]⟩)], [(1, [(0, 0, [], []), (1, 0, [], []), (2, 0, [], []), (3, 0, [], []), (4, 2, [], []), (6, 0, [], []), (7, 0, [], []), (8, 0, [], []), (9, 0, [], []), (10, 2, [], []), (11, 25, [], []), (12, 0, [], []), (13, 0, [], []), (14, 0, [], []), (15, 0, [], []), (16, 2, [], []), (5, 3, [], []), (17, 0, [], []), (18, 4, [10, 16], []), (19, 0, [], []), (20, 0, [], []), (21, 0, [], []), (22, 0, [], []), (23, 0, [], [])]), (3, [(0, 0, [], []), (1, 0, [], []), (2, 0, [], []), (3, 0, [], []), (4, 2, [], []), (6, 0, [], []), (7, 0, [], []), (8, 0, [], []), (9, 0, [], []), (10, 2, [], []), (11, 0, [], []), (13, 0, [], []), (14, 0, [], []), (15, 0, [], []), (16, 0, [], []), (17, 2, [], []), (5, 3, [], []), (12, 3, [], []), (18, 0, [], []), (19, 4, [10, 17], []), (20, 0, [], []), (21, 0, [], []), (22, 0, [], []), (23, 0, [], [])])]⟩
theorem insert_Insert_splice.ok (S : Sig) (a0 a1 : Value) (s : St) : evF S Tryz.prog insert_Insert_splice.ctx insert_Insert_splice.an Tryz.f21 [a0, a1] s = insert_Insert_splice.t S a0 a1 s := by kernel_rfl
theorem insert_Insert_splice.cok : CtxOk Tryz.prog insert_Insert_splice.ctx := .cons insert_Insert_list.sound insert_Insert_list.can <| .cons splice_New.sound splice_New.can <| .cons insert_Insert_head.sound insert_Insert_head.can <| .nil
theorem insert_Insert_splice.draws : fnDraws insert_Insert_splice.an Tryz.f21 = true := by kernel_rfl
theorem insert_Insert_splice.can : callOk Tryz.prog 21 = true := by kernel_rfl
theorem insert_Insert_splice.sound : FnOk Tryz.prog 21 (.st insert_Insert_splice.w) := FnOk.st_of (evF_ok insert_Insert_splice.cok mixed (f := 21) (fn := Tryz.f21) (by kernel_rfl) insert_Insert_splice.draws) fun args s r h => by
  unfold insert_Insert_splice.w at h; split at h
  · rw [insert_Insert_splice.ok std]; exact h
  · simp at h

/-! ### (*leapfrog/insert.Insert).spliced: function 20 -/
def insert_Insert_spliced.ctx : Ctx := [(36, .st insert_Insert_up.w), (11, .st insert_Insert_end.w), (37, .st insert_Insert_seek.w), (24, .rd insert_Insert_head.w), (21, .st insert_Insert_splice.w)]
def insert_Insert_spliced.t (S : Sig) (a0 a1 : Value) (s : St) : Option (Value × St) :=
  S.bd (eqb [1] false false a1 (Go.Value.int Go.IntKind.i64 0)) fun x1 => S.bd (S.gd x1 false (some a1)) fun x2 => S.bd (S.gd x1 false (eqb [1] false false x2 (Go.Value.int Go.IntKind.i64 133))) fun x3 => S.bd (S.gd x1 false (some x3)) fun x4 => S.bd (S.gd x4 true (some a0)) fun x5 => S.bd (S.gd x4 true (nck x5)) fun x6 => S.bd (S.gd x4 true (fld 15 x6)) fun x7 => S.bd (S.gd x4 true (ldc s x7)) fun x8 => S.bd (S.gd x4 true (bin .gtr x8 (Go.Value.int Go.IntKind.i64 0))) fun x9 => S.bd (S.gd x1 false (pik x4 x9 (Go.Value.bool Bool.false))) fun x10 => S.bd (pik x1 (Go.Value.bool Bool.true) x10) fun x11 => S.cnd x11 (S.bd (insert_Insert_up.v a0 s) fun r12 => some ((Value.tuple ⟨[]⟩), r12.2)) (S.bd (eqb [1] false true a1 (Go.Value.int Go.IntKind.i64 131)) fun x13 => S.cnd x13 (S.bd (insert_Insert_end.v a0 a1 s) fun r14 => some ((Value.tuple ⟨[]⟩), r14.2)) (S.bd (nck a0) fun x15 => S.bd (fld 15 x15) fun x16 => S.bd (ldc s x16) fun x17 => S.bd (eqb [1] false false x17 (Go.Value.int Go.IntKind.i64 0)) fun x18 => S.cnd x18 (S.bd (insert_Insert_seek.v a0 s) fun r19 => some ((Value.tuple ⟨[]⟩), r19.2)) (S.bd (insert_Insert_head.r a0 s) fun x20 => S.bd (insert_Insert_splice.v a0 x20 s) fun r21 => some ((Value.tuple ⟨[]⟩), r21.2))))
def insert_Insert_spliced.v (a0 a1 : Value) (s : St) : Option (Value × St) := insert_Insert_spliced.t std a0 a1 s
def insert_Insert_spliced.w : List Value → St → Option (Value × St)
  | [a0, a1], s => insert_Insert_spliced.v a0 a1 s
  | _, _ => none
def insert_Insert_spliced.an : An := ⟨38, false, [], [], [], []⟩
theorem insert_Insert_spliced.ok (S : Sig) (a0 a1 : Value) (s : St) : evF S Tryz.prog insert_Insert_spliced.ctx insert_Insert_spliced.an Tryz.f20 [a0, a1] s = insert_Insert_spliced.t S a0 a1 s := by kernel_rfl
theorem insert_Insert_spliced.cok : CtxOk Tryz.prog insert_Insert_spliced.ctx := .cons insert_Insert_up.sound insert_Insert_up.can <| .cons insert_Insert_end.sound insert_Insert_end.can <| .cons insert_Insert_seek.sound insert_Insert_seek.can <| .cons insert_Insert_head.sound insert_Insert_head.can <| .cons insert_Insert_splice.sound insert_Insert_splice.can <| .nil
theorem insert_Insert_spliced.draws : fnDraws insert_Insert_spliced.an Tryz.f20 = true := by kernel_rfl
theorem insert_Insert_spliced.can : callOk Tryz.prog 20 = true := by kernel_rfl
theorem insert_Insert_spliced.sound : FnOk Tryz.prog 20 (.st insert_Insert_spliced.w) := FnOk.st_of (evF_ok insert_Insert_spliced.cok mixed (f := 20) (fn := Tryz.f20) (by kernel_rfl) insert_Insert_spliced.draws) fun args s r h => by
  unfold insert_Insert_spliced.w at h; split at h
  · rw [insert_Insert_spliced.ok std]; exact h
  · simp at h

/-! ### (*leapfrog/insert.Insert).played: function 9 -/
def insert_Insert_played.ctx : Ctx := [(114, .rd splice_Splice_Next.w), (132, .rd seek_Seek_Next.w), (20, .st insert_Insert_spliced.w), (11, .st insert_Insert_end.w), (21, .st insert_Insert_splice.w)]
def insert_Insert_played.t (S : Sig) (a0 : Value) (s : St) : Option (Value × St) :=
  S.bd (nck a0) fun x1 => S.bd (fld 14 x1) fun x2 => S.bd (ldc s x2) fun x3 => S.bd (callI Tryz.prog (insert_Insert_played.ctx) "Next" x3 [] s) fun r4 => S.bd (bx (Go.Value.agg #[(Go.Value.int Go.IntKind.i64 0), (Go.Value.int Go.IntKind.i64 0), (Go.Value.int Go.IntKind.i64 0), (Go.Value.int Go.IntKind.u64 0), (Go.Value.int Go.IntKind.i64 0), (Go.Value.int Go.IntKind.u64 0), (Go.Value.int Go.IntKind.i64 0), (Go.Value.int Go.IntKind.i64 0), (Go.Value.int Go.IntKind.u64 0), (Go.Value.int Go.IntKind.i64 0), (Go.Value.int Go.IntKind.i64 0), (Go.Value.int Go.IntKind.u64 0), (Go.Value.int Go.IntKind.i64 0), (Go.Value.int Go.IntKind.u64 0), (Go.Value.int Go.IntKind.i64 0), (Go.Value.int Go.IntKind.i64 0), (Go.Value.int Go.IntKind.u64 0), (Go.Value.int Go.IntKind.i64 0), (Go.Value.int Go.IntKind.u64 0), (Go.Value.int Go.IntKind.i64 0), (Go.Value.int Go.IntKind.i64 0), (Go.Value.int Go.IntKind.i64 0), (Go.Value.int Go.IntKind.u64 0), (Go.Value.slice Option.none 0 0), (Go.Value.slice Option.none 0 0), (Go.Value.int Go.IntKind.i64 0), (Go.Value.int Go.IntKind.i64 0), (Go.Value.int Go.IntKind.u64 0), (Go.Value.int Go.IntKind.i64 0), (Go.Value.int Go.IntKind.u64 0), (Go.Value.int Go.IntKind.i64 0), (Go.Value.int Go.IntKind.i64 0), (Go.Value.int Go.IntKind.u64 0), (Go.Value.int Go.IntKind.i64 0), (Go.Value.int Go.IntKind.u64 0), (Go.Value.bool Bool.false)])) fun c5 => S.bd (stl c5 0 36 r4.1) fun c6 => S.bd (lcl c6 0) fun x7 => S.bd (eqb [1] false true x7 (Go.Value.int Go.IntKind.i64 3)) fun x8 => S.cnd x8 (some ((Value.tuple ⟨[]⟩), r4.2)) (S.bd (nck a0) fun x9 => S.bd (fld 14 x9) fun x10 => S.bd (ldc r4.2 x10) fun x11 => S.bd (tas Tryz.prog 75 true (Go.Value.pointer Option.none) x11) fun x12 => S.bd (xtr 1 x12) fun x13 => S.bd (xtr 0 x12) fun x14 => S.cnd x13 (S.bd (lcl c6 21) fun x15 => S.bd (insert_Insert_spliced.v a0 x15 r4.2) fun r16 => some ((Value.tuple ⟨[]⟩), r16.2)) (S.bd (lcl c6 21) fun x17 => S.bd (eqb [1] false true x17 (Go.Value.int Go.IntKind.i64 0)) fun x18 => S.cnd x18 (S.bd (lcl c6 21) fun x19 => S.bd (insert_Insert_end.v a0 x19 r4.2) fun r20 => some ((Value.tuple ⟨[]⟩), r20.2)) (S.bd (lal c6 25 5) fun x21 => S.bd (insert_Insert_splice.v a0 x21 r4.2) fun r22 => some ((Value.tuple ⟨[]⟩), r22.2))))
def insert_Insert_played.v (a0 : Value) (s : St) : Option (Value × St) := insert_Insert_played.t std a0 s
def insert_Insert_played.w : List Value → St → Option (Value × St)
  | [a0], s => insert_Insert_played.v a0 s
  | _, _ => none
def insert_Insert_played.an : An := ⟨37, false, [2], [], [], []⟩
theorem insert_Insert_played.ok (S : Sig) (a0 : Value) (s : St) : evF S Tryz.prog insert_Insert_played.ctx insert_Insert_played.an Tryz.f9 [a0] s = insert_Insert_played.t S a0 s := by kernel_rfl
theorem insert_Insert_played.cok : CtxOk Tryz.prog insert_Insert_played.ctx := .cons splice_Splice_Next.sound splice_Splice_Next.can <| .cons seek_Seek_Next.sound seek_Seek_Next.can <| .cons insert_Insert_spliced.sound insert_Insert_spliced.can <| .cons insert_Insert_end.sound insert_Insert_end.can <| .cons insert_Insert_splice.sound insert_Insert_splice.can <| .nil
theorem insert_Insert_played.draws : fnDraws insert_Insert_played.an Tryz.f9 = true := by kernel_rfl
theorem insert_Insert_played.can : callOk Tryz.prog 9 = true := by kernel_rfl
theorem insert_Insert_played.sound : FnOk Tryz.prog 9 (.st insert_Insert_played.w) := FnOk.st_of (evF_ok insert_Insert_played.cok mixed (f := 9) (fn := Tryz.f9) (by kernel_rfl) insert_Insert_played.draws) fun args s r h => by
  unfold insert_Insert_played.w at h; split at h
  · rw [insert_Insert_played.ok std]; exact h
  · simp at h

/-! ### (*leapfrog/insert.Insert).walked: function 10 -/
def insert_Insert_walked.ctx : Ctx := [(11, .st insert_Insert_end.w), (22, .rd key_Check.w), (23, .rd key_Less.w), (24, .rd insert_Insert_head.w), (21, .st insert_Insert_splice.w), (13, .rd insert_Insert_list.w), (25, .rd vec_Begins.w)]
def insert_Insert_walked.t.p1 (S : Sig) (x3 : Value) (x9 : Value) (s : St) (x7 : Value) (a0 : Value) (c1 : List Value) : Option (Value × St) :=
  S.bd (S.gd x3 true (fld 0 x9)) fun x10 => S.bd (S.gd x3 true (fld 1 x10)) fun x11 => S.bd (S.gd x3 true (lda s 5 x11)) fun x12 => S.bd (S.gd x3 true (eqb [1, 1, 1, 1, 1] true false x7 x12)) fun x13 => S.bd (pik x3 x13 (Go.Value.bool Bool.false)) fun x14 => S.cnd x14 (S.bd (insert_Insert_end.v a0 (Go.Value.int Go.IntKind.i64 132) s) fun r15 => some ((Value.tuple ⟨[]⟩), r15.2)) (S.bd (lcl c1 0) fun x16 => S.bd (eqb [1] false true x16 (Go.Value.int Go.IntKind.i64 1)) fun x17 => S.bd (S.gd x17 false (lal c1 3 2)) fun x18 => S.bd (S.gd x17 false (key_Check.r x18 s)) fun x19 => S.bd (S.gd x17 false (eqb [1] false true x19 (Go.Value.int Go.IntKind.i64 0))) fun x20 => S.bd (pik x17 (Go.Value.bool Bool.true) x20) fun x21 => S.bd (S.gd x21 false (lal c1 3 2)) fun x22 => S.bd (S.gd x21 false (some a0)) fun x23 => S.bd (S.gd x21 false (nck x23)) fun x24 => S.bd (S.gd x21 false (fld 16 x24)) fun x25 => S.bd (S.gd x21 false (fld 1 x25)) fun x26 => S.bd (S.gd x21 false (lda s 2 x26)) fun x27 => S.bd (S.gd x21 false (key_Less.r x22 x27 s)) fun x28 => S.bd (S.gd x21 false (un .not x28)) fun x29 => S.bd (pik x21 (Go.Value.bool Bool.true) x29) fun x30 => S.cnd x30 (S.bd (insert_Insert_head.r a0 s) fun x31 => S.bd (insert_Insert_splice.v a0 x31 s) fun r32 => some ((Value.tuple ⟨[]⟩), r32.2)) (S.bd (lcl c1 3) fun x33 => S.bd (eqb [1] false false x33 (Go.Value.int Go.IntKind.i64 1)) fun x34 => S.bd (S.gd x34 false (lal c1 5 2)) fun x35 => S.bd (S.gd x34 false (some a0)) fun x36 => S.bd (S.gd x34 false (some a0)) fun x37 => S.bd (S.gd x34 false (nck x37)) fun x38 => S.bd (S.gd x34 false (fld 15 x38)) fun x39 => S.bd (S.gd x34 false (ldc s x39)) fun x40 => S.bd (S.gd x34 false (insert_Insert_list.r x36 x40 s)) fun x41 => S.bd (S.gd x34 false (vec_Begins.r x35 x41 s)) fun x42 => S.bd (pik x34 (Go.Value.bool Bool.true) x42) fun x43 => S.cnd x43 (S.bd (lal c1 2 5) fun x44 => S.bd (insert_Insert_splice.v a0 x44 s) fun r45 => some ((Value.tuple ⟨[]⟩), r45.2)) (S.bd (lal c1 2 5) fun x46 => S.bd (nck a0) fun x47 => S.bd (fld 16 x47) fun x48 => S.bd (stv s 5 x48 x46) fun s49 => some ((Value.tuple ⟨[]⟩), s49))))

def insert_Insert_walked.t (S : Sig) (a0 a1 : Value) (s : St) : Option (Value × St) :=
  S.bd (bx a1) fun c1 => S.bd (lcl c1 0) fun x2 => S.bd (eqb [1] false false x2 (Go.Value.int Go.IntKind.i64 3)) fun x3 => S.bd (S.gd x3 true (some a0)) fun x4 => S.bd (S.gd x3 true (nck x4)) fun x5 => S.bd (S.gd x3 true (fld 16 x5)) fun x6 => S.bd (S.gd x3 true (lda s 5 x6)) fun x7 => S.bd (S.gd x3 true (some a0)) fun x8 => S.bd (S.gd x3 true (nck x8)) fun x9 => insert_Insert_walked.t.p1 S x3 x9 s x7 a0 c1
def insert_Insert_walked.v (a0 a1 : Value) (s : St) : Option (Value × St) := insert_Insert_walked.t std a0 a1 s
def insert_Insert_walked.w : List Value → St → Option (Value × St)
  | [a0, a1], s => insert_Insert_walked.v a0 a1 s
  | _, _ => none
def insert_Insert_walked.an : An := ⟨76, false, [3], [], [], [(2, [(0, 0, [], []), (1, 25, [], []), (2, 0, [], []), (3, 0, [], []), (4, 0, [], []), (5, 0, [], []), (6, 0, [], []), (7, 2, [], []), (8, 0, [], []), (9, 0, [], []), (10, 0, [], []), (11, 0, [], []), (12, 2, [], []), (13, 0, [], []), (14, 0, [], []), (15, 0, [], [])]), (4, [(0, 0, [], []), (1, 25, [], []), (2, 0, [], []), (3, 0, [], []), (4, 0, [], []), (5, 0, [], []), (6, 25, [], []), (7, 3, [], []), (8, 0, [], []), (9, 0, [], []), (10, 0, [], []), (11, 0, [], []), (12, 0, [], []), (13, 25, [], []), (14, 0, [], []), (15, 0, [], []), (16, 0, [], []), (17, 0, [], []), (18, 2, [], []), (19, 3, [], []), (20, 0, [], []), (21, 0, [], []), (22, 0, [], [])]), (6, [(0, 0, [], []), (1, 0, [], []), (2, 0, [], []), (3, 25, [], []), (4, 0, [], []), (5, 0, [], []), (6, 0, [], []), (7, 0, [], []), (8, 25, [], []), (9, 0, [], []), (10, 0, [], []), (11, 0, [], []), (12, 0, [], []), (13, 2, [], []), (14, 3, [], []), (15, 3, [], []), (16, 0, [], []), (17, 0, [], [])])]⟩
theorem insert_Insert_walked.ok (S : Sig) (a0 a1 : Value) (s : St) : evF S Tryz.prog insert_Insert_walked.ctx insert_Insert_walked.an Tryz.f10 [a0, a1] s = insert_Insert_walked.t S a0 a1 s := by kernel_rfl
theorem insert_Insert_walked.cok : CtxOk Tryz.prog insert_Insert_walked.ctx := .cons insert_Insert_end.sound insert_Insert_end.can <| .cons key_Check.sound key_Check.can <| .cons key_Less.sound key_Less.can <| .cons insert_Insert_head.sound insert_Insert_head.can <| .cons insert_Insert_splice.sound insert_Insert_splice.can <| .cons insert_Insert_list.sound insert_Insert_list.can <| .cons vec_Begins.sound vec_Begins.can <| .nil
theorem insert_Insert_walked.draws : fnDraws insert_Insert_walked.an Tryz.f10 = true := by kernel_rfl
theorem insert_Insert_walked.can : callOk Tryz.prog 10 = true := by kernel_rfl
theorem insert_Insert_walked.sound : FnOk Tryz.prog 10 (.st insert_Insert_walked.w) := FnOk.st_of (evF_ok insert_Insert_walked.cok mixed (f := 10) (fn := Tryz.f10) (by kernel_rfl) insert_Insert_walked.draws) fun args s r h => by
  unfold insert_Insert_walked.w at h; split at h
  · rw [insert_Insert_walked.ok std]; exact h
  · simp at h

/-! ### (*leapfrog/insert.Insert).Tell: function 4 -/
def insert_Insert_Tell.ctx : Ctx := [(115, .st splice_Splice_Tell.w), (133, .st seek_Seek_Tell.w), (9, .st insert_Insert_played.w), (10, .st insert_Insert_walked.w), (11, .st insert_Insert_end.w)]
def insert_Insert_Tell.t (S : Sig) (a0 a1 : Value) (s : St) : Option (Value × St) :=
  S.bd (bx a1) fun c1 => S.bd (eqb [3] false false a0 (Go.Value.pointer Option.none)) fun x2 => S.cnd x2 (some ((Value.tuple ⟨[]⟩), s)) (S.bd (nck a0) fun x3 => S.bd (fld 13 x3) fun x4 => S.bd (ldc s x4) fun x5 => S.bd (eqb [1] false false x5 (Go.Value.int Go.IntKind.i64 1)) fun x6 => S.cnd x6 (S.bd (nck a0) fun x7 => S.bd (fld 14 x7) fun x8 => S.bd (ldc s x8) fun x9 => S.bd (lal c1 0 13) fun x10 => S.bd (callI Tryz.prog (insert_Insert_Tell.ctx) "Tell" x9 [x10] s) fun r11 => S.bd (insert_Insert_played.v a0 r11.2) fun r12 => some ((Value.tuple ⟨[]⟩), r12.2)) (S.bd (eqb [1] false false x5 (Go.Value.int Go.IntKind.i64 2)) fun x13 => S.cnd x13 (S.bd (lal c1 0 13) fun x14 => S.bd (insert_Insert_walked.v a0 x14 s) fun r15 => some ((Value.tuple ⟨[]⟩), r15.2)) (S.bd (eqb [1] false false x5 (Go.Value.int Go.IntKind.i64 3)) fun x16 => S.cnd x16 (S.bd (lcl c1 0) fun x17 => S.bd (eqb [1] false false x17 (Go.Value.int Go.IntKind.i64 3)) fun x18 => S.cnd x18 (S.bd (insert_Insert_end.v a0 (Go.Value.int Go.IntKind.i64 132) s) fun r19 => some ((Value.tuple ⟨[]⟩), r19.2)) (S.bd (insert_Insert_end.v a0 (Go.Value.int Go.IntKind.i64 0) s) fun r20 => some ((Value.tuple ⟨[]⟩), r20.2))) (some ((Value.tuple ⟨[]⟩), s)))))
def insert_Insert_Tell.v (a0 a1 : Value) (s : St) : Option (Value × St) := insert_Insert_Tell.t std a0 a1 s
def insert_Insert_Tell.w : List Value → St → Option (Value × St)
  | [a0, a1], s => insert_Insert_Tell.v a0 a1 s
  | _, _ => none
def insert_Insert_Tell.an : An := ⟨34, false, [3], [], [], [(4, [(0, 0, [], []), (1, 0, [], []), (2, 0, [], []), (3, 2, [], []), (4, 25, [], []), (5, 4, [], [])])]⟩
theorem insert_Insert_Tell.ok (S : Sig) (a0 a1 : Value) (s : St) : evF S Tryz.prog insert_Insert_Tell.ctx insert_Insert_Tell.an Tryz.f4 [a0, a1] s = insert_Insert_Tell.t S a0 a1 s := by kernel_rfl
theorem insert_Insert_Tell.cok : CtxOk Tryz.prog insert_Insert_Tell.ctx := .cons splice_Splice_Tell.sound splice_Splice_Tell.can <| .cons seek_Seek_Tell.sound seek_Seek_Tell.can <| .cons insert_Insert_played.sound insert_Insert_played.can <| .cons insert_Insert_walked.sound insert_Insert_walked.can <| .cons insert_Insert_end.sound insert_Insert_end.can <| .nil
theorem insert_Insert_Tell.draws : fnDraws insert_Insert_Tell.an Tryz.f4 = true := by kernel_rfl
theorem insert_Insert_Tell.can : callOk Tryz.prog 4 = true := by kernel_rfl
theorem insert_Insert_Tell.sound : FnOk Tryz.prog 4 (.st insert_Insert_Tell.w) := FnOk.st_of (evF_ok insert_Insert_Tell.cok mixed (f := 4) (fn := Tryz.f4) (by kernel_rfl) insert_Insert_Tell.draws) fun args s r h => by
  unfold insert_Insert_Tell.w at h; split at h
  · rw [insert_Insert_Tell.ok std]; exact h
  · simp at h

/-! ### (*leapfrog/insert.Insert).Wake: function 5 -/
def insert_Insert_Wake.ctx : Ctx := [(116, .st splice_Splice_Wake.w), (134, .rd seek_Seek_Wake.w), (9, .st insert_Insert_played.w)]
def insert_Insert_Wake.t (S : Sig) (a0 : Value) (s : St) : Option (Value × St) :=
  S.bd (eqb [3] false true a0 (Go.Value.pointer Option.none)) fun x1 => S.bd (S.gd x1 true (some a0)) fun x2 => S.bd (S.gd x1 true (nck x2)) fun x3 => S.bd (S.gd x1 true (fld 13 x3)) fun x4 => S.bd (S.gd x1 true (ldc s x4)) fun x5 => S.bd (S.gd x1 true (eqb [1] false false x5 (Go.Value.int Go.IntKind.i64 1))) fun x6 => S.bd (pik x1 x6 (Go.Value.bool Bool.false)) fun x7 => S.cnd x7 (S.bd (nck a0) fun x8 => S.bd (fld 14 x8) fun x9 => S.bd (ldc s x9) fun x10 => S.bd (callI Tryz.prog (insert_Insert_Wake.ctx) "Wake" x10 [] s) fun r11 => S.bd (insert_Insert_played.v a0 r11.2) fun r12 => some ((Value.tuple ⟨[]⟩), r12.2)) (some ((Value.tuple ⟨[]⟩), s))
def insert_Insert_Wake.v (a0 : Value) (s : St) : Option (Value × St) := insert_Insert_Wake.t std a0 s
def insert_Insert_Wake.w : List Value → St → Option (Value × St)
  | [a0], s => insert_Insert_Wake.v a0 s
  | _, _ => none
def insert_Insert_Wake.an : An := ⟨18, false, [], [], [], []⟩
theorem insert_Insert_Wake.ok (S : Sig) (a0 : Value) (s : St) : evF S Tryz.prog insert_Insert_Wake.ctx insert_Insert_Wake.an Tryz.f5 [a0] s = insert_Insert_Wake.t S a0 s := by kernel_rfl
theorem insert_Insert_Wake.cok : CtxOk Tryz.prog insert_Insert_Wake.ctx := .cons splice_Splice_Wake.sound splice_Splice_Wake.can <| .cons seek_Seek_Wake.sound seek_Seek_Wake.can <| .cons insert_Insert_played.sound insert_Insert_played.can <| .nil
theorem insert_Insert_Wake.draws : fnDraws insert_Insert_Wake.an Tryz.f5 = true := by kernel_rfl
theorem insert_Insert_Wake.can : callOk Tryz.prog 5 = true := by kernel_rfl
theorem insert_Insert_Wake.sound : FnOk Tryz.prog 5 (.st insert_Insert_Wake.w) := FnOk.st_of (evF_ok insert_Insert_Wake.cok mixed (f := 5) (fn := Tryz.f5) (by kernel_rfl) insert_Insert_Wake.draws) fun args s r h => by
  unfold insert_Insert_Wake.w at h; split at h
  · rw [insert_Insert_Wake.ok std]; exact h
  · simp at h

/-! ### (*leapfrog/insert.Insert).Next: function 7 -/
def insert_Insert_Next.ctx : Ctx := [(114, .rd splice_Splice_Next.w), (132, .rd seek_Seek_Next.w), (13, .rd insert_Insert_list.w)]
def insert_Insert_Next.t.p1 (S : Sig) (a0 : Value) (s : St) (c1 : List Value) : Option (Value × St) :=
  S.bd (nck a0) fun x17 => S.bd (fld 16 x17) fun x18 => S.bd (lda s 5 x18) fun x19 => S.bd (nck a0) fun x20 => S.bd (fld 15 x20) fun x21 => S.bd (ldc s x21) fun x22 => S.bd (bin .sub x22 (Go.Value.int Go.IntKind.i64 1)) fun x23 => S.bd (insert_Insert_list.r a0 x23 s) fun x24 => S.bd (bld [(Go.Value.int Go.IntKind.i64 0), (Go.Value.int Go.IntKind.i64 0), (Go.Value.int Go.IntKind.u64 0), (Go.Value.int Go.IntKind.i64 0), (Go.Value.int Go.IntKind.i64 0), (Go.Value.int Go.IntKind.u64 0), (Go.Value.int Go.IntKind.i64 0), (Go.Value.int Go.IntKind.u64 0), (Go.Value.int Go.IntKind.i64 0), (Go.Value.int Go.IntKind.i64 0), (Go.Value.int Go.IntKind.u64 0), (Go.Value.int Go.IntKind.i64 0), (Go.Value.int Go.IntKind.u64 0), (Go.Value.int Go.IntKind.i64 0), (Go.Value.int Go.IntKind.i64 0)] [(0, 1, (Go.Value.int Go.IntKind.i64 1)), (1, 2, x24)]) fun x25 => S.bd (bld [(Go.Value.int Go.IntKind.i64 0), (Go.Value.int Go.IntKind.i64 0), (Go.Value.int Go.IntKind.i64 0), (Go.Value.int Go.IntKind.u64 0), (Go.Value.int Go.IntKind.i64 0), (Go.Value.int Go.IntKind.u64 0), (Go.Value.int Go.IntKind.i64 0), (Go.Value.int Go.IntKind.i64 0), (Go.Value.int Go.IntKind.u64 0), (Go.Value.int Go.IntKind.i64 0), (Go.Value.int Go.IntKind.i64 0), (Go.Value.int Go.IntKind.u64 0), (Go.Value.int Go.IntKind.i64 0), (Go.Value.int Go.IntKind.u64 0), (Go.Value.int Go.IntKind.i64 0), (Go.Value.int Go.IntKind.i64 0), (Go.Value.int Go.IntKind.u64 0), (Go.Value.int Go.IntKind.i64 0), (Go.Value.int Go.IntKind.u64 0), (Go.Value.int Go.IntKind.i64 0), (Go.Value.int Go.IntKind.i64 0), (Go.Value.int Go.IntKind.i64 0), (Go.Value.int Go.IntKind.u64 0), (Go.Value.slice Option.none 0 0), (Go.Value.slice Option.none 0 0), (Go.Value.int Go.IntKind.i64 0), (Go.Value.int Go.IntKind.i64 0), (Go.Value.int Go.IntKind.u64 0), (Go.Value.int Go.IntKind.i64 0), (Go.Value.int Go.IntKind.u64 0), (Go.Value.int Go.IntKind.i64 0), (Go.Value.int Go.IntKind.i64 0), (Go.Value.int Go.IntKind.u64 0), (Go.Value.int Go.IntKind.i64 0), (Go.Value.int Go.IntKind.u64 0), (Go.Value.bool Bool.false)] [(0, 1, (Go.Value.int Go.IntKind.i64 1)), (1, 5, x19), (6, 15, x25)]) fun x26 => S.bd (stl c1 0 36 x26) fun c27 => S.bd (lal c27 0 36) fun x28 => some (x28, s)

def insert_Insert_Next.t.p2 (S : Sig) (a0 : Value) (s : St) (c1 : List Value) : Option (Value × St) :=
  S.bd (nck a0) fun x30 => S.bd (fld 0 x30) fun x31 => S.bd (fld 1 x31) fun x32 => S.bd (lda s 5 x32) fun x33 => S.bd (bld [(Go.Value.int Go.IntKind.i64 0), (Go.Value.int Go.IntKind.i64 0), (Go.Value.int Go.IntKind.u64 0), (Go.Value.int Go.IntKind.i64 0), (Go.Value.int Go.IntKind.i64 0), (Go.Value.int Go.IntKind.u64 0), (Go.Value.int Go.IntKind.i64 0), (Go.Value.int Go.IntKind.u64 0), (Go.Value.int Go.IntKind.i64 0), (Go.Value.int Go.IntKind.i64 0), (Go.Value.int Go.IntKind.u64 0), (Go.Value.int Go.IntKind.i64 0), (Go.Value.int Go.IntKind.u64 0), (Go.Value.int Go.IntKind.i64 0), (Go.Value.int Go.IntKind.i64 0)] [(0, 1, (Go.Value.int Go.IntKind.i64 10))]) fun x34 => S.bd (bld [(Go.Value.int Go.IntKind.i64 0), (Go.Value.int Go.IntKind.i64 0), (Go.Value.int Go.IntKind.i64 0), (Go.Value.int Go.IntKind.u64 0), (Go.Value.int Go.IntKind.i64 0), (Go.Value.int Go.IntKind.u64 0), (Go.Value.int Go.IntKind.i64 0), (Go.Value.int Go.IntKind.i64 0), (Go.Value.int Go.IntKind.u64 0), (Go.Value.int Go.IntKind.i64 0), (Go.Value.int Go.IntKind.i64 0), (Go.Value.int Go.IntKind.u64 0), (Go.Value.int Go.IntKind.i64 0), (Go.Value.int Go.IntKind.u64 0), (Go.Value.int Go.IntKind.i64 0), (Go.Value.int Go.IntKind.i64 0), (Go.Value.int Go.IntKind.u64 0), (Go.Value.int Go.IntKind.i64 0), (Go.Value.int Go.IntKind.u64 0), (Go.Value.int Go.IntKind.i64 0), (Go.Value.int Go.IntKind.i64 0), (Go.Value.int Go.IntKind.i64 0), (Go.Value.int Go.IntKind.u64 0), (Go.Value.slice Option.none 0 0), (Go.Value.slice Option.none 0 0), (Go.Value.int Go.IntKind.i64 0), (Go.Value.int Go.IntKind.i64 0), (Go.Value.int Go.IntKind.u64 0), (Go.Value.int Go.IntKind.i64 0), (Go.Value.int Go.IntKind.u64 0), (Go.Value.int Go.IntKind.i64 0), (Go.Value.int Go.IntKind.i64 0), (Go.Value.int Go.IntKind.u64 0), (Go.Value.int Go.IntKind.i64 0), (Go.Value.int Go.IntKind.u64 0), (Go.Value.bool Bool.false)] [(0, 1, (Go.Value.int Go.IntKind.i64 1)), (1, 5, x33), (6, 15, x34)]) fun x35 => S.bd (stl c1 0 36 x35) fun c36 => S.bd (lal c36 0 36) fun x37 => some (x37, s)

def insert_Insert_Next.t.p3 (S : Sig) (a0 : Value) (s : St) (c1 : List Value) : Option (Value × St) :=
  S.bd (nck a0) fun x39 => S.bd (fld 22 x39) fun x40 => S.bd (ldc s x40) fun x41 => S.bd (bld [(Go.Value.int Go.IntKind.i64 0), (Go.Value.int Go.IntKind.u64 0), (Go.Value.slice Option.none 0 0), (Go.Value.slice Option.none 0 0), (Go.Value.int Go.IntKind.i64 0), (Go.Value.int Go.IntKind.i64 0), (Go.Value.int Go.IntKind.u64 0), (Go.Value.int Go.IntKind.i64 0), (Go.Value.int Go.IntKind.u64 0), (Go.Value.int Go.IntKind.i64 0), (Go.Value.int Go.IntKind.i64 0), (Go.Value.int Go.IntKind.u64 0), (Go.Value.int Go.IntKind.i64 0), (Go.Value.int Go.IntKind.u64 0), (Go.Value.bool Bool.false)] [(0, 1, x41)]) fun x42 => S.bd (bld [(Go.Value.int Go.IntKind.i64 0), (Go.Value.int Go.IntKind.i64 0), (Go.Value.int Go.IntKind.i64 0), (Go.Value.int Go.IntKind.u64 0), (Go.Value.int Go.IntKind.i64 0), (Go.Value.int Go.IntKind.u64 0), (Go.Value.int Go.IntKind.i64 0), (Go.Value.int Go.IntKind.i64 0), (Go.Value.int Go.IntKind.u64 0), (Go.Value.int Go.IntKind.i64 0), (Go.Value.int Go.IntKind.i64 0), (Go.Value.int Go.IntKind.u64 0), (Go.Value.int Go.IntKind.i64 0), (Go.Value.int Go.IntKind.u64 0), (Go.Value.int Go.IntKind.i64 0), (Go.Value.int Go.IntKind.i64 0), (Go.Value.int Go.IntKind.u64 0), (Go.Value.int Go.IntKind.i64 0), (Go.Value.int Go.IntKind.u64 0), (Go.Value.int Go.IntKind.i64 0), (Go.Value.int Go.IntKind.i64 0), (Go.Value.int Go.IntKind.i64 0), (Go.Value.int Go.IntKind.u64 0), (Go.Value.slice Option.none 0 0), (Go.Value.slice Option.none 0 0), (Go.Value.int Go.IntKind.i64 0), (Go.Value.int Go.IntKind.i64 0), (Go.Value.int Go.IntKind.u64 0), (Go.Value.int Go.IntKind.i64 0), (Go.Value.int Go.IntKind.u64 0), (Go.Value.int Go.IntKind.i64 0), (Go.Value.int Go.IntKind.i64 0), (Go.Value.int Go.IntKind.u64 0), (Go.Value.int Go.IntKind.i64 0), (Go.Value.int Go.IntKind.u64 0), (Go.Value.bool Bool.false)] [(0, 1, (Go.Value.int Go.IntKind.i64 3)), (21, 15, x42)]) fun x43 => S.bd (stl c1 0 36 x43) fun c44 => S.bd (lal c44 0 36) fun x45 => some (x45, s)

def insert_Insert_Next.t.p4 (S : Sig) (a0 : Value) (s : St) (c1 : List Value) : Option (Value × St) :=
  S.bd (nck a0) fun x6 => S.bd (fld 13 x6) fun x7 => S.bd (ldc s x7) fun x8 => S.bd (eqb [1] false false x8 (Go.Value.int Go.IntKind.i64 1)) fun x9 => S.cnd x9 (S.bd (nck a0) fun x10 => S.bd (fld 14 x10) fun x11 => S.bd (ldc s x11) fun x12 => S.bd (callI Tryz.prog (insert_Insert_Next.ctx) "Next" x12 [] s) fun r13 => S.bd (stl c1 0 36 r13.1) fun c14 => S.bd (lal c14 0 36) fun x15 => some (x15, r13.2)) (S.bd (eqb [1] false false x8 (Go.Value.int Go.IntKind.i64 2)) fun x16 => S.cnd x16 (insert_Insert_Next.t.p1 S a0 s c1) (S.bd (eqb [1] false false x8 (Go.Value.int Go.IntKind.i64 3)) fun x29 => S.cnd x29 (insert_Insert_Next.t.p2 S a0 s c1) (S.bd (eqb [1] false false x8 (Go.Value.int Go.IntKind.i64 4)) fun x38 => S.cnd x38 (insert_Insert_Next.t.p3 S a0 s c1) (S.bd (bld [(Go.Value.int Go.IntKind.i64 0), (Go.Value.int Go.IntKind.i64 0), (Go.Value.int Go.IntKind.i64 0), (Go.Value.int Go.IntKind.u64 0), (Go.Value.int Go.IntKind.i64 0), (Go.Value.int Go.IntKind.u64 0), (Go.Value.int Go.IntKind.i64 0), (Go.Value.int Go.IntKind.i64 0), (Go.Value.int Go.IntKind.u64 0), (Go.Value.int Go.IntKind.i64 0), (Go.Value.int Go.IntKind.i64 0), (Go.Value.int Go.IntKind.u64 0), (Go.Value.int Go.IntKind.i64 0), (Go.Value.int Go.IntKind.u64 0), (Go.Value.int Go.IntKind.i64 0), (Go.Value.int Go.IntKind.i64 0), (Go.Value.int Go.IntKind.u64 0), (Go.Value.int Go.IntKind.i64 0), (Go.Value.int Go.IntKind.u64 0), (Go.Value.int Go.IntKind.i64 0), (Go.Value.int Go.IntKind.i64 0), (Go.Value.int Go.IntKind.i64 0), (Go.Value.int Go.IntKind.u64 0), (Go.Value.slice Option.none 0 0), (Go.Value.slice Option.none 0 0), (Go.Value.int Go.IntKind.i64 0), (Go.Value.int Go.IntKind.i64 0), (Go.Value.int Go.IntKind.u64 0), (Go.Value.int Go.IntKind.i64 0), (Go.Value.int Go.IntKind.u64 0), (Go.Value.int Go.IntKind.i64 0), (Go.Value.int Go.IntKind.i64 0), (Go.Value.int Go.IntKind.u64 0), (Go.Value.int Go.IntKind.i64 0), (Go.Value.int Go.IntKind.u64 0), (Go.Value.bool Bool.false)] []) fun x46 => S.bd (stl c1 0 36 x46) fun c47 => S.bd (lal c47 0 36) fun x48 => some (x48, s)))))

def insert_Insert_Next.t (S : Sig) (a0 : Value) (s : St) : Option (Value × St) :=
  S.bd (bx (Go.Value.agg #[(Go.Value.int Go.IntKind.i64 0), (Go.Value.int Go.IntKind.i64 0), (Go.Value.int Go.IntKind.i64 0), (Go.Value.int Go.IntKind.u64 0), (Go.Value.int Go.IntKind.i64 0), (Go.Value.int Go.IntKind.u64 0), (Go.Value.int Go.IntKind.i64 0), (Go.Value.int Go.IntKind.i64 0), (Go.Value.int Go.IntKind.u64 0), (Go.Value.int Go.IntKind.i64 0), (Go.Value.int Go.IntKind.i64 0), (Go.Value.int Go.IntKind.u64 0), (Go.Value.int Go.IntKind.i64 0), (Go.Value.int Go.IntKind.u64 0), (Go.Value.int Go.IntKind.i64 0), (Go.Value.int Go.IntKind.i64 0), (Go.Value.int Go.IntKind.u64 0), (Go.Value.int Go.IntKind.i64 0), (Go.Value.int Go.IntKind.u64 0), (Go.Value.int Go.IntKind.i64 0), (Go.Value.int Go.IntKind.i64 0), (Go.Value.int Go.IntKind.i64 0), (Go.Value.int Go.IntKind.u64 0), (Go.Value.slice Option.none 0 0), (Go.Value.slice Option.none 0 0), (Go.Value.int Go.IntKind.i64 0), (Go.Value.int Go.IntKind.i64 0), (Go.Value.int Go.IntKind.u64 0), (Go.Value.int Go.IntKind.i64 0), (Go.Value.int Go.IntKind.u64 0), (Go.Value.int Go.IntKind.i64 0), (Go.Value.int Go.IntKind.i64 0), (Go.Value.int Go.IntKind.u64 0), (Go.Value.int Go.IntKind.i64 0), (Go.Value.int Go.IntKind.u64 0), (Go.Value.bool Bool.false)])) fun c1 => S.bd (eqb [3] false false a0 (Go.Value.pointer Option.none)) fun x2 => S.cnd x2 (S.bd (bld [(Go.Value.int Go.IntKind.i64 0), (Go.Value.int Go.IntKind.i64 0), (Go.Value.int Go.IntKind.i64 0), (Go.Value.int Go.IntKind.u64 0), (Go.Value.int Go.IntKind.i64 0), (Go.Value.int Go.IntKind.u64 0), (Go.Value.int Go.IntKind.i64 0), (Go.Value.int Go.IntKind.i64 0), (Go.Value.int Go.IntKind.u64 0), (Go.Value.int Go.IntKind.i64 0), (Go.Value.int Go.IntKind.i64 0), (Go.Value.int Go.IntKind.u64 0), (Go.Value.int Go.IntKind.i64 0), (Go.Value.int Go.IntKind.u64 0), (Go.Value.int Go.IntKind.i64 0), (Go.Value.int Go.IntKind.i64 0), (Go.Value.int Go.IntKind.u64 0), (Go.Value.int Go.IntKind.i64 0), (Go.Value.int Go.IntKind.u64 0), (Go.Value.int Go.IntKind.i64 0), (Go.Value.int Go.IntKind.i64 0), (Go.Value.int Go.IntKind.i64 0), (Go.Value.int Go.IntKind.u64 0), (Go.Value.slice Option.none 0 0), (Go.Value.slice Option.none 0 0), (Go.Value.int Go.IntKind.i64 0), (Go.Value.int Go.IntKind.i64 0), (Go.Value.int Go.IntKind.u64 0), (Go.Value.int Go.IntKind.i64 0), (Go.Value.int Go.IntKind.u64 0), (Go.Value.int Go.IntKind.i64 0), (Go.Value.int Go.IntKind.i64 0), (Go.Value.int Go.IntKind.u64 0), (Go.Value.int Go.IntKind.i64 0), (Go.Value.int Go.IntKind.u64 0), (Go.Value.bool Bool.false)] []) fun x3 => S.bd (stl c1 0 36 x3) fun c4 => S.bd (lal c4 0 36) fun x5 => some (x5, s)) (insert_Insert_Next.t.p4 S a0 s c1)
def insert_Insert_Next.v (a0 : Value) (s : St) : Option (Value × St) := insert_Insert_Next.t std a0 s
def insert_Insert_Next.w : List Value → St → Option (Value × St)
  | [a0], s => insert_Insert_Next.v a0 s
  | _, _ => none
def insert_Insert_Next.an : An := ⟨50, false, [2], [], [], [(7, [(0, 0, [], []), (1, 0, [], []), (2, 0, [], []), (3, 2, [], []), (4, 0, [], []), (5, 0, [], []), (6, 0, [], []), (7, 0, [], []), (8, 2, [], []), (9, 0, [], []), (10, 3, [], []), (11, 0, [], []), (12, 0, [], []), (13, 21, [], [])])]⟩
theorem insert_Insert_Next.ok (S : Sig) (a0 : Value) (s : St) : evF S Tryz.prog insert_Insert_Next.ctx insert_Insert_Next.an Tryz.f7 [a0] s = insert_Insert_Next.t S a0 s := by kernel_rfl
theorem insert_Insert_Next.cok : CtxOk Tryz.prog insert_Insert_Next.ctx := .cons splice_Splice_Next.sound splice_Splice_Next.can <| .cons seek_Seek_Next.sound seek_Seek_Next.can <| .cons insert_Insert_list.sound insert_Insert_list.can <| .nil
theorem insert_Insert_Next.draws : fnDraws insert_Insert_Next.an Tryz.f7 = true := by kernel_rfl
theorem insert_Insert_Next.can : callOk Tryz.prog 7 = true := by kernel_rfl
theorem insert_Insert_Next.sound : FnOk Tryz.prog 7 (.st insert_Insert_Next.w) := FnOk.st_of (evF_ok insert_Insert_Next.cok mixed (f := 7) (fn := Tryz.f7) (by kernel_rfl) insert_Insert_Next.draws) fun args s r h => by
  unfold insert_Insert_Next.w at h; split at h
  · rw [insert_Insert_Next.ok std]; exact h
  · simp at h

/-! ### leapfrog/leapfrogref12.SameResult: function 12 -/
def leapfrogref12x_SameResult.ctx : Ctx := []
def leapfrogref12x_SameResult.l4 (S : Sig) (rec63 : List Value → St → Option Cut) (xs61 : List Value) (s62 : St) : Option Cut :=
  S.bd (lcl (cellsA (xs61.getD 1 undef)) 3) fun x64 => S.bd (lenL x64) fun x65 => S.bd (bin .lss (xs61.getD 0 undef) x65) fun x66 => S.cnd x66 (S.bd (lcl (cellsA (xs61.getD 1 undef)) 3) fun x67 => S.bd (idx s62 2 x67 (xs61.getD 0 undef)) fun x68 => S.bd (fld 0 x68) fun x69 => S.bd (ldc s62 x69) fun x70 => S.bd (lcl (cellsA (xs61.getD 2 undef)) 3) fun x71 => S.bd (idx s62 2 x71 (xs61.getD 0 undef)) fun x72 => S.bd (fld 0 x72) fun x73 => S.bd (ldc s62 x73) fun x74 => S.bd (eqb [1] false true x70 x74) fun x75 => S.bd (S.gd x75 false (lcl (cellsA (xs61.getD 1 undef)) 3)) fun x76 => S.bd (S.gd x75 false (some (xs61.getD 0 undef))) fun x77 => S.bd (S.gd x75 false (idx s62 2 x76 x77)) fun x78 => S.bd (S.gd x75 false (fld 1 x78)) fun x79 => S.bd (S.gd x75 false (ldc s62 x79)) fun x80 => S.bd (S.gd x75 false (b2s s62 x80)) fun x81 => S.bd (S.gd x75 false (lcl (cellsA (xs61.getD 2 undef)) 3)) fun x82 => S.bd (S.gd x75 false (some (xs61.getD 0 undef))) fun x83 => S.bd (S.gd x75 false (idx s62 2 x82 x83)) fun x84 => S.bd (S.gd x75 false (fld 1 x84)) fun x85 => S.bd (S.gd x75 false (ldc s62 x85)) fun x86 => S.bd (S.gd x75 false (b2s s62 x86)) fun x87 => S.bd (S.gd x75 false (eqb [2] false true x81 x87)) fun x88 => S.bd (pik x75 (Go.Value.bool Bool.true) x88) fun x89 => S.cnd x89 (some (1, [(Go.Value.bool Bool.false)], s62)) (S.bd (bin .add (xs61.getD 0 undef) (Go.Value.int Go.IntKind.i64 1)) fun x90 => rec63 [x90, (Value.agg ⟨(cellsA (xs61.getD 1 undef))⟩), (Value.agg ⟨(cellsA (xs61.getD 2 undef))⟩)] s62)) (some (0, [], s62))

def leapfrogref12x_SameResult.t (S : Sig) (a0 a1 : Value) (s : St) : Option Value :=
  S.bd (bx a0) fun c1 => S.bd (bx a1) fun c2 => S.bd (lcl c1 0) fun x3 => S.bd (lcl c2 0) fun x4 => S.bd (eqb [1] false true x3 x4) fun x5 => S.bd (S.gd x5 false (lcl c1 1)) fun x6 => S.bd (S.gd x5 false (lcl c2 1)) fun x7 => S.bd (S.gd x5 false (eqb [1] false true x6 x7)) fun x8 => S.bd (pik x5 (Go.Value.bool Bool.true) x8) fun x9 => S.bd (S.gd x9 false (lcl c1 2)) fun x10 => S.bd (S.gd x9 false (b2s s x10)) fun x11 => S.bd (S.gd x9 false (lcl c2 2)) fun x12 => S.bd (S.gd x9 false (b2s s x12)) fun x13 => S.bd (S.gd x9 false (eqb [2] false true x11 x13)) fun x14 => S.bd (pik x9 (Go.Value.bool Bool.true) x14) fun x15 => S.bd (S.gd x15 false (lcl c1 3)) fun x16 => S.bd (S.gd x15 false (lenL x16)) fun x17 => S.bd (S.gd x15 false (lcl c2 3)) fun x18 => S.bd (S.gd x15 false (lenL x18)) fun x19 => S.bd (S.gd x15 false (eqb [1] false true x17 x19)) fun x20 => S.bd (pik x15 (Go.Value.bool Bool.true) x20) fun x21 => S.bd (S.gd x21 false (lal c1 4 5)) fun x22 => S.bd (S.gd x21 false (lal c2 4 5)) fun x23 => S.bd (S.gd x21 false (eqb [1, 1, 1, 1, 1] true true x22 x23)) fun x24 => S.bd (pik x21 (Go.Value.bool Bool.true) x24) fun x25 => S.bd (S.gd x25 false (lal c1 9 5)) fun x26 => S.bd (S.gd x25 false (lal c2 9 5)) fun x27 => S.bd (S.gd x25 false (eqb [1, 1, 1, 1, 1] true true x26 x27)) fun x28 => S.bd (pik x25 (Go.Value.bool Bool.true) x28) fun x29 => S.bd (S.gd x29 false (lcl c1 14)) fun x30 => S.bd (S.gd x29 false (lcl c2 14)) fun x31 => S.bd (S.gd x29 false (eqb [0] false true x30 x31)) fun x32 => S.bd (pik x29 (Go.Value.bool Bool.true) x32) fun x33 => S.cnd x33 (some ((Go.Value.bool Bool.false))) (S.bd (S.it (leapfrogref12x_SameResult.l4 S) [(Go.Value.int Go.IntKind.i64 0), (Value.agg ⟨c1⟩), (Value.agg ⟨c2⟩)] s) fun r91 => if r91.1 = 0 then (some ((Go.Value.bool Bool.true))) else (some ((r91.2.1.getD 0 undef))))
def leapfrogref12x_SameResult.r (a0 a1 : Value) (s : St) : Option Value := leapfrogref12x_SameResult.t std a0 a1 s
def leapfrogref12x_SameResult.w : List Value → St → Option Value
  | [a0, a1], s => leapfrogref12x_SameResult.r a0 a1 s
  | _, _ => none
def leapfrogref12x_SameResult.an : An := ⟨94, true, [2, 3], [(4, ⟨[.p 2 2 0, .p 3 3 0, .v 5, .l 2, .l 3], [(.exit 0, []), (.ret, [.v 4])]⟩)], [], [(6, [(0, 0, [], []), (1, 17, [], []), (2, 0, [], []), (3, 2, [], []), (4, 0, [], []), (5, 2, [], []), (6, 0, [], []), (7, 25, [], []), (8, 0, [], []), (9, 2, [], []), (10, 0, [], []), (11, 2, [], []), (12, 0, [], []), (13, 0, [], []), (14, 0, [], []), (15, 17, [], []), (16, 0, [], []), (17, 2, [], []), (18, 0, [], []), (19, 2, [], []), (20, 2, [], []), (21, 0, [], []), (22, 25, [], []), (23, 0, [], []), (24, 2, [], []), (25, 0, [], []), (26, 2, [], []), (27, 2, [], []), (28, 0, [], []), (29, 0, [], [])])]⟩
theorem leapfrogref12x_SameResult.ok (S : Sig) (a0 a1 : Value) (s : St) : evG S Tryz.prog leapfrogref12x_SameResult.ctx leapfrogref12x_SameResult.an Tryz.f12 [a0, a1] s = leapfrogref12x_SameResult.t S a0 a1 s := by kernel_rfl
theorem leapfrogref12x_SameResult.cok : CtxOk Tryz.prog leapfrogref12x_SameResult.ctx := .nil
theorem leapfrogref12x_SameResult.draws : fnDraws leapfrogref12x_SameResult.an Tryz.f12 = true := by kernel_rfl
theorem leapfrogref12x_SameResult.can : callOk Tryz.prog 12 = true := by kernel_rfl
theorem leapfrogref12x_SameResult.sound : FnOk Tryz.prog 12 (.rd leapfrogref12x_SameResult.w) := FnOk.rd_of (evG_ok leapfrogref12x_SameResult.cok mixed (f := 12) (fn := Tryz.f12) (by kernel_rfl) leapfrogref12x_SameResult.draws) fun args s r h => by
  unfold leapfrogref12x_SameResult.w at h; split at h
  · rw [leapfrogref12x_SameResult.ok std]; exact h
  · simp at h

/-! ### leapfrog/leapfrogref12.SameStep: function 6 -/
def leapfrogref12x_SameStep.ctx : Ctx := [(12, .rd leapfrogref12x_SameResult.w)]
def leapfrogref12x_SameStep.t (S : Sig) (a0 a1 : Value) (s : St) : Option Value :=
  S.bd (bx a0) fun c1 => S.bd (bx a1) fun c2 => S.bd (lcl c1 0) fun x3 => S.bd (lcl c2 0) fun x4 => S.bd (eqb [1] false false x3 x4) fun x5 => S.bd (S.gd x5 true (lal c1 1 5)) fun x6 => S.bd (S.gd x5 true (lal c2 1 5)) fun x7 => S.bd (S.gd x5 true (eqb [1, 1, 1, 1, 1] true false x6 x7)) fun x8 => S.bd (pik x5 x8 (Go.Value.bool Bool.false)) fun x9 => S.bd (S.gd x9 true (lal c1 6 15)) fun x10 => S.bd (S.gd x9 true (lal c2 6 15)) fun x11 => S.bd (S.gd x9 true (eqb [1, 1, 1, 1, 1, 1, 1, 1, 1, 1, 1, 1, 1, 1, 1] true false x10 x11)) fun x12 => S.bd (pik x9 x12 (Go.Value.bool Bool.false)) fun x13 => S.bd (S.gd x13 true (lal c1 21 15)) fun x14 => S.bd (S.gd x13 true (lal c2 21 15)) fun x15 => S.bd (S.gd x13 true (leapfrogref12x_SameResult.r x14 x15 s)) fun x16 => S.bd (pik x13 x16 (Go.Value.bool Bool.false)) fun x17 => some (x17)
def leapfrogref12x_SameStep.r (a0 a1 : Value) (s : St) : Option Value := leapfrogref12x_SameStep.t std a0 a1 s
def leapfrogref12x_SameStep.w : List Value → St → Option Value
  | [a0, a1], s => leapfrogref12x_SameStep.r a0 a1 s
  | _, _ => none
def leapfrogref12x_SameStep.an : An := ⟨31, true, [2, 3], [], [], []⟩
theorem leapfrogref12x_SameStep.ok (S : Sig) (a0 a1 : Value) (s : St) : evG S Tryz.prog leapfrogref12x_SameStep.ctx leapfrogref12x_SameStep.an Tryz.f6 [a0, a1] s = leapfrogref12x_SameStep.t S a0 a1 s := by kernel_rfl
theorem leapfrogref12x_SameStep.cok : CtxOk Tryz.prog leapfrogref12x_SameStep.ctx := .cons leapfrogref12x_SameResult.sound leapfrogref12x_SameResult.can <| .nil
theorem leapfrogref12x_SameStep.draws : fnDraws leapfrogref12x_SameStep.an Tryz.f6 = true := by kernel_rfl
theorem leapfrogref12x_SameStep.can : callOk Tryz.prog 6 = true := by kernel_rfl
theorem leapfrogref12x_SameStep.sound : FnOk Tryz.prog 6 (.rd leapfrogref12x_SameStep.w) := FnOk.rd_of (evG_ok leapfrogref12x_SameStep.cok mixed (f := 6) (fn := Tryz.f6) (by kernel_rfl) leapfrogref12x_SameStep.draws) fun args s r h => by
  unfold leapfrogref12x_SameStep.w at h; split at h
  · rw [leapfrogref12x_SameStep.ok std]; exact h
  · simp at h

/-! ### leapfrog/leapfrogref12.Head: function 30 -/
def leapfrogref12x_Head.ctx : Ctx := []
def leapfrogref12x_Head.t (S : Sig) (a0 : Value) (s : St) : Option Value :=
  S.bd (bx (Go.Value.agg #[(Go.Value.int Go.IntKind.i64 0), (Go.Value.int Go.IntKind.i64 0), (Go.Value.int Go.IntKind.u64 0), (Go.Value.int Go.IntKind.i64 0), (Go.Value.int Go.IntKind.u64 0)])) fun c1 => S.bd (bld [(Go.Value.int Go.IntKind.i64 0), (Go.Value.int Go.IntKind.u64 0)] [(0, 1, (Go.Value.int Go.IntKind.i64 1))]) fun x2 => S.bd (bld [(Go.Value.int Go.IntKind.i64 0), (Go.Value.int Go.IntKind.u64 0)] [(0, 1, a0)]) fun x3 => S.bd (bld [(Go.Value.int Go.IntKind.i64 0), (Go.Value.int Go.IntKind.i64 0), (Go.Value.int Go.IntKind.u64 0), (Go.Value.int Go.IntKind.i64 0), (Go.Value.int Go.IntKind.u64 0)] [(1, 2, x2), (3, 2, x3)]) fun x4 => S.bd (stl c1 0 5 x4) fun c5 => S.bd (lal c5 0 5) fun x6 => some (x6)
def leapfrogref12x_Head.r (a0 : Value) (s : St) : Option Value := leapfrogref12x_Head.t std a0 s
def leapfrogref12x_Head.w : List Value → St → Option Value
  | [a0], s => leapfrogref12x_Head.r a0 s
  | _, _ => none
def leapfrogref12x_Head.an : An := ⟨7, true, [2], [], [], []⟩
theorem leapfrogref12x_Head.ok (S : Sig) (a0 : Value) (s : St) : evG S Tryz.prog leapfrogref12x_Head.ctx leapfrogref12x_Head.an Tryz.f30 [a0] s = leapfrogref12x_Head.t S a0 s := by kernel_rfl
theorem leapfrogref12x_Head.cok : CtxOk Tryz.prog leapfrogref12x_Head.ctx := .nil
theorem leapfrogref12x_Head.draws : fnDraws leapfrogref12x_Head.an Tryz.f30 = true := by kernel_rfl
theorem leapfrogref12x_Head.can : callOk Tryz.prog 30 = true := by kernel_rfl
theorem leapfrogref12x_Head.sound : FnOk Tryz.prog 30 (.rd leapfrogref12x_Head.w) := FnOk.rd_of (evG_ok leapfrogref12x_Head.cok mixed (f := 30) (fn := Tryz.f30) (by kernel_rfl) leapfrogref12x_Head.draws) fun args s r h => by
  unfold leapfrogref12x_Head.w at h; split at h
  · rw [leapfrogref12x_Head.ok std]; exact h
  · simp at h

/-! ### leapfrog/leapfroglaw15.conf: function 15 -/
def leapfroglaw15x_conf.ctx : Ctx := [(30, .rd leapfrogref12x_Head.w)]
def leapfroglaw15x_conf.t (S : Sig) (s : St) : Option Value :=
  S.bd (bx (Go.Value.agg #[(Go.Value.int Go.IntKind.i64 0), (Go.Value.int Go.IntKind.i64 0), (Go.Value.int Go.IntKind.i64 0), (Go.Value.int Go.IntKind.u64 0), (Go.Value.int Go.IntKind.i64 0), (Go.Value.int Go.IntKind.u64 0), (Go.Value.int Go.IntKind.i64 0), (Go.Value.int Go.IntKind.i64 0), (Go.Value.int Go.IntKind.u64 0), (Go.Value.int Go.IntKind.i64 0), (Go.Value.int Go.IntKind.u64 0), (Go.Value.int Go.IntKind.i64 0), (Go.Value.int Go.IntKind.i64 0)])) fun c1 => S.bd (bld [(Go.Value.int Go.IntKind.i64 0), (Go.Value.int Go.IntKind.u64 0)] [(0, 1, (Go.Value.int Go.IntKind.i64 2)), (1, 1, (Go.Value.int Go.IntKind.u64 5))]) fun x2 => S.bd (bld [(Go.Value.int Go.IntKind.i64 0), (Go.Value.int Go.IntKind.i64 0), (Go.Value.int Go.IntKind.u64 0), (Go.Value.int Go.IntKind.i64 0), (Go.Value.int Go.IntKind.u64 0)] [(0, 1, (Go.Value.int Go.IntKind.i64 2)), (1, 2, x2)]) fun x3 => S.bd (leapfrogref12x_Head.r (Go.Value.int Go.IntKind.i64 0) s) fun x4 => S.bd (bld [(Go.Value.int Go.IntKind.i64 0), (Go.Value.int Go.IntKind.i64 0)] [(1, 1, (Go.Value.int Go.IntKind.i64 1))]) fun x5 => S.bd (bld [(Go.Value.int Go.IntKind.i64 0), (Go.Value.int Go.IntKind.i64 0), (Go.Value.int Go.IntKind.i64 0), (Go.Value.int Go.IntKind.u64 0), (Go.Value.int Go.IntKind.i64 0), (Go.Value.int Go.IntKind.u64 0), (Go.Value.int Go.IntKind.i64 0), (Go.Value.int Go.IntKind.i64 0), (Go.Value.int Go.IntKind.u64 0), (Go.Value.int Go.IntKind.i64 0), (Go.Value.int Go.IntKind.u64 0), (Go.Value.int Go.IntKind.i64 0), (Go.Value.int Go.IntKind.i64 0)] [(1, 5, x3), (6, 5, x4), (11, 2, x5)]) fun x6 => S.bd (stl c1 0 13 x6) fun c7 => S.bd (lal c7 0 13) fun x8 => some (x8)
def leapfroglaw15x_conf.r (s : St) : Option Value := leapfroglaw15x_conf.t std  s
def leapfroglaw15x_conf.w : List Value → St → Option Value
  | [], s => leapfroglaw15x_conf.r  s
  | _, _ => none
def leapfroglaw15x_conf.an : An := ⟨6, true, [0], [], [], []⟩
theorem leapfroglaw15x_conf.ok (S : Sig) (s : St) : evG S Tryz.prog leapfroglaw15x_conf.ctx leapfroglaw15x_conf.an Tryz.f15 [] s = leapfroglaw15x_conf.t S  s := by kernel_rfl
theorem leapfroglaw15x_conf.cok : CtxOk Tryz.prog leapfroglaw15x_conf.ctx := .cons leapfrogref12x_Head.sound leapfrogref12x_Head.can <| .nil
theorem leapfroglaw15x_conf.draws : fnDraws leapfroglaw15x_conf.an Tryz.f15 = true := by kernel_rfl
theorem leapfroglaw15x_conf.can : callOk Tryz.prog 15 = true := by kernel_rfl
theorem leapfroglaw15x_conf.sound : FnOk Tryz.prog 15 (.rd leapfroglaw15x_conf.w) := FnOk.rd_of (evG_ok leapfroglaw15x_conf.cok mixed (f := 15) (fn := Tryz.f15) (by kernel_rfl) leapfroglaw15x_conf.draws) fun args s r h => by
  unfold leapfroglaw15x_conf.w at h; split at h
  · rw [leapfroglaw15x_conf.ok std]; exact h
  · simp at h

/-! ### leapfrog/insert.New: function 14 -/
def insert_New.ctx : Ctx := [(27, .st seek_New.w), (28, .rd vec_Right.w), (24, .rd insert_Insert_head.w), (29, .st splice_New.w)]
def insert_New.t.p1 (S : Sig) (r9 : Value × St) (c1 : List Value) (r4 : Value × St) : Option (Value × St) :=
  S.bd (xtr 0 r9.1) fun x10 => S.bd (xtr 1 r9.1) fun x11 => S.bd (eqb [1] false true x11 (Go.Value.int Go.IntKind.i64 0)) fun x12 => S.bd (S.gd x12 false (lcl c1 2)) fun x13 => S.bd (S.gd x12 false (eqb [1] false true x13 (Go.Value.int Go.IntKind.i64 2))) fun x14 => S.bd (pik x12 (Go.Value.bool Bool.true) x14) fun x15 => S.bd (S.gd x15 false (lal c1 4 2)) fun x16 => S.bd (S.gd x15 false (vec_Right.r x16 r9.2)) fun x17 => S.bd (S.gd x15 false (eqb [1] false true x17 (Go.Value.int Go.IntKind.i64 0))) fun x18 => S.bd (pik x15 (Go.Value.bool Bool.true) x18) fun x19 => S.bd (S.gd x19 false (lcl c1 4)) fun x20 => S.bd (S.gd x19 false (lcl c1 0)) fun x21 => S.bd (S.gd x19 false (eqb [1] false true x20 x21)) fun x22 => S.bd (pik x19 (Go.Value.bool Bool.true) x22) fun x23 => S.cnd x23 (some ((Value.tuple ⟨[(Go.Value.pointer Option.none), (Go.Value.int Go.IntKind.i64 150)]⟩), r9.2)) (S.bd (lal c1 1 5) fun x24 => S.bd (lal c1 11 2) fun x25 => S.bd (insert_Insert_head.r r4.1 r9.2) fun x26 => S.bd (bld [(Go.Value.int Go.IntKind.i64 0), (Go.Value.int Go.IntKind.u64 0), (Go.Value.int Go.IntKind.i64 0), (Go.Value.int Go.IntKind.i64 0), (Go.Value.int Go.IntKind.u64 0), (Go.Value.int Go.IntKind.i64 0), (Go.Value.int Go.IntKind.u64 0), (Go.Value.int Go.IntKind.i64 0), (Go.Value.int Go.IntKind.i64 0), (Go.Value.int Go.IntKind.u64 0), (Go.Value.int Go.IntKind.i64 0), (Go.Value.int Go.IntKind.u64 0), (Go.Value.int Go.IntKind.i64 0), (Go.Value.int Go.IntKind.i64 0)] [(2, 5, x24), (7, 5, x26), (12, 2, x25)]) fun x27 => S.bd (splice_New.v x27 r9.2) fun r28 => S.bd (xtr 0 r28.1) fun x29 => S.bd (xtr 1 r28.1) fun x30 => S.bd (eqb [1] false true x30 (Go.Value.int Go.IntKind.i64 0)) fun x31 => S.cnd x31 (some ((Value.tuple ⟨[(Go.Value.pointer Option.none), (Go.Value.int Go.IntKind.i64 150)]⟩), r28.2)) (S.bd (nck r4.1) fun x32 => S.bd (fld 14 x32) fun x33 => S.bd (stv r28.2 1 x33 (Value.iface 85 x10)) fun s34 => S.bd (nck r4.1) fun x35 => S.bd (fld 21 x35) fun x36 => S.bd (stv s34 1 x36 (Go.Value.int Go.IntKind.i64 1)) fun s37 => some ((Value.tuple ⟨[r4.1, (Go.Value.int Go.IntKind.i64 0)]⟩), s37)))

def insert_New.t (S : Sig) (a0 : Value) (s : St) : Option (Value × St) :=
  S.bd (bx a0) fun c1 => S.bd (lal c1 0 13) fun x2 => S.bd (bld [(Go.Value.int Go.IntKind.i64 0), (Go.Value.int Go.IntKind.i64 0), (Go.Value.int Go.IntKind.i64 0), (Go.Value.int Go.IntKind.u64 0), (Go.Value.int Go.IntKind.i64 0), (Go.Value.int Go.IntKind.u64 0), (Go.Value.int Go.IntKind.i64 0), (Go.Value.int Go.IntKind.i64 0), (Go.Value.int Go.IntKind.u64 0), (Go.Value.int Go.IntKind.i64 0), (Go.Value.int Go.IntKind.u64 0), (Go.Value.int Go.IntKind.i64 0), (Go.Value.int Go.IntKind.i64 0), (Go.Value.int Go.IntKind.i64 0), Go.Value.nilIface, (Go.Value.int Go.IntKind.i64 0), (Go.Value.int Go.IntKind.i64 0), (Go.Value.int Go.IntKind.i64 0), (Go.Value.int Go.IntKind.u64 0), (Go.Value.int Go.IntKind.i64 0), (Go.Value.int Go.IntKind.u64 0), (Go.Value.int Go.IntKind.i64 0), (Go.Value.int Go.IntKind.i64 0)] [(0, 13, x2), (13, 1, (Go.Value.int Go.IntKind.i64 1))]) fun x3 => S.bd (alv s x3) fun r4 => S.bd (lcl c1 0) fun x5 => S.bd (lal c1 6 5) fun x6 => S.bd (lal c1 2 2) fun x7 => S.bd (bld [(Go.Value.int Go.IntKind.i64 0), (Go.Value.int Go.IntKind.i64 0), (Go.Value.int Go.IntKind.i64 0), (Go.Value.int Go.IntKind.u64 0), (Go.Value.int Go.IntKind.i64 0), (Go.Value.int Go.IntKind.u64 0), (Go.Value.int Go.IntKind.i64 0), (Go.Value.int Go.IntKind.u64 0)] [(0, 1, x5), (1, 5, x6), (6, 2, x7)]) fun x8 => S.bd (seek_New.v x8 r4.2) fun r9 => insert_New.t.p1 S r9 c1 r4
def insert_New.v (a0 : Value) (s : St) : Option (Value × St) := insert_New.t std a0 s
def insert_New.w : List Value → St → Option (Value × St)
  | [a0], s => insert_New.v a0 s
  | _, _ => none
def insert_New.an : An := ⟨71, false, [1], [], [], [(5, [(0, 0, [], []), (1, 9, [], []), (2, 0, [], []), (4, 0, [], []), (5, 9, [], []), (3, 3, [], []), (6, 0, [], []), (7, 4, [], []), (8, 0, [], []), (9, 0, [], []), (10, 0, [], []), (11, 0, [], []), (12, 0, [], [])])]⟩
theorem insert_New.ok (S : Sig) (a0 : Value) (s : St) : evF S Tryz.prog insert_New.ctx insert_New.an Tryz.f14 [a0] s = insert_New.t S a0 s := by kernel_rfl
theorem insert_New.cok : CtxOk Tryz.prog insert_New.ctx := .cons seek_New.sound seek_New.can <| .cons vec_Right.sound vec_Right.can <| .cons insert_Insert_head.sound insert_Insert_head.can <| .cons splice_New.sound splice_New.can <| .nil
theorem insert_New.draws : fnDraws insert_New.an Tryz.f14 = true := by kernel_rfl
theorem insert_New.can : callOk Tryz.prog 14 = true := by kernel_rfl
theorem insert_New.sound : FnOk Tryz.prog 14 (.st insert_New.w) := FnOk.st_of (evF_ok insert_New.cok mixed (f := 14) (fn := Tryz.f14) (by kernel_rfl) insert_New.draws) fun args s r h => by
  unfold insert_New.w at h; split at h
  · rw [insert_New.ok std]; exact h
  · simp at h

/-! ### leapfrog/leapfrogref01.Power: function 47 -/
def leapfrogref01x_Power.ctx : Ctx := []
def leapfrogref01x_Power.l2 (S : Sig) (rec6 : List Value → St → Option Cut) (xs4 : List Value) (s5 : St) : Option Cut :=
  S.bd (bin .gtr (xs4.getD 0 undef) (Go.Value.int Go.IntKind.i64 0)) fun x7 => S.cnd x7 (S.bd (bin .mul (xs4.getD 1 undef) (Go.Value.int Go.IntKind.u64 2)) fun x8 => S.bd (bin .sub (xs4.getD 0 undef) (Go.Value.int Go.IntKind.i64 1)) fun x9 => rec6 [x9, x8] s5) (some (0, [(xs4.getD 1 undef)], s5))

def leapfrogref01x_Power.t (S : Sig) (a0 : Value) (s : St) : Option Value :=
  S.bd (S.it (leapfrogref01x_Power.l2 S) [a0, (Go.Value.int Go.IntKind.u64 1)] s) fun r10 => some ((r10.2.1.getD 0 undef))
def leapfrogref01x_Power.r (a0 : Value) (s : St) : Option Value := leapfrogref01x_Power.t std a0 s
def leapfrogref01x_Power.w : List Value → St → Option Value
  | [a0], s => leapfrogref01x_Power.r a0 s
  | _, _ => none
def leapfrogref01x_Power.an : An := ⟨11, true, [], [(2, ⟨[.v 0, .v 3], [(.exit 0, [.v 3])]⟩)], [], []⟩
theorem leapfrogref01x_Power.ok (S : Sig) (a0 : Value) (s : St) : evG S Tryz.prog leapfrogref01x_Power.ctx leapfrogref01x_Power.an Tryz.f47 [a0] s = leapfrogref01x_Power.t S a0 s := by kernel_rfl
theorem leapfrogref01x_Power.cok : CtxOk Tryz.prog leapfrogref01x_Power.ctx := .nil
theorem leapfrogref01x_Power.draws : fnDraws leapfrogref01x_Power.an Tryz.f47 = true := by kernel_rfl
theorem leapfrogref01x_Power.can : callOk Tryz.prog 47 = true := by kernel_rfl
theorem leapfrogref01x_Power.sound : FnOk Tryz.prog 47 (.rd leapfrogref01x_Power.w) := FnOk.rd_of (evG_ok leapfrogref01x_Power.cok mixed (f := 47) (fn := Tryz.f47) (by kernel_rfl) leapfrogref01x_Power.draws) fun args s r h => by
  unfold leapfrogref01x_Power.w at h; split at h
  · rw [leapfrogref01x_Power.ok std]; exact h
  · simp at h

/-! ### leapfrog/leapfrogref01.Right: function 32 -/
def leapfrogref01x_Right.ctx : Ctx := [(47, .rd leapfrogref01x_Power.w)]
def leapfrogref01x_Right.t (S : Sig) (a0 : Value) (s : St) : Option Value :=
  S.bd (bx a0) fun c1 => S.bd (lcl c1 0) fun x2 => S.bd (bin .geq x2 (Go.Value.int Go.IntKind.i64 0)) fun x3 => S.bd (S.gd x3 true (lcl c1 0)) fun x4 => S.bd (S.gd x3 true (bin .leq x4 (Go.Value.int Go.IntKind.i64 32))) fun x5 => S.bd (pik x3 x5 (Go.Value.bool Bool.false)) fun x6 => S.bd (S.gd x6 true (lcl c1 1)) fun x7 => S.bd (S.gd x6 true (lcl c1 0)) fun x8 => S.bd (S.gd x6 true (leapfrogref01x_Power.r x8 s)) fun x9 => S.bd (S.gd x6 true (bin .lss x7 x9)) fun x10 => S.bd (pik x6 x10 (Go.Value.bool Bool.false)) fun x11 => some (x11)
def leapfrogref01x_Right.r (a0 : Value) (s : St) : Option Value := leapfrogref01x_Right.t std a0 s
def leapfrogref01x_Right.w : List Value → St → Option Value
  | [a0], s => leapfrogref01x_Right.r a0 s
  | _, _ => none
def leapfrogref01x_Right.an : An := ⟨19, true, [1], [], [], [(1, [(0, 0, [], []), (1, 9, [], []), (2, 0, [], []), (3, 0, [], []), (4, 0, [], []), (5, 9, [], []), (6, 0, [], []), (7, 0, [], []), (8, 0, [], []), (9, 0, [], []), (10, 9, [], []), (11, 0, [], []), (12, 9, [], []), (13, 3, [], []), (14, 0, [], []), (15, 0, [], []), (16, 0, [], [])])]⟩
theorem leapfrogref01x_Right.ok (S : Sig) (a0 : Value) (s : St) : evG S Tryz.prog leapfrogref01x_Right.ctx leapfrogref01x_Right.an Tryz.f32 [a0] s = leapfrogref01x_Right.t S a0 s := by kernel_rfl
theorem leapfrogref01x_Right.cok : CtxOk Tryz.prog leapfrogref01x_Right.ctx := .cons leapfrogref01x_Power.sound leapfrogref01x_Power.can <| .nil
theorem leapfrogref01x_Right.draws : fnDraws leapfrogref01x_Right.an Tryz.f32 = true := by kernel_rfl
theorem leapfrogref01x_Right.can : callOk Tryz.prog 32 = true := by kernel_rfl
theorem leapfrogref01x_Right.sound : FnOk Tryz.prog 32 (.rd leapfrogref01x_Right.w) := FnOk.rd_of (evG_ok leapfrogref01x_Right.cok mixed (f := 32) (fn := Tryz.f32) (by kernel_rfl) leapfrogref01x_Right.draws) fun args s r h => by
  unfold leapfrogref01x_Right.w at h; split at h
  · rw [leapfrogref01x_Right.ok std]; exact h
  · simp at h

/-! ### leapfrog/leapfrogref11.Check: function 44 -/
def leapfrogref11x_Check.ctx : Ctx := [(32, .rd leapfrogref01x_Right.w)]
def leapfrogref11x_Check.l10 (S : Sig) (rec93 : List Value → St → Option Cut) (xs91 : List Value) (s92 : St) : Option Cut :=
  S.bd (bin .lss (xs91.getD 3 undef) (xs91.getD 2 undef)) fun x94 => S.cnd x94 (S.bd (idx s92 5 (xs91.getD 1 undef) (xs91.getD 3 undef)) fun x95 => S.bd (fld 0 x95) fun x96 => S.bd (ldc s92 x96) fun x97 => S.bd (lcl (cellsA (xs91.getD 14 undef)) 0) fun x98 => S.bd (eqb [1] false false x97 x98) fun x99 => S.bd (S.gd x99 false (some (xs91.getD 1 undef))) fun x100 => S.bd (S.gd x99 false (some (xs91.getD 3 undef))) fun x101 => S.bd (S.gd x99 false (idx s92 5 x100 x101)) fun x102 => S.bd (S.gd x99 false (fld 1 x102)) fun x103 => S.bd (S.gd x99 false (lda s92 2 x103)) fun x104 => S.bd (S.gd x99 false (lal (cellsA (xs91.getD 14 undef)) 1 2)) fun x105 => S.bd (S.gd x99 false (eqb [1, 1] true false x104 x105)) fun x106 => S.bd (pik x99 (Go.Value.bool Bool.true) x106) fun x107 => S.cnd x107 (some (1, [(Go.Value.int Go.IntKind.i64 110)], s92)) (S.bd (bin .add (xs91.getD 3 undef) (Go.Value.int Go.IntKind.i64 1)) fun x108 => rec93 [(xs91.getD 0 undef), (xs91.getD 1 undef), (xs91.getD 2 undef), x108, (xs91.getD 4 undef), (xs91.getD 5 undef), (xs91.getD 6 undef), (xs91.getD 7 undef), (xs91.getD 8 undef), (xs91.getD 9 undef), (xs91.getD 10 undef), (xs91.getD 11 undef), (xs91.getD 12 undef), (xs91.getD 13 undef), (Value.agg ⟨(cellsA (xs91.getD 14 undef))⟩)] s92)) (some (0, [(xs91.getD 0 undef), (xs91.getD 1 undef), (xs91.getD 2 undef), (xs91.getD 4 undef), (xs91.getD 5 undef), (xs91.getD 6 undef), (xs91.getD 7 undef), (xs91.getD 8 undef), (xs91.getD 9 undef), (xs91.getD 10 undef), (xs91.getD 11 undef), (xs91.getD 12 undef), (xs91.getD 13 undef)], s92))

def leapfrogref11x_Check.l4 (S : Sig) (rec68 : List Value → St → Option Cut) (xs66 : List Value) (s67 : St) : Option Cut :=
  S.bd (lenL (xs66.getD 1 undef)) fun x69 => S.bd (bin .lss (xs66.getD 2 undef) x69) fun x70 => S.cnd x70 (S.bd (idx s67 5 (xs66.getD 1 undef) (xs66.getD 2 undef)) fun x71 => S.bd (lda s67 5 x71) fun x72 => S.bd (bx (Go.Value.agg #[(Go.Value.int Go.IntKind.i64 0), (Go.Value.int Go.IntKind.i64 0), (Go.Value.int Go.IntKind.u64 0), (Go.Value.int Go.IntKind.i64 0), (Go.Value.int Go.IntKind.u64 0)])) fun c73 => S.bd (stl c73 0 5 x72) fun c74 => S.bd (lcl c74 0) fun x75 => S.bd (bin .lss x75 (Go.Value.int Go.IntKind.i64 2)) fun x76 => S.bd (S.gd x76 false (lcl c74 0)) fun x77 => S.bd (S.gd x76 false (bin .geq x77 (Go.Value.int Go.IntKind.i64 1024))) fun x78 => S.bd (pik x76 (Go.Value.bool Bool.true) x78) fun x79 => S.bd (S.gd x79 false (lcl c74 1)) fun x80 => S.bd (S.gd x79 false (eqb [1] false true x80 (Go.Value.int Go.IntKind.i64 2))) fun x81 => S.bd (pik x79 (Go.Value.bool Bool.true) x81) fun x82 => S.bd (S.gd x82 false (lal c74 3 2)) fun x83 => S.bd (S.gd x82 false (leapfrogref01x_Right.r x83 s67)) fun x84 => S.bd (S.gd x82 false (un .not x84)) fun x85 => S.bd (pik x82 (Go.Value.bool Bool.true) x85) fun x86 => S.bd (S.gd x86 false (lcl c74 3)) fun x87 => S.bd (S.gd x86 false (some (xs66.getD 0 undef))) fun x88 => S.bd (S.gd x86 false (eqb [1] false true x87 x88)) fun x89 => S.bd (pik x86 (Go.Value.bool Bool.true) x89) fun x90 => S.cnd x90 (some (1, [(Go.Value.int Go.IntKind.i64 110)], s67)) (S.bd (S.it (leapfrogref11x_Check.l10 S) [(xs66.getD 0 undef), (xs66.getD 1 undef), (xs66.getD 2 undef), (Go.Value.int Go.IntKind.i64 0), x77, x78, x80, x81, x83, x84, x85, x87, x88, x89, (Value.agg ⟨c74⟩)] s67) fun r109 => if r109.1 = 0 then (S.bd (bin .add (r109.2.1.getD 2 undef) (Go.Value.int Go.IntKind.i64 1)) fun x110 => rec68 [(r109.2.1.getD 0 undef), (r109.2.1.getD 1 undef), x110] r109.2.2) else (some (1, [(r109.2.1.getD 0 undef)], r109.2.2)))) (some (0, [], s67))

def leapfrogref11x_Check.t (S : Sig) (a0 a1 : Value) (s : St) : Option Value :=
  S.bd (bin .lss a0 (Go.Value.int Go.IntKind.i64 0)) fun x1 => S.bd (S.gd x1 false (some a0)) fun x2 => S.bd (S.gd x1 false (bin .gtr x2 (Go.Value.int Go.IntKind.i64 32))) fun x3 => S.bd (pik x1 (Go.Value.bool Bool.true) x3) fun x4 => S.bd (S.gd x4 false (some a1)) fun x5 => S.bd (S.gd x4 false (lenL x5)) fun x6 => S.bd (S.gd x4 false (bin .gtr x6 (Go.Value.int Go.IntKind.i64 1022))) fun x7 => S.bd (pik x4 (Go.Value.bool Bool.true) x7) fun x8 => S.cnd x8 (some ((Go.Value.int Go.IntKind.i64 110))) (S.bd (S.it (leapfrogref11x_Check.l4 S) [a0, a1, (Go.Value.int Go.IntKind.i64 0)] s) fun r111 => if r111.1 = 0 then (some ((Go.Value.int Go.IntKind.i64 0))) else (some ((r111.2.1.getD 0 undef))))
def leapfrogref11x_Check.r (a0 a1 : Value) (s : St) : Option Value := leapfrogref11x_Check.t std a0 a1 s
def leapfrogref11x_Check.w : List Value → St → Option Value
  | [a0, a1], s => leapfrogref11x_Check.r a0 a1 s
  | _, _ => none
def leapfrogref11x_Check.an : An := ⟨79, true, [6], [(10, ⟨[.v 0, .v 1, .v 5, .p 6 6 0, .v 7, .v 34, .v 35, .v 40, .v 41, .v 45, .v 46, .v 47, .v 52, .v 53, .v 54, .l 6], [(.exit 2, [.v 0, .v 1, .v 5, .v 34, .v 35, .v 40, .v 41, .v 45, .v 46, .v 47, .v 52, .v 53, .v 54]), (.ret, [.v 4])]⟩), (4, ⟨[.v 0, .v 1, .v 5], [(.exit 0, []), (.ret, [.v 4])]⟩)], [], [(12, [(0, 0, [], []), (1, 0, [], []), (2, 2, [], []), (3, 0, [], []), (4, 2, [], []), (5, 0, [], []), (6, 49, [], []), (7, 0, [], []), (8, 0, [], []), (9, 0, [], []), (10, 0, [], []), (11, 2, [], []), (12, 0, [], []), (13, 2, [], []), (14, 0, [], []), (15, 49, [], []), (16, 0, [], []), (17, 0, [], [])])]⟩
theorem leapfrogref11x_Check.ok (S : Sig) (a0 a1 : Value) (s : St) : evG S Tryz.prog leapfrogref11x_Check.ctx leapfrogref11x_Check.an Tryz.f44 [a0, a1] s = leapfrogref11x_Check.t S a0 a1 s := by kernel_rfl
theorem leapfrogref11x_Check.cok : CtxOk Tryz.prog leapfrogref11x_Check.ctx := .cons leapfrogref01x_Right.sound leapfrogref01x_Right.can <| .nil
theorem leapfrogref11x_Check.draws : fnDraws leapfrogref11x_Check.an Tryz.f44 = true := by kernel_rfl
theorem leapfrogref11x_Check.can : callOk Tryz.prog 44 = true := by kernel_rfl
theorem leapfrogref11x_Check.sound : FnOk Tryz.prog 44 (.rd leapfrogref11x_Check.w) := FnOk.rd_of (evG_ok leapfrogref11x_Check.cok mixed (f := 44) (fn := Tryz.f44) (by kernel_rfl) leapfrogref11x_Check.draws) fun args s r h => by
  unfold leapfrogref11x_Check.w at h; split at h
  · rw [leapfrogref11x_Check.ok std]; exact h
  · simp at h

/-! ### leapfrog/leapfrogref01.Bits: function 84 -/
def leapfrogref01x_Bits.ctx : Ctx := []
def leapfrogref01x_Bits.l4 (S : Sig) (rec16 : List Value → St → Option Cut) (xs14 : List Value) (s15 : St) : Option Cut :=
  S.bd (bin .geq (xs14.getD 2 undef) (Go.Value.int Go.IntKind.i64 0)) fun x17 => S.cnd x17 (S.bd (bin .rem (xs14.getD 1 undef) (Go.Value.int Go.IntKind.u64 2)) fun x18 => S.bd (cvi .i64 x18) fun x19 => S.bd (idx s15 1 (xs14.getD 0 undef) (xs14.getD 2 undef)) fun x20 => S.bd (stv s15 1 x20 x19) fun s21 => S.bd (bin .quo (xs14.getD 1 undef) (Go.Value.int Go.IntKind.u64 2)) fun x22 => S.bd (bin .sub (xs14.getD 2 undef) (Go.Value.int Go.IntKind.i64 1)) fun x23 => rec16 [(xs14.getD 0 undef), x22, x23] s21) (some (0, [(xs14.getD 0 undef)], s15))

def leapfrogref01x_Bits.t (S : Sig) (a0 : Value) (s : St) : Option (Value × St) :=
  S.bd (bx a0) fun c1 => S.bd (lcl c1 0) fun x2 => S.bd (mks s 1 8 [(Go.Value.int Go.IntKind.i64 0)] x2 x2) fun r3 => S.bd (lcl c1 1) fun x4 => S.bd (lcl c1 0) fun x5 => S.bd (bin .sub x5 (Go.Value.int Go.IntKind.i64 1)) fun x6 => S.bd (S.it (leapfrogref01x_Bits.l4 S) [r3.1, x4, x6] r3.2) fun r24 => some ((r24.2.1.getD 0 undef), r24.2.2)
def leapfrogref01x_Bits.v (a0 : Value) (s : St) : Option (Value × St) := leapfrogref01x_Bits.t std a0 s
def leapfrogref01x_Bits.w : List Value → St → Option (Value × St)
  | [a0], s => leapfrogref01x_Bits.v a0 s
  | _, _ => none
def leapfrogref01x_Bits.an : An := ⟨27, false, [1], [(4, ⟨[.v 3, .v 4, .v 5], [(.exit 0, [.v 3])]⟩)], [], []⟩
theorem leapfrogref01x_Bits.ok (S : Sig) (a0 : Value) (s : St) : evF S Tryz.prog leapfrogref01x_Bits.ctx leapfrogref01x_Bits.an Tryz.f84 [a0] s = leapfrogref01x_Bits.t S a0 s := by kernel_rfl
theorem leapfrogref01x_Bits.cok : CtxOk Tryz.prog leapfrogref01x_Bits.ctx := .nil
theorem leapfrogref01x_Bits.draws : fnDraws leapfrogref01x_Bits.an Tryz.f84 = true := by kernel_rfl
theorem leapfrogref01x_Bits.can : callOk Tryz.prog 84 = true := by kernel_rfl
theorem leapfrogref01x_Bits.sound : FnOk Tryz.prog 84 (.st leapfrogref01x_Bits.w) := FnOk.st_of (evF_ok leapfrogref01x_Bits.cok mixed (f := 84) (fn := Tryz.f84) (by kernel_rfl) leapfrogref01x_Bits.draws) fun args s r h => by
  unfold leapfrogref01x_Bits.w at h; split at h
  · rw [leapfrogref01x_Bits.ok std]; exact h
  · simp at h

/-! ### leapfrog/leapfrogref01.Of: function 85 -/
def leapfrogref01x_Of.ctx : Ctx := []
def leapfrogref01x_Of.l3 (S : Sig) (rec18 : List Value → St → Option Cut) (xs16 : List Value) (s17 : St) : Option Cut :=
  S.bd (lenL (xs16.getD 0 undef)) fun x19 => S.bd (bin .lss (xs16.getD 1 undef) x19) fun x20 => S.cnd x20 (S.bd (lcl (cellsA (xs16.getD 3 undef)) 1) fun x21 => S.bd (bin .mul x21 (Go.Value.int Go.IntKind.u64 2)) fun x22 => S.bd (idx s17 1 (xs16.getD 0 undef) (xs16.getD 1 undef)) fun x23 => S.bd (ldc s17 x23) fun x24 => S.bd (cvi .u64 x24) fun x25 => S.bd (bin .add x22 x25) fun x26 => S.bd (stl (cellsA (xs16.getD 3 undef)) 1 1 x26) fun c27 => S.bd (bin .add (xs16.getD 1 undef) (Go.Value.int Go.IntKind.i64 1)) fun x28 => rec18 [(xs16.getD 0 undef), x28, (Value.agg ⟨(cellsA (xs16.getD 2 undef))⟩), (Value.agg ⟨c27⟩)] s17) (some (0, [(Value.agg ⟨(cellsA (xs16.getD 2 undef))⟩), (Value.agg ⟨(cellsA (xs16.getD 3 undef))⟩)], s17))

def leapfrogref01x_Of.t (S : Sig) (a0 : Value) (s : St) : Option Value :=
  S.bd (bx (Go.Value.agg #[(Go.Value.int Go.IntKind.i64 0), (Go.Value.int Go.IntKind.u64 0)])) fun c1 => S.bd (lenL a0) fun x2 => S.bd (bld [(Go.Value.int Go.IntKind.i64 0), (Go.Value.int Go.IntKind.u64 0)] [(0, 1, x2)]) fun x3 => S.bd (bx (Go.Value.agg #[(Go.Value.int Go.IntKind.i64 0), (Go.Value.int Go.IntKind.u64 0)])) fun c4 => S.bd (stl c4 0 2 x3) fun c5 => S.bd (S.it (leapfrogref01x_Of.l3 S) [a0, (Go.Value.int Go.IntKind.i64 0), (Value.agg ⟨c1⟩), (Value.agg ⟨c5⟩)] s) fun r29 => S.bd (lal (cellsA (r29.2.1.getD 1 undef)) 0 2) fun x30 => S.bd (stl (cellsA (r29.2.1.getD 0 undef)) 0 2 x30) fun c31 => S.bd (lal c31 0 2) fun x32 => some (x32)
def leapfrogref01x_Of.r (a0 : Value) (s : St) : Option Value := leapfrogref01x_Of.t std a0 s
def leapfrogref01x_Of.w : List Value → St → Option Value
  | [a0], s => leapfrogref01x_Of.r a0 s
  | _, _ => none
def leapfrogref01x_Of.an : An := ⟨25, true, [2, 3], [(3, ⟨[.v 0, .p 2 2 0, .p 3 3 0, .v 4, .l 2, .l 3], [(.exit 0, [.p 2 2 0, .p 3 3 0, .l 2, .l 3])]⟩)], [], [(5, [(0, 0, [], []), (1, 25, [], []), (2, 0, [], []), (3, 0, [], []), (4, 0, [], []), (5, 2, [], []), (6, 2, [], []), (7, 0, [], []), (8, 0, [], []), (9, 0, [], []), (10, 29, [], [])])]⟩
theorem leapfrogref01x_Of.ok (S : Sig) (a0 : Value) (s : St) : evG S Tryz.prog leapfrogref01x_Of.ctx leapfrogref01x_Of.an Tryz.f85 [a0] s = leapfrogref01x_Of.t S a0 s := by kernel_rfl
theorem leapfrogref01x_Of.cok : CtxOk Tryz.prog leapfrogref01x_Of.ctx := .nil
theorem leapfrogref01x_Of.draws : fnDraws leapfrogref01x_Of.an Tryz.f85 = true := by kernel_rfl
theorem leapfrogref01x_Of.can : callOk Tryz.prog 85 = true := by kernel_rfl
theorem leapfrogref01x_Of.sound : FnOk Tryz.prog 85 (.rd leapfrogref01x_Of.w) := FnOk.rd_of (evG_ok leapfrogref01x_Of.cok mixed (f := 85) (fn := Tryz.f85) (by kernel_rfl) leapfrogref01x_Of.draws) fun args s r h => by
  unfold leapfrogref01x_Of.w at h; split at h
  · rw [leapfrogref01x_Of.ok std]; exact h
  · simp at h

/-! ### leapfrog/leapfrogref01.Prefixes: function 64 -/
def leapfrogref01x_Prefixes.ctx : Ctx := [(32, .rd leapfrogref01x_Right.w), (84, .st leapfrogref01x_Bits.w), (85, .rd leapfrogref01x_Of.w)]
def leapfrogref01x_Prefixes.l6 (S : Sig) (rec16 : List Value → St → Option Cut) (xs14 : List Value) (s15 : St) : Option Cut :=
  S.bd (lenL (xs14.getD 1 undef)) fun x17 => S.bd (bin .leq (xs14.getD 2 undef) x17) fun x18 => S.cnd x18 (S.bd (slc s15 1 (xs14.getD 1 undef) none (some (xs14.getD 2 undef)) none) fun x19 => S.bd (leapfrogref01x_Of.r x19 s15) fun x20 => S.bd (S.bd (bls 2 (List.replicate 1 [(Go.Value.int Go.IntKind.i64 0), (Go.Value.int Go.IntKind.u64 0)]) [(0, x20)]) fun rows => als s15 2 1 rows) fun r21 => S.bd (app r21.2 2 16 (xs14.getD 0 undef) r21.1) fun r22 => S.bd (bin .add (xs14.getD 2 undef) (Go.Value.int Go.IntKind.i64 1)) fun x23 => rec16 [r22.1, (xs14.getD 1 undef), x23] r22.2) (some (0, [(xs14.getD 0 undef)], s15))

def leapfrogref01x_Prefixes.t (S : Sig) (a0 : Value) (s : St) : Option (Value × St) :=
  S.bd (bx a0) fun c1 => S.bd (lal c1 0 2) fun x2 => S.bd (leapfrogref01x_Right.r x2 s) fun x3 => S.bd (un .not x3) fun x4 => S.cnd x4 (some ((Go.Value.slice Option.none 0 0), s)) (S.bd (lal c1 0 2) fun x5 => S.bd (leapfrogref01x_Bits.v x5 s) fun r6 => S.bd (S.it (leapfrogref01x_Prefixes.l6 S) [(Go.Value.slice Option.none 0 0), r6.1, (Go.Value.int Go.IntKind.i64 0)] r6.2) fun r24 => some ((r24.2.1.getD 0 undef), r24.2.2))
def leapfrogref01x_Prefixes.v (a0 : Value) (s : St) : Option (Value × St) := leapfrogref01x_Prefixes.t std a0 s
def leapfrogref01x_Prefixes.w : List Value → St → Option (Value × St)
  | [a0], s => leapfrogref01x_Prefixes.v a0 s
  | _, _ => none
def leapfrogref01x_Prefixes.an : An := ⟨25, false, [1], [(6, ⟨[.v 3, .v 4, .v 5], [(.exit 0, [.v 3])]⟩)], [], []⟩
theorem leapfrogref01x_Prefixes.ok (S : Sig) (a0 : Value) (s : St) : evF S Tryz.prog leapfrogref01x_Prefixes.ctx leapfrogref01x_Prefixes.an Tryz.f64 [a0] s = leapfrogref01x_Prefixes.t S a0 s := by kernel_rfl
theorem leapfrogref01x_Prefixes.cok : CtxOk Tryz.prog leapfrogref01x_Prefixes.ctx := .cons leapfrogref01x_Right.sound leapfrogref01x_Right.can <| .cons leapfrogref01x_Bits.sound leapfrogref01x_Bits.can <| .cons leapfrogref01x_Of.sound leapfrogref01x_Of.can <| .nil
theorem leapfrogref01x_Prefixes.draws : fnDraws leapfrogref01x_Prefixes.an Tryz.f64 = true := by kernel_rfl
theorem leapfrogref01x_Prefixes.can : callOk Tryz.prog 64 = true := by kernel_rfl
theorem leapfrogref01x_Prefixes.sound : FnOk Tryz.prog 64 (.st leapfrogref01x_Prefixes.w) := FnOk.st_of (evF_ok leapfrogref01x_Prefixes.cok mixed (f := 64) (fn := Tryz.f64) (by kernel_rfl) leapfrogref01x_Prefixes.draws) fun args s r h => by
  unfold leapfrogref01x_Prefixes.w at h; split at h
  · rw [leapfrogref01x_Prefixes.ok std]; exact h
  · simp at h

/-! ### leapfrog/leapfrogref01.common: function 95 -/
def leapfrogref01x_common.ctx : Ctx := []
def leapfrogref01x_common.l2 (S : Sig) (rec21 : List Value → St → Option Cut) (xs19 : List Value) (s20 : St) : Option Cut :=
  S.bd (lenL (xs19.getD 0 undef)) fun x22 => S.bd (bin .lss (xs19.getD 2 undef) x22) fun x23 => S.bd (S.gd x23 true (some (xs19.getD 2 undef))) fun x24 => S.bd (S.gd x23 true (some (xs19.getD 1 undef))) fun x25 => S.bd (S.gd x23 true (lenL x25)) fun x26 => S.bd (S.gd x23 true (bin .lss x24 x26)) fun x27 => S.bd (pik x23 x27 (Go.Value.bool Bool.false)) fun x28 => S.bd (S.gd x28 true (some (xs19.getD 0 undef))) fun x29 => S.bd (S.gd x28 true (some (xs19.getD 2 undef))) fun x30 => S.bd (S.gd x28 true (idx s20 1 x29 x30)) fun x31 => S.bd (S.gd x28 true (ldc s20 x31)) fun x32 => S.bd (S.gd x28 true (some (xs19.getD 1 undef))) fun x33 => S.bd (S.gd x28 true (some (xs19.getD 2 undef))) fun x34 => S.bd (S.gd x28 true (idx s20 1 x33 x34)) fun x35 => S.bd (S.gd x28 true (ldc s20 x35)) fun x36 => S.bd (S.gd x28 true (eqb [1] false false x32 x36)) fun x37 => S.bd (pik x28 x37 (Go.Value.bool Bool.false)) fun x38 => S.cnd x38 (S.bd (bin .add (xs19.getD 2 undef) (Go.Value.int Go.IntKind.i64 1)) fun x39 => rec21 [(xs19.getD 0 undef), (xs19.getD 1 undef), x39] s20) (some (0, [(xs19.getD 2 undef)], s20))

def leapfrogref01x_common.t (S : Sig) (a0 a1 : Value) (s : St) : Option Value :=
  S.bd (S.it (leapfrogref01x_common.l2 S) [a0, a1, (Go.Value.int Go.IntKind.i64 0)] s) fun r40 => some ((r40.2.1.getD 0 undef))
def leapfrogref01x_common.r (a0 a1 : Value) (s : St) : Option Value := leapfrogref01x_common.t std a0 a1 s
def leapfrogref01x_common.w : List Value → St → Option Value
  | [a0, a1], s => leapfrogref01x_common.r a0 a1 s
  | _, _ => none
def leapfrogref01x_common.an : An := ⟨30, true, [], [(2, ⟨[.v 0, .v 1, .v 5], [(.exit 0, [.v 5])]⟩)], [], [(2, [(0, 0, [], []), (1, 0, [], []), (2, 2, [], []), (3, 0, [], []), (4, 0, [], []), (5, 0, [], []), (6, 0, [], []), (7, 2, [], []), (8, 0, [], []), (9, 0, [], []), (10, 0, [], []), (11, 0, [], []), (12, 0, [], []), (13, 2, [], []), (14, 2, [], []), (15, 0, [], []), (16, 0, [], []), (17, 2, [], []), (18, 2, [], []), (19, 0, [], []), (20, 0, [], [])])]⟩
theorem leapfrogref01x_common.ok (S : Sig) (a0 a1 : Value) (s : St) : evG S Tryz.prog leapfrogref01x_common.ctx leapfrogref01x_common.an Tryz.f95 [a0, a1] s = leapfrogref01x_common.t S a0 a1 s := by kernel_rfl
theorem leapfrogref01x_common.cok : CtxOk Tryz.prog leapfrogref01x_common.ctx := .nil
theorem leapfrogref01x_common.draws : fnDraws leapfrogref01x_common.an Tryz.f95 = true := by kernel_rfl
theorem leapfrogref01x_common.can : callOk Tryz.prog 95 = true := by kernel_rfl
theorem leapfrogref01x_common.sound : FnOk Tryz.prog 95 (.rd leapfrogref01x_common.w) := FnOk.rd_of (evG_ok leapfrogref01x_common.cok mixed (f := 95) (fn := Tryz.f95) (by kernel_rfl) leapfrogref01x_common.draws) fun args s r h => by
  unfold leapfrogref01x_common.w at h; split at h
  · rw [leapfrogref01x_common.ok std]; exact h
  · simp at h

/-! ### leapfrog/leapfrogref01.Compare: function 86 -/
def leapfrogref01x_Compare.ctx : Ctx := [(32, .rd leapfrogref01x_Right.w), (84, .st leapfrogref01x_Bits.w), (95, .rd leapfrogref01x_common.w)]
def leapfrogref01x_Compare.t (S : Sig) (a0 a1 : Value) (s : St) : Option (Value × St) :=
  S.bd (bx a0) fun c1 => S.bd (bx a1) fun c2 => S.bd (lal c1 0 2) fun x3 => S.bd (leapfrogref01x_Right.r x3 s) fun x4 => S.bd (un .not x4) fun x5 => S.bd (S.gd x5 false (lal c2 0 2)) fun x6 => S.bd (S.gd x5 false (leapfrogref01x_Right.r x6 s)) fun x7 => S.bd (S.gd x5 false (un .not x7)) fun x8 => S.bd (pik x5 (Go.Value.bool Bool.true) x8) fun x9 => S.cnd x9 (some ((Value.tuple ⟨[(Go.Value.int Go.IntKind.i64 0), (Go.Value.int Go.IntKind.i64 10)]⟩), s)) (S.bd (lal c1 0 2) fun x10 => S.bd (lal c2 0 2) fun x11 => S.bd (leapfrogref01x_Bits.v x10 s) fun r12 => S.bd (leapfrogref01x_Bits.v x11 r12.2) fun r13 => S.bd (leapfrogref01x_common.r r12.1 r13.1 r13.2) fun x14 => S.bd (lenL r12.1) fun x15 => S.bd (eqb [1] false false x14 x15) fun x16 => S.bd (S.gd x16 true (some x14)) fun x17 => S.bd (S.gd x16 true (some r13.1)) fun x18 => S.bd (S.gd x16 true (lenL x18)) fun x19 => S.bd (S.gd x16 true (eqb [1] false false x17 x19)) fun x20 => S.bd (pik x16 x20 (Go.Value.bool Bool.false)) fun x21 => S.cnd x21 (some ((Value.tuple ⟨[(Go.Value.int Go.IntKind.i64 0), (Go.Value.int Go.IntKind.i64 0)]⟩), r13.2)) (S.bd (lenL r12.1) fun x22 => S.bd (eqb [1] false false x14 x22) fun x23 => S.cnd x23 (some ((Value.tuple ⟨[(Go.Value.int Go.IntKind.i64 (-1)), (Go.Value.int Go.IntKind.i64 0)]⟩), r13.2)) (S.bd (lenL r13.1) fun x24 => S.bd (eqb [1] false false x14 x24) fun x25 => S.cnd x25 (some ((Value.tuple ⟨[(Go.Value.int Go.IntKind.i64 1), (Go.Value.int Go.IntKind.i64 0)]⟩), r13.2)) (S.bd (idx r13.2 1 r12.1 x14) fun x26 => S.bd (ldc r13.2 x26) fun x27 => S.bd (idx r13.2 1 r13.1 x14) fun x28 => S.bd (ldc r13.2 x28) fun x29 => S.bd (bin .lss x27 x29) fun x30 => S.cnd x30 (some ((Value.tuple ⟨[(Go.Value.int Go.IntKind.i64 (-1)), (Go.Value.int Go.IntKind.i64 0)]⟩), r13.2)) (some ((Value.tuple ⟨[(Go.Value.int Go.IntKind.i64 1), (Go.Value.int Go.IntKind.i64 0)]⟩), r13.2))))))
def leapfrogref01x_Compare.v (a0 a1 : Value) (s : St) : Option (Value × St) := leapfrogref01x_Compare.t std a0 a1 s
def leapfrogref01x_Compare.w : List Value → St → Option (Value × St)
  | [a0, a1], s => leapfrogref01x_Compare.v a0 a1 s
  | _, _ => none
def leapfrogref01x_Compare.an : An := ⟨55, false, [2, 3], [], [], [(3, [(0, 17, [], []), (2, 25, [], []), (1, 4, [], []), (3, 4, [], []), (4, 0, [], []), (5, 0, [], [])]), (11, [(0, 0, [], []), (1, 0, [], []), (2, 2, [], []), (3, 2, [], []), (4, 0, [], []), (5, 0, [], []), (6, 2, [], []), (7, 2, [], []), (8, 0, [], []), (9, 0, [], [])])]⟩
theorem leapfrogref01x_Compare.ok (S : Sig) (a0 a1 : Value) (s : St) : evF S Tryz.prog leapfrogref01x_Compare.ctx leapfrogref01x_Compare.an Tryz.f86 [a0, a1] s = leapfrogref01x_Compare.t S a0 a1 s := by kernel_rfl
theorem leapfrogref01x_Compare.cok : CtxOk Tryz.prog leapfrogref01x_Compare.ctx := .cons leapfrogref01x_Right.sound leapfrogref01x_Right.can <| .cons leapfrogref01x_Bits.sound leapfrogref01x_Bits.can <| .cons leapfrogref01x_common.sound leapfrogref01x_common.can <| .nil
theorem leapfrogref01x_Compare.draws : fnDraws leapfrogref01x_Compare.an Tryz.f86 = true := by kernel_rfl
theorem leapfrogref01x_Compare.can : callOk Tryz.prog 86 = true := by kernel_rfl
theorem leapfrogref01x_Compare.sound : FnOk Tryz.prog 86 (.st leapfrogref01x_Compare.w) := FnOk.st_of (evF_ok leapfrogref01x_Compare.cok mixed (f := 86) (fn := Tryz.f86) (by kernel_rfl) leapfrogref01x_Compare.draws) fun args s r h => by
  unfold leapfrogref01x_Compare.w at h; split at h
  · rw [leapfrogref01x_Compare.ok std]; exact h
  · simp at h

/-! ### leapfrog/leapfrogref01.Compare: function 86, as a reading -/
def leapfrogref01x_CompareQ.r (a0 a1 : Value) (s : St) : Option Value := frzR (fun s => leapfrogref01x_Compare.v a0 a1 s) s
def leapfrogref01x_CompareQ.w : List Value → St → Option Value := fun args s => frzR (leapfrogref01x_Compare.w args) s
theorem leapfrogref01x_CompareQ.can : callOk Tryz.prog 86 = true := leapfrogref01x_Compare.can
theorem leapfrogref01x_CompareQ.sound : FnOk Tryz.prog 86 (.rd leapfrogref01x_CompareQ.w) := FnOk.frozen leapfrogref01x_Compare.sound

/-! ### leapfrog/leapfrogref01.Begins: function 91 -/
def leapfrogref01x_Begins.ctx : Ctx := [(32, .rd leapfrogref01x_Right.w), (84, .st leapfrogref01x_Bits.w), (95, .rd leapfrogref01x_common.w)]
def leapfrogref01x_Begins.t (S : Sig) (a0 a1 : Value) (s : St) : Option (Value × St) :=
  S.bd (bx a0) fun c1 => S.bd (bx a1) fun c2 => S.bd (lal c1 0 2) fun x3 => S.bd (leapfrogref01x_Right.r x3 s) fun x4 => S.bd (S.gd x4 true (lal c2 0 2)) fun x5 => S.bd (S.gd x4 true (leapfrogref01x_Right.r x5 s)) fun x6 => S.bd (pik x4 x6 (Go.Value.bool Bool.false)) fun x7 => S.bd (S.gd x7 true (lal c1 0 2)) fun x8 => S.bd (S.gd x7 true (lal c2 0 2)) fun x9 => S.bd (S.gd x7 true (lcl c2 0)) fun x10 => S.bd (S.gdS x7 true (leapfrogref01x_Bits.v x8 s) s) fun r11 => S.bd (S.gdS x7 true (leapfrogref01x_Bits.v x9 r11.2) r11.2) fun r12 => S.bd (S.gd x7 true (leapfrogref01x_common.r r11.1 r12.1 r12.2)) fun x13 => S.bd (S.gd x7 true (eqb [1] false false x13 x10)) fun x14 => S.bd (pik x7 x14 (Go.Value.bool Bool.false)) fun x15 => some (x15, r12.2)
def leapfrogref01x_Begins.v (a0 a1 : Value) (s : St) : Option (Value × St) := leapfrogref01x_Begins.t std a0 a1 s
def leapfrogref01x_Begins.w : List Value → St → Option (Value × St)
  | [a0, a1], s => leapfrogref01x_Begins.v a0 a1 s
  | _, _ => none
def leapfrogref01x_Begins.an : An := ⟨21, false, [2, 3], [], [], [(1, [(0, 17, [], []), (1, 3, [], []), (2, 0, [], []), (3, 25, [], []), (4, 3, [], []), (5, 0, [], []), (6, 0, [], []), (7, 17, [], []), (9, 25, [], []), (12, 0, [], []), (13, 25, [], []), (8, 4, [], []), (10, 4, [], []), (11, 3, [], []), (14, 0, [], []), (15, 0, [], []), (16, 0, [], [])])]⟩
theorem leapfrogref01x_Begins.ok (S : Sig) (a0 a1 : Value) (s : St) : evF S Tryz.prog leapfrogref01x_Begins.ctx leapfrogref01x_Begins.an Tryz.f91 [a0, a1] s = leapfrogref01x_Begins.t S a0 a1 s := by kernel_rfl
theorem leapfrogref01x_Begins.cok : CtxOk Tryz.prog leapfrogref01x_Begins.ctx := .cons leapfrogref01x_Right.sound leapfrogref01x_Right.can <| .cons leapfrogref01x_Bits.sound leapfrogref01x_Bits.can <| .cons leapfrogref01x_common.sound leapfrogref01x_common.can <| .nil
theorem leapfrogref01x_Begins.draws : fnDraws leapfrogref01x_Begins.an Tryz.f91 = true := by kernel_rfl
theorem leapfrogref01x_Begins.can : callOk Tryz.prog 91 = true := by kernel_rfl
theorem leapfrogref01x_Begins.sound : FnOk Tryz.prog 91 (.st leapfrogref01x_Begins.w) := FnOk.st_of (evF_ok leapfrogref01x_Begins.cok mixed (f := 91) (fn := Tryz.f91) (by kernel_rfl) leapfrogref01x_Begins.draws) fun args s r h => by
  unfold leapfrogref01x_Begins.w at h; split at h
  · rw [leapfrogref01x_Begins.ok std]; exact h
  · simp at h

/-! ### leapfrog/leapfrogref01.Begins: function 91, as a reading -/
def leapfrogref01x_BeginsQ.r (a0 a1 : Value) (s : St) : Option Value := frzR (fun s => leapfrogref01x_Begins.v a0 a1 s) s
def leapfrogref01x_BeginsQ.w : List Value → St → Option Value := fun args s => frzR (leapfrogref01x_Begins.w args) s
theorem leapfrogref01x_BeginsQ.can : callOk Tryz.prog 91 = true := leapfrogref01x_Begins.can
theorem leapfrogref01x_BeginsQ.sound : FnOk Tryz.prog 91 (.rd leapfrogref01x_BeginsQ.w) := FnOk.frozen leapfrogref01x_Begins.sound

/-! ### leapfrog/leapfrogref09.Less: function 79 -/
def leapfrogref09x_Less.ctx : Ctx := []
def leapfrogref09x_Less.t (S : Sig) (a0 a1 : Value) (s : St) : Option Value :=
  S.bd (bx a0) fun c1 => S.bd (bx a1) fun c2 => S.bd (lcl c1 0) fun x3 => S.bd (lcl c2 0) fun x4 => S.bd (bin .lss x3 x4) fun x5 => S.bd (S.gd x5 false (lcl c1 0)) fun x6 => S.bd (S.gd x5 false (lcl c2 0)) fun x7 => S.bd (S.gd x5 false (eqb [1] false false x6 x7)) fun x8 => S.bd (S.gd x5 false (some x8)) fun x9 => S.bd (S.gd x9 true (lcl c1 1)) fun x10 => S.bd (S.gd x9 true (lcl c2 1)) fun x11 => S.bd (S.gd x9 true (bin .lss x10 x11)) fun x12 => S.bd (S.gd x5 false (pik x9 x12 (Go.Value.bool Bool.false))) fun x13 => S.bd (pik x5 (Go.Value.bool Bool.true) x13) fun x14 => some (x14)
def leapfrogref09x_Less.r (a0 a1 : Value) (s : St) : Option Value := leapfrogref09x_Less.t std a0 a1 s
def leapfrogref09x_Less.w : List Value → St → Option Value
  | [a0, a1], s => leapfrogref09x_Less.r a0 a1 s
  | _, _ => none
def leapfrogref09x_Less.an : An := ⟨24, true, [2, 3], [], [], []⟩
theorem leapfrogref09x_Less.ok (S : Sig) (a0 a1 : Value) (s : St) : evG S Tryz.prog leapfrogref09x_Less.ctx leapfrogref09x_Less.an Tryz.f79 [a0, a1] s = leapfrogref09x_Less.t S a0 a1 s := by kernel_rfl
theorem leapfrogref09x_Less.cok : CtxOk Tryz.prog leapfrogref09x_Less.ctx := .nil
theorem leapfrogref09x_Less.draws : fnDraws leapfrogref09x_Less.an Tryz.f79 = true := by kernel_rfl
theorem leapfrogref09x_Less.can : callOk Tryz.prog 79 = true := by kernel_rfl
theorem leapfrogref09x_Less.sound : FnOk Tryz.prog 79 (.rd leapfrogref09x_Less.w) := FnOk.rd_of (evG_ok leapfrogref09x_Less.cok mixed (f := 79) (fn := Tryz.f79) (by kernel_rfl) leapfrogref09x_Less.draws) fun args s r h => by
  unfold leapfrogref09x_Less.w at h; split at h
  · rw [leapfrogref09x_Less.ok std]; exact h
  · simp at h

/-! ### leapfrog/leapfrogref11.sorted: function 96 -/
def leapfrogref11x_sorted.ctx : Ctx := [(79, .rd leapfrogref09x_Less.w)]
def leapfrogref11x_sorted.l6 (S : Sig) (rec60 : List Value → St → Option Cut) (xs58 : List Value) (s59 : St) : Option Cut :=
  S.bd (lenL (xs58.getD 1 undef)) fun x61 => S.bd (bin .lss (xs58.getD 3 undef) x61) fun x62 => S.bd (S.gd x62 true (some (xs58.getD 1 undef))) fun x63 => S.bd (S.gd x62 true (some (xs58.getD 3 undef))) fun x64 => S.bd (S.gd x62 true (idx s59 5 x63 x64)) fun x65 => S.bd (S.gd x62 true (fld 1 x65)) fun x66 => S.bd (S.gd x62 true (lda s59 2 x66)) fun x67 => S.bd (S.gd x62 true (some (xs58.getD 0 undef))) fun x68 => S.bd (S.gd x62 true (some (xs58.getD 2 undef))) fun x69 => S.bd (S.gd x62 true (idx s59 5 x68 x69)) fun x70 => S.bd (S.gd x62 true (fld 1 x70)) fun x71 => S.bd (S.gd x62 true (lda s59 2 x71)) fun x72 => S.bd (S.gd x62 true (leapfrogref09x_Less.r x67 x72 s59)) fun x73 => S.bd (pik x62 x73 (Go.Value.bool Bool.false)) fun x74 => S.cnd x74 (S.bd (bin .add (xs58.getD 3 undef) (Go.Value.int Go.IntKind.i64 1)) fun x75 => rec60 [(xs58.getD 0 undef), (xs58.getD 1 undef), (xs58.getD 2 undef), x75] s59) (some (0, [(xs58.getD 0 undef), (xs58.getD 1 undef), (xs58.getD 2 undef), (xs58.getD 3 undef), x63, x64, x65, x66, x67, x68, x69, x70, x71, x72, x73], s59))

def leapfrogref11x_sorted.l3.p1 (S : Sig) (xs53 : List Value) (s54 : St) (rec55 : List Value → St → Option Cut) : Option Cut :=
  S.bd (S.it (leapfrogref11x_sorted.l6 S) [(xs53.getD 0 undef), (xs53.getD 1 undef), (xs53.getD 2 undef), (Go.Value.int Go.IntKind.i64 0)] s54) fun r76 => S.bd (slc r76.2.2 5 (r76.2.1.getD 1 undef) none (some (r76.2.1.getD 3 undef)) none) fun x77 => S.bd (idx r76.2.2 5 (r76.2.1.getD 0 undef) (r76.2.1.getD 2 undef)) fun x78 => S.bd (lda r76.2.2 5 x78) fun x79 => S.bd (slc r76.2.2 5 (r76.2.1.getD 1 undef) (some (r76.2.1.getD 3 undef)) none none) fun x80 => S.bd (S.bd (bls 5 (List.replicate 1 [(Go.Value.int Go.IntKind.i64 0), (Go.Value.int Go.IntKind.i64 0), (Go.Value.int Go.IntKind.u64 0), (Go.Value.int Go.IntKind.i64 0), (Go.Value.int Go.IntKind.u64 0)]) [(0, x79)]) fun rows => als r76.2.2 5 1 rows) fun _ => S.bd (S.bd (bls 5 (List.replicate 0 [(Go.Value.int Go.IntKind.i64 0), (Go.Value.int Go.IntKind.i64 0), (Go.Value.int Go.IntKind.u64 0), (Go.Value.int Go.IntKind.i64 0), (Go.Value.int Go.IntKind.u64 0)]) []) fun rows => als r76.2.2 5 0 rows) fun r81 => S.bd (S.bd (bls 5 (List.replicate 1 [(Go.Value.int Go.IntKind.i64 0), (Go.Value.int Go.IntKind.i64 0), (Go.Value.int Go.IntKind.u64 0), (Go.Value.int Go.IntKind.i64 0), (Go.Value.int Go.IntKind.u64 0)]) [(0, x79)]) fun rows => als r81.2 5 1 rows) fun _ => S.bd (app r81.2 5 40 r81.1 x77) fun r82 => S.bd (idx r82.2 5 (r76.2.1.getD 0 undef) (r76.2.1.getD 2 undef)) fun x83 => S.cnd (Value.bool (sameV x83 x78)) (S.bd (lda r82.2 5 x78) fun x84 => S.cnd (Value.bool (sameV x84 x79)) (S.bd (slc r82.2 5 (r76.2.1.getD 1 undef) (some (r76.2.1.getD 3 undef)) none none) fun x85 => S.cnd (Value.bool (sameV x85 x80)) (S.bd (S.bd (bls 5 (List.replicate 1 [(Go.Value.int Go.IntKind.i64 0), (Go.Value.int Go.IntKind.i64 0), (Go.Value.int Go.IntKind.u64 0), (Go.Value.int Go.IntKind.i64 0), (Go.Value.int Go.IntKind.u64 0)]) [(0, x79)]) fun rows => als r82.2 5 1 rows) fun r86 => S.bd (app r86.2 5 40 r82.1 r86.1) fun r87 => S.bd (idx r87.2 5 (r76.2.1.getD 0 undef) (r76.2.1.getD 2 undef)) fun x88 => S.cnd (Value.bool (sameV x88 x78)) (S.bd (slc r87.2 5 (r76.2.1.getD 1 undef) (some (r76.2.1.getD 3 undef)) none none) fun x89 => S.cnd (Value.bool (sameV x89 x80)) (S.bd (app r87.2 5 40 r87.1 x80) fun r90 => S.bd (idx r90.2 5 (r76.2.1.getD 0 undef) (r76.2.1.getD 2 undef)) fun x91 => S.cnd (Value.bool (sameV x91 x78)) (S.bd (bin .add (r76.2.1.getD 2 undef) (Go.Value.int Go.IntKind.i64 1)) fun x92 => rec55 [(r76.2.1.getD 0 undef), r90.1, x92] r90.2) (none)) (none)) (none)) (none)) (none)) (none)

def leapfrogref11x_sorted.l3 (S : Sig) (rec55 : List Value → St → Option Cut) (xs53 : List Value) (s54 : St) : Option Cut :=
  S.bd (lenL (xs53.getD 0 undef)) fun x56 => S.bd (bin .lss (xs53.getD 2 undef) x56) fun x57 => S.cnd x57 (leapfrogref11x_sorted.l3.p1 S xs53 s54 rec55) (some (0, [(xs53.getD 1 undef)], s54))

def leapfrogref11x_sorted.t (S : Sig) (a0 : Value) (s : St) : Option (Value × St) :=
  S.bd (S.it (leapfrogref11x_sorted.l3 S) [a0, (Go.Value.slice Option.none 0 0), (Go.Value.int Go.IntKind.i64 0)] s) fun r93 => some ((r93.2.1.getD 0 undef), r93.2.2)
def leapfrogref11x_sorted.v (a0 : Value) (s : St) : Option (Value × St) := leapfrogref11x_sorted.t std a0 s
def leapfrogref11x_sorted.w : List Value → St → Option (Value × St)
  | [a0], s => leapfrogref11x_sorted.v a0 s
  | _, _ => none
def leapfrogref11x_sorted.an : An := ⟨47, false, [], [(6, ⟨[.v 0, .v 3, .v 4, .v 5], [(.exit 2, [.v 0, .v 3, .v 4, .v 5, .v 17, .v 18, .v 19, .v 20, .v 21, .v 22, .v 23, .v 24, .v 25, .v 26, .v 27])]⟩), (3, ⟨[.v 0, .v 3, .v 4], [(.exit 0, [.v 3])]⟩)], [], [(6, [(0, 0, [], []), (1, 0, [], []), (2, 2, [], []), (3, 0, [], []), (4, 0, [], []), (5, 0, [], []), (6, 0, [], []), (7, 2, [], []), (8, 0, [], []), (9, 2, [], []), (10, 0, [], []), (11, 0, [], []), (12, 2, [], []), (13, 0, [], []), (14, 2, [], []), (15, 3, [], []), (16, 0, [], [])]), (8, [(1, 0, [], []), (2, 0, [], []), (3, 2, [], []), (5, 0, [], []), (6, 0, [], []), (7, 2, [], []), (8, 2, [], []), (11, 0, [], []), (12, 0, [], []), (13, 2, [], []), (0, 3, [], [9]), (4, 4, [7, 8, 13], [9]), (9, 3, [], []), (10, 4, [7, 13], []), (14, 4, [7], []), (15, 3, [], [])])]⟩
theorem leapfrogref11x_sorted.ok (S : Sig) (a0 : Value) (s : St) : evF S Tryz.prog leapfrogref11x_sorted.ctx leapfrogref11x_sorted.an Tryz.f96 [a0] s = leapfrogref11x_sorted.t S a0 s := by kernel_rfl
theorem leapfrogref11x_sorted.cok : CtxOk Tryz.prog leapfrogref11x_sorted.ctx := .cons leapfrogref09x_Less.sound leapfrogref09x_Less.can <| .nil
theorem leapfrogref11x_sorted.draws : fnDraws leapfrogref11x_sorted.an Tryz.f96 = true := by kernel_rfl
theorem leapfrogref11x_sorted.can : callOk Tryz.prog 96 = true := by kernel_rfl
theorem leapfrogref11x_sorted.sound : FnOk Tryz.prog 96 (.st leapfrogref11x_sorted.w) := FnOk.st_of (evF_ok leapfrogref11x_sorted.cok mixed (f := 96) (fn := Tryz.f96) (by kernel_rfl) leapfrogref11x_sorted.draws) fun args s r h => by
  unfold leapfrogref11x_sorted.w at h; split at h
  · rw [leapfrogref11x_sorted.ok std]; exact h
  · simp at h

/-! ### leapfrog/leapfrogref11.members: function 87 -/
def leapfrogref11x_members.ctx : Ctx := [(91, .rd leapfrogref01x_BeginsQ.w), (96, .st leapfrogref11x_sorted.w)]
def leapfrogref11x_members.l3 (S : Sig) (rec17 : List Value → St → Option Cut) (xs15 : List Value) (s16 : St) : Option Cut :=
  S.bd (lenL (xs15.getD 0 undef)) fun x18 => S.bd (bin .lss (xs15.getD 2 undef) x18) fun x19 => S.cnd x19 (S.bd (idx s16 5 (xs15.getD 0 undef) (xs15.getD 2 undef)) fun x20 => S.bd (fld 3 x20) fun x21 => S.bd (lda s16 2 x21) fun x22 => S.bd (lal (cellsA (xs15.getD 3 undef)) 0 2) fun x23 => S.bd (leapfrogref01x_BeginsQ.r x22 x23 s16) fun x24 => S.cnd x24 (S.bd (idx s16 5 (xs15.getD 0 undef) (xs15.getD 2 undef)) fun x25 => S.bd (lda s16 5 x25) fun x26 => S.bd (S.bd (bls 5 (List.replicate 1 [(Go.Value.int Go.IntKind.i64 0), (Go.Value.int Go.IntKind.i64 0), (Go.Value.int Go.IntKind.u64 0), (Go.Value.int Go.IntKind.i64 0), (Go.Value.int Go.IntKind.u64 0)]) [(0, x26)]) fun rows => als s16 5 1 rows) fun r27 => S.bd (app r27.2 5 40 (xs15.getD 1 undef) r27.1) fun r28 => S.bd (bin .add (xs15.getD 2 undef) (Go.Value.int Go.IntKind.i64 1)) fun x29 => rec17 [(xs15.getD 0 undef), r28.1, x29, (Value.agg ⟨(cellsA (xs15.getD 3 undef))⟩)] r28.2) (S.bd (bin .add (xs15.getD 2 undef) (Go.Value.int Go.IntKind.i64 1)) fun x30 => rec17 [(xs15.getD 0 undef), (xs15.getD 1 undef), x30, (Value.agg ⟨(cellsA (xs15.getD 3 undef))⟩)] s16)) (some (0, [(xs15.getD 1 undef)], s16))

def leapfrogref11x_members.t (S : Sig) (a0 a1 : Value) (s : St) : Option (Value × St) :=
  S.bd (bx a0) fun c1 => S.bd (S.it (leapfrogref11x_members.l3 S) [a1, (Go.Value.slice Option.none 0 0), (Go.Value.int Go.IntKind.i64 0), (Value.agg ⟨c1⟩)] s) fun r31 => S.bd (leapfrogref11x_sorted.v (r31.2.1.getD 0 undef) r31.2.2) fun r32 => some (r32.1, r32.2)
def leapfrogref11x_members.v (a0 a1 : Value) (s : St) : Option (Value × St) := leapfrogref11x_members.t std a0 a1 s
def leapfrogref11x_members.w : List Value → St → Option (Value × St)
  | [a0, a1], s => leapfrogref11x_members.v a0 a1 s
  | _, _ => none
def leapfrogref11x_members.an : An := ⟨29, false, [2], [(3, ⟨[.v 1, .p 2 2 0, .v 5, .v 6, .l 2], [(.exit 0, [.v 5])]⟩)], [], [(5, [(0, 0, [], []), (1, 0, [], []), (2, 2, [], []), (3, 0, [], []), (4, 2, [], []), (5, 17, [], []), (6, 3, [], [])])]⟩
theorem leapfrogref11x_members.ok (S : Sig) (a0 a1 : Value) (s : St) : evF S Tryz.prog leapfrogref11x_members.ctx leapfrogref11x_members.an Tryz.f87 [a0, a1] s = leapfrogref11x_members.t S a0 a1 s := by kernel_rfl
theorem leapfrogref11x_members.cok : CtxOk Tryz.prog leapfrogref11x_members.ctx := .cons leapfrogref01x_BeginsQ.sound leapfrogref01x_BeginsQ.can <| .cons leapfrogref11x_sorted.sound leapfrogref11x_sorted.can <| .nil
theorem leapfrogref11x_members.draws : fnDraws leapfrogref11x_members.an Tryz.f87 = true := by kernel_rfl
theorem leapfrogref11x_members.can : callOk Tryz.prog 87 = true := by kernel_rfl
theorem leapfrogref11x_members.sound : FnOk Tryz.prog 87 (.st leapfrogref11x_members.w) := FnOk.st_of (evF_ok leapfrogref11x_members.cok mixed (f := 87) (fn := Tryz.f87) (by kernel_rfl) leapfrogref11x_members.draws) fun args s r h => by
  unfold leapfrogref11x_members.w at h; split at h
  · rw [leapfrogref11x_members.ok std]; exact h
  · simp at h

/-! ### leapfrog/leapfrogref11.with: function 65 -/
def leapfrogref11x_with.ctx : Ctx := [(86, .rd leapfrogref01x_CompareQ.w), (87, .st leapfrogref11x_members.w)]
def leapfrogref11x_with.l2 (S : Sig) (rec16 : List Value → St → Option Cut) (xs14 : List Value) (s15 : St) : Option Cut :=
  S.bd (lenL (xs14.getD 0 undef)) fun x17 => S.bd (bin .lss (xs14.getD 2 undef) x17) fun x18 => S.cnd x18 (S.bd (idx s15 3 (xs14.getD 0 undef) (xs14.getD 2 undef)) fun x19 => S.bd (fld 0 x19) fun x20 => S.bd (lda s15 2 x20) fun x21 => S.bd (lal (cellsA (xs14.getD 3 undef)) 0 2) fun x22 => S.bd (leapfrogref01x_CompareQ.r x21 x22 s15) fun x23 => S.bd (xtr 0 x23) fun x24 => S.bd (xtr 1 x23) fun x25 => S.bd (eqb [1] false false x24 (Go.Value.int Go.IntKind.i64 0)) fun x26 => S.cnd x26 (some (1, [(xs14.getD 0 undef)], s15)) (S.bd (bin .gtr x24 (Go.Value.int Go.IntKind.i64 0)) fun x27 => S.cnd x27 (some (0, [(xs14.getD 0 undef), (xs14.getD 1 undef), (xs14.getD 2 undef), (Value.agg ⟨(cellsA (xs14.getD 3 undef))⟩)], s15)) (S.bd (bin .add (xs14.getD 2 undef) (Go.Value.int Go.IntKind.i64 1)) fun x28 => rec16 [(xs14.getD 0 undef), (xs14.getD 1 undef), x28, (Value.agg ⟨(cellsA (xs14.getD 3 undef))⟩)] s15))) (some (0, [(xs14.getD 0 undef), (xs14.getD 1 undef), (xs14.getD 2 undef), (Value.agg ⟨(cellsA (xs14.getD 3 undef))⟩)], s15))

def leapfrogref11x_with.t (S : Sig) (a0 a1 a2 : Value) (s : St) : Option (Value × St) :=
  S.bd (bx a1) fun c1 => S.bd (S.it (leapfrogref11x_with.l2 S) [a0, a2, (Go.Value.int Go.IntKind.i64 0), (Value.agg ⟨c1⟩)] s) fun r29 => if r29.1 = 0 then (S.bd (slc r29.2.2 3 (r29.2.1.getD 0 undef) none (some (r29.2.1.getD 2 undef)) none) fun x30 => S.bd (lal (cellsA (r29.2.1.getD 3 undef)) 0 2) fun x31 => S.bd (lal (cellsA (r29.2.1.getD 3 undef)) 0 2) fun x32 => S.bd (slc r29.2.2 3 (r29.2.1.getD 0 undef) (some (r29.2.1.getD 2 undef)) none none) fun x33 => S.bd (S.bd (bls 3 (List.replicate 0 [(Go.Value.int Go.IntKind.i64 0), (Go.Value.int Go.IntKind.u64 0), (Go.Value.slice Option.none 0 0)]) []) fun rows => als r29.2.2 3 0 rows) fun r34 => S.bd (app r34.2 3 40 r34.1 x30) fun r35 => S.bd (slc r35.2 3 (r29.2.1.getD 0 undef) (some (r29.2.1.getD 2 undef)) none none) fun x36 => S.cnd (Value.bool (sameV x36 x33)) (S.bd (leapfrogref11x_members.v x32 (r29.2.1.getD 1 undef) r35.2) fun r37 => S.bd (slc r37.2 3 (r29.2.1.getD 0 undef) (some (r29.2.1.getD 2 undef)) none none) fun x38 => S.cnd (Value.bool (sameV x38 x33)) (S.bd (bld [(Go.Value.int Go.IntKind.i64 0), (Go.Value.int Go.IntKind.u64 0), (Go.Value.slice Option.none 0 0)] [(0, 2, x31), (2, 1, r37.1)]) fun x39 => S.bd (S.bd (bls 3 (List.replicate 1 [(Go.Value.int Go.IntKind.i64 0), (Go.Value.int Go.IntKind.u64 0), (Go.Value.slice Option.none 0 0)]) [(0, x39)]) fun rows => als r37.2 3 1 rows) fun r40 => S.bd (app r40.2 3 40 r35.1 r40.1) fun r41 => S.bd (slc r41.2 3 (r29.2.1.getD 0 undef) (some (r29.2.1.getD 2 undef)) none none) fun x42 => S.cnd (Value.bool (sameV x42 x33)) (S.bd (app r41.2 3 40 r41.1 x33) fun r43 => some (r43.1, r43.2)) (none)) (none)) (none)) else (some ((r29.2.1.getD 0 undef), r29.2.2))
def leapfrogref11x_with.v (a0 a1 a2 : Value) (s : St) : Option (Value × St) := leapfrogref11x_with.t std a0 a1 a2 s
def leapfrogref11x_with.w : List Value → St → Option (Value × St)
  | [a0, a1, a2], s => leapfrogref11x_with.v a0 a1 a2 s
  | _, _ => none
def leapfrogref11x_with.an : An := ⟨47, false, [4], [(2, ⟨[.v 0, .v 2, .p 4 4 0, .v 7, .l 4], [(.exit 0, [.v 0, .v 2, .p 4 4 0, .v 7, .l 4]), (.ret, [.v 6])]⟩)], [], [(3, [(0, 0, [], []), (1, 0, [], []), (2, 2, [], []), (3, 0, [], []), (4, 2, [], []), (5, 33, [], []), (6, 3, [], []), (7, 0, [], []), (8, 0, [], []), (9, 0, [], []), (10, 0, [], []), (11, 0, [], [])]), (8, [(1, 0, [], []), (2, 0, [], []), (3, 2, [], []), (5, 33, [], []), (6, 33, [], []), (7, 0, [], []), (12, 0, [], []), (13, 0, [], []), (14, 2, [], []), (0, 3, [], []), (4, 4, [14], []), (8, 4, [14], []), (9, 0, [], []), (10, 3, [], []), (11, 4, [14], []), (15, 4, [], []), (16, 0, [], [])])]⟩
theorem leapfrogref11x_with.ok (S : Sig) (a0 a1 a2 : Value) (s : St) : evF S Tryz.prog leapfrogref11x_with.ctx leapfrogref11x_with.an Tryz.f65 [a0, a1, a2] s = leapfrogref11x_with.t S a0 a1 a2 s := by kernel_rfl
theorem leapfrogref11x_with.cok : CtxOk Tryz.prog leapfrogref11x_with.ctx := .cons leapfrogref01x_CompareQ.sound leapfrogref01x_CompareQ.can <| .cons leapfrogref11x_members.sound leapfrogref11x_members.can <| .nil
theorem leapfrogref11x_with.draws : fnDraws leapfrogref11x_with.an Tryz.f65 = true := by kernel_rfl
theorem leapfrogref11x_with.can : callOk Tryz.prog 65 = true := by kernel_rfl
theorem leapfrogref11x_with.sound : FnOk Tryz.prog 65 (.st leapfrogref11x_with.w) := FnOk.st_of (evF_ok leapfrogref11x_with.cok mixed (f := 65) (fn := Tryz.f65) (by kernel_rfl) leapfrogref11x_with.draws) fun args s r h => by
  unfold leapfrogref11x_with.w at h; split at h
  · rw [leapfrogref11x_with.ok std]; exact h
  · simp at h

/-! ### leapfrog/leapfrogref11.Lists: function 45 -/
def leapfrogref11x_Lists.ctx : Ctx := [(44, .rd leapfrogref11x_Check.w), (64, .st leapfrogref01x_Prefixes.w), (65, .st leapfrogref11x_with.w)]
def leapfrogref11x_Lists.l9 (S : Sig) (rec37 : List Value → St → Option Cut) (xs35 : List Value) (s36 : St) : Option Cut :=
  S.bd (lenL (xs35.getD 3 undef)) fun x38 => S.bd (bin .lss (xs35.getD 4 undef) x38) fun x39 => S.cnd x39 (S.bd (idx s36 2 (xs35.getD 3 undef) (xs35.getD 4 undef)) fun x40 => S.bd (lda s36 2 x40) fun x41 => S.bd (leapfrogref11x_with.v (xs35.getD 1 undef) x41 (xs35.getD 0 undef) s36) fun r42 => S.bd (bin .add (xs35.getD 4 undef) (Go.Value.int Go.IntKind.i64 1)) fun x43 => rec37 [(xs35.getD 0 undef), r42.1, (xs35.getD 2 undef), (xs35.getD 3 undef), x43] r42.2) (some (0, [(xs35.getD 0 undef), (xs35.getD 1 undef), (xs35.getD 2 undef)], s36))

def leapfrogref11x_Lists.l5 (S : Sig) (rec28 : List Value → St → Option Cut) (xs26 : List Value) (s27 : St) : Option Cut :=
  S.bd (lenL (xs26.getD 0 undef)) fun x29 => S.bd (bin .lss (xs26.getD 2 undef) x29) fun x30 => S.cnd x30 (S.bd (idx s27 5 (xs26.getD 0 undef) (xs26.getD 2 undef)) fun x31 => S.bd (fld 3 x31) fun x32 => S.bd (lda s27 2 x32) fun x33 => S.bd (leapfrogref01x_Prefixes.v x33 s27) fun r34 => S.bd (S.it (leapfrogref11x_Lists.l9 S) [(xs26.getD 0 undef), (xs26.getD 1 undef), (xs26.getD 2 undef), r34.1, (Go.Value.int Go.IntKind.i64 0)] r34.2) fun r44 => S.bd (bin .add (r44.2.1.getD 2 undef) (Go.Value.int Go.IntKind.i64 1)) fun x45 => rec28 [(r44.2.1.getD 0 undef), (r44.2.1.getD 1 undef), x45] r44.2.2) (some (0, [(xs26.getD 1 undef)], s27))

def leapfrogref11x_Lists.t (S : Sig) (a0 a1 : Value) (s : St) : Option (Value × St) :=
  S.bd (leapfrogref11x_Check.r a0 a1 s) fun x1 => S.bd (eqb [1] false true x1 (Go.Value.int Go.IntKind.i64 0)) fun x2 => S.cnd x2 (some ((Value.tuple ⟨[(Go.Value.slice Option.none 0 0), (Go.Value.int Go.IntKind.i64 110)]⟩), s)) (S.bd (S.it (leapfrogref11x_Lists.l5 S) [a1, (Go.Value.slice Option.none 0 0), (Go.Value.int Go.IntKind.i64 0)] s) fun r46 => some ((Value.tuple ⟨[(r46.2.1.getD 0 undef), (Go.Value.int Go.IntKind.i64 0)]⟩), r46.2.2))
def leapfrogref11x_Lists.v (a0 a1 : Value) (s : St) : Option (Value × St) := leapfrogref11x_Lists.t std a0 a1 s
def leapfrogref11x_Lists.w : List Value → St → Option (Value × St)
  | [a0, a1], s => leapfrogref11x_Lists.v a0 a1 s
  | _, _ => none
def leapfrogref11x_Lists.an : An := ⟨40, false, [], [(9, ⟨[.v 1, .v 6, .v 7, .v 8, .v 9], [(.exit 2, [.v 1, .v 6, .v 7])]⟩), (5, ⟨[.v 1, .v 6, .v 7], [(.exit 0, [.v 6])]⟩)], [], []⟩
theorem leapfrogref11x_Lists.ok (S : Sig) (a0 a1 : Value) (s : St) : evF S Tryz.prog leapfrogref11x_Lists.ctx leapfrogref11x_Lists.an Tryz.f45 [a0, a1] s = leapfrogref11x_Lists.t S a0 a1 s := by kernel_rfl
theorem leapfrogref11x_Lists.cok : CtxOk Tryz.prog leapfrogref11x_Lists.ctx := .cons leapfrogref11x_Check.sound leapfrogref11x_Check.can <| .cons leapfrogref01x_Prefixes.sound leapfrogref01x_Prefixes.can <| .cons leapfrogref11x_with.sound leapfrogref11x_with.can <| .nil
theorem leapfrogref11x_Lists.draws : fnDraws leapfrogref11x_Lists.an Tryz.f45 = true := by kernel_rfl
theorem leapfrogref11x_Lists.can : callOk Tryz.prog 45 = true := by kernel_rfl
theorem leapfrogref11x_Lists.sound : FnOk Tryz.prog 45 (.st leapfrogref11x_Lists.w) := FnOk.st_of (evF_ok leapfrogref11x_Lists.cok mixed (f := 45) (fn := Tryz.f45) (by kernel_rfl) leapfrogref11x_Lists.draws) fun args s r h => by
  unfold leapfrogref11x_Lists.w at h; split at h
  · rw [leapfrogref11x_Lists.ok std]; exact h
  · simp at h

/-! ### leapfrog/leapfrogref09.Head: function 88 -/
def leapfrogref09x_Head.ctx : Ctx := []
def leapfrogref09x_Head.t (S : Sig) (a0 : Value) (s : St) : Option Value :=
  S.bd (bx (Go.Value.agg #[(Go.Value.int Go.IntKind.i64 0), (Go.Value.int Go.IntKind.i64 0), (Go.Value.int Go.IntKind.u64 0), (Go.Value.int Go.IntKind.i64 0), (Go.Value.int Go.IntKind.u64 0)])) fun c1 => S.bd (bin .lss a0 (Go.Value.int Go.IntKind.i64 0)) fun x2 => S.bd (S.gd x2 false (some a0)) fun x3 => S.bd (S.gd x2 false (bin .gtr x3 (Go.Value.int Go.IntKind.i64 32))) fun x4 => S.bd (pik x2 (Go.Value.bool Bool.true) x4) fun x5 => S.cnd x5 (S.bd (bld [(Go.Value.int Go.IntKind.i64 0), (Go.Value.int Go.IntKind.i64 0), (Go.Value.int Go.IntKind.u64 0), (Go.Value.int Go.IntKind.i64 0), (Go.Value.int Go.IntKind.u64 0)] []) fun x6 => S.bd (stl c1 0 5 x6) fun c7 => S.bd (lal c7 0 5) fun x8 => some ((Value.tuple ⟨[x8, (Go.Value.int Go.IntKind.i64 90)]⟩))) (S.bd (bld [(Go.Value.int Go.IntKind.i64 0), (Go.Value.int Go.IntKind.u64 0)] [(0, 1, (Go.Value.int Go.IntKind.i64 1))]) fun x9 => S.bd (bld [(Go.Value.int Go.IntKind.i64 0), (Go.Value.int Go.IntKind.u64 0)] [(0, 1, a0)]) fun x10 => S.bd (bld [(Go.Value.int Go.IntKind.i64 0), (Go.Value.int Go.IntKind.i64 0), (Go.Value.int Go.IntKind.u64 0), (Go.Value.int Go.IntKind.i64 0), (Go.Value.int Go.IntKind.u64 0)] [(0, 1, (Go.Value.int Go.IntKind.i64 0)), (1, 2, x9), (3, 2, x10)]) fun x11 => S.bd (stl c1 0 5 x11) fun c12 => S.bd (lal c12 0 5) fun x13 => some ((Value.tuple ⟨[x13, (Go.Value.int Go.IntKind.i64 0)]⟩)))
def leapfrogref09x_Head.r (a0 : Value) (s : St) : Option Value := leapfrogref09x_Head.t std a0 s
def leapfrogref09x_Head.w : List Value → St → Option Value
  | [a0], s => leapfrogref09x_Head.r a0 s
  | _, _ => none
def leapfrogref09x_Head.an : An := ⟨15, true, [2], [], [], []⟩
theorem leapfrogref09x_Head.ok (S : Sig) (a0 : Value) (s : St) : evG S Tryz.prog leapfrogref09x_Head.ctx leapfrogref09x_Head.an Tryz.f88 [a0] s = leapfrogref09x_Head.t S a0 s := by kernel_rfl
theorem leapfrogref09x_Head.cok : CtxOk Tryz.prog leapfrogref09x_Head.ctx := .nil
theorem leapfrogref09x_Head.draws : fnDraws leapfrogref09x_Head.an Tryz.f88 = true := by kernel_rfl
theorem leapfrogref09x_Head.can : callOk Tryz.prog 88 = true := by kernel_rfl
theorem leapfrogref09x_Head.sound : FnOk Tryz.prog 88 (.rd leapfrogref09x_Head.w) := FnOk.rd_of (evG_ok leapfrogref09x_Head.cok mixed (f := 88) (fn := Tryz.f88) (by kernel_rfl) leapfrogref09x_Head.draws) fun args s r h => by
  unfold leapfrogref09x_Head.w at h; split at h
  · rw [leapfrogref09x_Head.ok std]; exact h
  · simp at h

/-! ### leapfrog/leapfrogref09.Tail: function 89 -/
def leapfrogref09x_Tail.ctx : Ctx := []
def leapfrogref09x_Tail.t (S : Sig) (a0 : Value) (s : St) : Option Value :=
  S.bd (bx (Go.Value.agg #[(Go.Value.int Go.IntKind.i64 0), (Go.Value.int Go.IntKind.i64 0), (Go.Value.int Go.IntKind.u64 0), (Go.Value.int Go.IntKind.i64 0), (Go.Value.int Go.IntKind.u64 0)])) fun c1 => S.bd (bin .lss a0 (Go.Value.int Go.IntKind.i64 0)) fun x2 => S.bd (S.gd x2 false (some a0)) fun x3 => S.bd (S.gd x2 false (bin .gtr x3 (Go.Value.int Go.IntKind.i64 32))) fun x4 => S.bd (pik x2 (Go.Value.bool Bool.true) x4) fun x5 => S.cnd x5 (S.bd (bld [(Go.Value.int Go.IntKind.i64 0), (Go.Value.int Go.IntKind.i64 0), (Go.Value.int Go.IntKind.u64 0), (Go.Value.int Go.IntKind.i64 0), (Go.Value.int Go.IntKind.u64 0)] []) fun x6 => S.bd (stl c1 0 5 x6) fun c7 => S.bd (lal c7 0 5) fun x8 => some ((Value.tuple ⟨[x8, (Go.Value.int Go.IntKind.i64 90)]⟩))) (S.bd (bld [(Go.Value.int Go.IntKind.i64 0), (Go.Value.int Go.IntKind.u64 0)] [(0, 1, (Go.Value.int Go.IntKind.i64 3))]) fun x9 => S.bd (bld [(Go.Value.int Go.IntKind.i64 0), (Go.Value.int Go.IntKind.u64 0)] [(0, 1, a0)]) fun x10 => S.bd (bld [(Go.Value.int Go.IntKind.i64 0), (Go.Value.int Go.IntKind.i64 0), (Go.Value.int Go.IntKind.u64 0), (Go.Value.int Go.IntKind.i64 0), (Go.Value.int Go.IntKind.u64 0)] [(0, 1, (Go.Value.int Go.IntKind.i64 1)), (1, 2, x9), (3, 2, x10)]) fun x11 => S.bd (stl c1 0 5 x11) fun c12 => S.bd (lal c12 0 5) fun x13 => some ((Value.tuple ⟨[x13, (Go.Value.int Go.IntKind.i64 0)]⟩)))
def leapfrogref09x_Tail.r (a0 : Value) (s : St) : Option Value := leapfrogref09x_Tail.t std a0 s
def leapfrogref09x_Tail.w : List Value → St → Option Value
  | [a0], s => leapfrogref09x_Tail.r a0 s
  | _, _ => none
def leapfrogref09x_Tail.an : An := ⟨15, true, [2], [], [], []⟩
theorem leapfrogref09x_Tail.ok (S : Sig) (a0 : Value) (s : St) : evG S Tryz.prog leapfrogref09x_Tail.ctx leapfrogref09x_Tail.an Tryz.f89 [a0] s = leapfrogref09x_Tail.t S a0 s := by kernel_rfl
theorem leapfrogref09x_Tail.cok : CtxOk Tryz.prog leapfrogref09x_Tail.ctx := .nil
theorem leapfrogref09x_Tail.draws : fnDraws leapfrogref09x_Tail.an Tryz.f89 = true := by kernel_rfl
theorem leapfrogref09x_Tail.can : callOk Tryz.prog 89 = true := by kernel_rfl
theorem leapfrogref09x_Tail.sound : FnOk Tryz.prog 89 (.rd leapfrogref09x_Tail.w) := FnOk.rd_of (evG_ok leapfrogref09x_Tail.cok mixed (f := 89) (fn := Tryz.f89) (by kernel_rfl) leapfrogref09x_Tail.draws) fun args s r h => by
  unfold leapfrogref09x_Tail.w at h; split at h
  · rw [leapfrogref09x_Tail.ok std]; exact h
  · simp at h

/-! ### leapfrog/leapfrogref11.Row: function 66 -/
def leapfrogref11x_Row.ctx : Ctx := [(88, .rd leapfrogref09x_Head.w), (89, .rd leapfrogref09x_Tail.w), (87, .st leapfrogref11x_members.w)]
def leapfrogref11x_Row.t.p1 (S : Sig) (x8 : Value) (c6 : List Value) (c1 : List Value) (s : St) (a2 : Value) : Option (Value × St) :=
  S.bd (bx (Go.Value.agg #[(Go.Value.int Go.IntKind.i64 0), (Go.Value.int Go.IntKind.i64 0), (Go.Value.int Go.IntKind.u64 0), (Go.Value.int Go.IntKind.i64 0), (Go.Value.int Go.IntKind.u64 0)])) fun c10 => S.bd (stl c10 0 5 x8) fun c11 => S.bd (lal c6 0 5) fun x12 => S.bd (lal c1 0 2) fun x13 => S.bd (lal c11 0 5) fun x14 => S.bd (S.bd (bls 5 (List.replicate 1 [(Go.Value.int Go.IntKind.i64 0), (Go.Value.int Go.IntKind.i64 0), (Go.Value.int Go.IntKind.u64 0), (Go.Value.int Go.IntKind.i64 0), (Go.Value.int Go.IntKind.u64 0)]) [(0, x12)]) fun rows => als s 5 1 rows) fun _ => S.bd (S.bd (bls 5 (List.replicate 1 [(Go.Value.int Go.IntKind.i64 0), (Go.Value.int Go.IntKind.i64 0), (Go.Value.int Go.IntKind.u64 0), (Go.Value.int Go.IntKind.i64 0), (Go.Value.int Go.IntKind.u64 0)]) [(0, x14)]) fun rows => als s 5 1 rows) fun _ => S.bd (leapfrogref11x_members.v x13 a2 s) fun r15 => S.bd (S.bd (bls 5 (List.replicate 1 [(Go.Value.int Go.IntKind.i64 0), (Go.Value.int Go.IntKind.i64 0), (Go.Value.int Go.IntKind.u64 0), (Go.Value.int Go.IntKind.i64 0), (Go.Value.int Go.IntKind.u64 0)]) [(0, x14)]) fun rows => als r15.2 5 1 rows) fun _ => S.bd (S.bd (bls 5 (List.replicate 1 [(Go.Value.int Go.IntKind.i64 0), (Go.Value.int Go.IntKind.i64 0), (Go.Value.int Go.IntKind.u64 0), (Go.Value.int Go.IntKind.i64 0), (Go.Value.int Go.IntKind.u64 0)]) [(0, x12)]) fun rows => als r15.2 5 1 rows) fun r16 => S.bd (S.bd (bls 5 (List.replicate 1 [(Go.Value.int Go.IntKind.i64 0), (Go.Value.int Go.IntKind.i64 0), (Go.Value.int Go.IntKind.u64 0), (Go.Value.int Go.IntKind.i64 0), (Go.Value.int Go.IntKind.u64 0)]) [(0, x14)]) fun rows => als r16.2 5 1 rows) fun _ => S.bd (app r16.2 5 40 r16.1 r15.1) fun r17 => S.bd (S.bd (bls 5 (List.replicate 1 [(Go.Value.int Go.IntKind.i64 0), (Go.Value.int Go.IntKind.i64 0), (Go.Value.int Go.IntKind.u64 0), (Go.Value.int Go.IntKind.i64 0), (Go.Value.int Go.IntKind.u64 0)]) [(0, x14)]) fun rows => als r17.2 5 1 rows) fun r18 => S.bd (app r18.2 5 40 r17.1 r18.1) fun r19 => some (r19.1, r19.2)

def leapfrogref11x_Row.t (S : Sig) (a0 a1 a2 : Value) (s : St) : Option (Value × St) :=
  S.bd (bx a1) fun c1 => S.bd (leapfrogref09x_Head.r a0 s) fun x2 => S.bd (xtr 0 x2) fun x3 => S.bd (xtr 1 x2) fun x4 => S.bd (bx (Go.Value.agg #[(Go.Value.int Go.IntKind.i64 0), (Go.Value.int Go.IntKind.i64 0), (Go.Value.int Go.IntKind.u64 0), (Go.Value.int Go.IntKind.i64 0), (Go.Value.int Go.IntKind.u64 0)])) fun c5 => S.bd (stl c5 0 5 x3) fun c6 => S.bd (leapfrogref09x_Tail.r a0 s) fun x7 => S.bd (xtr 0 x7) fun x8 => S.bd (xtr 1 x7) fun x9 => leapfrogref11x_Row.t.p1 S x8 c6 c1 s a2
def leapfrogref11x_Row.v (a0 a1 a2 : Value) (s : St) : Option (Value × St) := leapfrogref11x_Row.t std a0 a1 a2 s
def leapfrogref11x_Row.w : List Value → St → Option (Value × St)
  | [a0, a1, a2], s => leapfrogref11x_Row.v a0 a1 a2 s
  | _, _ => none
def leapfrogref11x_Row.an : An := ⟨30, false, [4, 7, 9], [], [], [(3, [(0, 57, [], []), (2, 33, [], []), (3, 0, [], []), (6, 73, [], []), (4, 4, [], [1, 7]), (1, 3, [], [7]), (5, 4, [], [7]), (7, 3, [], []), (8, 4, [], []), (9, 0, [], [])])]⟩
theorem leapfrogref11x_Row.ok (S : Sig) (a0 a1 a2 : Value) (s : St) : evF S Tryz.prog leapfrogref11x_Row.ctx leapfrogref11x_Row.an Tryz.f66 [a0, a1, a2] s = leapfrogref11x_Row.t S a0 a1 a2 s := by kernel_rfl
theorem leapfrogref11x_Row.cok : CtxOk Tryz.prog leapfrogref11x_Row.ctx := .cons leapfrogref09x_Head.sound leapfrogref09x_Head.can <| .cons leapfrogref09x_Tail.sound leapfrogref09x_Tail.can <| .cons leapfrogref11x_members.sound leapfrogref11x_members.can <| .nil
theorem leapfrogref11x_Row.draws : fnDraws leapfrogref11x_Row.an Tryz.f66 = true := by kernel_rfl
theorem leapfrogref11x_Row.can : callOk Tryz.prog 66 = true := by kernel_rfl
theorem leapfrogref11x_Row.sound : FnOk Tryz.prog 66 (.st leapfrogref11x_Row.w) := FnOk.st_of (evF_ok leapfrogref11x_Row.cok mixed (f := 66) (fn := Tryz.f66) (by kernel_rfl) leapfrogref11x_Row.draws) fun args s r h => by
  unfold leapfrogref11x_Row.w at h; split at h
  · rw [leapfrogref11x_Row.ok std]; exact h
  · simp at h

/-! ### leapfrog/leapfrogref11.beside: function 67 -/
def leapfrogref11x_beside.ctx : Ctx := []
def leapfrogref11x_beside.l2.p1 (S : Sig) (xs42 : List Value) (s43 : St) : Option Cut :=
  S.bd (bx (Go.Value.agg #[(Go.Value.int Go.IntKind.i64 0), (Go.Value.int Go.IntKind.i64 0), (Go.Value.int Go.IntKind.u64 0), (Go.Value.int Go.IntKind.i64 0), (Go.Value.int Go.IntKind.u64 0)])) fun c52 => S.bd (bx (Go.Value.agg #[(Go.Value.int Go.IntKind.i64 0), (Go.Value.int Go.IntKind.i64 0), (Go.Value.int Go.IntKind.u64 0), (Go.Value.int Go.IntKind.i64 0), (Go.Value.int Go.IntKind.u64 0)])) fun c53 => S.bd (show Option Cut from S.bd (bin .gtr (xs42.getD 2 undef) (Go.Value.int Go.IntKind.i64 0)) fun x54 => S.cnd x54 (S.bd (bin .sub (xs42.getD 2 undef) (Go.Value.int Go.IntKind.i64 1)) fun x55 => S.bd (idx s43 5 (xs42.getD 0 undef) x55) fun x56 => S.bd (lda s43 5 x56) fun x57 => S.bd (stl c52 0 5 x57) fun c58 => some (0, [(xs42.getD 0 undef), (xs42.getD 2 undef), (Value.agg ⟨(cellsA (xs42.getD 3 undef))⟩), (Value.agg ⟨(cellsA (xs42.getD 4 undef))⟩), (Value.agg ⟨c58⟩), (Value.agg ⟨c53⟩)], s43)) (some (0, [(xs42.getD 0 undef), (xs42.getD 2 undef), (Value.agg ⟨(cellsA (xs42.getD 3 undef))⟩), (Value.agg ⟨(cellsA (xs42.getD 4 undef))⟩), (Value.agg ⟨c52⟩), (Value.agg ⟨c53⟩)], s43))) fun r59 => S.bd (show Option Cut from S.bd (bin .add (r59.2.1.getD 1 undef) (Go.Value.int Go.IntKind.i64 1)) fun x60 => S.bd (lenL (r59.2.1.getD 0 undef)) fun x61 => S.bd (bin .lss x60 x61) fun x62 => S.cnd x62 (S.bd (bin .add (r59.2.1.getD 1 undef) (Go.Value.int Go.IntKind.i64 1)) fun x63 => S.bd (idx r59.2.2 5 (r59.2.1.getD 0 undef) x63) fun x64 => S.bd (lda r59.2.2 5 x64) fun x65 => S.bd (stl (cellsA (r59.2.1.getD 5 undef)) 0 5 x65) fun c66 => some (0, [(Value.agg ⟨(cellsA (r59.2.1.getD 2 undef))⟩), (Value.agg ⟨(cellsA (r59.2.1.getD 3 undef))⟩), (Value.agg ⟨(cellsA (r59.2.1.getD 4 undef))⟩), (Value.agg ⟨c66⟩)], r59.2.2)) (some (0, [(Value.agg ⟨(cellsA (r59.2.1.getD 2 undef))⟩), (Value.agg ⟨(cellsA (r59.2.1.getD 3 undef))⟩), (Value.agg ⟨(cellsA (r59.2.1.getD 4 undef))⟩), (Value.agg ⟨(cellsA (r59.2.1.getD 5 undef))⟩)], r59.2.2))) fun r67 => S.bd (lal (cellsA (r67.2.1.getD 2 undef)) 0 5) fun x68 => S.bd (lal (cellsA (r67.2.1.getD 3 undef)) 0 5) fun x69 => S.bd (stl (cellsA (r67.2.1.getD 0 undef)) 0 5 x68) fun c70 => S.bd (stl (cellsA (r67.2.1.getD 1 undef)) 0 5 x69) fun c71 => some (1, [(Go.Value.bool Bool.true), (Value.agg ⟨c70⟩), (Value.agg ⟨c71⟩)], r67.2.2)

def leapfrogref11x_beside.l2 (S : Sig) (rec44 : List Value → St → Option Cut) (xs42 : List Value) (s43 : St) : Option Cut :=
  S.bd (lenL (xs42.getD 0 undef)) fun x45 => S.bd (bin .lss (xs42.getD 2 undef) x45) fun x46 => S.cnd x46 (S.bd (idx s43 5 (xs42.getD 0 undef) (xs42.getD 2 undef)) fun x47 => S.bd (fld 0 x47) fun x48 => S.bd (ldc s43 x48) fun x49 => S.bd (eqb [1] false true x49 (xs42.getD 1 undef)) fun x50 => S.cnd x50 (S.bd (bin .add (xs42.getD 2 undef) (Go.Value.int Go.IntKind.i64 1)) fun x51 => rec44 [(xs42.getD 0 undef), (xs42.getD 1 undef), x51, (Value.agg ⟨(cellsA (xs42.getD 3 undef))⟩), (Value.agg ⟨(cellsA (xs42.getD 4 undef))⟩)] s43) (leapfrogref11x_beside.l2.p1 S xs42 s43)) (some (0, [(Value.agg ⟨(cellsA (xs42.getD 3 undef))⟩), (Value.agg ⟨(cellsA (xs42.getD 4 undef))⟩)], s43))

def leapfrogref11x_beside.t (S : Sig) (a0 a1 : Value) (s : St) : Option Value :=
  S.bd (bx (Go.Value.agg #[(Go.Value.int Go.IntKind.i64 0), (Go.Value.int Go.IntKind.i64 0), (Go.Value.int Go.IntKind.u64 0), (Go.Value.int Go.IntKind.i64 0), (Go.Value.int Go.IntKind.u64 0)])) fun c1 => S.bd (bx (Go.Value.agg #[(Go.Value.int Go.IntKind.i64 0), (Go.Value.int Go.IntKind.i64 0), (Go.Value.int Go.IntKind.u64 0), (Go.Value.int Go.IntKind.i64 0), (Go.Value.int Go.IntKind.u64 0)])) fun c2 => S.bd (S.it (leapfrogref11x_beside.l2 S) [a0, a1, (Go.Value.int Go.IntKind.i64 0), (Value.agg ⟨c1⟩), (Value.agg ⟨c2⟩)] s) fun r72 => if r72.1 = 0 then (S.bd (bld [(Go.Value.int Go.IntKind.i64 0), (Go.Value.int Go.IntKind.i64 0), (Go.Value.int Go.IntKind.u64 0), (Go.Value.int Go.IntKind.i64 0), (Go.Value.int Go.IntKind.u64 0)] []) fun x75 => S.bd (bld [(Go.Value.int Go.IntKind.i64 0), (Go.Value.int Go.IntKind.i64 0), (Go.Value.int Go.IntKind.u64 0), (Go.Value.int Go.IntKind.i64 0), (Go.Value.int Go.IntKind.u64 0)] []) fun x76 => S.bd (stl (cellsA (r72.2.1.getD 0 undef)) 0 5 x75) fun c77 => S.bd (stl (cellsA (r72.2.1.getD 1 undef)) 0 5 x76) fun c78 => S.bd (lal c77 0 5) fun x79 => S.bd (lal c78 0 5) fun x80 => some ((Value.tuple ⟨[x79, x80, (Go.Value.bool Bool.false)]⟩))) else (S.bd (lal (cellsA (r72.2.1.getD 1 undef)) 0 5) fun x73 => S.bd (lal (cellsA (r72.2.1.getD 2 undef)) 0 5) fun x74 => some ((Value.tuple ⟨[x73, x74, (r72.2.1.getD 0 undef)]⟩)))
def leapfrogref11x_beside.r (a0 a1 : Value) (s : St) : Option Value := leapfrogref11x_beside.t std a0 a1 s
def leapfrogref11x_beside.w : List Value → St → Option Value
  | [a0, a1], s => leapfrogref11x_beside.r a0 a1 s
  | _, _ => none
def leapfrogref11x_beside.an : An := ⟨44, true, [4, 5, 8, 9], [(2, ⟨[.v 0, .v 1, .p 4 4 0, .p 5 5 0, .v 7, .l 4, .l 5], [(.exit 0, [.p 4 4 0, .p 5 5 0, .l 4, .l 5]), (.ret, [.p 4 4 0, .p 5 5 0, .v 6, .l 4, .l 5])]⟩)], [(8, ⟨[], [(.normal, [.v 0, .p 4 4 0, .p 5 5 0, .v 7, .p 8 8 0, .p 9 9 0, .l 4, .l 5, .l 8, .l 9])]⟩), (10, ⟨[], [(.normal, [.p 4 4 0, .p 5 5 0, .p 8 8 0, .p 9 9 0, .l 4, .l 5, .l 8, .l 9])]⟩)], [(10, [(0, 65, [], []), (1, 73, [], []), (2, 37, [], []), (3, 45, [], []), (4, 0, [], [])])]⟩
theorem leapfrogref11x_beside.ok (S : Sig) (a0 a1 : Value) (s : St) : evG S Tryz.prog leapfrogref11x_beside.ctx leapfrogref11x_beside.an Tryz.f67 [a0, a1] s = leapfrogref11x_beside.t S a0 a1 s := by kernel_rfl
theorem leapfrogref11x_beside.cok : CtxOk Tryz.prog leapfrogref11x_beside.ctx := .nil
theorem leapfrogref11x_beside.draws : fnDraws leapfrogref11x_beside.an Tryz.f67 = true := by kernel_rfl
theorem leapfrogref11x_beside.can : callOk Tryz.prog 67 = true := by kernel_rfl
theorem leapfrogref11x_beside.sound : FnOk Tryz.prog 67 (.rd leapfrogref11x_beside.w) := FnOk.rd_of (evG_ok leapfrogref11x_beside.cok mixed (f := 67) (fn := Tryz.f67) (by kernel_rfl) leapfrogref11x_beside.draws) fun args s r h => by
  unfold leapfrogref11x_beside.w at h; split at h
  · rw [leapfrogref11x_beside.ok std]; exact h
  · simp at h

/-! ### leapfrog/leapfrogref11.one: function 46 -/
def leapfrogref11x_one.ctx : Ctx := [(66, .st leapfrogref11x_Row.w), (67, .rd leapfrogref11x_beside.w)]
def leapfrogref11x_one.l8.p1 (S : Sig) (xs93 : List Value) (r101 : Value × St) (c108 : List Value) (c109 : List Value) (rec95 : List Value → St → Option Cut) : Option Cut :=
  S.bd (lcl (cellsA (xs93.getD 6 undef)) 8) fun x110 => S.bd (idx r101.2 3 (xs93.getD 3 undef) (xs93.getD 4 undef)) fun x111 => S.bd (fld 0 x111) fun x112 => S.bd (lda r101.2 2 x112) fun x113 => S.bd (lal c108 0 5) fun x114 => S.bd (lal c109 0 5) fun x115 => S.bd (bld [(Go.Value.int Go.IntKind.i64 0), (Go.Value.int Go.IntKind.u64 0), (Go.Value.int Go.IntKind.i64 0), (Go.Value.int Go.IntKind.i64 0), (Go.Value.int Go.IntKind.u64 0), (Go.Value.int Go.IntKind.i64 0), (Go.Value.int Go.IntKind.u64 0), (Go.Value.int Go.IntKind.i64 0), (Go.Value.int Go.IntKind.i64 0), (Go.Value.int Go.IntKind.u64 0), (Go.Value.int Go.IntKind.i64 0), (Go.Value.int Go.IntKind.u64 0), (Go.Value.bool Bool.false), (Go.Value.int Go.IntKind.i64 0), (Go.Value.int Go.IntKind.i64 0), (Go.Value.slice Option.none 0 0)] [(0, 2, x113), (2, 5, x114), (7, 5, x115)]) fun x116 => S.bd (S.bd (bls 16 (List.replicate 1 [(Go.Value.int Go.IntKind.i64 0), (Go.Value.int Go.IntKind.u64 0), (Go.Value.int Go.IntKind.i64 0), (Go.Value.int Go.IntKind.i64 0), (Go.Value.int Go.IntKind.u64 0), (Go.Value.int Go.IntKind.i64 0), (Go.Value.int Go.IntKind.u64 0), (Go.Value.int Go.IntKind.i64 0), (Go.Value.int Go.IntKind.i64 0), (Go.Value.int Go.IntKind.u64 0), (Go.Value.int Go.IntKind.i64 0), (Go.Value.int Go.IntKind.u64 0), (Go.Value.bool Bool.false), (Go.Value.int Go.IntKind.i64 0), (Go.Value.int Go.IntKind.i64 0), (Go.Value.slice Option.none 0 0)]) [(0, x116)]) fun rows => als r101.2 16 1 rows) fun r117 => S.bd (app r117.2 16 144 x110 r117.1) fun r118 => S.bd (idx r118.2 3 (xs93.getD 3 undef) (xs93.getD 4 undef)) fun x119 => S.cnd (Value.bool (sameV x119 x111)) (S.bd (lda r118.2 2 x112) fun x120 => S.cnd (Value.bool (sameV x120 x113)) (S.bd (stl (cellsA (xs93.getD 6 undef)) 8 1 r118.1) fun c121 => S.bd (bin .add (xs93.getD 4 undef) (Go.Value.int Go.IntKind.i64 1)) fun x122 => rec95 [(xs93.getD 0 undef), (xs93.getD 1 undef), (xs93.getD 2 undef), (xs93.getD 3 undef), x122, (Value.agg ⟨(cellsA (xs93.getD 5 undef))⟩), (Value.agg ⟨c121⟩)] r118.2) (none)) (none)

def leapfrogref11x_one.l8 (S : Sig) (rec95 : List Value → St → Option Cut) (xs93 : List Value) (s94 : St) : Option Cut :=
  S.bd (lenL (xs93.getD 3 undef)) fun x96 => S.bd (bin .lss (xs93.getD 4 undef) x96) fun x97 => S.cnd x97 (S.bd (idx s94 3 (xs93.getD 3 undef) (xs93.getD 4 undef)) fun x98 => S.bd (fld 0 x98) fun x99 => S.bd (lda s94 2 x99) fun x100 => S.bd (leapfrogref11x_Row.v (xs93.getD 0 undef) x100 (xs93.getD 2 undef) s94) fun r101 => S.bd (leapfrogref11x_beside.r r101.1 (xs93.getD 1 undef) r101.2) fun x102 => S.bd (xtr 0 x102) fun x103 => S.bd (xtr 1 x102) fun x104 => S.bd (xtr 2 x102) fun x105 => S.bd (bx (Go.Value.agg #[(Go.Value.int Go.IntKind.i64 0), (Go.Value.int Go.IntKind.i64 0), (Go.Value.int Go.IntKind.u64 0), (Go.Value.int Go.IntKind.i64 0), (Go.Value.int Go.IntKind.u64 0)])) fun c106 => S.bd (bx (Go.Value.agg #[(Go.Value.int Go.IntKind.i64 0), (Go.Value.int Go.IntKind.i64 0), (Go.Value.int Go.IntKind.u64 0), (Go.Value.int Go.IntKind.i64 0), (Go.Value.int Go.IntKind.u64 0)])) fun c107 => S.bd (stl c106 0 5 x103) fun c108 => S.bd (stl c107 0 5 x104) fun c109 => S.cnd x105 (leapfrogref11x_one.l8.p1 S xs93 r101 c108 c109 rec95) (S.bd (bin .add (xs93.getD 4 undef) (Go.Value.int Go.IntKind.i64 1)) fun x123 => rec95 [(xs93.getD 0 undef), (xs93.getD 1 undef), (xs93.getD 2 undef), (xs93.getD 3 undef), x123, (Value.agg ⟨(cellsA (xs93.getD 5 undef))⟩), (Value.agg ⟨(cellsA (xs93.getD 6 undef))⟩)] r101.2)) (some (0, [(Value.agg ⟨(cellsA (xs93.getD 5 undef))⟩), (Value.agg ⟨(cellsA (xs93.getD 6 undef))⟩)], s94))

def leapfrogref11x_one.l3 (S : Sig) (rec80 : List Value → St → Option Cut) (xs78 : List Value) (s79 : St) : Option Cut :=
  S.bd (lenL (xs78.getD 4 undef)) fun x81 => S.bd (bin .lss (xs78.getD 5 undef) x81) fun x82 => S.cnd x82 (S.bd (idx s79 5 (xs78.getD 4 undef) (xs78.getD 5 undef)) fun x83 => S.bd (fld 0 x83) fun x84 => S.bd (ldc s79 x84) fun x85 => S.bd (eqb [1] false true x85 (xs78.getD 1 undef)) fun x86 => S.cnd x86 (S.bd (bin .add (xs78.getD 5 undef) (Go.Value.int Go.IntKind.i64 1)) fun x87 => rec80 [(xs78.getD 0 undef), (xs78.getD 1 undef), (xs78.getD 2 undef), (xs78.getD 3 undef), (xs78.getD 4 undef), x87, (Value.agg ⟨(cellsA (xs78.getD 6 undef))⟩)] s79) (S.bd (idx s79 5 (xs78.getD 4 undef) (xs78.getD 5 undef)) fun x88 => S.bd (lda s79 5 x88) fun x89 => S.bd (bld [(Go.Value.int Go.IntKind.i64 0), (Go.Value.int Go.IntKind.i64 0), (Go.Value.int Go.IntKind.u64 0), (Go.Value.int Go.IntKind.i64 0), (Go.Value.int Go.IntKind.u64 0), (Go.Value.slice Option.none 0 0), (Go.Value.bool Bool.false), (Go.Value.bool Bool.false), (Go.Value.slice Option.none 0 0)] [(0, 5, x89), (6, 1, (Go.Value.bool Bool.true))]) fun x90 => S.bd (bx (Go.Value.agg #[(Go.Value.int Go.IntKind.i64 0), (Go.Value.int Go.IntKind.i64 0), (Go.Value.int Go.IntKind.u64 0), (Go.Value.int Go.IntKind.i64 0), (Go.Value.int Go.IntKind.u64 0), (Go.Value.slice Option.none 0 0), (Go.Value.bool Bool.false), (Go.Value.bool Bool.false), (Go.Value.slice Option.none 0 0)])) fun c91 => S.bd (stl c91 0 9 x90) fun c92 => S.bd (S.it (leapfrogref11x_one.l8 S) [(xs78.getD 0 undef), (xs78.getD 1 undef), (xs78.getD 2 undef), (xs78.getD 3 undef), (Go.Value.int Go.IntKind.i64 0), (Value.agg ⟨(cellsA (xs78.getD 6 undef))⟩), (Value.agg ⟨c92⟩)] s79) fun r124 => S.bd (lal (cellsA (r124.2.1.getD 1 undef)) 0 9) fun x125 => S.bd (stl (cellsA (r124.2.1.getD 0 undef)) 0 9 x125) fun c126 => some (1, [(Go.Value.bool Bool.true), (Value.agg ⟨c126⟩)], r124.2.2))) (some (0, [(Value.agg ⟨(cellsA (xs78.getD 6 undef))⟩)], s79))

def leapfrogref11x_one.t (S : Sig) (a0 a1 a2 a3 : Value) (s : St) : Option (Value × St) :=
  S.bd (bx (Go.Value.agg #[(Go.Value.int Go.IntKind.i64 0), (Go.Value.int Go.IntKind.i64 0), (Go.Value.int Go.IntKind.u64 0), (Go.Value.int Go.IntKind.i64 0), (Go.Value.int Go.IntKind.u64 0), (Go.Value.slice Option.none 0 0), (Go.Value.bool Bool.false), (Go.Value.bool Bool.false), (Go.Value.slice Option.none 0 0)])) fun c1 => S.bd (bld [(Go.Value.int Go.IntKind.i64 0), (Go.Value.int Go.IntKind.u64 0)] []) fun x2 => S.bd (leapfrogref11x_Row.v a0 x2 a2 s) fun r3 => S.bd (S.it (leapfrogref11x_one.l3 S) [a0, a1, a2, a3, r3.1, (Go.Value.int Go.IntKind.i64 0), (Value.agg ⟨c1⟩)] r3.2) fun r127 => if r127.1 = 0 then (S.bd (bld [(Go.Value.int Go.IntKind.i64 0), (Go.Value.int Go.IntKind.i64 0), (Go.Value.int Go.IntKind.u64 0), (Go.Value.int Go.IntKind.i64 0), (Go.Value.int Go.IntKind.u64 0), (Go.Value.slice Option.none 0 0), (Go.Value.bool Bool.false), (Go.Value.bool Bool.false), (Go.Value.slice Option.none 0 0)] []) fun x129 => S.bd (stl (cellsA (r127.2.1.getD 0 undef)) 0 9 x129) fun c130 => S.bd (lal c130 0 9) fun x131 => some ((Value.tuple ⟨[x131, (Go.Value.bool Bool.false)]⟩), r127.2.2)) else (S.bd (lal (cellsA (r127.2.1.getD 1 undef)) 0 9) fun x128 => some ((Value.tuple ⟨[x128, (r127.2.1.getD 0 undef)]⟩), r127.2.2))
def leapfrogref11x_one.v (a0 a1 a2 a3 : Value) (s : St) : Option (Value × St) := leapfrogref11x_one.t std a0 a1 a2 a3 s
def leapfrogref11x_one.w : List Value → St → Option (Value × St)
  | [a0, a1, a2, a3], s => leapfrogref11x_one.v a0 a1 a2 a3 s
  | _, _ => none
def leapfrogref11x_one.an : An := ⟨75, false, [8, 12, 14, 15], [(8, ⟨[.v 0, .v 1, .v 2, .v 3, .p 8 8 0, .p 12 12 0, .v 13, .l 8, .l 12], [(.exit 2, [.p 8 8 0, .p 12 12 0, .l 8, .l 12])]⟩), (3, ⟨[.v 0, .v 1, .v 2, .v 3, .p 8 8 0, .v 10, .v 11, .l 8], [(.exit 0, [.p 8 8 0, .l 8]), (.ret, [.p 8 8 0, .v 9, .l 8])]⟩)], [], [(12, [(0, 0, [], []), (1, 97, [], []), (2, 0, [], []), (3, 0, [], []), (4, 2, [], []), (5, 0, [], []), (6, 2, [], []), (7, 113, [], []), (8, 121, [], []), (9, 0, [], []), (10, 3, [], []), (11, 4, [4, 6], []), (12, 0, [], []), (13, 101, [], [])])]⟩
theorem leapfrogref11x_one.ok (S : Sig) (a0 a1 a2 a3 : Value) (s : St) : evF S Tryz.prog leapfrogref11x_one.ctx leapfrogref11x_one.an Tryz.f46 [a0, a1, a2, a3] s = leapfrogref11x_one.t S a0 a1 a2 a3 s := by kernel_rfl
theorem leapfrogref11x_one.cok : CtxOk Tryz.prog leapfrogref11x_one.ctx := .cons leapfrogref11x_Row.sound leapfrogref11x_Row.can <| .cons leapfrogref11x_beside.sound leapfrogref11x_beside.can <| .nil
theorem leapfrogref11x_one.draws : fnDraws leapfrogref11x_one.an Tryz.f46 = true := by kernel_rfl
theorem leapfrogref11x_one.can : callOk Tryz.prog 46 = true := by kernel_rfl
theorem leapfrogref11x_one.sound : FnOk Tryz.prog 46 (.st leapfrogref11x_one.w) := FnOk.st_of (evF_ok leapfrogref11x_one.cok mixed (f := 46) (fn := Tryz.f46) (by kernel_rfl) leapfrogref11x_one.draws) fun args s r h => by
  unfold leapfrogref11x_one.w at h; split at h
  · rw [leapfrogref11x_one.ok std]; exact h
  · simp at h

/-! ### leapfrog/leapfrogref11.one: function 46, its garbage dropped -/
def leapfrogref11x_oneD.v (a0 a1 a2 a3 : Value) (s : St) : Option (Value × St) := dropR (fun s => leapfrogref11x_one.v a0 a1 a2 a3 s) s
def leapfrogref11x_oneD.w : List Value → St → Option (Value × St) := fun args s => dropR (leapfrogref11x_one.w args) s
theorem leapfrogref11x_oneD.can : callOk Tryz.prog 46 = true := leapfrogref11x_one.can
theorem leapfrogref11x_oneD.sound : FnOk Tryz.prog 46 (.st leapfrogref11x_oneD.w) := FnOk.dropped leapfrogref11x_one.sound

/-! ### leapfrog/leapfrogref11.Records: function 31 -/
def leapfrogref11x_Records.ctx : Ctx := [(44, .rd leapfrogref11x_Check.w), (45, .st leapfrogref11x_Lists.w), (46, .st leapfrogref11x_oneD.w)]
def leapfrogref11x_Records.l6 (S : Sig) (rec19 : List Value → St → Option Cut) (xs17 : List Value) (s18 : St) : Option Cut :=
  S.bd (bin .lss (xs17.getD 4 undef) (Go.Value.int Go.IntKind.i64 1024)) fun x20 => S.cnd x20 (S.bd (leapfrogref11x_oneD.v (xs17.getD 0 undef) (xs17.getD 4 undef) (xs17.getD 1 undef) (xs17.getD 2 undef) s18) fun r21 => S.bd (xtr 0 r21.1) fun x22 => S.bd (xtr 1 r21.1) fun x23 => S.bd (bx (Go.Value.agg #[(Go.Value.int Go.IntKind.i64 0), (Go.Value.int Go.IntKind.i64 0), (Go.Value.int Go.IntKind.u64 0), (Go.Value.int Go.IntKind.i64 0), (Go.Value.int Go.IntKind.u64 0), (Go.Value.slice Option.none 0 0), (Go.Value.bool Bool.false), (Go.Value.bool Bool.false), (Go.Value.slice Option.none 0 0)])) fun c24 => S.bd (stl c24 0 9 x22) fun c25 => S.cnd x23 (S.bd (lal c25 0 9) fun x26 => S.bd (S.bd (bls 9 (List.replicate 1 [(Go.Value.int Go.IntKind.i64 0), (Go.Value.int Go.IntKind.i64 0), (Go.Value.int Go.IntKind.u64 0), (Go.Value.int Go.IntKind.i64 0), (Go.Value.int Go.IntKind.u64 0), (Go.Value.slice Option.none 0 0), (Go.Value.bool Bool.false), (Go.Value.bool Bool.false), (Go.Value.slice Option.none 0 0)]) [(0, x26)]) fun rows => als r21.2 9 1 rows) fun r27 => S.bd (app r27.2 9 96 (xs17.getD 3 undef) r27.1) fun r28 => S.bd (bin .add (xs17.getD 4 undef) (Go.Value.int Go.IntKind.i64 1)) fun x29 => rec19 [(xs17.getD 0 undef), (xs17.getD 1 undef), (xs17.getD 2 undef), r28.1, x29] r28.2) (S.bd (bin .add (xs17.getD 4 undef) (Go.Value.int Go.IntKind.i64 1)) fun x30 => rec19 [(xs17.getD 0 undef), (xs17.getD 1 undef), (xs17.getD 2 undef), (xs17.getD 3 undef), x30] r21.2)) (some (0, [(xs17.getD 3 undef)], s18))

def leapfrogref11x_Records.t (S : Sig) (a0 a1 : Value) (s : St) : Option (Value × St) :=
  S.bd (leapfrogref11x_Check.r a0 a1 s) fun x1 => S.bd (eqb [1] false true x1 (Go.Value.int Go.IntKind.i64 0)) fun x2 => S.cnd x2 (some ((Value.tuple ⟨[(Go.Value.slice Option.none 0 0), (Go.Value.int Go.IntKind.i64 110)]⟩), s)) (S.bd (leapfrogref11x_Lists.v a0 a1 s) fun r3 => S.bd (xtr 0 r3.1) fun x4 => S.bd (xtr 1 r3.1) fun x5 => S.bd (S.it (leapfrogref11x_Records.l6 S) [a0, a1, x4, (Go.Value.slice Option.none 0 0), (Go.Value.int Go.IntKind.i64 0)] r3.2) fun r31 => some ((Value.tuple ⟨[(r31.2.1.getD 0 undef), (Go.Value.int Go.IntKind.i64 0)]⟩), r31.2.2))
def leapfrogref11x_Records.v (a0 a1 : Value) (s : St) : Option (Value × St) := leapfrogref11x_Records.t std a0 a1 s
def leapfrogref11x_Records.w : List Value → St → Option (Value × St)
  | [a0, a1], s => leapfrogref11x_Records.v a0 a1 s
  | _, _ => none
def leapfrogref11x_Records.an : An := ⟨40, false, [10], [(6, ⟨[.v 0, .v 1, .v 6, .v 8, .v 9], [(.exit 0, [.v 8])]⟩)], [], []⟩
theorem leapfrogref11x_Records.ok (S : Sig) (a0 a1 : Value) (s : St) : evF S Tryz.prog leapfrogref11x_Records.ctx leapfrogref11x_Records.an Tryz.f31 [a0, a1] s = leapfrogref11x_Records.t S a0 a1 s := by kernel_rfl
theorem leapfrogref11x_Records.cok : CtxOk Tryz.prog leapfrogref11x_Records.ctx := .cons leapfrogref11x_Check.sound leapfrogref11x_Check.can <| .cons leapfrogref11x_Lists.sound leapfrogref11x_Lists.can <| .cons leapfrogref11x_oneD.sound leapfrogref11x_oneD.can <| .nil
theorem leapfrogref11x_Records.draws : fnDraws leapfrogref11x_Records.an Tryz.f31 = true := by kernel_rfl
theorem leapfrogref11x_Records.can : callOk Tryz.prog 31 = true := by kernel_rfl
theorem leapfrogref11x_Records.sound : FnOk Tryz.prog 31 (.st leapfrogref11x_Records.w) := FnOk.st_of (evF_ok leapfrogref11x_Records.cok mixed (f := 31) (fn := Tryz.f31) (by kernel_rfl) leapfrogref11x_Records.draws) fun args s r h => by
  unfold leapfrogref11x_Records.w at h; split at h
  · rw [leapfrogref11x_Records.ok std]; exact h
  · simp at h

/-! ### leapfrog/leapfrogref11.Records: function 31, at one input -/
def leapfrogref11x_RecordsX0.S0 : St := ⟨[], 0⟩
def leapfrogref11x_RecordsX0.A : List Value := [(.int .i64 0), (.slice none 0 0)]
def leapfrogref11x_RecordsX0.l6 (S : Sig) (rec19 : List Value → St → Option Cut) (xs17 : List Value) (s18 : St) : Option Cut :=
  S.bd (bin .lss (xs17.getD 4 undef) (Go.Value.int Go.IntKind.i64 8)) fun x20 => S.cnd x20 (S.bd (leapfrogref11x_oneD.v (xs17.getD 0 undef) (xs17.getD 4 undef) (xs17.getD 1 undef) (xs17.getD 2 undef) s18) fun r21 => S.bd (xtr 0 r21.1) fun x22 => S.bd (xtr 1 r21.1) fun x23 => S.bd (bx (Go.Value.agg #[(Go.Value.int Go.IntKind.i64 0), (Go.Value.int Go.IntKind.i64 0), (Go.Value.int Go.IntKind.u64 0), (Go.Value.int Go.IntKind.i64 0), (Go.Value.int Go.IntKind.u64 0), (Go.Value.slice Option.none 0 0), (Go.Value.bool Bool.false), (Go.Value.bool Bool.false), (Go.Value.slice Option.none 0 0)])) fun c24 => S.bd (stl c24 0 9 x22) fun c25 => S.cnd x23 (S.bd (lal c25 0 9) fun x26 => S.bd (S.bd (bls 9 (List.replicate 1 [(Go.Value.int Go.IntKind.i64 0), (Go.Value.int Go.IntKind.i64 0), (Go.Value.int Go.IntKind.u64 0), (Go.Value.int Go.IntKind.i64 0), (Go.Value.int Go.IntKind.u64 0), (Go.Value.slice Option.none 0 0), (Go.Value.bool Bool.false), (Go.Value.bool Bool.false), (Go.Value.slice Option.none 0 0)]) [(0, x26)]) fun rows => als r21.2 9 1 rows) fun r27 => S.bd (app r27.2 9 96 (xs17.getD 3 undef) r27.1) fun r28 => S.bd (bin .add (xs17.getD 4 undef) (Go.Value.int Go.IntKind.i64 1)) fun x29 => rec19 [(xs17.getD 0 undef), (xs17.getD 1 undef), (xs17.getD 2 undef), r28.1, x29] r28.2) (S.bd (bin .add (xs17.getD 4 undef) (Go.Value.int Go.IntKind.i64 1)) fun x30 => rec19 [(xs17.getD 0 undef), (xs17.getD 1 undef), (xs17.getD 2 undef), (xs17.getD 3 undef), x30] r21.2)) (some (0, [(xs17.getD 3 undef)], s18))
def leapfrogref11x_RecordsX0.t (S : Sig) (a0 a1 : Value) (s : St) : Option (Value × St) :=
  S.bd (leapfrogref11x_Check.r a0 a1 s) fun x1 => S.bd (eqb [1] false true x1 (Go.Value.int Go.IntKind.i64 0)) fun x2 => S.cnd x2 (some ((Value.tuple ⟨[(Go.Value.slice Option.none 0 0), (Go.Value.int Go.IntKind.i64 110)]⟩), s)) (S.bd (leapfrogref11x_Lists.v a0 a1 s) fun r3 => S.bd (xtr 0 r3.1) fun x4 => S.bd (xtr 1 r3.1) fun x5 => S.bd (S.it (leapfrogref11x_RecordsX0.l6 S) [a0, a1, x4, (Go.Value.slice Option.none 0 0), (Go.Value.int Go.IntKind.i64 0)] r3.2) fun r31 => some ((Value.tuple ⟨[(r31.2.1.getD 0 undef), (Go.Value.int Go.IntKind.i64 0)]⟩), r31.2.2))
def leapfrogref11x_RecordsX0.k (args : List Value) (s : St) : Option (Value × St) := leapfrogref11x_RecordsX0.t std (args.getD 0 undef) (args.getD 1 undef) s
def leapfrogref11x_RecordsX0.r3 : Option (Value × St) := leapfrogref11x_Lists.v (.int .i64 0) (.slice none 0 0) leapfrogref11x_RecordsX0.S0
def leapfrogref11x_RecordsX0.x4 : Value := (leapfrogref11x_RecordsX0.r3.bind fun r => xtr 0 r.1).getD undef
def leapfrogref11x_RecordsX0.s1 : St := (leapfrogref11x_RecordsX0.r3.map (·.2)).getD ⟨[], 0⟩
def leapfrogref11x_RecordsX0.xs0 : List Value := [(.int .i64 0), (.slice none 0 0), leapfrogref11x_RecordsX0.x4, (.slice none 0 0), (.int .i64 0)]
def leapfrogref11x_RecordsX0.cap : List Value → St → Option Cut := fun xs s => some (0, xs, s)
def leapfrogref11x_RecordsX0.c : Nat → Cut
  | 0 => (0, leapfrogref11x_RecordsX0.xs0, leapfrogref11x_RecordsX0.s1)
  | k + 1 => (leapfrogref11x_Records.l6 std leapfrogref11x_RecordsX0.cap (leapfrogref11x_RecordsX0.c k).2.1 (leapfrogref11x_RecordsX0.c k).2.2).getD (0, [], ⟨[], 0⟩)
def leapfrogref11x_RecordsX0.out : Value := (leapfrogref11x_RecordsX0.c 8).2.1.getD 3 undef
def leapfrogref11x_RecordsX0.sK : St := (leapfrogref11x_RecordsX0.c 8).2.2
def leapfrogref11x_RecordsX0.xs (j : Nat) : List Value := [(.int .i64 0), (.slice none 0 0), leapfrogref11x_RecordsX0.x4, leapfrogref11x_RecordsX0.out, (.int .i64 (Int.ofNat (j + 8)))]
theorem leapfrogref11x_RecordsX0.first (rec : List Value → St → Option Cut) : leapfrogref11x_Records.l6 std (leapfrogref11x_Records.l6 std (leapfrogref11x_Records.l6 std (leapfrogref11x_Records.l6 std (leapfrogref11x_Records.l6 std (leapfrogref11x_Records.l6 std (leapfrogref11x_Records.l6 std (leapfrogref11x_Records.l6 std rec))))))) leapfrogref11x_RecordsX0.xs0 leapfrogref11x_RecordsX0.s1 = rec (leapfrogref11x_RecordsX0.xs 0) leapfrogref11x_RecordsX0.sK := by kernel_rfl
theorem leapfrogref11x_RecordsX0.short : iter (leapfrogref11x_RecordsX0.l6 std) BIG leapfrogref11x_RecordsX0.xs0 leapfrogref11x_RecordsX0.s1 = some (0, [leapfrogref11x_RecordsX0.out], leapfrogref11x_RecordsX0.sK) := by kernel_rfl
theorem leapfrogref11x_RecordsX0.one (rec : List Value → St → Option Cut) (j : Nat) : leapfrogref11x_Records.l6 std rec (leapfrogref11x_RecordsX0.xs j) leapfrogref11x_RecordsX0.sK =
    (bin .lss (.int .i64 (Int.ofNat (j + 8))) (.int .i64 1024)).bind fun x => cnd x ((bin .add (.int .i64 (Int.ofNat (j + 8))) (.int .i64 1)).bind fun y => rec [(.int .i64 0), (.slice none 0 0), leapfrogref11x_RecordsX0.x4, leapfrogref11x_RecordsX0.out, y] leapfrogref11x_RecordsX0.sK) (some (0, [leapfrogref11x_RecordsX0.out], leapfrogref11x_RecordsX0.sK)) := by kernel_rfl
theorem leapfrogref11x_RecordsX0.step (rec : List Value → St → Option Cut) (j : Nat) (h : j < 1016) : leapfrogref11x_Records.l6 std rec (leapfrogref11x_RecordsX0.xs j) leapfrogref11x_RecordsX0.sK = rec (leapfrogref11x_RecordsX0.xs (j + 1)) leapfrogref11x_RecordsX0.sK := by
  rw [leapfrogref11x_RecordsX0.one, lss_i64 (by simp; omega), add_i64 (by simp; omega) (by simp; omega)]
  simp only [Option.bind_some, cnd, leapfrogref11x_RecordsX0.xs, show (Int.ofNat (j + 8) + 1 : Int) = Int.ofNat (j + 1 + 8) by simp; omega]
theorem leapfrogref11x_RecordsX0.last (rec : List Value → St → Option Cut) : leapfrogref11x_Records.l6 std rec (leapfrogref11x_RecordsX0.xs 1016) leapfrogref11x_RecordsX0.sK = some (0, [leapfrogref11x_RecordsX0.out], leapfrogref11x_RecordsX0.sK) := by kernel_rfl
theorem leapfrogref11x_RecordsX0.long : iter (leapfrogref11x_Records.l6 std) BIG leapfrogref11x_RecordsX0.xs0 leapfrogref11x_RecordsX0.s1 = some (0, [leapfrogref11x_RecordsX0.out], leapfrogref11x_RecordsX0.sK) := by
  have h := iter_count (f := leapfrogref11x_Records.l6 std) (xs := leapfrogref11x_RecordsX0.xs) (s := leapfrogref11x_RecordsX0.sK) leapfrogref11x_RecordsX0.step leapfrogref11x_RecordsX0.last 1016 0 4611686018427386879 rfl
  rw [show BIG = (4611686018427386879 + 1016 + 1) + 8 by decide, iter8]
  exact (leapfrogref11x_RecordsX0.first _).trans h
theorem leapfrogref11x_RecordsX0.way (it : {R : Type} → ((List Value → St → Option R) → List Value → St → Option R) → List Value → St → Option R) : leapfrogref11x_Records.t (stdIt it) (.int .i64 0) (.slice none 0 0) leapfrogref11x_RecordsX0.S0 =
    (it (leapfrogref11x_Records.l6 (stdIt it)) leapfrogref11x_RecordsX0.xs0 leapfrogref11x_RecordsX0.s1).bind fun r => some ((Value.tuple ⟨[(r.2.1.getD 0 undef), (Go.Value.int Go.IntKind.i64 0)]⟩), r.2.2) := by kernel_rfl
theorem leapfrogref11x_RecordsX0.way2 (it : {R : Type} → ((List Value → St → Option R) → List Value → St → Option R) → List Value → St → Option R) : leapfrogref11x_RecordsX0.t (stdIt it) (.int .i64 0) (.slice none 0 0) leapfrogref11x_RecordsX0.S0 =
    (it (leapfrogref11x_RecordsX0.l6 (stdIt it)) leapfrogref11x_RecordsX0.xs0 leapfrogref11x_RecordsX0.s1).bind fun r => some ((Value.tuple ⟨[(r.2.1.getD 0 undef), (Go.Value.int Go.IntKind.i64 0)]⟩), r.2.2) := by kernel_rfl
theorem leapfrogref11x_RecordsX0.lit : leapfrogref11x_Records.w leapfrogref11x_RecordsX0.A leapfrogref11x_RecordsX0.S0 = leapfrogref11x_RecordsX0.k leapfrogref11x_RecordsX0.A leapfrogref11x_RecordsX0.S0 := by
  have h1 := leapfrogref11x_RecordsX0.way fun f xs s => iter f BIG xs s
  have h2 := leapfrogref11x_RecordsX0.way2 fun f xs s => iter f BIG xs s
  rw [show iter (leapfrogref11x_Records.l6 (stdIt fun f xs s => iter f BIG xs s)) BIG leapfrogref11x_RecordsX0.xs0 leapfrogref11x_RecordsX0.s1 = _ from leapfrogref11x_RecordsX0.long] at h1
  rw [show iter (leapfrogref11x_RecordsX0.l6 (stdIt fun f xs s => iter f BIG xs s)) BIG leapfrogref11x_RecordsX0.xs0 leapfrogref11x_RecordsX0.s1 = _ from leapfrogref11x_RecordsX0.short] at h2
  exact h1.trans h2.symm
def leapfrogref11x_RecordsX0.w : List Value → St → Option (Value × St) := atOne leapfrogref11x_RecordsX0.A leapfrogref11x_RecordsX0.S0 leapfrogref11x_Records.w leapfrogref11x_RecordsX0.k
theorem leapfrogref11x_RecordsX0.can : callOk Tryz.prog 31 = true := leapfrogref11x_Records.can
theorem leapfrogref11x_RecordsX0.sound : FnOk Tryz.prog 31 (.st leapfrogref11x_RecordsX0.w) := FnOk.atOne leapfrogref11x_Records.sound (leapfrogref11x_RecordsX0.lit)

end
end Go.Proofs.YtdehahoffhjpmaaGreat
