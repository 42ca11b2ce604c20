/-
  What the functions answer that RemoveNobody reaches (part 1): for each function of the program a plain function over abstract values, and that the model answers as it does.
-/
import Derived.Test.YtdppefkjoeefnaaGN0
set_option linter.unusedVariables false
set_option maxRecDepth 100000
namespace Go.Proofs.Ytdppefkjoeefnaa
open Go.Sim
noncomputable section
/-! ### cmp.isNaN[uint64]: function 104 -/
def cmp_isNaN_uint64.ctx : Ctx := []
def cmp_isNaN_uint64.t (S : Sig) (a0 : Value) (s : St) : Option Value :=
  S.bd (eqb [1] false true a0 a0) fun x1 => some (x1)
def cmp_isNaN_uint64.r (a0 : Value) (s : St) : Option Value := cmp_isNaN_uint64.t std a0 s
def cmp_isNaN_uint64.w : List Value → St → Option Value
  | [a0], s => cmp_isNaN_uint64.r a0 s
  | _, _ => none
def cmp_isNaN_uint64.an : An := ⟨6, true, [], [], [], []⟩
theorem cmp_isNaN_uint64.ok (S : Sig) (a0 : Value) (s : St) : evG S Try.prog cmp_isNaN_uint64.ctx cmp_isNaN_uint64.an Try.f104 [a0] s = cmp_isNaN_uint64.t S a0 s := by kernel_rfl
theorem cmp_isNaN_uint64.cok : CtxOk Try.prog cmp_isNaN_uint64.ctx := .nil
theorem cmp_isNaN_uint64.draws : fnDraws cmp_isNaN_uint64.an Try.f104 = true := by kernel_rfl
theorem cmp_isNaN_uint64.can : callOk Try.prog 104 = true := by kernel_rfl
theorem cmp_isNaN_uint64.sound : FnOk Try.prog 104 (.rd cmp_isNaN_uint64.w) := FnOk.rd_of (evG_ok cmp_isNaN_uint64.cok mixed (f := 104) (fn := Try.f104) (by kernel_rfl) cmp_isNaN_uint64.draws) fun args s r h => by
  unfold cmp_isNaN_uint64.w at h; split at h
  · rw [cmp_isNaN_uint64.ok std]; exact h
  · simp at h

/-! ### cmp.Compare[uint64]: function 102 -/
def cmp_Compare_uint64.ctx : Ctx := [(104, .rd cmp_isNaN_uint64.w)]
def cmp_Compare_uint64.t (S : Sig) (a0 a1 : Value) (s : St) : Option Value :=
  S.bd (cmp_isNaN_uint64.r a0 s) fun x1 => S.bd (cmp_isNaN_uint64.r a1 s) fun x2 => S.cnd x1 (S.cnd x2 (some ((Go.Value.int Go.IntKind.i64 0))) (some ((Go.Value.int Go.IntKind.i64 (-1))))) (S.cnd x2 (some ((Go.Value.int Go.IntKind.i64 1))) (S.bd (bin .lss a0 a1) fun x3 => S.cnd x3 (some ((Go.Value.int Go.IntKind.i64 (-1)))) (S.bd (bin .gtr a0 a1) fun x4 => S.cnd x4 (some ((Go.Value.int Go.IntKind.i64 1))) (some ((Go.Value.int Go.IntKind.i64 0))))))
def cmp_Compare_uint64.r (a0 a1 : Value) (s : St) : Option Value := cmp_Compare_uint64.t std a0 a1 s
def cmp_Compare_uint64.w : List Value → St → Option Value
  | [a0, a1], s => cmp_Compare_uint64.r a0 a1 s
  | _, _ => none
def cmp_Compare_uint64.an : An := ⟨20, true, [], [], [], []⟩
theorem cmp_Compare_uint64.ok (S : Sig) (a0 a1 : Value) (s : St) : evG S Try.prog cmp_Compare_uint64.ctx cmp_Compare_uint64.an Try.f102 [a0, a1] s = cmp_Compare_uint64.t S a0 a1 s := by kernel_rfl
theorem cmp_Compare_uint64.cok : CtxOk Try.prog cmp_Compare_uint64.ctx := .cons cmp_isNaN_uint64.sound cmp_isNaN_uint64.can <| .nil
theorem cmp_Compare_uint64.draws : fnDraws cmp_Compare_uint64.an Try.f102 = true := by kernel_rfl
theorem cmp_Compare_uint64.can : callOk Try.prog 102 = true := by kernel_rfl
theorem cmp_Compare_uint64.sound : FnOk Try.prog 102 (.rd cmp_Compare_uint64.w) := FnOk.rd_of (evG_ok cmp_Compare_uint64.cok mixed (f := 102) (fn := Try.f102) (by kernel_rfl) cmp_Compare_uint64.draws) fun args s r h => by
  unfold cmp_Compare_uint64.w at h; split at h
  · rw [cmp_Compare_uint64.ok std]; exact h
  · simp at h

/-! ### cmp.Or[int]: function 100 -/
def cmp_Or_int.ctx : Ctx := []
def cmp_Or_int.l3 (S : Sig) (rec9 : List Value → St → Option Cut) (xs7 : List Value) (s8 : St) : Option Cut :=
  S.bd (bin .lss (xs7.getD 3 undef) (xs7.getD 2 undef)) fun x10 => S.cnd x10 (S.bd (idx s8 1 (xs7.getD 1 undef) (xs7.getD 3 undef)) fun x11 => S.bd (ldc s8 x11) fun x12 => S.bd (eqb [1] false true x12 (xs7.getD 0 undef)) fun x13 => S.cnd x13 (some (1, [x12], s8)) (S.bd (bin .add (xs7.getD 3 undef) (Go.Value.int Go.IntKind.i64 1)) fun x14 => rec9 [(xs7.getD 0 undef), (xs7.getD 1 undef), (xs7.getD 2 undef), x14] s8)) (some (0, [(xs7.getD 0 undef)], s8))

def cmp_Or_int.t (S : Sig) (a0 : Value) (s : St) : Option Value :=
  S.bd (lenL a0) fun x1 => S.bd (S.it (cmp_Or_int.l3 S) [(Go.Value.int Go.IntKind.i64 0), a0, x1, (Go.Value.int Go.IntKind.i64 0)] s) fun r15 => if r15.1 = 0 then (some ((r15.2.1.getD 0 undef))) else (some ((r15.2.1.getD 0 undef)))
def cmp_Or_int.r (a0 : Value) (s : St) : Option Value := cmp_Or_int.t std a0 s
def cmp_Or_int.w : List Value → St → Option Value
  | [a0], s => cmp_Or_int.r a0 s
  | _, _ => none
def cmp_Or_int.an : An := ⟨18, true, [], [(3, ⟨[.v 3, .v 6, .v 7, .v 8], [(.exit 0, [.v 3]), (.ret, [.v 2])]⟩)], [], []⟩
theorem cmp_Or_int.ok (S : Sig) (a0 : Value) (s : St) : evG S Try.prog cmp_Or_int.ctx cmp_Or_int.an Try.f100 [a0] s = cmp_Or_int.t S a0 s := by kernel_rfl
theorem cmp_Or_int.cok : CtxOk Try.prog cmp_Or_int.ctx := .nil
theorem cmp_Or_int.draws : fnDraws cmp_Or_int.an Try.f100 = true := by kernel_rfl
theorem cmp_Or_int.can : callOk Try.prog 100 = true := by kernel_rfl
theorem cmp_Or_int.sound : FnOk Try.prog 100 (.rd cmp_Or_int.w) := FnOk.rd_of (evG_ok cmp_Or_int.cok mixed (f := 100) (fn := Try.f100) (by kernel_rfl) cmp_Or_int.draws) fun args s r h => by
  unfold cmp_Or_int.w at h; split at h
  · rw [cmp_Or_int.ok std]; exact h
  · simp at h

/-! ### leapfrog/key.Compare: function 99 -/
def key_Compare.ctx : Ctx := [(101, .rd cmp_Compare_api_Rank.w), (102, .rd cmp_Compare_uint64.w), (100, .rd cmp_Or_int.w)]
def key_Compare.t (S : Sig) (a0 a1 : Value) (s : St) : Option (Value × St) :=
  S.bd (bx a0) fun c1 => S.bd (bx a1) fun c2 => S.bd (lcl c1 0) fun x3 => S.bd (lcl c2 0) fun x4 => S.bd (lcl c1 1) fun x5 => S.bd (lcl c2 1) fun x6 => S.bd (cmp_Compare_api_Rank.r x3 x4 s) fun x7 => S.bd (cmp_Compare_uint64.r x5 x6 s) fun x8 => S.bd (S.bd (bls 1 (List.replicate 2 [(Go.Value.int Go.IntKind.i64 0)]) [(0, x7), (1, x8)]) fun rows => als s 1 2 rows) fun r9 => S.bd (cmp_Or_int.r r9.1 r9.2) fun x10 => some (x10, r9.2)
def key_Compare.v (a0 a1 : Value) (s : St) : Option (Value × St) := key_Compare.t std a0 a1 s
def key_Compare.w : List Value → St → Option (Value × St)
  | [a0, a1], s => key_Compare.v a0 a1 s
  | _, _ => none
def key_Compare.an : An := ⟨17, false, [2, 3], [], [], [(1, [(0, 0, [], []), (1, 17, [], []), (2, 0, [], []), (3, 25, [], []), (5, 0, [], []), (6, 17, [], []), (7, 0, [], []), (8, 25, [], []), (4, 3, [], []), (9, 3, [], []), (10, 3, [], []), (11, 3, [], []), (12, 0, [], [])])]⟩
theorem key_Compare.ok (S : Sig) (a0 a1 : Value) (s : St) : evF S Try.prog key_Compare.ctx key_Compare.an Try.f99 [a0, a1] s = key_Compare.t S a0 a1 s := by kernel_rfl
theorem key_Compare.cok : CtxOk Try.prog key_Compare.ctx := .cons cmp_Compare_api_Rank.sound cmp_Compare_api_Rank.can <| .cons cmp_Compare_uint64.sound cmp_Compare_uint64.can <| .cons cmp_Or_int.sound cmp_Or_int.can <| .nil
theorem key_Compare.draws : fnDraws key_Compare.an Try.f99 = true := by kernel_rfl
theorem key_Compare.can : callOk Try.prog 99 = true := by kernel_rfl
theorem key_Compare.sound : FnOk Try.prog 99 (.st key_Compare.w) := FnOk.st_of (evF_ok key_Compare.cok mixed (f := 99) (fn := Try.f99) (by kernel_rfl) key_Compare.draws) fun args s r h => by
  unfold key_Compare.w at h; split at h
  · rw [key_Compare.ok std]; exact h
  · simp at h

/-! ### leapfrog/key.Compare: function 99, as a reading -/
def key_CompareQ.r (a0 a1 : Value) (s : St) : Option Value := frzR (fun s => key_Compare.v a0 a1 s) s
def key_CompareQ.w : List Value → St → Option Value := fun args s => frzR (key_Compare.w args) s
theorem key_CompareQ.can : callOk Try.prog 99 = true := key_Compare.can
theorem key_CompareQ.sound : FnOk Try.prog 99 (.rd key_CompareQ.w) := FnOk.frozen key_Compare.sound

/-! ### leapfrog/key.Less: function 98 -/
def key_Less.ctx : Ctx := [(99, .rd key_CompareQ.w)]
def key_Less.t (S : Sig) (a0 a1 : Value) (s : St) : Option Value :=
  S.bd (bx a0) fun c1 => S.bd (bx a1) fun c2 => S.bd (lal c1 0 2) fun x3 => S.bd (lal c2 0 2) fun x4 => S.bd (key_CompareQ.r x3 x4 s) fun x5 => S.bd (bin .lss x5 (Go.Value.int Go.IntKind.i64 0)) fun x6 => some (x6)
def key_Less.r (a0 a1 : Value) (s : St) : Option Value := key_Less.t std a0 a1 s
def key_Less.w : List Value → St → Option Value
  | [a0, a1], s => key_Less.r a0 a1 s
  | _, _ => none
def key_Less.an : An := ⟨9, true, [2, 3], [], [], []⟩
theorem key_Less.ok (S : Sig) (a0 a1 : Value) (s : St) : evG S Try.prog key_Less.ctx key_Less.an Try.f98 [a0, a1] s = key_Less.t S a0 a1 s := by kernel_rfl
theorem key_Less.cok : CtxOk Try.prog key_Less.ctx := .cons key_CompareQ.sound key_CompareQ.can <| .nil
theorem key_Less.draws : fnDraws key_Less.an Try.f98 = true := by kernel_rfl
theorem key_Less.can : callOk Try.prog 98 = true := by kernel_rfl
theorem key_Less.sound : FnOk Try.prog 98 (.rd key_Less.w) := FnOk.rd_of (evG_ok key_Less.cok mixed (f := 98) (fn := Try.f98) (by kernel_rfl) key_Less.draws) fun args s r h => by
  unfold key_Less.w at h; split at h
  · rw [key_Less.ok std]; exact h
  · simp at h

/-! ### (*leapfrog/seek.Seek).counts: function 96 -/
def seek_Seek_counts.ctx : Ctx := []
def seek_Seek_counts.t (S : Sig) (a0 : Value) (s : St) : Option (Value × St) :=
  S.bd (nck a0) fun x1 => S.bd (fld 23 x1) fun x2 => S.bd (ldc s x2) fun x3 => S.bd (bin .geq x3 (Go.Value.int Go.IntKind.i64 64)) fun x4 => S.cnd x4 (S.bd (bld [(Go.Value.int Go.IntKind.i64 0), (Go.Value.int Go.IntKind.u64 0), (Go.Value.slice Option.none 0 0), (Go.Value.slice Option.none 0 0), (Go.Value.int Go.IntKind.i64 0), (Go.Value.int Go.IntKind.i64 0), (Go.Value.int Go.IntKind.u64 0), (Go.Value.int Go.IntKind.i64 0), (Go.Value.int Go.IntKind.u64 0), (Go.Value.int Go.IntKind.i64 0), (Go.Value.int Go.IntKind.i64 0), (Go.Value.int Go.IntKind.u64 0), (Go.Value.int Go.IntKind.i64 0), (Go.Value.int Go.IntKind.u64 0), (Go.Value.bool Bool.false)] [(0, 1, (Go.Value.int Go.IntKind.i64 121))]) fun x5 => S.bd (nck a0) fun x6 => S.bd (fld 24 x6) fun x7 => S.bd (stv s 1 x7 (Go.Value.bool Bool.true)) fun s8 => S.bd (nck a0) fun x9 => S.bd (fld 25 x9) fun x10 => S.bd (stv s8 15 x10 x5) fun s11 => some ((Go.Value.bool Bool.false), s11)) (S.bd (nck a0) fun x12 => S.bd (fld 23 x12) fun x13 => S.bd (ldc s x13) fun x14 => S.bd (bin .add x14 (Go.Value.int Go.IntKind.i64 1)) fun x15 => S.bd (nck a0) fun x16 => S.bd (fld 23 x16) fun x17 => S.bd (stv s 1 x17 x15) fun s18 => some ((Go.Value.bool Bool.true), s18))
def seek_Seek_counts.v (a0 : Value) (s : St) : Option (Value × St) := seek_Seek_counts.t std a0 s
def seek_Seek_counts.w : List Value → St → Option (Value × St)
  | [a0], s => seek_Seek_counts.v a0 s
  | _, _ => none
def seek_Seek_counts.an : An := ⟨22, false, [], [], [], []⟩
theorem seek_Seek_counts.ok (S : Sig) (a0 : Value) (s : St) : evF S Try.prog seek_Seek_counts.ctx seek_Seek_counts.an Try.f96 [a0] s = seek_Seek_counts.t S a0 s := by kernel_rfl
theorem seek_Seek_counts.cok : CtxOk Try.prog seek_Seek_counts.ctx := .nil
theorem seek_Seek_counts.draws : fnDraws seek_Seek_counts.an Try.f96 = true := by kernel_rfl
theorem seek_Seek_counts.can : callOk Try.prog 96 = true := by kernel_rfl
theorem seek_Seek_counts.sound : FnOk Try.prog 96 (.st seek_Seek_counts.w) := FnOk.st_of (evF_ok seek_Seek_counts.cok mixed (f := 96) (fn := Try.f96) (by kernel_rfl) seek_Seek_counts.draws) fun args s r h => by
  unfold seek_Seek_counts.w at h; split at h
  · rw [seek_Seek_counts.ok std]; exact h
  · simp at h

/-! ### (*leapfrog/seek.Seek).again: function 97 -/
def seek_Seek_again.ctx : Ctx := [(96, .st seek_Seek_counts.w)]
def seek_Seek_again.t (S : Sig) (a0 : Value) (s : St) : Option (Value × St) :=
  S.bd (seek_Seek_counts.v a0 s) fun r1 => S.cnd r1.1 (S.bd (bld [(Go.Value.int Go.IntKind.i64 0), (Go.Value.int Go.IntKind.u64 0)] [(0, 1, (Go.Value.int Go.IntKind.i64 1))]) fun x2 => S.bd (nck a0) fun x3 => S.bd (fld 0 x3) fun x4 => S.bd (fld 0 x4) fun x5 => S.bd (ldc r1.2 x5) fun x6 => S.bd (bld [(Go.Value.int Go.IntKind.i64 0), (Go.Value.int Go.IntKind.u64 0)] [(0, 1, x6)]) fun x7 => S.bd (bld [(Go.Value.int Go.IntKind.i64 0), (Go.Value.int Go.IntKind.i64 0), (Go.Value.int Go.IntKind.u64 0), (Go.Value.int Go.IntKind.i64 0), (Go.Value.int Go.IntKind.u64 0)] [(1, 2, x2), (3, 2, x7)]) fun x8 => S.bd (nck a0) fun x9 => S.bd (fld 9 x9) fun x10 => S.bd (stv r1.2 5 x10 x8) fun s11 => S.bd (nck a0) fun x12 => S.bd (fld 0 x12) fun x13 => S.bd (fld 0 x13) fun x14 => S.bd (ldc s11 x14) fun x15 => S.bd (bld [(Go.Value.int Go.IntKind.i64 0), (Go.Value.int Go.IntKind.u64 0)] [(0, 1, x15)]) fun x16 => S.bd (nck a0) fun x17 => S.bd (fld 14 x17) fun x18 => S.bd (stv s11 2 x18 x16) fun s19 => S.bd (nck a0) fun x20 => S.bd (fld 16 x20) fun x21 => S.bd (stv s19 1 x21 (Go.Value.bool Bool.false)) fun s22 => some ((Value.tuple ⟨[]⟩), s22)) (some ((Value.tuple ⟨[]⟩), r1.2))
def seek_Seek_again.v (a0 : Value) (s : St) : Option (Value × St) := seek_Seek_again.t std a0 s
def seek_Seek_again.w : List Value → St → Option (Value × St)
  | [a0], s => seek_Seek_again.v a0 s
  | _, _ => none
def seek_Seek_again.an : An := ⟨27, false, [], [], [], []⟩
theorem seek_Seek_again.ok (S : Sig) (a0 : Value) (s : St) : evF S Try.prog seek_Seek_again.ctx seek_Seek_again.an Try.f97 [a0] s = seek_Seek_again.t S a0 s := by kernel_rfl
theorem seek_Seek_again.cok : CtxOk Try.prog seek_Seek_again.ctx := .cons seek_Seek_counts.sound seek_Seek_counts.can <| .nil
theorem seek_Seek_again.draws : fnDraws seek_Seek_again.an Try.f97 = true := by kernel_rfl
theorem seek_Seek_again.can : callOk Try.prog 97 = true := by kernel_rfl
theorem seek_Seek_again.sound : FnOk Try.prog 97 (.st seek_Seek_again.w) := FnOk.st_of (evF_ok seek_Seek_again.cok mixed (f := 97) (fn := Try.f97) (by kernel_rfl) seek_Seek_again.draws) fun args s r h => by
  unfold seek_Seek_again.w at h; split at h
  · rw [seek_Seek_again.ok std]; exact h
  · simp at h

/-! ### leapfrog/vec.low: function 69 -/
def vec_low.ctx : Ctx := []
def vec_low.t (S : Sig) (a0 : Value) (s : St) : Option Value :=
  S.bd (cvi .u64 a0) fun x1 => S.bd (bin .shl (Go.Value.int Go.IntKind.u64 1) x1) fun x2 => S.bd (bin .sub x2 (Go.Value.int Go.IntKind.u64 1)) fun x3 => some (x3)
def vec_low.r (a0 : Value) (s : St) : Option Value := vec_low.t std a0 s
def vec_low.w : List Value → St → Option Value
  | [a0], s => vec_low.r a0 s
  | _, _ => none
def vec_low.an : An := ⟨7, true, [], [], [], []⟩
theorem vec_low.ok (S : Sig) (a0 : Value) (s : St) : evG S Try.prog vec_low.ctx vec_low.an Try.f69 [a0] s = vec_low.t S a0 s := by kernel_rfl
theorem vec_low.cok : CtxOk Try.prog vec_low.ctx := .nil
theorem vec_low.draws : fnDraws vec_low.an Try.f69 = true := by kernel_rfl
theorem vec_low.can : callOk Try.prog 69 = true := by kernel_rfl
theorem vec_low.sound : FnOk Try.prog 69 (.rd vec_low.w) := FnOk.rd_of (evG_ok vec_low.cok mixed (f := 69) (fn := Try.f69) (by kernel_rfl) vec_low.draws) fun args s r h => by
  unfold vec_low.w at h; split at h
  · rw [vec_low.ok std]; exact h
  · simp at h

/-! ### leapfrog/vec.Right: function 57 -/
def vec_Right.ctx : Ctx := [(69, .rd vec_low.w)]
def vec_Right.t (S : Sig) (a0 : Value) (s : St) : Option Value :=
  S.bd (bx a0) fun c1 => S.bd (lcl c1 0) fun x2 => S.bd (bin .lss x2 (Go.Value.int Go.IntKind.i64 0)) fun x3 => S.bd (S.gd x3 false (lcl c1 0)) fun x4 => S.bd (S.gd x3 false (bin .gtr x4 (Go.Value.int Go.IntKind.i64 32))) fun x5 => S.bd (pik x3 (Go.Value.bool Bool.true) x5) fun x6 => S.bd (S.gd x6 false (lcl c1 1)) fun x7 => S.bd (S.gd x6 false (lcl c1 0)) fun x8 => S.bd (S.gd x6 false (vec_low.r x8 s)) fun x9 => S.bd (S.gd x6 false (bin .gtr x7 x9)) fun x10 => S.bd (pik x6 (Go.Value.bool Bool.true) x10) fun x11 => S.cnd x11 (some ((Go.Value.int Go.IntKind.i64 10))) (some ((Go.Value.int Go.IntKind.i64 0)))
def vec_Right.r (a0 : Value) (s : St) : Option Value := vec_Right.t std a0 s
def vec_Right.w : List Value → St → Option Value
  | [a0], s => vec_Right.r a0 s
  | _, _ => none
def vec_Right.an : An := ⟨19, true, [1], [], [], [(1, [(0, 0, [], []), (1, 9, [], []), (2, 0, [], []), (3, 0, [], []), (4, 0, [], []), (5, 9, [], []), (6, 0, [], []), (7, 0, [], []), (8, 0, [], []), (9, 0, [], []), (10, 9, [], []), (11, 0, [], []), (12, 9, [], []), (13, 3, [], []), (14, 0, [], []), (15, 0, [], [])])]⟩
theorem vec_Right.ok (S : Sig) (a0 : Value) (s : St) : evG S Try.prog vec_Right.ctx vec_Right.an Try.f57 [a0] s = vec_Right.t S a0 s := by kernel_rfl
theorem vec_Right.cok : CtxOk Try.prog vec_Right.ctx := .cons vec_low.sound vec_low.can <| .nil
theorem vec_Right.draws : fnDraws vec_Right.an Try.f57 = true := by kernel_rfl
theorem vec_Right.can : callOk Try.prog 57 = true := by kernel_rfl
theorem vec_Right.sound : FnOk Try.prog 57 (.rd vec_Right.w) := FnOk.rd_of (evG_ok vec_Right.cok mixed (f := 57) (fn := Try.f57) (by kernel_rfl) vec_Right.draws) fun args s r h => by
  unfold vec_Right.w at h; split at h
  · rw [vec_Right.ok std]; exact h
  · simp at h

/-! ### leapfrog/vec.upTo: function 59 -/
def vec_upTo.ctx : Ctx := [(57, .rd vec_Right.w)]
def vec_upTo.t (S : Sig) (a0 a1 : Value) (s : St) : Option Value :=
  S.bd (bx a0) fun c1 => S.bd (lal c1 0 2) fun x2 => S.bd (vec_Right.r x2 s) fun x3 => S.bd (eqb [1] false true x3 (Go.Value.int Go.IntKind.i64 0)) fun x4 => S.cnd x4 (some (x3)) (S.bd (bin .lss a1 (Go.Value.int Go.IntKind.i64 0)) fun x5 => S.bd (S.gd x5 false (some a1)) fun x6 => S.bd (S.gd x5 false (lcl c1 0)) fun x7 => S.bd (S.gd x5 false (bin .gtr x6 x7)) fun x8 => S.bd (pik x5 (Go.Value.bool Bool.true) x8) fun x9 => S.cnd x9 (some ((Go.Value.int Go.IntKind.i64 5))) (some ((Go.Value.int Go.IntKind.i64 0))))
def vec_upTo.r (a0 a1 : Value) (s : St) : Option Value := vec_upTo.t std a0 a1 s
def vec_upTo.w : List Value → St → Option Value
  | [a0, a1], s => vec_upTo.r a0 a1 s
  | _, _ => none
def vec_upTo.an : An := ⟨19, true, [2], [], [], []⟩
theorem vec_upTo.ok (S : Sig) (a0 a1 : Value) (s : St) : evG S Try.prog vec_upTo.ctx vec_upTo.an Try.f59 [a0, a1] s = vec_upTo.t S a0 a1 s := by kernel_rfl
theorem vec_upTo.cok : CtxOk Try.prog vec_upTo.ctx := .cons vec_Right.sound vec_Right.can <| .nil
theorem vec_upTo.draws : fnDraws vec_upTo.an Try.f59 = true := by kernel_rfl
theorem vec_upTo.can : callOk Try.prog 59 = true := by kernel_rfl
theorem vec_upTo.sound : FnOk Try.prog 59 (.rd vec_upTo.w) := FnOk.rd_of (evG_ok vec_upTo.cok mixed (f := 59) (fn := Try.f59) (by kernel_rfl) vec_upTo.draws) fun args s r h => by
  unfold vec_upTo.w at h; split at h
  · rw [vec_upTo.ok std]; exact h
  · simp at h

/-! ### leapfrog/vec.prefix: function 60 -/
def vec_prefix.ctx : Ctx := []
def vec_prefix.t (S : Sig) (a0 a1 : Value) (s : St) : Option Value :=
  S.bd (bx a0) fun c1 => S.bd (bx (Go.Value.agg #[(Go.Value.int Go.IntKind.i64 0), (Go.Value.int Go.IntKind.u64 0)])) fun c2 => S.bd (lcl c1 1) fun x3 => S.bd (lcl c1 0) fun x4 => S.bd (bin .sub x4 a1) fun x5 => S.bd (cvi .u64 x5) fun x6 => S.bd (bin .shr x3 x6) fun x7 => S.bd (bld [(Go.Value.int Go.IntKind.i64 0), (Go.Value.int Go.IntKind.u64 0)] [(0, 1, a1), (1, 1, x7)]) fun x8 => S.bd (stl c2 0 2 x8) fun c9 => S.bd (lal c9 0 2) fun x10 => some (x10)
def vec_prefix.r (a0 a1 : Value) (s : St) : Option Value := vec_prefix.t std a0 a1 s
def vec_prefix.w : List Value → St → Option Value
  | [a0, a1], s => vec_prefix.r a0 a1 s
  | _, _ => none
def vec_prefix.an : An := ⟨15, true, [2, 4], [], [], []⟩
theorem vec_prefix.ok (S : Sig) (a0 a1 : Value) (s : St) : evG S Try.prog vec_prefix.ctx vec_prefix.an Try.f60 [a0, a1] s = vec_prefix.t S a0 a1 s := by kernel_rfl
theorem vec_prefix.cok : CtxOk Try.prog vec_prefix.ctx := .nil
theorem vec_prefix.draws : fnDraws vec_prefix.an Try.f60 = true := by kernel_rfl
theorem vec_prefix.can : callOk Try.prog 60 = true := by kernel_rfl
theorem vec_prefix.sound : FnOk Try.prog 60 (.rd vec_prefix.w) := FnOk.rd_of (evG_ok vec_prefix.cok mixed (f := 60) (fn := Try.f60) (by kernel_rfl) vec_prefix.draws) fun args s r h => by
  unfold vec_prefix.w at h; split at h
  · rw [vec_prefix.ok std]; exact h
  · simp at h

/-! ### leapfrog/vec.Prefix: function 45 -/
def vec_Prefix.ctx : Ctx := [(59, .rd vec_upTo.w), (60, .rd vec_prefix.w)]
def vec_Prefix.t (S : Sig) (a0 a1 : Value) (s : St) : Option Value :=
  S.bd (bx a0) fun c1 => S.bd (bx (Go.Value.agg #[(Go.Value.int Go.IntKind.i64 0), (Go.Value.int Go.IntKind.u64 0)])) fun c2 => S.bd (lal c1 0 2) fun x3 => S.bd (vec_upTo.r x3 a1 s) fun x4 => S.bd (eqb [1] false true x4 (Go.Value.int Go.IntKind.i64 0)) fun x5 => S.cnd x5 (S.bd (bld [(Go.Value.int Go.IntKind.i64 0), (Go.Value.int Go.IntKind.u64 0)] []) fun x6 => S.bd (stl c2 0 2 x6) fun c7 => S.bd (lal c7 0 2) fun x8 => some ((Value.tuple ⟨[x8, x4]⟩))) (S.bd (lal c1 0 2) fun x9 => S.bd (vec_prefix.r x9 a1 s) fun x10 => S.bd (stl c2 0 2 x10) fun c11 => S.bd (lal c11 0 2) fun x12 => some ((Value.tuple ⟨[x12, (Go.Value.int Go.IntKind.i64 0)]⟩)))
def vec_Prefix.r (a0 a1 : Value) (s : St) : Option Value := vec_Prefix.t std a0 a1 s
def vec_Prefix.w : List Value → St → Option Value
  | [a0, a1], s => vec_Prefix.r a0 a1 s
  | _, _ => none
def vec_Prefix.an : An := ⟨17, true, [2, 4], [], [], []⟩
theorem vec_Prefix.ok (S : Sig) (a0 a1 : Value) (s : St) : evG S Try.prog vec_Prefix.ctx vec_Prefix.an Try.f45 [a0, a1] s = vec_Prefix.t S a0 a1 s := by kernel_rfl
theorem vec_Prefix.cok : CtxOk Try.prog vec_Prefix.ctx := .cons vec_upTo.sound vec_upTo.can <| .cons vec_prefix.sound vec_prefix.can <| .nil
theorem vec_Prefix.draws : fnDraws vec_Prefix.an Try.f45 = true := by kernel_rfl
theorem vec_Prefix.can : callOk Try.prog 45 = true := by kernel_rfl
theorem vec_Prefix.sound : FnOk Try.prog 45 (.rd vec_Prefix.w) := FnOk.rd_of (evG_ok vec_Prefix.cok mixed (f := 45) (fn := Try.f45) (by kernel_rfl) vec_Prefix.draws) fun args s r h => by
  unfold vec_Prefix.w at h; split at h
  · rw [vec_Prefix.ok std]; exact h
  · simp at h

/-! ### (*leapfrog/seek.Seek).goes: function 94 -/
def seek_Seek_goes.ctx : Ctx := [(41, .rd key_Check.w), (98, .rd key_Less.w), (97, .st seek_Seek_again.w), (45, .rd vec_Prefix.w)]
def seek_Seek_goes.l2 (S : Sig) (rec37 : List Value → St → Option Cut) (xs35 : List Value) (s36 : St) : Option Cut :=
  S.bd (lal (cellsA (xs35.getD 1 undef)) 1 2) fun x38 => S.bd (key_Check.r x38 s36) fun x39 => S.bd (eqb [1] false true x39 (Go.Value.int Go.IntKind.i64 0)) fun x40 => S.bd (S.gd x40 false (lal (cellsA (xs35.getD 2 undef)) 0 2)) fun x41 => S.bd (S.gd x40 false (lal (cellsA (xs35.getD 1 undef)) 1 2)) fun x42 => S.bd (S.gd x40 false (key_Less.r x41 x42 s36)) fun x43 => S.bd (S.gd x40 false (un .not x43)) fun x44 => S.bd (pik x40 (Go.Value.bool Bool.true) x44) fun x45 => S.cnd x45 (S.bd (seek_Seek_again.v (xs35.getD 0 undef) s36) fun r46 => some (1, [], r46.2)) (S.bd (nck (xs35.getD 0 undef)) fun x47 => S.bd (fld 22 x47) fun x48 => S.bd (ldc s36 x48) fun x49 => S.bd (lcl (cellsA (xs35.getD 1 undef)) 0) fun x50 => S.bd (nck (xs35.getD 0 undef)) fun x51 => S.bd (fld 14 x51) fun x52 => S.bd (lda s36 2 x52) fun x53 => S.bd (bld [(Go.Value.int Go.IntKind.i64 0), (Go.Value.int Go.IntKind.i64 0), (Go.Value.int Go.IntKind.u64 0)] [(0, 1, x50), (1, 2, x53)]) fun x54 => S.bd (lkp s36 [1, 1, 1] true (Go.Value.agg #[(Go.Value.int Go.IntKind.i64 0), (Go.Value.int Go.IntKind.i64 0), (Go.Value.int Go.IntKind.u64 0), (Go.Value.int Go.IntKind.i64 0), (Go.Value.int Go.IntKind.u64 0)]) true x49 x54) fun x55 => S.bd (xtr 0 x55) fun x56 => S.bd (xtr 1 x55) fun x57 => S.bd (bx (Go.Value.agg #[(Go.Value.int Go.IntKind.i64 0), (Go.Value.int Go.IntKind.i64 0), (Go.Value.int Go.IntKind.u64 0), (Go.Value.int Go.IntKind.i64 0), (Go.Value.int Go.IntKind.u64 0)])) fun c58 => S.bd (stl c58 0 5 x56) fun c59 => S.bd (un .not x57) fun x60 => S.cnd x60 (some (0, [(xs35.getD 0 undef), (Value.agg ⟨(cellsA (xs35.getD 1 undef))⟩)], s36)) (S.bd (lal (cellsA (xs35.getD 1 undef)) 1 2) fun x61 => S.bd (lal c59 0 5) fun x62 => S.bd (stl (cellsA (xs35.getD 2 undef)) 0 2 x61) fun c63 => S.bd (stl (cellsA (xs35.getD 1 undef)) 0 5 x62) fun c64 => rec37 [(xs35.getD 0 undef), (Value.agg ⟨c64⟩), (Value.agg ⟨c63⟩)] s36))

def seek_Seek_goes.t.p1 (S : Sig) (r65 : Cut) : Option (Value × St) :=
  S.bd (nck (r65.2.1.getD 0 undef)) fun x79 => S.bd (fld 14 x79) fun x80 => S.bd (fld 0 x80) fun x81 => S.bd (ldc r65.2.2 x81) fun x82 => S.bd (bin .gtr x82 (Go.Value.int Go.IntKind.i64 0)) fun x83 => S.cnd x83 (S.bd (nck (r65.2.1.getD 0 undef)) fun x84 => S.bd (fld 14 x84) fun x85 => S.bd (lda r65.2.2 2 x85) fun x86 => S.bd (nck (r65.2.1.getD 0 undef)) fun x87 => S.bd (fld 14 x87) fun x88 => S.bd (fld 0 x88) fun x89 => S.bd (ldc r65.2.2 x89) fun x90 => S.bd (bin .sub x90 (Go.Value.int Go.IntKind.i64 1)) fun x91 => S.bd (vec_Prefix.r x86 x91 r65.2.2) fun x92 => S.bd (xtr 0 x92) fun x93 => S.bd (xtr 1 x92) fun x94 => S.bd (nck (r65.2.1.getD 0 undef)) fun x95 => S.bd (fld 14 x95) fun x96 => S.bd (stv r65.2.2 2 x96 x93) fun s97 => S.bd (nck (r65.2.1.getD 0 undef)) fun x98 => S.bd (fld 16 x98) fun x99 => S.bd (stv s97 1 x99 (Go.Value.bool Bool.false)) fun s100 => some ((Value.tuple ⟨[]⟩), s100)) (S.bd (nck (r65.2.1.getD 0 undef)) fun x101 => S.bd (fld 9 x101) fun x102 => S.bd (lda r65.2.2 5 x102) fun x103 => S.bd (lal (cellsA (r65.2.1.getD 1 undef)) 0 5) fun x104 => S.bd (lal (cellsA (r65.2.1.getD 1 undef)) 1 2) fun x105 => S.bd (nck (r65.2.1.getD 0 undef)) fun x106 => S.bd (fld 0 x106) fun x107 => S.bd (fld 6 x107) fun x108 => S.bd (lda r65.2.2 2 x108) fun x109 => S.bd (eqb [1, 1] true false x105 x109) fun x110 => S.bd (bld [(Go.Value.int Go.IntKind.i64 0), (Go.Value.int Go.IntKind.u64 0), (Go.Value.slice Option.none 0 0), (Go.Value.slice Option.none 0 0), (Go.Value.int Go.IntKind.i64 0), (Go.Value.int Go.IntKind.i64 0), (Go.Value.int Go.IntKind.u64 0), (Go.Value.int Go.IntKind.i64 0), (Go.Value.int Go.IntKind.u64 0), (Go.Value.int Go.IntKind.i64 0), (Go.Value.int Go.IntKind.i64 0), (Go.Value.int Go.IntKind.u64 0), (Go.Value.int Go.IntKind.i64 0), (Go.Value.int Go.IntKind.u64 0), (Go.Value.bool Bool.false)] [(4, 5, x103), (9, 5, x104), (14, 1, x110)]) fun x111 => S.bd (nck (r65.2.1.getD 0 undef)) fun x112 => S.bd (fld 24 x112) fun x113 => S.bd (stv r65.2.2 1 x113 (Go.Value.bool Bool.true)) fun s114 => S.bd (nck (r65.2.1.getD 0 undef)) fun x115 => S.bd (fld 25 x115) fun x116 => S.bd (stv s114 15 x116 x111) fun s117 => some ((Value.tuple ⟨[]⟩), s117))

def seek_Seek_goes.t (S : Sig) (a0 a1 : Value) (s : St) : Option (Value × St) :=
  S.bd (bx a1) fun c1 => S.bd (nck a0) fun x2 => S.bd (fld 9 x2) fun x3 => S.bd (fld 1 x3) fun x4 => S.bd (lda s 2 x4) fun x5 => S.bd (bx (Go.Value.agg #[(Go.Value.int Go.IntKind.i64 0), (Go.Value.int Go.IntKind.u64 0)])) fun c6 => S.bd (stl c6 0 2 x5) fun c7 => S.bd (S.it (seek_Seek_goes.l2 S) [a0, (Value.agg ⟨c1⟩), (Value.agg ⟨c7⟩)] s) fun r65 => if r65.1 = 0 then (S.bd (lal (cellsA (r65.2.1.getD 1 undef)) 1 2) fun x66 => S.bd (nck (r65.2.1.getD 0 undef)) fun x67 => S.bd (fld 0 x67) fun x68 => S.bd (fld 6 x68) fun x69 => S.bd (lda r65.2.2 2 x69) fun x70 => S.bd (key_Less.r x66 x70 r65.2.2) fun x71 => S.cnd x71 (S.bd (lal (cellsA (r65.2.1.getD 1 undef)) 0 5) fun x72 => S.bd (nck (r65.2.1.getD 0 undef)) fun x73 => S.bd (fld 16 x73) fun x74 => S.bd (stv r65.2.2 1 x74 (Go.Value.bool Bool.true)) fun s75 => S.bd (nck (r65.2.1.getD 0 undef)) fun x76 => S.bd (fld 17 x76) fun x77 => S.bd (stv s75 5 x77 x72) fun s78 => some ((Value.tuple ⟨[]⟩), s78)) (seek_Seek_goes.t.p1 S r65)) else (some ((Value.tuple ⟨[]⟩), r65.2.2))
def seek_Seek_goes.v (a0 a1 : Value) (s : St) : Option (Value × St) := seek_Seek_goes.t std a0 a1 s
def seek_Seek_goes.w : List Value → St → Option (Value × St)
  | [a0, a1], s => seek_Seek_goes.v a0 a1 s
  | _, _ => none
def seek_Seek_goes.an : An := ⟨108, false, [3, 4, 5], [(2, ⟨[.v 0, .p 3 3 0, .p 4 4 0, .l 3, .l 4], [(.exit 0, [.v 0, .p 3 3 0, .l 3]), (.ret, [])]⟩)], [], [(4, [(0, 0, [], []), (1, 0, [], []), (2, 0, [], []), (3, 2, [], []), (4, 0, [], []), (5, 25, [], []), (6, 0, [], []), (7, 0, [], []), (8, 0, [], []), (9, 2, [], []), (10, 0, [], []), (11, 2, [], []), (12, 0, [], []), (13, 0, [], []), (14, 0, [], []), (15, 6, [], []), (16, 45, [], []), (17, 0, [], [])]), (6, [(0, 0, [], []), (1, 25, [], []), (2, 41, [], []), (3, 37, [], []), (4, 29, [], [])]), (8, [(0, 0, [], []), (1, 25, [], []), (2, 0, [], []), (3, 0, [], []), (4, 0, [], []), (5, 0, [], []), (6, 2, [], []), (7, 3, [], []), (8, 0, [], [])]), (9, [(0, 0, [], []), (1, 0, [], []), (2, 25, [], []), (3, 0, [], []), (4, 0, [], []), (5, 4, [], []), (6, 0, [], []), (7, 0, [], []), (8, 4, [], [])]), (11, [(0, 0, [], []), (1, 0, [], []), (2, 0, [], []), (3, 0, [], []), (4, 2, [], []), (5, 0, [], []), (6, 0, [], []), (7, 0, [], []), (8, 0, [], []), (9, 2, [], []), (10, 0, [], []), (11, 3, [], []), (12, 0, [], []), (13, 0, [], []), (14, 0, [], []), (15, 0, [], []), (16, 0, [], []), (17, 4, [], [])]), (7, [(0, 0, [], []), (1, 0, [], []), (2, 0, [], []), (3, 0, [], []), (4, 0, [], []), (5, 2, [], []), (6, 25, [], []), (7, 0, [], []), (8, 25, [], []), (9, 0, [], []), (10, 0, [], []), (11, 0, [], []), (12, 0, [], []), (13, 2, [], []), (14, 0, [], []), (15, 0, [], []), (16, 0, [], []), (17, 0, [], []), (18, 4, [], []), (19, 0, [], []), (20, 0, [], []), (21, 4, [], [])])]⟩
theorem seek_Seek_goes.ok (S : Sig) (a0 a1 : Value) (s : St) : evF S Try.prog seek_Seek_goes.ctx seek_Seek_goes.an Try.f94 [a0, a1] s = seek_Seek_goes.t S a0 a1 s := by kernel_rfl
theorem seek_Seek_goes.cok : CtxOk Try.prog seek_Seek_goes.ctx := .cons key_Check.sound key_Check.can <| .cons key_Less.sound key_Less.can <| .cons seek_Seek_again.sound seek_Seek_again.can <| .cons vec_Prefix.sound vec_Prefix.can <| .nil
theorem seek_Seek_goes.draws : fnDraws seek_Seek_goes.an Try.f94 = true := by kernel_rfl
theorem seek_Seek_goes.can : callOk Try.prog 94 = true := by kernel_rfl
theorem seek_Seek_goes.sound : FnOk Try.prog 94 (.st seek_Seek_goes.w) := FnOk.st_of (evF_ok seek_Seek_goes.cok mixed (f := 94) (fn := Try.f94) (by kernel_rfl) seek_Seek_goes.draws) fun args s r h => by
  unfold seek_Seek_goes.w at h; split at h
  · rw [seek_Seek_goes.ok std]; exact h
  · simp at h

/-! ### (*leapfrog/seek.Seek).keep: function 95 -/
def seek_Seek_keep.ctx : Ctx := []
def seek_Seek_keep.t (S : Sig) (a0 a1 a2 : Value) (s : St) : Option (Value × St) :=
  S.bd (bx a1) fun c1 => S.bd (bx a2) fun c2 => S.bd (nck a0) fun x3 => S.bd (fld 22 x3) fun x4 => S.bd (ldc s x4) fun x5 => S.bd (lcl c1 0) fun x6 => S.bd (nck a0) fun x7 => S.bd (fld 14 x7) fun x8 => S.bd (lda s 2 x8) fun x9 => S.bd (bld [(Go.Value.int Go.IntKind.i64 0), (Go.Value.int Go.IntKind.i64 0), (Go.Value.int Go.IntKind.u64 0)] [(0, 1, x6), (1, 2, x9)]) fun x10 => S.bd (lal c2 7 5) fun x11 => S.bd (upm s [1, 1, 1] true x5 x10 x11) fun s12 => some ((Value.tuple ⟨[]⟩), s12)
def seek_Seek_keep.v (a0 a1 a2 : Value) (s : St) : Option (Value × St) := seek_Seek_keep.t std a0 a1 a2 s
def seek_Seek_keep.w : List Value → St → Option (Value × St)
  | [a0, a1, a2], s => seek_Seek_keep.v a0 a1 a2 s
  | _, _ => none
def seek_Seek_keep.an : An := ⟨19, false, [4, 5], [], [], [(1, [(0, 0, [], []), (1, 0, [], []), (2, 0, [], []), (3, 2, [], []), (4, 0, [], []), (5, 33, [], []), (6, 0, [], []), (7, 0, [], []), (8, 0, [], []), (9, 2, [], []), (10, 0, [], []), (11, 0, [], []), (12, 41, [], []), (13, 4, [], [])])]⟩
theorem seek_Seek_keep.ok (S : Sig) (a0 a1 a2 : Value) (s : St) : evF S Try.prog seek_Seek_keep.ctx seek_Seek_keep.an Try.f95 [a0, a1, a2] s = seek_Seek_keep.t S a0 a1 a2 s := by kernel_rfl
theorem seek_Seek_keep.cok : CtxOk Try.prog seek_Seek_keep.ctx := .nil
theorem seek_Seek_keep.draws : fnDraws seek_Seek_keep.an Try.f95 = true := by kernel_rfl
theorem seek_Seek_keep.can : callOk Try.prog 95 = true := by kernel_rfl
theorem seek_Seek_keep.sound : FnOk Try.prog 95 (.st seek_Seek_keep.w) := FnOk.st_of (evF_ok seek_Seek_keep.cok mixed (f := 95) (fn := Try.f95) (by kernel_rfl) seek_Seek_keep.draws) fun args s r h => by
  unfold seek_Seek_keep.w at h; split at h
  · rw [seek_Seek_keep.ok std]; exact h
  · simp at h

/-! ### (*leapfrog/seek.Seek).looked: function 92 -/
def seek_Seek_looked.ctx : Ctx := [(94, .st seek_Seek_goes.w), (95, .st seek_Seek_keep.w), (96, .st seek_Seek_counts.w), (97, .st seek_Seek_again.w)]
def seek_Seek_looked.t (S : Sig) (a0 a1 : Value) (s : St) : Option (Value × St) :=
  S.bd (bx a1) fun c1 => S.bd (lcl c1 0) fun x2 => S.bd (eqb [1] false false x2 (Go.Value.int Go.IntKind.i64 1)) fun x3 => S.cnd x3 (S.bd (nck a0) fun x4 => S.bd (fld 17 x4) fun x5 => S.bd (lda s 5 x5) fun x6 => S.bd (nck a0) fun x7 => S.bd (fld 9 x7) fun x8 => S.bd (stv s 5 x8 x6) fun s9 => S.bd (nck a0) fun x10 => S.bd (fld 16 x10) fun x11 => S.bd (stv s9 1 x11 (Go.Value.bool Bool.false)) fun s12 => S.bd (lal c1 7 5) fun x13 => S.bd (seek_Seek_goes.v a0 x13 s12) fun r14 => some ((Value.tuple ⟨[]⟩), r14.2)) (S.bd (eqb [1] false false x2 (Go.Value.int Go.IntKind.i64 3)) fun x15 => S.cnd x15 (S.bd (nck a0) fun x16 => S.bd (fld 17 x16) fun x17 => S.bd (lda s 5 x17) fun x18 => S.bd (lal c1 0 13) fun x19 => S.bd (seek_Seek_keep.v a0 x18 x19 s) fun r20 => S.bd (seek_Seek_counts.v a0 r20.2) fun r21 => S.cnd r21.1 (S.bd (nck a0) fun x22 => S.bd (fld 16 x22) fun x23 => S.bd (stv r21.2 1 x23 (Go.Value.bool Bool.false)) fun s24 => some ((Value.tuple ⟨[]⟩), s24)) (some ((Value.tuple ⟨[]⟩), r21.2))) (S.bd (seek_Seek_again.v a0 s) fun r25 => some ((Value.tuple ⟨[]⟩), r25.2)))
def seek_Seek_looked.v (a0 a1 : Value) (s : St) : Option (Value × St) := seek_Seek_looked.t std a0 a1 s
def seek_Seek_looked.w : List Value → St → Option (Value × St)
  | [a0, a1], s => seek_Seek_looked.v a0 a1 s
  | _, _ => none
def seek_Seek_looked.an : An := ⟨38, false, [3], [], [], [(7, [(0, 0, [], []), (1, 0, [], []), (2, 0, [], []), (3, 0, [], []), (4, 2, [], []), (5, 25, [], []), (6, 4, [], [])])]⟩
theorem seek_Seek_looked.ok (S : Sig) (a0 a1 : Value) (s : St) : evF S Try.prog seek_Seek_looked.ctx seek_Seek_looked.an Try.f92 [a0, a1] s = seek_Seek_looked.t S a0 a1 s := by kernel_rfl
theorem seek_Seek_looked.cok : CtxOk Try.prog seek_Seek_looked.ctx := .cons seek_Seek_goes.sound seek_Seek_goes.can <| .cons seek_Seek_keep.sound seek_Seek_keep.can <| .cons seek_Seek_counts.sound seek_Seek_counts.can <| .cons seek_Seek_again.sound seek_Seek_again.can <| .nil
theorem seek_Seek_looked.draws : fnDraws seek_Seek_looked.an Try.f92 = true := by kernel_rfl
theorem seek_Seek_looked.can : callOk Try.prog 92 = true := by kernel_rfl
theorem seek_Seek_looked.sound : FnOk Try.prog 92 (.st seek_Seek_looked.w) := FnOk.st_of (evF_ok seek_Seek_looked.cok mixed (f := 92) (fn := Try.f92) (by kernel_rfl) seek_Seek_looked.draws) fun args s r h => by
  unfold seek_Seek_looked.w at h; split at h
  · rw [seek_Seek_looked.ok std]; exact h
  · simp at h

/-! ### (*leapfrog/seek.Seek).stood: function 93 -/
def seek_Seek_stood.ctx : Ctx := [(98, .rd key_Less.w), (94, .st seek_Seek_goes.w), (41, .rd key_Check.w), (97, .st seek_Seek_again.w), (95, .st seek_Seek_keep.w)]
def seek_Seek_stood.t (S : Sig) (a0 a1 : Value) (s : St) : Option (Value × St) :=
  S.bd (bx a1) fun c1 => S.bd (lcl c1 0) fun x2 => S.bd (eqb [1] false false x2 (Go.Value.int Go.IntKind.i64 1)) fun x3 => S.cnd x3 (S.bd (nck a0) fun x4 => S.bd (fld 9 x4) fun x5 => S.bd (fld 1 x5) fun x6 => S.bd (lda s 2 x6) fun x7 => S.bd (nck a0) fun x8 => S.bd (fld 0 x8) fun x9 => S.bd (fld 6 x9) fun x10 => S.bd (lda s 2 x10) fun x11 => S.bd (key_Less.r x7 x11 s) fun x12 => S.cnd x12 (S.bd (lal c1 7 5) fun x13 => S.bd (seek_Seek_goes.v a0 x13 s) fun r14 => some ((Value.tuple ⟨[]⟩), r14.2)) (S.bd (lal c1 3 2) fun x15 => S.bd (key_Check.r x15 s) fun x16 => S.bd (eqb [1] false false x16 (Go.Value.int Go.IntKind.i64 0)) fun x17 => S.bd (S.gd x17 true (lal c1 3 2)) fun x18 => S.bd (S.gd x17 true (some a0)) fun x19 => S.bd (S.gd x17 true (nck x19)) fun x20 => S.bd (S.gd x17 true (fld 9 x20)) fun x21 => S.bd (S.gd x17 true (fld 1 x21)) fun x22 => S.bd (S.gd x17 true (lda s 2 x22)) fun x23 => S.bd (S.gd x17 true (key_Less.r x18 x23 s)) fun x24 => S.bd (pik x17 x24 (Go.Value.bool Bool.false)) fun x25 => S.cnd x25 (S.bd (lal c1 2 5) fun x26 => S.bd (nck a0) fun x27 => S.bd (fld 9 x27) fun x28 => S.bd (stv s 5 x28 x26) fun s29 => some ((Value.tuple ⟨[]⟩), s29)) (S.bd (seek_Seek_again.v a0 s) fun r30 => some ((Value.tuple ⟨[]⟩), r30.2)))) (S.bd (eqb [1] false false x2 (Go.Value.int Go.IntKind.i64 3)) fun x31 => S.cnd x31 (S.bd (nck a0) fun x32 => S.bd (fld 9 x32) fun x33 => S.bd (lda s 5 x33) fun x34 => S.bd (lal c1 0 13) fun x35 => S.bd (seek_Seek_keep.v a0 x34 x35 s) fun r36 => S.bd (seek_Seek_again.v a0 r36.2) fun r37 => some ((Value.tuple ⟨[]⟩), r37.2)) (S.bd (seek_Seek_again.v a0 s) fun r38 => some ((Value.tuple ⟨[]⟩), r38.2)))
def seek_Seek_stood.v (a0 a1 : Value) (s : St) : Option (Value × St) := seek_Seek_stood.t std a0 a1 s
def seek_Seek_stood.w : List Value → St → Option (Value × St)
  | [a0, a1], s => seek_Seek_stood.v a0 a1 s
  | _, _ => none
def seek_Seek_stood.an : An := ⟨55, false, [3], [], [], [(4, [(0, 0, [], []), (1, 0, [], []), (2, 0, [], []), (3, 0, [], []), (4, 2, [], []), (5, 0, [], []), (6, 0, [], []), (7, 0, [], []), (8, 0, [], []), (9, 2, [], []), (10, 3, [], [])]), (6, [(0, 0, [], []), (1, 0, [], []), (2, 25, [], []), (3, 3, [], []), (4, 0, [], []), (5, 0, [], []), (6, 0, [], []), (7, 0, [], []), (8, 25, [], []), (9, 0, [], []), (10, 0, [], []), (11, 0, [], []), (12, 0, [], []), (13, 2, [], []), (14, 3, [], []), (15, 0, [], [])]), (8, [(0, 0, [], []), (1, 0, [], []), (2, 0, [], []), (3, 0, [], []), (4, 2, [], []), (5, 25, [], []), (6, 4, [], [])])]⟩
theorem seek_Seek_stood.ok (S : Sig) (a0 a1 : Value) (s : St) : evF S Try.prog seek_Seek_stood.ctx seek_Seek_stood.an Try.f93 [a0, a1] s = seek_Seek_stood.t S a0 a1 s := by kernel_rfl
theorem seek_Seek_stood.cok : CtxOk Try.prog seek_Seek_stood.ctx := .cons key_Less.sound key_Less.can <| .cons seek_Seek_goes.sound seek_Seek_goes.can <| .cons key_Check.sound key_Check.can <| .cons seek_Seek_again.sound seek_Seek_again.can <| .cons seek_Seek_keep.sound seek_Seek_keep.can <| .nil
theorem seek_Seek_stood.draws : fnDraws seek_Seek_stood.an Try.f93 = true := by kernel_rfl
theorem seek_Seek_stood.can : callOk Try.prog 93 = true := by kernel_rfl
theorem seek_Seek_stood.sound : FnOk Try.prog 93 (.st seek_Seek_stood.w) := FnOk.st_of (evF_ok seek_Seek_stood.cok mixed (f := 93) (fn := Try.f93) (by kernel_rfl) seek_Seek_stood.draws) fun args s r h => by
  unfold seek_Seek_stood.w at h; split at h
  · rw [seek_Seek_stood.ok std]; exact h
  · simp at h

/-! ### (*leapfrog/seek.Seek).Tell: function 89 -/
def seek_Seek_Tell.ctx : Ctx := [(91, .rd seek_Seek_is.w), (92, .st seek_Seek_looked.w), (93, .st seek_Seek_stood.w)]
def seek_Seek_Tell.t (S : Sig) (a0 a1 : Value) (s : St) : Option (Value × St) :=
  S.bd (bx a1) fun c1 => S.bd (seek_Seek_is.r a0 s) fun x2 => S.bd (un .not x2) fun x3 => S.bd (S.gd x3 false (some a0)) fun x4 => S.bd (S.gd x3 false (nck x4)) fun x5 => S.bd (S.gd x3 false (fld 24 x5)) fun x6 => S.bd (S.gd x3 false (ldc s x6)) fun x7 => S.bd (pik x3 (Go.Value.bool Bool.true) x7) fun x8 => S.cnd x8 (some ((Value.tuple ⟨[]⟩), s)) (S.bd (nck a0) fun x9 => S.bd (fld 16 x9) fun x10 => S.bd (ldc s x10) fun x11 => S.cnd x11 (S.bd (lal c1 0 13) fun x12 => S.bd (seek_Seek_looked.v a0 x12 s) fun r13 => some ((Value.tuple ⟨[]⟩), r13.2)) (S.bd (lal c1 0 13) fun x14 => S.bd (seek_Seek_stood.v a0 x14 s) fun r15 => some ((Value.tuple ⟨[]⟩), r15.2)))
def seek_Seek_Tell.v (a0 a1 : Value) (s : St) : Option (Value × St) := seek_Seek_Tell.t std a0 a1 s
def seek_Seek_Tell.w : List Value → St → Option (Value × St)
  | [a0, a1], s => seek_Seek_Tell.v a0 a1 s
  | _, _ => none
def seek_Seek_Tell.an : An := ⟨25, false, [3], [], [], []⟩
theorem seek_Seek_Tell.ok (S : Sig) (a0 a1 : Value) (s : St) : evF S Try.prog seek_Seek_Tell.ctx seek_Seek_Tell.an Try.f89 [a0, a1] s = seek_Seek_Tell.t S a0 a1 s := by kernel_rfl
theorem seek_Seek_Tell.cok : CtxOk Try.prog seek_Seek_Tell.ctx := .cons seek_Seek_is.sound seek_Seek_is.can <| .cons seek_Seek_looked.sound seek_Seek_looked.can <| .cons seek_Seek_stood.sound seek_Seek_stood.can <| .nil
theorem seek_Seek_Tell.draws : fnDraws seek_Seek_Tell.an Try.f89 = true := by kernel_rfl
theorem seek_Seek_Tell.can : callOk Try.prog 89 = true := by kernel_rfl
theorem seek_Seek_Tell.sound : FnOk Try.prog 89 (.st seek_Seek_Tell.w) := FnOk.st_of (evF_ok seek_Seek_Tell.cok mixed (f := 89) (fn := Try.f89) (by kernel_rfl) seek_Seek_Tell.draws) fun args s r h => by
  unfold seek_Seek_Tell.w at h; split at h
  · rw [seek_Seek_Tell.ok std]; exact h
  · simp at h

/-! ### (*leapfrog/seek.Seek).Wake: function 90 -/
def seek_Seek_Wake.ctx : Ctx := []
def seek_Seek_Wake.t (S : Sig) (a0 : Value) (s : St) : Option Value :=
  some ((Value.tuple ⟨[]⟩))
def seek_Seek_Wake.r (a0 : Value) (s : St) : Option Value := seek_Seek_Wake.t std a0 s
def seek_Seek_Wake.w : List Value → St → Option Value
  | [a0], s => seek_Seek_Wake.r a0 s
  | _, _ => none
def seek_Seek_Wake.an : An := ⟨2, true, [], [], [], []⟩
theorem seek_Seek_Wake.ok (S : Sig) (a0 : Value) (s : St) : evG S Try.prog seek_Seek_Wake.ctx seek_Seek_Wake.an Try.f90 [a0] s = seek_Seek_Wake.t S a0 s := by kernel_rfl
theorem seek_Seek_Wake.cok : CtxOk Try.prog seek_Seek_Wake.ctx := .nil
theorem seek_Seek_Wake.draws : fnDraws seek_Seek_Wake.an Try.f90 = true := by kernel_rfl
theorem seek_Seek_Wake.can : callOk Try.prog 90 = true := by kernel_rfl
theorem seek_Seek_Wake.sound : FnOk Try.prog 90 (.rd seek_Seek_Wake.w) := FnOk.rd_of (evG_ok seek_Seek_Wake.cok mixed (f := 90) (fn := Try.f90) (by kernel_rfl) seek_Seek_Wake.draws) fun args s r h => by
  unfold seek_Seek_Wake.w at h; split at h
  · rw [seek_Seek_Wake.ok std]; exact h
  · simp at h

/-! ### (*leapfrog/unsplice.Unsplice).is: function 108 -/
def unsplice_Unsplice_is.ctx : Ctx := []
def unsplice_Unsplice_is.t (S : Sig) (a0 : Value) (s : St) : Option Value :=
  S.bd (eqb [3] false true a0 (Go.Value.pointer Option.none)) fun x1 => S.bd (S.gd x1 true (some a0)) fun x2 => S.bd (S.gd x1 true (nck x2)) fun x3 => S.bd (S.gd x1 true (fld 9 x3)) fun x4 => S.bd (S.gd x1 true (ldc s x4)) fun x5 => S.bd (S.gd x1 true (bin .gtr x5 (Go.Value.int Go.IntKind.i64 0))) fun x6 => S.bd (pik x1 x6 (Go.Value.bool Bool.false)) fun x7 => some (x7)
def unsplice_Unsplice_is.r (a0 : Value) (s : St) : Option Value := unsplice_Unsplice_is.t std a0 s
def unsplice_Unsplice_is.w : List Value → St → Option Value
  | [a0], s => unsplice_Unsplice_is.r a0 s
  | _, _ => none
def unsplice_Unsplice_is.an : An := ⟨12, true, [], [], [], []⟩
theorem unsplice_Unsplice_is.ok (S : Sig) (a0 : Value) (s : St) : evG S Try.prog unsplice_Unsplice_is.ctx unsplice_Unsplice_is.an Try.f108 [a0] s = unsplice_Unsplice_is.t S a0 s := by kernel_rfl
theorem unsplice_Unsplice_is.cok : CtxOk Try.prog unsplice_Unsplice_is.ctx := .nil
theorem unsplice_Unsplice_is.draws : fnDraws unsplice_Unsplice_is.an Try.f108 = true := by kernel_rfl
theorem unsplice_Unsplice_is.can : callOk Try.prog 108 = true := by kernel_rfl
theorem unsplice_Unsplice_is.sound : FnOk Try.prog 108 (.rd unsplice_Unsplice_is.w) := FnOk.rd_of (evG_ok unsplice_Unsplice_is.cok mixed (f := 108) (fn := Try.f108) (by kernel_rfl) unsplice_Unsplice_is.draws) fun args s r h => by
  unfold unsplice_Unsplice_is.w at h; split at h
  · rw [unsplice_Unsplice_is.ok std]; exact h
  · simp at h

/-! ### (*leapfrog/unsplice.Unsplice).asks: function 109 -/
def unsplice_Unsplice_asks.ctx : Ctx := []
def unsplice_Unsplice_asks.t.p1 (S : Sig) (x9 : Value) (s : St) (a1 : Value) (x7 : Value) (x8 : Value) (c1 : List Value) (c3 : List Value) : Option Value :=
  S.bd (fld 0 x9) fun x10 => S.bd (fld 7 x10) fun x11 => S.bd (lda s 2 x11) fun x12 => S.bd (bld [(Go.Value.int Go.IntKind.i64 0), (Go.Value.int Go.IntKind.i64 0), (Go.Value.int Go.IntKind.u64 0), (Go.Value.int Go.IntKind.i64 0), (Go.Value.int Go.IntKind.i64 0), (Go.Value.int Go.IntKind.u64 0), (Go.Value.int Go.IntKind.i64 0), (Go.Value.int Go.IntKind.u64 0), (Go.Value.int Go.IntKind.i64 0), (Go.Value.int Go.IntKind.i64 0), (Go.Value.int Go.IntKind.u64 0), (Go.Value.int Go.IntKind.i64 0), (Go.Value.int Go.IntKind.u64 0), (Go.Value.int Go.IntKind.i64 0), (Go.Value.int Go.IntKind.i64 0)] [(0, 1, a1), (1, 2, x7), (3, 5, x8), (13, 2, x12)]) fun x13 => S.bd (bx (Go.Value.agg #[(Go.Value.int Go.IntKind.i64 0), (Go.Value.int Go.IntKind.i64 0), (Go.Value.int Go.IntKind.u64 0), (Go.Value.int Go.IntKind.i64 0), (Go.Value.int Go.IntKind.i64 0), (Go.Value.int Go.IntKind.u64 0), (Go.Value.int Go.IntKind.i64 0), (Go.Value.int Go.IntKind.u64 0), (Go.Value.int Go.IntKind.i64 0), (Go.Value.int Go.IntKind.i64 0), (Go.Value.int Go.IntKind.u64 0), (Go.Value.int Go.IntKind.i64 0), (Go.Value.int Go.IntKind.u64 0), (Go.Value.int Go.IntKind.i64 0), (Go.Value.int Go.IntKind.i64 0)])) fun c14 => S.bd (stl c14 0 15 x13) fun c15 => S.bd (show Option Cut from S.bd (eqb [1] false false a1 (Go.Value.int Go.IntKind.i64 1)) fun x22 => S.bd (S.gd x22 false (some a1)) fun x23 => S.bd (S.gd x22 false (eqb [1] false false x23 (Go.Value.int Go.IntKind.i64 6))) fun x24 => S.bd (pik x22 (Go.Value.bool Bool.true) x24) fun x25 => S.cnd x25 (S.bd (bld [(Go.Value.int Go.IntKind.i64 0), (Go.Value.int Go.IntKind.i64 0)] []) fun x26 => S.bd (stl c15 13 2 x26) fun c27 => some (0, [(Value.agg ⟨c1⟩), (Value.agg ⟨c3⟩), (Value.agg ⟨c27⟩)], s)) (some (0, [(Value.agg ⟨c1⟩), (Value.agg ⟨c3⟩), (Value.agg ⟨c15⟩)], s))) fun r28 => S.bd (lal (cellsA (r28.2.1.getD 0 undef)) 0 5) fun x29 => S.bd (lal (cellsA (r28.2.1.getD 2 undef)) 0 15) fun x30 => S.bd (bld [(Go.Value.int Go.IntKind.i64 0), (Go.Value.int Go.IntKind.i64 0), (Go.Value.int Go.IntKind.i64 0), (Go.Value.int Go.IntKind.u64 0), (Go.Value.int Go.IntKind.i64 0), (Go.Value.int Go.IntKind.u64 0), (Go.Value.int Go.IntKind.i64 0), (Go.Value.int Go.IntKind.i64 0), (Go.Value.int Go.IntKind.u64 0), (Go.Value.int Go.IntKind.i64 0), (Go.Value.int Go.IntKind.i64 0), (Go.Value.int Go.IntKind.u64 0), (Go.Value.int Go.IntKind.i64 0), (Go.Value.int Go.IntKind.u64 0), (Go.Value.int Go.IntKind.i64 0), (Go.Value.int Go.IntKind.i64 0), (Go.Value.int Go.IntKind.u64 0), (Go.Value.int Go.IntKind.i64 0), (Go.Value.int Go.IntKind.u64 0), (Go.Value.int Go.IntKind.i64 0), (Go.Value.int Go.IntKind.i64 0), (Go.Value.int Go.IntKind.i64 0), (Go.Value.int Go.IntKind.u64 0), (Go.Value.slice Option.none 0 0), (Go.Value.slice Option.none 0 0), (Go.Value.int Go.IntKind.i64 0), (Go.Value.int Go.IntKind.i64 0), (Go.Value.int Go.IntKind.u64 0), (Go.Value.int Go.IntKind.i64 0), (Go.Value.int Go.IntKind.u64 0), (Go.Value.int Go.IntKind.i64 0), (Go.Value.int Go.IntKind.i64 0), (Go.Value.int Go.IntKind.u64 0), (Go.Value.int Go.IntKind.i64 0), (Go.Value.int Go.IntKind.u64 0), (Go.Value.bool Bool.false)] [(0, 1, (Go.Value.int Go.IntKind.i64 1)), (1, 5, x29), (6, 15, x30)]) fun x31 => S.bd (stl (cellsA (r28.2.1.getD 1 undef)) 0 36 x31) fun c32 => S.bd (lal c32 0 36) fun x33 => some (x33)

def unsplice_Unsplice_asks.t (S : Sig) (a0 a1 a2 a3 : Value) (s : St) : Option Value :=
  S.bd (bx a2) fun c1 => S.bd (bx a3) fun c2 => S.bd (bx (Go.Value.agg #[(Go.Value.int Go.IntKind.i64 0), (Go.Value.int Go.IntKind.i64 0), (Go.Value.int Go.IntKind.i64 0), (Go.Value.int Go.IntKind.u64 0), (Go.Value.int Go.IntKind.i64 0), (Go.Value.int Go.IntKind.u64 0), (Go.Value.int Go.IntKind.i64 0), (Go.Value.int Go.IntKind.i64 0), (Go.Value.int Go.IntKind.u64 0), (Go.Value.int Go.IntKind.i64 0), (Go.Value.int Go.IntKind.i64 0), (Go.Value.int Go.IntKind.u64 0), (Go.Value.int Go.IntKind.i64 0), (Go.Value.int Go.IntKind.u64 0), (Go.Value.int Go.IntKind.i64 0), (Go.Value.int Go.IntKind.i64 0), (Go.Value.int Go.IntKind.u64 0), (Go.Value.int Go.IntKind.i64 0), (Go.Value.int Go.IntKind.u64 0), (Go.Value.int Go.IntKind.i64 0), (Go.Value.int Go.IntKind.i64 0), (Go.Value.int Go.IntKind.i64 0), (Go.Value.int Go.IntKind.u64 0), (Go.Value.slice Option.none 0 0), (Go.Value.slice Option.none 0 0), (Go.Value.int Go.IntKind.i64 0), (Go.Value.int Go.IntKind.i64 0), (Go.Value.int Go.IntKind.u64 0), (Go.Value.int Go.IntKind.i64 0), (Go.Value.int Go.IntKind.u64 0), (Go.Value.int Go.IntKind.i64 0), (Go.Value.int Go.IntKind.i64 0), (Go.Value.int Go.IntKind.u64 0), (Go.Value.int Go.IntKind.i64 0), (Go.Value.int Go.IntKind.u64 0), (Go.Value.bool Bool.false)])) fun c3 => S.bd (nck a0) fun x4 => S.bd (fld 0 x4) fun x5 => S.bd (fld 0 x5) fun x6 => S.bd (lda s 2 x6) fun x7 => S.bd (lal c2 0 5) fun x8 => S.bd (nck a0) fun x9 => unsplice_Unsplice_asks.t.p1 S x9 s a1 x7 x8 c1 c3
def unsplice_Unsplice_asks.r (a0 a1 a2 a3 : Value) (s : St) : Option Value := unsplice_Unsplice_asks.t std a0 a1 a2 a3 s
def unsplice_Unsplice_asks.w : List Value → St → Option Value
  | [a0, a1, a2, a3], s => unsplice_Unsplice_asks.r a0 a1 a2 a3 s
  | _, _ => none
def unsplice_Unsplice_asks.an : An := ⟨34, true, [6, 7, 8, 9], [], [(4, ⟨[], [(.normal, [.p 6 6 0, .p 8 8 0, .p 9 9 0, .l 6, .l 8, .l 9])]⟩)], [(1, [(0, 0, [], []), (1, 0, [], []), (2, 0, [], []), (3, 0, [], []), (4, 0, [], []), (5, 2, [], []), (6, 57, [], []), (7, 0, [], []), (8, 0, [], []), (9, 0, [], []), (10, 0, [], []), (11, 2, [], []), (12, 0, [], []), (13, 6, [], []), (14, 77, [], [])])]⟩
theorem unsplice_Unsplice_asks.ok (S : Sig) (a0 a1 a2 a3 : Value) (s : St) : evG S Try.prog unsplice_Unsplice_asks.ctx unsplice_Unsplice_asks.an Try.f109 [a0, a1, a2, a3] s = unsplice_Unsplice_asks.t S a0 a1 a2 a3 s := by kernel_rfl
theorem unsplice_Unsplice_asks.cok : CtxOk Try.prog unsplice_Unsplice_asks.ctx := .nil
theorem unsplice_Unsplice_asks.draws : fnDraws unsplice_Unsplice_asks.an Try.f109 = true := by kernel_rfl
theorem unsplice_Unsplice_asks.can : callOk Try.prog 109 = true := by kernel_rfl
theorem unsplice_Unsplice_asks.sound : FnOk Try.prog 109 (.rd unsplice_Unsplice_asks.w) := FnOk.rd_of (evG_ok unsplice_Unsplice_asks.cok mixed (f := 109) (fn := Try.f109) (by kernel_rfl) unsplice_Unsplice_asks.draws) fun args s r h => by
  unfold unsplice_Unsplice_asks.w at h; split at h
  · rw [unsplice_Unsplice_asks.ok std]; exact h
  · simp at h

/-! ### (*leapfrog/unsplice.Unsplice).Next: function 105 -/
def unsplice_Unsplice_Next.ctx : Ctx := [(108, .rd unsplice_Unsplice_is.w), (109, .rd unsplice_Unsplice_asks.w)]
def unsplice_Unsplice_Next.t.p1 (S : Sig) (a0 : Value) (s : St) (c1 : List Value) : Option Value :=
  S.bd (nck a0) fun x86 => S.bd (fld 21 x86) fun x87 => S.bd (ldc s x87) fun x88 => S.bd (bld [(Go.Value.int Go.IntKind.i64 0), (Go.Value.int Go.IntKind.u64 0), (Go.Value.slice Option.none 0 0), (Go.Value.slice Option.none 0 0), (Go.Value.int Go.IntKind.i64 0), (Go.Value.int Go.IntKind.i64 0), (Go.Value.int Go.IntKind.u64 0), (Go.Value.int Go.IntKind.i64 0), (Go.Value.int Go.IntKind.u64 0), (Go.Value.int Go.IntKind.i64 0), (Go.Value.int Go.IntKind.i64 0), (Go.Value.int Go.IntKind.u64 0), (Go.Value.int Go.IntKind.i64 0), (Go.Value.int Go.IntKind.u64 0), (Go.Value.bool Bool.false)] [(0, 1, x88)]) fun x89 => S.bd (bld [(Go.Value.int Go.IntKind.i64 0), (Go.Value.int Go.IntKind.i64 0), (Go.Value.int Go.IntKind.i64 0), (Go.Value.int Go.IntKind.u64 0), (Go.Value.int Go.IntKind.i64 0), (Go.Value.int Go.IntKind.u64 0), (Go.Value.int Go.IntKind.i64 0), (Go.Value.int Go.IntKind.i64 0), (Go.Value.int Go.IntKind.u64 0), (Go.Value.int Go.IntKind.i64 0), (Go.Value.int Go.IntKind.i64 0), (Go.Value.int Go.IntKind.u64 0), (Go.Value.int Go.IntKind.i64 0), (Go.Value.int Go.IntKind.u64 0), (Go.Value.int Go.IntKind.i64 0), (Go.Value.int Go.IntKind.i64 0), (Go.Value.int Go.IntKind.u64 0), (Go.Value.int Go.IntKind.i64 0), (Go.Value.int Go.IntKind.u64 0), (Go.Value.int Go.IntKind.i64 0), (Go.Value.int Go.IntKind.i64 0), (Go.Value.int Go.IntKind.i64 0), (Go.Value.int Go.IntKind.u64 0), (Go.Value.slice Option.none 0 0), (Go.Value.slice Option.none 0 0), (Go.Value.int Go.IntKind.i64 0), (Go.Value.int Go.IntKind.i64 0), (Go.Value.int Go.IntKind.u64 0), (Go.Value.int Go.IntKind.i64 0), (Go.Value.int Go.IntKind.u64 0), (Go.Value.int Go.IntKind.i64 0), (Go.Value.int Go.IntKind.i64 0), (Go.Value.int Go.IntKind.u64 0), (Go.Value.int Go.IntKind.i64 0), (Go.Value.int Go.IntKind.u64 0), (Go.Value.bool Bool.false)] [(0, 1, (Go.Value.int Go.IntKind.i64 3)), (21, 15, x89)]) fun x90 => S.bd (stl c1 0 36 x90) fun c91 => S.bd (lal c91 0 36) fun x92 => some (x92)

def unsplice_Unsplice_Next.t.p2 (S : Sig) (x9 : Value) (a0 : Value) (s : St) (c1 : List Value) : Option Value :=
  S.bd (eqb [1] false false x9 (Go.Value.int Go.IntKind.i64 8)) fun x74 => S.cnd x74 (S.bd (nck a0) fun x75 => S.bd (fld 11 x75) fun x76 => S.bd (lda s 5 x76) fun x77 => S.bd (bld [(Go.Value.int Go.IntKind.i64 0), (Go.Value.int Go.IntKind.i64 0), (Go.Value.int Go.IntKind.u64 0), (Go.Value.int Go.IntKind.i64 0), (Go.Value.int Go.IntKind.u64 0)] []) fun x78 => S.bd (unsplice_Unsplice_asks.r a0 (Go.Value.int Go.IntKind.i64 4) x77 x78 s) fun x79 => S.bd (stl c1 0 36 x79) fun c80 => S.bd (lal c80 0 36) fun x81 => some (x81)) (S.bd (eqb [1] false false x9 (Go.Value.int Go.IntKind.i64 9)) fun x82 => S.cnd x82 (S.bd (bld [(Go.Value.int Go.IntKind.i64 0), (Go.Value.int Go.IntKind.i64 0), (Go.Value.int Go.IntKind.i64 0), (Go.Value.int Go.IntKind.u64 0), (Go.Value.int Go.IntKind.i64 0), (Go.Value.int Go.IntKind.u64 0), (Go.Value.int Go.IntKind.i64 0), (Go.Value.int Go.IntKind.i64 0), (Go.Value.int Go.IntKind.u64 0), (Go.Value.int Go.IntKind.i64 0), (Go.Value.int Go.IntKind.i64 0), (Go.Value.int Go.IntKind.u64 0), (Go.Value.int Go.IntKind.i64 0), (Go.Value.int Go.IntKind.u64 0), (Go.Value.int Go.IntKind.i64 0), (Go.Value.int Go.IntKind.i64 0), (Go.Value.int Go.IntKind.u64 0), (Go.Value.int Go.IntKind.i64 0), (Go.Value.int Go.IntKind.u64 0), (Go.Value.int Go.IntKind.i64 0), (Go.Value.int Go.IntKind.i64 0), (Go.Value.int Go.IntKind.i64 0), (Go.Value.int Go.IntKind.u64 0), (Go.Value.slice Option.none 0 0), (Go.Value.slice Option.none 0 0), (Go.Value.int Go.IntKind.i64 0), (Go.Value.int Go.IntKind.i64 0), (Go.Value.int Go.IntKind.u64 0), (Go.Value.int Go.IntKind.i64 0), (Go.Value.int Go.IntKind.u64 0), (Go.Value.int Go.IntKind.i64 0), (Go.Value.int Go.IntKind.i64 0), (Go.Value.int Go.IntKind.u64 0), (Go.Value.int Go.IntKind.i64 0), (Go.Value.int Go.IntKind.u64 0), (Go.Value.bool Bool.false)] [(0, 1, (Go.Value.int Go.IntKind.i64 2))]) fun x83 => S.bd (stl c1 0 36 x83) fun c84 => S.bd (lal c84 0 36) fun x85 => some (x85)) (unsplice_Unsplice_Next.t.p1 S a0 s c1))

def unsplice_Unsplice_Next.t.p3 (S : Sig) (x9 : Value) (a0 : Value) (s : St) (c1 : List Value) : Option Value :=
  S.bd (eqb [1] false false x9 (Go.Value.int Go.IntKind.i64 4)) fun x36 => S.cnd x36 (S.bd (nck a0) fun x37 => S.bd (fld 11 x37) fun x38 => S.bd (lda s 5 x38) fun x39 => S.bd (nck a0) fun x40 => S.bd (fld 16 x40) fun x41 => S.bd (lda s 5 x41) fun x42 => S.bd (unsplice_Unsplice_asks.r a0 (Go.Value.int Go.IntKind.i64 5) x39 x42 s) fun x43 => S.bd (stl c1 0 36 x43) fun c44 => S.bd (lal c44 0 36) fun x45 => some (x45)) (S.bd (eqb [1] false false x9 (Go.Value.int Go.IntKind.i64 5)) fun x46 => S.cnd x46 (S.bd (nck a0) fun x47 => S.bd (fld 16 x47) fun x48 => S.bd (lda s 5 x48) fun x49 => S.bd (nck a0) fun x50 => S.bd (fld 11 x50) fun x51 => S.bd (lda s 5 x51) fun x52 => S.bd (unsplice_Unsplice_asks.r a0 (Go.Value.int Go.IntKind.i64 6) x49 x52 s) fun x53 => S.bd (stl c1 0 36 x53) fun c54 => S.bd (lal c54 0 36) fun x55 => some (x55)) (S.bd (eqb [1] false false x9 (Go.Value.int Go.IntKind.i64 6)) fun x56 => S.cnd x56 (S.bd (nck a0) fun x57 => S.bd (fld 0 x57) fun x58 => S.bd (fld 2 x58) fun x59 => S.bd (lda s 5 x59) fun x60 => S.bd (bld [(Go.Value.int Go.IntKind.i64 0), (Go.Value.int Go.IntKind.i64 0), (Go.Value.int Go.IntKind.u64 0), (Go.Value.int Go.IntKind.i64 0), (Go.Value.int Go.IntKind.u64 0)] []) fun x61 => S.bd (unsplice_Unsplice_asks.r a0 (Go.Value.int Go.IntKind.i64 8) x60 x61 s) fun x62 => S.bd (stl c1 0 36 x62) fun c63 => S.bd (lal c63 0 36) fun x64 => some (x64)) (S.bd (eqb [1] false false x9 (Go.Value.int Go.IntKind.i64 7)) fun x65 => S.cnd x65 (S.bd (nck a0) fun x66 => S.bd (fld 0 x66) fun x67 => S.bd (fld 2 x67) fun x68 => S.bd (lda s 5 x68) fun x69 => S.bd (bld [(Go.Value.int Go.IntKind.i64 0), (Go.Value.int Go.IntKind.i64 0), (Go.Value.int Go.IntKind.u64 0), (Go.Value.int Go.IntKind.i64 0), (Go.Value.int Go.IntKind.u64 0)] []) fun x70 => S.bd (unsplice_Unsplice_asks.r a0 (Go.Value.int Go.IntKind.i64 4) x69 x70 s) fun x71 => S.bd (stl c1 0 36 x71) fun c72 => S.bd (lal c72 0 36) fun x73 => some (x73)) (unsplice_Unsplice_Next.t.p2 S x9 a0 s c1))))

def unsplice_Unsplice_Next.t (S : Sig) (a0 : Value) (s : St) : Option Value :=
  S.bd (bx (Go.Value.agg #[(Go.Value.int Go.IntKind.i64 0), (Go.Value.int Go.IntKind.i64 0), (Go.Value.int Go.IntKind.i64 0), (Go.Value.int Go.IntKind.u64 0), (Go.Value.int Go.IntKind.i64 0), (Go.Value.int Go.IntKind.u64 0), (Go.Value.int Go.IntKind.i64 0), (Go.Value.int Go.IntKind.i64 0), (Go.Value.int Go.IntKind.u64 0), (Go.Value.int Go.IntKind.i64 0), (Go.Value.int Go.IntKind.i64 0), (Go.Value.int Go.IntKind.u64 0), (Go.Value.int Go.IntKind.i64 0), (Go.Value.int Go.IntKind.u64 0), (Go.Value.int Go.IntKind.i64 0), (Go.Value.int Go.IntKind.i64 0), (Go.Value.int Go.IntKind.u64 0), (Go.Value.int Go.IntKind.i64 0), (Go.Value.int Go.IntKind.u64 0), (Go.Value.int Go.IntKind.i64 0), (Go.Value.int Go.IntKind.i64 0), (Go.Value.int Go.IntKind.i64 0), (Go.Value.int Go.IntKind.u64 0), (Go.Value.slice Option.none 0 0), (Go.Value.slice Option.none 0 0), (Go.Value.int Go.IntKind.i64 0), (Go.Value.int Go.IntKind.i64 0), (Go.Value.int Go.IntKind.u64 0), (Go.Value.int Go.IntKind.i64 0), (Go.Value.int Go.IntKind.u64 0), (Go.Value.int Go.IntKind.i64 0), (Go.Value.int Go.IntKind.i64 0), (Go.Value.int Go.IntKind.u64 0), (Go.Value.int Go.IntKind.i64 0), (Go.Value.int Go.IntKind.u64 0), (Go.Value.bool Bool.false)])) fun c1 => S.bd (unsplice_Unsplice_is.r a0 s) fun x2 => S.bd (un .not x2) fun x3 => S.cnd x3 (S.bd (bld [(Go.Value.int Go.IntKind.i64 0), (Go.Value.int Go.IntKind.i64 0), (Go.Value.int Go.IntKind.i64 0), (Go.Value.int Go.IntKind.u64 0), (Go.Value.int Go.IntKind.i64 0), (Go.Value.int Go.IntKind.u64 0), (Go.Value.int Go.IntKind.i64 0), (Go.Value.int Go.IntKind.i64 0), (Go.Value.int Go.IntKind.u64 0), (Go.Value.int Go.IntKind.i64 0), (Go.Value.int Go.IntKind.i64 0), (Go.Value.int Go.IntKind.u64 0), (Go.Value.int Go.IntKind.i64 0), (Go.Value.int Go.IntKind.u64 0), (Go.Value.int Go.IntKind.i64 0), (Go.Value.int Go.IntKind.i64 0), (Go.Value.int Go.IntKind.u64 0), (Go.Value.int Go.IntKind.i64 0), (Go.Value.int Go.IntKind.u64 0), (Go.Value.int Go.IntKind.i64 0), (Go.Value.int Go.IntKind.i64 0), (Go.Value.int Go.IntKind.i64 0), (Go.Value.int Go.IntKind.u64 0), (Go.Value.slice Option.none 0 0), (Go.Value.slice Option.none 0 0), (Go.Value.int Go.IntKind.i64 0), (Go.Value.int Go.IntKind.i64 0), (Go.Value.int Go.IntKind.u64 0), (Go.Value.int Go.IntKind.i64 0), (Go.Value.int Go.IntKind.u64 0), (Go.Value.int Go.IntKind.i64 0), (Go.Value.int Go.IntKind.i64 0), (Go.Value.int Go.IntKind.u64 0), (Go.Value.int Go.IntKind.i64 0), (Go.Value.int Go.IntKind.u64 0), (Go.Value.bool Bool.false)] []) fun x4 => S.bd (stl c1 0 36 x4) fun c5 => S.bd (lal c5 0 36) fun x6 => some (x6)) (S.bd (nck a0) fun x7 => S.bd (fld 9 x7) fun x8 => S.bd (ldc s x8) fun x9 => S.bd (eqb [1] false false x9 (Go.Value.int Go.IntKind.i64 1)) fun x10 => S.cnd x10 (S.bd (nck a0) fun x11 => S.bd (fld 0 x11) fun x12 => S.bd (fld 2 x12) fun x13 => S.bd (lda s 5 x13) fun x14 => S.bd (bld [(Go.Value.int Go.IntKind.i64 0), (Go.Value.int Go.IntKind.i64 0), (Go.Value.int Go.IntKind.u64 0), (Go.Value.int Go.IntKind.i64 0), (Go.Value.int Go.IntKind.u64 0)] []) fun x15 => S.bd (unsplice_Unsplice_asks.r a0 (Go.Value.int Go.IntKind.i64 1) x14 x15 s) fun x16 => S.bd (stl c1 0 36 x16) fun c17 => S.bd (lal c17 0 36) fun x18 => some (x18)) (S.bd (eqb [1] false false x9 (Go.Value.int Go.IntKind.i64 2)) fun x19 => S.cnd x19 (S.bd (nck a0) fun x20 => S.bd (fld 11 x20) fun x21 => S.bd (lda s 5 x21) fun x22 => S.bd (bld [(Go.Value.int Go.IntKind.i64 0), (Go.Value.int Go.IntKind.i64 0), (Go.Value.int Go.IntKind.u64 0), (Go.Value.int Go.IntKind.i64 0), (Go.Value.int Go.IntKind.u64 0)] []) fun x23 => S.bd (unsplice_Unsplice_asks.r a0 (Go.Value.int Go.IntKind.i64 3) x22 x23 s) fun x24 => S.bd (stl c1 0 36 x24) fun c25 => S.bd (lal c25 0 36) fun x26 => some (x26)) (S.bd (eqb [1] false false x9 (Go.Value.int Go.IntKind.i64 3)) fun x27 => S.cnd x27 (S.bd (nck a0) fun x28 => S.bd (fld 0 x28) fun x29 => S.bd (fld 2 x29) fun x30 => S.bd (lda s 5 x30) fun x31 => S.bd (bld [(Go.Value.int Go.IntKind.i64 0), (Go.Value.int Go.IntKind.i64 0), (Go.Value.int Go.IntKind.u64 0), (Go.Value.int Go.IntKind.i64 0), (Go.Value.int Go.IntKind.u64 0)] []) fun x32 => S.bd (unsplice_Unsplice_asks.r a0 (Go.Value.int Go.IntKind.i64 3) x31 x32 s) fun x33 => S.bd (stl c1 0 36 x33) fun c34 => S.bd (lal c34 0 36) fun x35 => some (x35)) (unsplice_Unsplice_Next.t.p3 S x9 a0 s c1))))
def unsplice_Unsplice_Next.r (a0 : Value) (s : St) : Option Value := unsplice_Unsplice_Next.t std a0 s
def unsplice_Unsplice_Next.w : List Value → St → Option Value
  | [a0], s => unsplice_Unsplice_Next.r a0 s
  | _, _ => none
def unsplice_Unsplice_Next.an : An := ⟨102, true, [2], [], [], [(11, [(0, 0, [], []), (1, 0, [], []), (2, 0, [], []), (3, 0, [], []), (4, 2, [], []), (5, 0, [], []), (6, 0, [], []), (7, 0, [], []), (8, 2, [], []), (9, 3, [], []), (10, 21, [], [])]), (13, [(0, 0, [], []), (1, 0, [], []), (2, 0, [], []), (3, 0, [], []), (4, 2, [], []), (5, 0, [], []), (6, 0, [], []), (7, 0, [], []), (8, 2, [], []), (9, 3, [], []), (10, 21, [], [])])]⟩
theorem unsplice_Unsplice_Next.ok (S : Sig) (a0 : Value) (s : St) : evG S Try.prog unsplice_Unsplice_Next.ctx unsplice_Unsplice_Next.an Try.f105 [a0] s = unsplice_Unsplice_Next.t S a0 s := by kernel_rfl
theorem unsplice_Unsplice_Next.cok : CtxOk Try.prog unsplice_Unsplice_Next.ctx := .cons unsplice_Unsplice_is.sound unsplice_Unsplice_is.can <| .cons unsplice_Unsplice_asks.sound unsplice_Unsplice_asks.can <| .nil
theorem unsplice_Unsplice_Next.draws : fnDraws unsplice_Unsplice_Next.an Try.f105 = true := by kernel_rfl
theorem unsplice_Unsplice_Next.can : callOk Try.prog 105 = true := by kernel_rfl
theorem unsplice_Unsplice_Next.sound : FnOk Try.prog 105 (.rd unsplice_Unsplice_Next.w) := FnOk.rd_of (evG_ok unsplice_Unsplice_Next.cok mixed (f := 105) (fn := Try.f105) (by kernel_rfl) unsplice_Unsplice_Next.draws) fun args s r h => by
  unfold unsplice_Unsplice_Next.w at h; split at h
  · rw [unsplice_Unsplice_Next.ok std]; exact h
  · simp at h

/-! ### (*leapfrog/unsplice.Unsplice).ends: function 113 -/
def unsplice_Unsplice_ends.ctx : Ctx := []
def unsplice_Unsplice_ends.t (S : Sig) (a0 a1 : Value) (s : St) : Option (Value × St) :=
  S.bd (nck a0) fun x1 => S.bd (fld 9 x1) fun x2 => S.bd (stv s 1 x2 (Go.Value.int Go.IntKind.i64 10)) fun s3 => S.bd (nck a0) fun x4 => S.bd (fld 21 x4) fun x5 => S.bd (stv s3 1 x5 a1) fun s6 => some ((Value.tuple ⟨[]⟩), s6)
def unsplice_Unsplice_ends.v (a0 a1 : Value) (s : St) : Option (Value × St) := unsplice_Unsplice_ends.t std a0 a1 s
def unsplice_Unsplice_ends.w : List Value → St → Option (Value × St)
  | [a0, a1], s => unsplice_Unsplice_ends.v a0 a1 s
  | _, _ => none
def unsplice_Unsplice_ends.an : An := ⟨11, false, [], [], [], []⟩
theorem unsplice_Unsplice_ends.ok (S : Sig) (a0 a1 : Value) (s : St) : evF S Try.prog unsplice_Unsplice_ends.ctx unsplice_Unsplice_ends.an Try.f113 [a0, a1] s = unsplice_Unsplice_ends.t S a0 a1 s := by kernel_rfl
theorem unsplice_Unsplice_ends.cok : CtxOk Try.prog unsplice_Unsplice_ends.ctx := .nil
theorem unsplice_Unsplice_ends.draws : fnDraws unsplice_Unsplice_ends.an Try.f113 = true := by kernel_rfl
theorem unsplice_Unsplice_ends.can : callOk Try.prog 113 = true := by kernel_rfl
theorem unsplice_Unsplice_ends.sound : FnOk Try.prog 113 (.st unsplice_Unsplice_ends.w) := FnOk.st_of (evF_ok unsplice_Unsplice_ends.cok mixed (f := 113) (fn := Try.f113) (by kernel_rfl) unsplice_Unsplice_ends.draws) fun args s r h => by
  unfold unsplice_Unsplice_ends.w at h; split at h
  · rw [unsplice_Unsplice_ends.ok std]; exact h
  · simp at h

/-! ### (*leapfrog/unsplice.Unsplice).read: function 110 -/
def unsplice_Unsplice_read.ctx : Ctx := [(98, .rd key_Less.w), (113, .st unsplice_Unsplice_ends.w)]
def unsplice_Unsplice_read.t (S : Sig) (a0 a1 : Value) (s : St) : Option (Value × St) :=
  S.bd (bx a1) fun c1 => S.bd (nck a0) fun x2 => S.bd (fld 9 x2) fun x3 => S.bd (stv s 1 x3 (Go.Value.int Go.IntKind.i64 9)) fun s4 => S.bd (lcl c1 0) fun x5 => S.bd (eqb [1] false false x5 (Go.Value.int Go.IntKind.i64 1)) fun x6 => S.cnd x6 (S.bd (lal c1 3 2) fun x7 => S.bd (nck a0) fun x8 => S.bd (fld 0 x8) fun x9 => S.bd (fld 2 x9) fun x10 => S.bd (fld 1 x10) fun x11 => S.bd (lda s4 2 x11) fun x12 => S.bd (key_Less.r x7 x12 s4) fun x13 => S.cnd x13 (S.bd (lal c1 2 5) fun x14 => S.bd (nck a0) fun x15 => S.bd (fld 11 x15) fun x16 => S.bd (stv s4 5 x16 x14) fun s17 => S.bd (nck a0) fun x18 => S.bd (fld 9 x18) fun x19 => S.bd (stv s17 1 x19 (Go.Value.int Go.IntKind.i64 2)) fun s20 => some ((Value.tuple ⟨[]⟩), s20)) (some ((Value.tuple ⟨[]⟩), s4))) (S.bd (eqb [1] false false x5 (Go.Value.int Go.IntKind.i64 2)) fun x21 => S.cnd x21 (S.bd (unsplice_Unsplice_ends.v a0 (Go.Value.int Go.IntKind.i64 0) s4) fun r22 => some ((Value.tuple ⟨[]⟩), r22.2)) (S.bd (eqb [1] false false x5 (Go.Value.int Go.IntKind.i64 3)) fun x23 => S.cnd x23 (S.bd (unsplice_Unsplice_ends.v a0 (Go.Value.int Go.IntKind.i64 132) s4) fun r24 => some ((Value.tuple ⟨[]⟩), r24.2)) (some ((Value.tuple ⟨[]⟩), s4))))
def unsplice_Unsplice_read.v (a0 a1 : Value) (s : St) : Option (Value × St) := unsplice_Unsplice_read.t std a0 a1 s
def unsplice_Unsplice_read.w : List Value → St → Option (Value × St)
  | [a0, a1], s => unsplice_Unsplice_read.v a0 a1 s
  | _, _ => none
def unsplice_Unsplice_read.an : An := ⟨37, false, [3], [], [], [(4, [(0, 0, [], []), (1, 0, [], []), (2, 25, [], []), (3, 0, [], []), (4, 0, [], []), (5, 0, [], []), (6, 0, [], []), (7, 0, [], []), (8, 2, [], []), (9, 3, [], [])])]⟩
theorem unsplice_Unsplice_read.ok (S : Sig) (a0 a1 : Value) (s : St) : evF S Try.prog unsplice_Unsplice_read.ctx unsplice_Unsplice_read.an Try.f110 [a0, a1] s = unsplice_Unsplice_read.t S a0 a1 s := by kernel_rfl
theorem unsplice_Unsplice_read.cok : CtxOk Try.prog unsplice_Unsplice_read.ctx := .cons key_Less.sound key_Less.can <| .cons unsplice_Unsplice_ends.sound unsplice_Unsplice_ends.can <| .nil
theorem unsplice_Unsplice_read.draws : fnDraws unsplice_Unsplice_read.an Try.f110 = true := by kernel_rfl
theorem unsplice_Unsplice_read.can : callOk Try.prog 110 = true := by kernel_rfl
theorem unsplice_Unsplice_read.sound : FnOk Try.prog 110 (.st unsplice_Unsplice_read.w) := FnOk.st_of (evF_ok unsplice_Unsplice_read.cok mixed (f := 110) (fn := Try.f110) (by kernel_rfl) unsplice_Unsplice_read.draws) fun args s r h => by
  unfold unsplice_Unsplice_read.w at h; split at h
  · rw [unsplice_Unsplice_read.ok std]; exact h
  · simp at h

/-! ### (*leapfrog/unsplice.Unsplice).free: function 111 -/
def unsplice_Unsplice_free.ctx : Ctx := []
def unsplice_Unsplice_free.t (S : Sig) (a0 a1 a2 : Value) (s : St) : Option (Value × St) :=
  S.bd (nck a0) fun x1 => S.bd (fld 9 x1) fun x2 => S.bd (stv s 1 x2 (Go.Value.int Go.IntKind.i64 8)) fun s3 => S.bd (nck a0) fun x4 => S.bd (fld 10 x4) fun x5 => S.bd (stv s3 1 x5 a1) fun s6 => S.bd (nck a0) fun x7 => S.bd (fld 21 x7) fun x8 => S.bd (stv s6 1 x8 a2) fun s9 => some ((Value.tuple ⟨[]⟩), s9)
def unsplice_Unsplice_free.v (a0 a1 a2 : Value) (s : St) : Option (Value × St) := unsplice_Unsplice_free.t std a0 a1 a2 s
def unsplice_Unsplice_free.w : List Value → St → Option (Value × St)
  | [a0, a1, a2], s => unsplice_Unsplice_free.v a0 a1 a2 s
  | _, _ => none
def unsplice_Unsplice_free.an : An := ⟨17, false, [], [], [], []⟩
theorem unsplice_Unsplice_free.ok (S : Sig) (a0 a1 a2 : Value) (s : St) : evF S Try.prog unsplice_Unsplice_free.ctx unsplice_Unsplice_free.an Try.f111 [a0, a1, a2] s = unsplice_Unsplice_free.t S a0 a1 a2 s := by kernel_rfl
theorem unsplice_Unsplice_free.cok : CtxOk Try.prog unsplice_Unsplice_free.ctx := .nil
theorem unsplice_Unsplice_free.draws : fnDraws unsplice_Unsplice_free.an Try.f111 = true := by kernel_rfl
theorem unsplice_Unsplice_free.can : callOk Try.prog 111 = true := by kernel_rfl
theorem unsplice_Unsplice_free.sound : FnOk Try.prog 111 (.st unsplice_Unsplice_free.w) := FnOk.st_of (evF_ok unsplice_Unsplice_free.cok mixed (f := 111) (fn := Try.f111) (by kernel_rfl) unsplice_Unsplice_free.draws) fun args s r h => by
  unfold unsplice_Unsplice_free.w at h; split at h
  · rw [unsplice_Unsplice_free.ok std]; exact h
  · simp at h

/-! ### (*leapfrog/unsplice.Unsplice).own: function 112 -/
def unsplice_Unsplice_own.ctx : Ctx := [(98, .rd key_Less.w), (111, .st unsplice_Unsplice_free.w)]
def unsplice_Unsplice_own.t (S : Sig) (a0 a1 : Value) (s : St) : Option (Value × St) :=
  S.bd (bx a1) fun c1 => S.bd (lcl c1 0) fun x2 => S.bd (eqb [1] false false x2 (Go.Value.int Go.IntKind.i64 1)) fun x3 => S.cnd x3 (S.bd (lal c1 7 5) fun x4 => S.bd (nck a0) fun x5 => S.bd (fld 16 x5) fun x6 => S.bd (stv s 5 x6 x4) fun s7 => S.bd (nck a0) fun x8 => S.bd (fld 9 x8) fun x9 => S.bd (stv s7 1 x9 (Go.Value.int Go.IntKind.i64 4)) fun s10 => S.bd (nck a0) fun x11 => S.bd (fld 0 x11) fun x12 => S.bd (fld 2 x12) fun x13 => S.bd (fld 1 x13) fun x14 => S.bd (lda s10 2 x14) fun x15 => S.bd (nck a0) fun x16 => S.bd (fld 16 x16) fun x17 => S.bd (fld 1 x17) fun x18 => S.bd (lda s10 2 x18) fun x19 => S.bd (key_Less.r x15 x19 s10) fun x20 => S.bd (un .not x20) fun x21 => S.cnd x21 (S.bd (nck a0) fun x22 => S.bd (fld 9 x22) fun x23 => S.bd (stv s10 1 x23 (Go.Value.int Go.IntKind.i64 7)) fun s24 => some ((Value.tuple ⟨[]⟩), s24)) (some ((Value.tuple ⟨[]⟩), s10))) (S.bd (eqb [1] false false x2 (Go.Value.int Go.IntKind.i64 2)) fun x25 => S.cnd x25 (S.bd (unsplice_Unsplice_free.v a0 (Go.Value.int Go.IntKind.i64 10) (Go.Value.int Go.IntKind.i64 0) s) fun r26 => some ((Value.tuple ⟨[]⟩), r26.2)) (S.bd (eqb [1] false false x2 (Go.Value.int Go.IntKind.i64 3)) fun x27 => S.cnd x27 (S.bd (unsplice_Unsplice_free.v a0 (Go.Value.int Go.IntKind.i64 10) (Go.Value.int Go.IntKind.i64 132) s) fun r28 => some ((Value.tuple ⟨[]⟩), r28.2)) (S.bd (unsplice_Unsplice_free.v a0 (Go.Value.int Go.IntKind.i64 9) (Go.Value.int Go.IntKind.i64 0) s) fun r29 => some ((Value.tuple ⟨[]⟩), r29.2))))
def unsplice_Unsplice_own.v (a0 a1 : Value) (s : St) : Option (Value × St) := unsplice_Unsplice_own.t std a0 a1 s
def unsplice_Unsplice_own.w : List Value → St → Option (Value × St)
  | [a0, a1], s => unsplice_Unsplice_own.v a0 a1 s
  | _, _ => none
def unsplice_Unsplice_own.an : An := ⟨42, false, [3], [], [], [(5, [(0, 0, [], []), (1, 0, [], []), (2, 0, [], []), (3, 0, [], []), (4, 0, [], []), (5, 2, [], []), (6, 0, [], []), (7, 0, [], []), (8, 0, [], []), (9, 0, [], []), (10, 2, [], []), (11, 3, [], []), (12, 0, [], [])])]⟩
theorem unsplice_Unsplice_own.ok (S : Sig) (a0 a1 : Value) (s : St) : evF S Try.prog unsplice_Unsplice_own.ctx unsplice_Unsplice_own.an Try.f112 [a0, a1] s = unsplice_Unsplice_own.t S a0 a1 s := by kernel_rfl
theorem unsplice_Unsplice_own.cok : CtxOk Try.prog unsplice_Unsplice_own.ctx := .cons key_Less.sound key_Less.can <| .cons unsplice_Unsplice_free.sound unsplice_Unsplice_free.can <| .nil
theorem unsplice_Unsplice_own.draws : fnDraws unsplice_Unsplice_own.an Try.f112 = true := by kernel_rfl
theorem unsplice_Unsplice_own.can : callOk Try.prog 112 = true := by kernel_rfl
theorem unsplice_Unsplice_own.sound : FnOk Try.prog 112 (.st unsplice_Unsplice_own.w) := FnOk.st_of (evF_ok unsplice_Unsplice_own.cok mixed (f := 112) (fn := Try.f112) (by kernel_rfl) unsplice_Unsplice_own.draws) fun args s r h => by
  unfold unsplice_Unsplice_own.w at h; split at h
  · rw [unsplice_Unsplice_own.ok std]; exact h
  · simp at h

/-! ### (*leapfrog/unsplice.Unsplice).Tell: function 106 -/
def unsplice_Unsplice_Tell.ctx : Ctx := [(108, .rd unsplice_Unsplice_is.w), (110, .st unsplice_Unsplice_read.w), (111, .st unsplice_Unsplice_free.w), (112, .st unsplice_Unsplice_own.w)]
def unsplice_Unsplice_Tell.t.p1 (S : Sig) (x6 : Value) (c1 : List Value) (a0 : Value) (s : St) : Option (Value × St) :=
  S.bd (eqb [1] false false x6 (Go.Value.int Go.IntKind.i64 4)) fun x29 => S.cnd x29 (S.bd (show Option Cut from S.bd (show Option Cut from S.bd (lcl c1 0) fun x56 => S.bd (eqb [1] false false x56 (Go.Value.int Go.IntKind.i64 1)) fun x57 => S.cnd x57 (some (1, [a0], s)) (S.bd (lcl c1 0) fun x58 => S.bd (eqb [1] false false x58 (Go.Value.int Go.IntKind.i64 3)) fun x59 => S.bd (S.gd x59 true (lal c1 7 5)) fun x60 => S.bd (S.gd x59 true (some a0)) fun x61 => S.bd (S.gd x59 true (nck x61)) fun x62 => S.bd (S.gd x59 true (fld 16 x62)) fun x63 => S.bd (S.gd x59 true (lda s 5 x63)) fun x64 => S.bd (S.gd x59 true (eqb [1, 1, 1, 1, 1] true false x60 x64)) fun x65 => S.bd (pik x59 x65 (Go.Value.bool Bool.false)) fun x66 => S.cnd x66 (some (1, [a0], s)) (some (0, [a0], s)))) fun r67 => if r67.1 = 0 then (some (1, [(r67.2.1.getD 0 undef)], r67.2.2)) else (S.bd (nck (r67.2.1.getD 0 undef)) fun x68 => S.bd (fld 9 x68) fun x69 => S.bd (stv r67.2.2 1 x69 (Go.Value.int Go.IntKind.i64 5)) fun s70 => some (0, [], s70))) fun r71 => if r71.1 = 0 then (some ((Value.tuple ⟨[]⟩), r71.2.2)) else (S.bd (nck (r71.2.1.getD 0 undef)) fun x72 => S.bd (fld 9 x72) fun x73 => S.bd (stv r71.2.2 1 x73 (Go.Value.int Go.IntKind.i64 7)) fun s74 => some ((Value.tuple ⟨[]⟩), s74))) (S.bd (eqb [1] false false x6 (Go.Value.int Go.IntKind.i64 5)) fun x75 => S.cnd x75 (S.bd (nck a0) fun x76 => S.bd (fld 9 x76) fun x77 => S.bd (stv s 1 x77 (Go.Value.int Go.IntKind.i64 6)) fun s78 => some ((Value.tuple ⟨[]⟩), s78)) (S.bd (eqb [1] false false x6 (Go.Value.int Go.IntKind.i64 6)) fun x79 => S.cnd x79 (S.bd (unsplice_Unsplice_free.v a0 (Go.Value.int Go.IntKind.i64 10) (Go.Value.int Go.IntKind.i64 0) s) fun r80 => S.bd (lcl c1 0) fun x81 => S.bd (eqb [1] false false x81 (Go.Value.int Go.IntKind.i64 3)) fun x82 => S.cnd x82 (S.bd (nck a0) fun x83 => S.bd (fld 21 x83) fun x84 => S.bd (stv r80.2 1 x84 (Go.Value.int Go.IntKind.i64 132)) fun s85 => some ((Value.tuple ⟨[]⟩), s85)) (some ((Value.tuple ⟨[]⟩), r80.2))) (S.bd (eqb [1] false false x6 (Go.Value.int Go.IntKind.i64 7)) fun x86 => S.cnd x86 (S.bd (unsplice_Unsplice_free.v a0 (Go.Value.int Go.IntKind.i64 9) (Go.Value.int Go.IntKind.i64 0) s) fun r87 => some ((Value.tuple ⟨[]⟩), r87.2)) (S.bd (eqb [1] false false x6 (Go.Value.int Go.IntKind.i64 8)) fun x88 => S.cnd x88 (S.bd (nck a0) fun x89 => S.bd (fld 10 x89) fun x90 => S.bd (ldc s x90) fun x91 => S.bd (nck a0) fun x92 => S.bd (fld 9 x92) fun x93 => S.bd (stv s 1 x93 x91) fun s94 => some ((Value.tuple ⟨[]⟩), s94)) (some ((Value.tuple ⟨[]⟩), s))))))

def unsplice_Unsplice_Tell.t (S : Sig) (a0 a1 : Value) (s : St) : Option (Value × St) :=
  S.bd (bx a1) fun c1 => S.bd (unsplice_Unsplice_is.r a0 s) fun x2 => S.bd (un .not x2) fun x3 => S.cnd x3 (some ((Value.tuple ⟨[]⟩), s)) (S.bd (nck a0) fun x4 => S.bd (fld 9 x4) fun x5 => S.bd (ldc s x5) fun x6 => S.bd (eqb [1] false false x6 (Go.Value.int Go.IntKind.i64 1)) fun x7 => S.cnd x7 (S.bd (lal c1 0 13) fun x8 => S.bd (unsplice_Unsplice_read.v a0 x8 s) fun r9 => some ((Value.tuple ⟨[]⟩), r9.2)) (S.bd (eqb [1] false false x6 (Go.Value.int Go.IntKind.i64 2)) fun x10 => S.cnd x10 (S.bd (lcl c1 0) fun x11 => S.bd (eqb [1] false true x11 (Go.Value.int Go.IntKind.i64 1)) fun x12 => S.cnd x12 (S.bd (nck a0) fun x13 => S.bd (fld 9 x13) fun x14 => S.bd (stv s 1 x14 (Go.Value.int Go.IntKind.i64 9)) fun s15 => some ((Value.tuple ⟨[]⟩), s15)) (S.bd (lal c1 7 5) fun x16 => S.bd (nck a0) fun x17 => S.bd (fld 0 x17) fun x18 => S.bd (fld 2 x18) fun x19 => S.bd (lda s 5 x19) fun x20 => S.bd (eqb [1, 1, 1, 1, 1] true false x16 x20) fun x21 => S.cnd x21 (S.bd (nck a0) fun x22 => S.bd (fld 9 x22) fun x23 => S.bd (stv s 1 x23 (Go.Value.int Go.IntKind.i64 3)) fun s24 => some ((Value.tuple ⟨[]⟩), s24)) (S.bd (unsplice_Unsplice_free.v a0 (Go.Value.int Go.IntKind.i64 9) (Go.Value.int Go.IntKind.i64 0) s) fun r25 => some ((Value.tuple ⟨[]⟩), r25.2)))) (S.bd (eqb [1] false false x6 (Go.Value.int Go.IntKind.i64 3)) fun x26 => S.cnd x26 (S.bd (lal c1 0 13) fun x27 => S.bd (unsplice_Unsplice_own.v a0 x27 s) fun r28 => some ((Value.tuple ⟨[]⟩), r28.2)) (unsplice_Unsplice_Tell.t.p1 S x6 c1 a0 s))))
def unsplice_Unsplice_Tell.v (a0 a1 : Value) (s : St) : Option (Value × St) := unsplice_Unsplice_Tell.t std a0 a1 s
def unsplice_Unsplice_Tell.w : List Value → St → Option (Value × St)
  | [a0, a1], s => unsplice_Unsplice_Tell.v a0 a1 s
  | _, _ => none
def unsplice_Unsplice_Tell.an : An := ⟨97, false, [3], [], [(16, ⟨[], [(.exit 5, [.v 0]), (.normal, [.v 0])]⟩), (17, ⟨[], [(.exit 2, []), (.normal, [.v 0])]⟩)], [(9, [(0, 0, [], []), (1, 25, [], []), (2, 0, [], []), (3, 0, [], []), (4, 0, [], []), (5, 0, [], []), (6, 2, [], []), (7, 0, [], []), (8, 0, [], [])]), (15, [(0, 0, [], []), (1, 25, [], []), (2, 0, [], []), (3, 0, [], []), (4, 0, [], []), (5, 25, [], []), (6, 0, [], []), (7, 0, [], []), (8, 0, [], []), (9, 2, [], []), (10, 0, [], []), (11, 0, [], []), (12, 0, [], [])])]⟩
theorem unsplice_Unsplice_Tell.ok (S : Sig) (a0 a1 : Value) (s : St) : evF S Try.prog unsplice_Unsplice_Tell.ctx unsplice_Unsplice_Tell.an Try.f106 [a0, a1] s = unsplice_Unsplice_Tell.t S a0 a1 s := by kernel_rfl
theorem unsplice_Unsplice_Tell.cok : CtxOk Try.prog unsplice_Unsplice_Tell.ctx := .cons unsplice_Unsplice_is.sound unsplice_Unsplice_is.can <| .cons unsplice_Unsplice_read.sound unsplice_Unsplice_read.can <| .cons unsplice_Unsplice_free.sound unsplice_Unsplice_free.can <| .cons unsplice_Unsplice_own.sound unsplice_Unsplice_own.can <| .nil
theorem unsplice_Unsplice_Tell.draws : fnDraws unsplice_Unsplice_Tell.an Try.f106 = true := by kernel_rfl
theorem unsplice_Unsplice_Tell.can : callOk Try.prog 106 = true := by kernel_rfl
theorem unsplice_Unsplice_Tell.sound : FnOk Try.prog 106 (.st unsplice_Unsplice_Tell.w) := FnOk.st_of (evF_ok unsplice_Unsplice_Tell.cok mixed (f := 106) (fn := Try.f106) (by kernel_rfl) unsplice_Unsplice_Tell.draws) fun args s r h => by
  unfold unsplice_Unsplice_Tell.w at h; split at h
  · rw [unsplice_Unsplice_Tell.ok std]; exact h
  · simp at h

/-! ### (*leapfrog/unsplice.Unsplice).Wake: function 107 -/
def unsplice_Unsplice_Wake.ctx : Ctx := [(108, .rd unsplice_Unsplice_is.w)]
def unsplice_Unsplice_Wake.t (S : Sig) (a0 : Value) (s : St) : Option (Value × St) :=
  S.bd (unsplice_Unsplice_is.r a0 s) fun x1 => S.bd (S.gd x1 true (some a0)) fun x2 => S.bd (S.gd x1 true (nck x2)) fun x3 => S.bd (S.gd x1 true (fld 9 x3)) fun x4 => S.bd (S.gd x1 true (ldc s x4)) fun x5 => S.bd (S.gd x1 true (eqb [1] false false x5 (Go.Value.int Go.IntKind.i64 9))) fun x6 => S.bd (pik x1 x6 (Go.Value.bool Bool.false)) fun x7 => S.cnd x7 (S.bd (nck a0) fun x8 => S.bd (fld 9 x8) fun x9 => S.bd (stv s 1 x9 (Go.Value.int Go.IntKind.i64 1)) fun s10 => some ((Value.tuple ⟨[]⟩), s10)) (some ((Value.tuple ⟨[]⟩), s))
def unsplice_Unsplice_Wake.v (a0 : Value) (s : St) : Option (Value × St) := unsplice_Unsplice_Wake.t std a0 s
def unsplice_Unsplice_Wake.w : List Value → St → Option (Value × St)
  | [a0], s => unsplice_Unsplice_Wake.v a0 s
  | _, _ => none
def unsplice_Unsplice_Wake.an : An := ⟨14, false, [], [], [], []⟩
theorem unsplice_Unsplice_Wake.ok (S : Sig) (a0 : Value) (s : St) : evF S Try.prog unsplice_Unsplice_Wake.ctx unsplice_Unsplice_Wake.an Try.f107 [a0] s = unsplice_Unsplice_Wake.t S a0 s := by kernel_rfl
theorem unsplice_Unsplice_Wake.cok : CtxOk Try.prog unsplice_Unsplice_Wake.ctx := .cons unsplice_Unsplice_is.sound unsplice_Unsplice_is.can <| .nil
theorem unsplice_Unsplice_Wake.draws : fnDraws unsplice_Unsplice_Wake.an Try.f107 = true := by kernel_rfl
theorem unsplice_Unsplice_Wake.can : callOk Try.prog 107 = true := by kernel_rfl
theorem unsplice_Unsplice_Wake.sound : FnOk Try.prog 107 (.st unsplice_Unsplice_Wake.w) := FnOk.st_of (evF_ok unsplice_Unsplice_Wake.cok mixed (f := 107) (fn := Try.f107) (by kernel_rfl) unsplice_Unsplice_Wake.draws) fun args s r h => by
  unfold unsplice_Unsplice_Wake.w at h; split at h
  · rw [unsplice_Unsplice_Wake.ok std]; exact h
  · simp at h

/-! ### (*leapfrog/remove.Remove).is: function 27 -/
def remove_Remove_is.ctx : Ctx := []
def remove_Remove_is.t (S : Sig) (a0 : Value) (s : St) : Option Value :=
  S.bd (eqb [3] false true a0 (Go.Value.pointer Option.none)) fun x1 => S.bd (S.gd x1 true (some a0)) fun x2 => S.bd (S.gd x1 true (nck x2)) fun x3 => S.bd (S.gd x1 true (fld 19 x3)) fun x4 => S.bd (S.gd x1 true (ldc s x4)) fun x5 => S.bd (pik x1 x5 (Go.Value.bool Bool.false)) fun x6 => some (x6)
def remove_Remove_is.r (a0 : Value) (s : St) : Option Value := remove_Remove_is.t std a0 s
def remove_Remove_is.w : List Value → St → Option Value
  | [a0], s => remove_Remove_is.r a0 s
  | _, _ => none
def remove_Remove_is.an : An := ⟨11, true, [], [], [], []⟩
theorem remove_Remove_is.ok (S : Sig) (a0 : Value) (s : St) : evG S Try.prog remove_Remove_is.ctx remove_Remove_is.an Try.f27 [a0] s = remove_Remove_is.t S a0 s := by kernel_rfl
theorem remove_Remove_is.cok : CtxOk Try.prog remove_Remove_is.ctx := .nil
theorem remove_Remove_is.draws : fnDraws remove_Remove_is.an Try.f27 = true := by kernel_rfl
theorem remove_Remove_is.can : callOk Try.prog 27 = true := by kernel_rfl
theorem remove_Remove_is.sound : FnOk Try.prog 27 (.rd remove_Remove_is.w) := FnOk.rd_of (evG_ok remove_Remove_is.cok mixed (f := 27) (fn := Try.f27) (by kernel_rfl) remove_Remove_is.draws) fun args s r h => by
  unfold remove_Remove_is.w at h; split at h
  · rw [remove_Remove_is.ok std]; exact h
  · simp at h

/-! ### (*leapfrog/remove.Remove).Next: function 10 -/
def remove_Remove_Next.ctx : Ctx := [(27, .rd remove_Remove_is.w), (11, .rd leapfrogref16x_Remove_Next.w), (29, .rd leapfrogref12x_Seek_Next.w), (28, .rd leapfrogref14x_Unsplice_Next.w), (88, .rd seek_Seek_Next.w), (105, .rd unsplice_Unsplice_Next.w)]
def remove_Remove_Next.t.p1 (S : Sig) (a0 : Value) (s : St) (c1 : List Value) : Option (Value × St) :=
  S.bd (nck a0) fun x10 => S.bd (fld 18 x10) fun x11 => S.bd (ldc s x11) fun x12 => S.bd (bld [(Go.Value.int Go.IntKind.i64 0), (Go.Value.int Go.IntKind.u64 0), (Go.Value.slice Option.none 0 0), (Go.Value.slice Option.none 0 0), (Go.Value.int Go.IntKind.i64 0), (Go.Value.int Go.IntKind.i64 0), (Go.Value.int Go.IntKind.u64 0), (Go.Value.int Go.IntKind.i64 0), (Go.Value.int Go.IntKind.u64 0), (Go.Value.int Go.IntKind.i64 0), (Go.Value.int Go.IntKind.i64 0), (Go.Value.int Go.IntKind.u64 0), (Go.Value.int Go.IntKind.i64 0), (Go.Value.int Go.IntKind.u64 0), (Go.Value.bool Bool.false)] [(0, 1, x12)]) fun x13 => S.bd (bld [(Go.Value.int Go.IntKind.i64 0), (Go.Value.int Go.IntKind.i64 0), (Go.Value.int Go.IntKind.i64 0), (Go.Value.int Go.IntKind.u64 0), (Go.Value.int Go.IntKind.i64 0), (Go.Value.int Go.IntKind.u64 0), (Go.Value.int Go.IntKind.i64 0), (Go.Value.int Go.IntKind.i64 0), (Go.Value.int Go.IntKind.u64 0), (Go.Value.int Go.IntKind.i64 0), (Go.Value.int Go.IntKind.i64 0), (Go.Value.int Go.IntKind.u64 0), (Go.Value.int Go.IntKind.i64 0), (Go.Value.int Go.IntKind.u64 0), (Go.Value.int Go.IntKind.i64 0), (Go.Value.int Go.IntKind.i64 0), (Go.Value.int Go.IntKind.u64 0), (Go.Value.int Go.IntKind.i64 0), (Go.Value.int Go.IntKind.u64 0), (Go.Value.int Go.IntKind.i64 0), (Go.Value.int Go.IntKind.i64 0), (Go.Value.int Go.IntKind.i64 0), (Go.Value.int Go.IntKind.u64 0), (Go.Value.slice Option.none 0 0), (Go.Value.slice Option.none 0 0), (Go.Value.int Go.IntKind.i64 0), (Go.Value.int Go.IntKind.i64 0), (Go.Value.int Go.IntKind.u64 0), (Go.Value.int Go.IntKind.i64 0), (Go.Value.int Go.IntKind.u64 0), (Go.Value.int Go.IntKind.i64 0), (Go.Value.int Go.IntKind.i64 0), (Go.Value.int Go.IntKind.u64 0), (Go.Value.int Go.IntKind.i64 0), (Go.Value.int Go.IntKind.u64 0), (Go.Value.bool Bool.false)] [(0, 1, (Go.Value.int Go.IntKind.i64 3)), (21, 15, x13)]) fun x14 => S.bd (stl c1 0 36 x14) fun c15 => S.bd (lal c15 0 36) fun x16 => some (x16, s)

def remove_Remove_Next.t.p2 (S : Sig) (a0 : Value) (s : St) (c1 : List Value) : Option (Value × St) :=
  S.bd (nck a0) fun x27 => S.bd (fld 10 x27) fun x28 => S.bd (lda s 5 x28) fun x29 => S.bd (bld [(Go.Value.int Go.IntKind.i64 0), (Go.Value.int Go.IntKind.i64 0), (Go.Value.int Go.IntKind.u64 0), (Go.Value.int Go.IntKind.i64 0), (Go.Value.int Go.IntKind.i64 0), (Go.Value.int Go.IntKind.u64 0), (Go.Value.int Go.IntKind.i64 0), (Go.Value.int Go.IntKind.u64 0), (Go.Value.int Go.IntKind.i64 0), (Go.Value.int Go.IntKind.i64 0), (Go.Value.int Go.IntKind.u64 0), (Go.Value.int Go.IntKind.i64 0), (Go.Value.int Go.IntKind.u64 0), (Go.Value.int Go.IntKind.i64 0), (Go.Value.int Go.IntKind.i64 0)] [(0, 1, (Go.Value.int Go.IntKind.i64 9))]) fun x30 => S.bd (bld [(Go.Value.int Go.IntKind.i64 0), (Go.Value.int Go.IntKind.i64 0), (Go.Value.int Go.IntKind.i64 0), (Go.Value.int Go.IntKind.u64 0), (Go.Value.int Go.IntKind.i64 0), (Go.Value.int Go.IntKind.u64 0), (Go.Value.int Go.IntKind.i64 0), (Go.Value.int Go.IntKind.i64 0), (Go.Value.int Go.IntKind.u64 0), (Go.Value.int Go.IntKind.i64 0), (Go.Value.int Go.IntKind.i64 0), (Go.Value.int Go.IntKind.u64 0), (Go.Value.int Go.IntKind.i64 0), (Go.Value.int Go.IntKind.u64 0), (Go.Value.int Go.IntKind.i64 0), (Go.Value.int Go.IntKind.i64 0), (Go.Value.int Go.IntKind.u64 0), (Go.Value.int Go.IntKind.i64 0), (Go.Value.int Go.IntKind.u64 0), (Go.Value.int Go.IntKind.i64 0), (Go.Value.int Go.IntKind.i64 0), (Go.Value.int Go.IntKind.i64 0), (Go.Value.int Go.IntKind.u64 0), (Go.Value.slice Option.none 0 0), (Go.Value.slice Option.none 0 0), (Go.Value.int Go.IntKind.i64 0), (Go.Value.int Go.IntKind.i64 0), (Go.Value.int Go.IntKind.u64 0), (Go.Value.int Go.IntKind.i64 0), (Go.Value.int Go.IntKind.u64 0), (Go.Value.int Go.IntKind.i64 0), (Go.Value.int Go.IntKind.i64 0), (Go.Value.int Go.IntKind.u64 0), (Go.Value.int Go.IntKind.i64 0), (Go.Value.int Go.IntKind.u64 0), (Go.Value.bool Bool.false)] [(0, 1, (Go.Value.int Go.IntKind.i64 1)), (1, 5, x29), (6, 15, x30)]) fun x31 => S.bd (stl c1 0 36 x31) fun c32 => S.bd (lal c32 0 36) fun x33 => some (x33, s)

def remove_Remove_Next.t (S : Sig) (a0 : Value) (s : St) : Option (Value × St) :=
  S.bd (bx (Go.Value.agg #[(Go.Value.int Go.IntKind.i64 0), (Go.Value.int Go.IntKind.i64 0), (Go.Value.int Go.IntKind.i64 0), (Go.Value.int Go.IntKind.u64 0), (Go.Value.int Go.IntKind.i64 0), (Go.Value.int Go.IntKind.u64 0), (Go.Value.int Go.IntKind.i64 0), (Go.Value.int Go.IntKind.i64 0), (Go.Value.int Go.IntKind.u64 0), (Go.Value.int Go.IntKind.i64 0), (Go.Value.int Go.IntKind.i64 0), (Go.Value.int Go.IntKind.u64 0), (Go.Value.int Go.IntKind.i64 0), (Go.Value.int Go.IntKind.u64 0), (Go.Value.int Go.IntKind.i64 0), (Go.Value.int Go.IntKind.i64 0), (Go.Value.int Go.IntKind.u64 0), (Go.Value.int Go.IntKind.i64 0), (Go.Value.int Go.IntKind.u64 0), (Go.Value.int Go.IntKind.i64 0), (Go.Value.int Go.IntKind.i64 0), (Go.Value.int Go.IntKind.i64 0), (Go.Value.int Go.IntKind.u64 0), (Go.Value.slice Option.none 0 0), (Go.Value.slice Option.none 0 0), (Go.Value.int Go.IntKind.i64 0), (Go.Value.int Go.IntKind.i64 0), (Go.Value.int Go.IntKind.u64 0), (Go.Value.int Go.IntKind.i64 0), (Go.Value.int Go.IntKind.u64 0), (Go.Value.int Go.IntKind.i64 0), (Go.Value.int Go.IntKind.i64 0), (Go.Value.int Go.IntKind.u64 0), (Go.Value.int Go.IntKind.i64 0), (Go.Value.int Go.IntKind.u64 0), (Go.Value.bool Bool.false)])) fun c1 => S.bd (remove_Remove_is.r a0 s) fun x2 => S.bd (un .not x2) fun x3 => S.cnd x3 (S.bd (bld [(Go.Value.int Go.IntKind.i64 0), (Go.Value.int Go.IntKind.i64 0), (Go.Value.int Go.IntKind.i64 0), (Go.Value.int Go.IntKind.u64 0), (Go.Value.int Go.IntKind.i64 0), (Go.Value.int Go.IntKind.u64 0), (Go.Value.int Go.IntKind.i64 0), (Go.Value.int Go.IntKind.i64 0), (Go.Value.int Go.IntKind.u64 0), (Go.Value.int Go.IntKind.i64 0), (Go.Value.int Go.IntKind.i64 0), (Go.Value.int Go.IntKind.u64 0), (Go.Value.int Go.IntKind.i64 0), (Go.Value.int Go.IntKind.u64 0), (Go.Value.int Go.IntKind.i64 0), (Go.Value.int Go.IntKind.i64 0), (Go.Value.int Go.IntKind.u64 0), (Go.Value.int Go.IntKind.i64 0), (Go.Value.int Go.IntKind.u64 0), (Go.Value.int Go.IntKind.i64 0), (Go.Value.int Go.IntKind.i64 0), (Go.Value.int Go.IntKind.i64 0), (Go.Value.int Go.IntKind.u64 0), (Go.Value.slice Option.none 0 0), (Go.Value.slice Option.none 0 0), (Go.Value.int Go.IntKind.i64 0), (Go.Value.int Go.IntKind.i64 0), (Go.Value.int Go.IntKind.u64 0), (Go.Value.int Go.IntKind.i64 0), (Go.Value.int Go.IntKind.u64 0), (Go.Value.int Go.IntKind.i64 0), (Go.Value.int Go.IntKind.i64 0), (Go.Value.int Go.IntKind.u64 0), (Go.Value.int Go.IntKind.i64 0), (Go.Value.int Go.IntKind.u64 0), (Go.Value.bool Bool.false)] []) fun x4 => S.bd (stl c1 0 36 x4) fun c5 => S.bd (lal c5 0 36) fun x6 => some (x6, s)) (S.bd (nck a0) fun x7 => S.bd (fld 17 x7) fun x8 => S.bd (ldc s x8) fun x9 => S.cnd x9 (remove_Remove_Next.t.p1 S a0 s c1) (S.bd (nck a0) fun x17 => S.bd (fld 9 x17) fun x18 => S.bd (ldc s x18) fun x19 => S.bd (eqI true x19 Go.Value.nilIface) fun x20 => S.cnd x20 (S.bd (nck a0) fun x21 => S.bd (fld 9 x21) fun x22 => S.bd (ldc s x22) fun x23 => S.bd (callI Try.prog (remove_Remove_Next.ctx) "Next" x23 [] s) fun r24 => S.bd (stl c1 0 36 r24.1) fun c25 => S.bd (lal c25 0 36) fun x26 => some (x26, r24.2)) (remove_Remove_Next.t.p2 S a0 s c1)))
def remove_Remove_Next.v (a0 : Value) (s : St) : Option (Value × St) := remove_Remove_Next.t std a0 s
def remove_Remove_Next.w : List Value → St → Option (Value × St)
  | [a0], s => remove_Remove_Next.v a0 s
  | _, _ => none
def remove_Remove_Next.an : An := ⟨36, false, [2], [], [], []⟩
theorem remove_Remove_Next.ok (S : Sig) (a0 : Value) (s : St) : evF S Try.prog remove_Remove_Next.ctx remove_Remove_Next.an Try.f10 [a0] s = remove_Remove_Next.t S a0 s := by kernel_rfl
theorem remove_Remove_Next.cok : CtxOk Try.prog remove_Remove_Next.ctx := .cons remove_Remove_is.sound remove_Remove_is.can <| .cons leapfrogref16x_Remove_Next.sound leapfrogref16x_Remove_Next.can <| .cons leapfrogref12x_Seek_Next.sound leapfrogref12x_Seek_Next.can <| .cons leapfrogref14x_Unsplice_Next.sound leapfrogref14x_Unsplice_Next.can <| .cons seek_Seek_Next.sound seek_Seek_Next.can <| .cons unsplice_Unsplice_Next.sound unsplice_Unsplice_Next.can <| .nil
theorem remove_Remove_Next.draws : fnDraws remove_Remove_Next.an Try.f10 = true := by kernel_rfl
theorem remove_Remove_Next.can : callOk Try.prog 10 = true := by kernel_rfl
theorem remove_Remove_Next.sound : FnOk Try.prog 10 (.st remove_Remove_Next.w) := FnOk.st_of (evF_ok remove_Remove_Next.cok mixed (f := 10) (fn := Try.f10) (by kernel_rfl) remove_Remove_Next.draws) fun args s r h => by
  unfold remove_Remove_Next.w at h; split at h
  · rw [remove_Remove_Next.ok std]; exact h
  · simp at h

/-! ### (*leapfrog/remove.Remove).ends: function 32 -/
def remove_Remove_ends.ctx : Ctx := []
def remove_Remove_ends.t (S : Sig) (a0 a1 : Value) (s : St) : Option (Value × St) :=
  S.bd (nck a0) fun x1 => S.bd (fld 17 x1) fun x2 => S.bd (stv s 1 x2 (Go.Value.bool Bool.true)) fun s3 => S.bd (nck a0) fun x4 => S.bd (fld 18 x4) fun x5 => S.bd (stv s3 1 x5 a1) fun s6 => some ((Value.tuple ⟨[]⟩), s6)
def remove_Remove_ends.v (a0 a1 : Value) (s : St) : Option (Value × St) := remove_Remove_ends.t std a0 a1 s
def remove_Remove_ends.w : List Value → St → Option (Value × St)
  | [a0, a1], s => remove_Remove_ends.v a0 a1 s
  | _, _ => none
def remove_Remove_ends.an : An := ⟨11, false, [], [], [], []⟩
theorem remove_Remove_ends.ok (S : Sig) (a0 a1 : Value) (s : St) : evF S Try.prog remove_Remove_ends.ctx remove_Remove_ends.an Try.f32 [a0, a1] s = remove_Remove_ends.t S a0 a1 s := by kernel_rfl
theorem remove_Remove_ends.cok : CtxOk Try.prog remove_Remove_ends.ctx := .nil
theorem remove_Remove_ends.draws : fnDraws remove_Remove_ends.an Try.f32 = true := by kernel_rfl
theorem remove_Remove_ends.can : callOk Try.prog 32 = true := by kernel_rfl
theorem remove_Remove_ends.sound : FnOk Try.prog 32 (.st remove_Remove_ends.w) := FnOk.st_of (evF_ok remove_Remove_ends.cok mixed (f := 32) (fn := Try.f32) (by kernel_rfl) remove_Remove_ends.draws) fun args s r h => by
  unfold remove_Remove_ends.w at h; split at h
  · rw [remove_Remove_ends.ok std]; exact h
  · simp at h

/-! ### leapfrog/vec.Begins: function 61 -/
def vec_Begins.ctx : Ctx := [(57, .rd vec_Right.w), (60, .rd vec_prefix.w)]
def vec_Begins.t (S : Sig) (a0 a1 : Value) (s : St) : Option Value :=
  S.bd (bx a0) fun c1 => S.bd (bx a1) fun c2 => S.bd (lal c1 0 2) fun x3 => S.bd (vec_Right.r x3 s) fun x4 => S.bd (eqb [1] false false x4 (Go.Value.int Go.IntKind.i64 0)) fun x5 => S.bd (S.gd x5 true (lal c2 0 2)) fun x6 => S.bd (S.gd x5 true (vec_Right.r x6 s)) fun x7 => S.bd (S.gd x5 true (eqb [1] false false x7 (Go.Value.int Go.IntKind.i64 0))) fun x8 => S.bd (pik x5 x8 (Go.Value.bool Bool.false)) fun x9 => S.bd (S.gd x9 true (lcl c2 0)) fun x10 => S.bd (S.gd x9 true (lcl c1 0)) fun x11 => S.bd (S.gd x9 true (bin .leq x10 x11)) fun x12 => S.bd (pik x9 x12 (Go.Value.bool Bool.false)) fun x13 => S.bd (S.gd x13 true (lal c1 0 2)) fun x14 => S.bd (S.gd x13 true (lcl c2 0)) fun x15 => S.bd (S.gd x13 true (lal c2 0 2)) fun x16 => S.bd (S.gd x13 true (vec_prefix.r x14 x15 s)) fun x17 => S.bd (S.gd x13 true (eqb [1, 1] true false x17 x16)) fun x18 => S.bd (pik x13 x18 (Go.Value.bool Bool.false)) fun x19 => some (x19)
def vec_Begins.r (a0 a1 : Value) (s : St) : Option Value := vec_Begins.t std a0 a1 s
def vec_Begins.w : List Value → St → Option Value
  | [a0, a1], s => vec_Begins.r a0 a1 s
  | _, _ => none
def vec_Begins.an : An := ⟨28, true, [2, 3], [], [], [(1, [(0, 17, [], []), (1, 3, [], []), (2, 0, [], []), (3, 0, [], []), (4, 25, [], []), (5, 3, [], []), (6, 0, [], []), (7, 0, [], []), (8, 0, [], []), (9, 0, [], []), (10, 25, [], []), (11, 0, [], []), (12, 17, [], []), (13, 0, [], []), (14, 0, [], []), (15, 0, [], []), (16, 17, [], []), (17, 0, [], []), (18, 25, [], []), (20, 25, [], []), (19, 3, [], []), (21, 0, [], []), (22, 0, [], []), (23, 0, [], [])])]⟩
theorem vec_Begins.ok (S : Sig) (a0 a1 : Value) (s : St) : evG S Try.prog vec_Begins.ctx vec_Begins.an Try.f61 [a0, a1] s = vec_Begins.t S a0 a1 s := by kernel_rfl
theorem vec_Begins.cok : CtxOk Try.prog vec_Begins.ctx := .cons vec_Right.sound vec_Right.can <| .cons vec_prefix.sound vec_prefix.can <| .nil
theorem vec_Begins.draws : fnDraws vec_Begins.an Try.f61 = true := by kernel_rfl
theorem vec_Begins.can : callOk Try.prog 61 = true := by kernel_rfl
theorem vec_Begins.sound : FnOk Try.prog 61 (.rd vec_Begins.w) := FnOk.rd_of (evG_ok vec_Begins.cok mixed (f := 61) (fn := Try.f61) (by kernel_rfl) vec_Begins.draws) fun args s r h => by
  unfold vec_Begins.w at h; split at h
  · rw [vec_Begins.ok std]; exact h
  · simp at h

/-! ### leapfrog/lock.Check: function 23 -/
def lock_Check.ctx : Ctx := []
def lock_Check.t (S : Sig) (a0 : Value) (s : St) : Option Value :=
  S.bd (bx a0) fun c1 => S.bd (lcl c1 0) fun x2 => S.bd (bin .lss x2 (Go.Value.int Go.IntKind.i64 0)) fun x3 => S.bd (S.gd x3 false (lcl c1 0)) fun x4 => S.bd (S.gd x3 false (bin .geq x4 (Go.Value.int Go.IntKind.i64 1024))) fun x5 => S.bd (pik x3 (Go.Value.bool Bool.true) x5) fun x6 => S.bd (S.gd x6 false (lcl c1 1)) fun x7 => S.bd (S.gd x6 false (bin .lss x7 (Go.Value.int Go.IntKind.i64 1))) fun x8 => S.bd (pik x6 (Go.Value.bool Bool.true) x8) fun x9 => S.bd (S.gd x9 false (lcl c1 1)) fun x10 => S.bd (S.gd x9 false (bin .gtr x10 (Go.Value.int Go.IntKind.i64 1073741824))) fun x11 => S.bd (pik x9 (Go.Value.bool Bool.true) x11) fun x12 => S.cnd x12 (some ((Go.Value.int Go.IntKind.i64 70))) (some ((Go.Value.int Go.IntKind.i64 0)))
def lock_Check.r (a0 : Value) (s : St) : Option Value := lock_Check.t std a0 s
def lock_Check.w : List Value → St → Option Value
  | [a0], s => lock_Check.r a0 s
  | _, _ => none
def lock_Check.an : An := ⟨21, true, [1], [], [], []⟩
theorem lock_Check.ok (S : Sig) (a0 : Value) (s : St) : evG S Try.prog lock_Check.ctx lock_Check.an Try.f23 [a0] s = lock_Check.t S a0 s := by kernel_rfl
theorem lock_Check.cok : CtxOk Try.prog lock_Check.ctx := .nil
theorem lock_Check.draws : fnDraws lock_Check.an Try.f23 = true := by kernel_rfl
theorem lock_Check.can : callOk Try.prog 23 = true := by kernel_rfl
theorem lock_Check.sound : FnOk Try.prog 23 (.rd lock_Check.w) := FnOk.rd_of (evG_ok lock_Check.cok mixed (f := 23) (fn := Try.f23) (by kernel_rfl) lock_Check.draws) fun args s r h => by
  unfold lock_Check.w at h; split at h
  · rw [lock_Check.ok std]; exact h
  · simp at h

/-! ### leapfrog/unsplice.New: function 46 -/
def unsplice_New.ctx : Ctx := [(57, .rd vec_Right.w), (61, .rd vec_Begins.w), (23, .rd lock_Check.w)]
def unsplice_New.t (S : Sig) (a0 : Value) (s : St) : Option (Value × St) :=
  S.bd (bx a0) fun c1 => S.bd (lcl c1 3) fun x2 => S.bd (eqb [1] false true x2 (Go.Value.int Go.IntKind.i64 2)) fun x3 => S.bd (S.gd x3 false (lal c1 5 2)) fun x4 => S.bd (S.gd x3 false (vec_Right.r x4 s)) fun x5 => S.bd (S.gd x3 false (eqb [1] false true x5 (Go.Value.int Go.IntKind.i64 0))) fun x6 => S.bd (pik x3 (Go.Value.bool Bool.true) x6) fun x7 => S.bd (S.gd x7 false (lal c1 5 2)) fun x8 => S.bd (S.gd x7 false (lal c1 0 2)) fun x9 => S.bd (S.gd x7 false (vec_Begins.r x8 x9 s)) fun x10 => S.bd (S.gd x7 false (un .not x10)) fun x11 => S.bd (pik x7 (Go.Value.bool Bool.true) x11) fun x12 => S.bd (S.gd x12 false (lal c1 7 2)) fun x13 => S.bd (S.gd x12 false (lock_Check.r x13 s)) fun x14 => S.bd (S.gd x12 false (eqb [1] false true x14 (Go.Value.int Go.IntKind.i64 0))) fun x15 => S.bd (pik x12 (Go.Value.bool Bool.true) x15) fun x16 => S.cnd x16 (some ((Value.tuple ⟨[(Go.Value.pointer Option.none), (Go.Value.int Go.IntKind.i64 140)]⟩), s)) (S.bd (lal c1 0 9) fun x17 => S.bd (bld [(Go.Value.int Go.IntKind.i64 0), (Go.Value.int Go.IntKind.u64 0), (Go.Value.int Go.IntKind.i64 0), (Go.Value.int Go.IntKind.i64 0), (Go.Value.int Go.IntKind.u64 0), (Go.Value.int Go.IntKind.i64 0), (Go.Value.int Go.IntKind.u64 0), (Go.Value.int Go.IntKind.i64 0), (Go.Value.int Go.IntKind.i64 0), (Go.Value.int Go.IntKind.i64 0), (Go.Value.int Go.IntKind.i64 0), (Go.Value.int Go.IntKind.i64 0), (Go.Value.int Go.IntKind.i64 0), (Go.Value.int Go.IntKind.u64 0), (Go.Value.int Go.IntKind.i64 0), (Go.Value.int Go.IntKind.u64 0), (Go.Value.int Go.IntKind.i64 0), (Go.Value.int Go.IntKind.i64 0), (Go.Value.int Go.IntKind.u64 0), (Go.Value.int Go.IntKind.i64 0), (Go.Value.int Go.IntKind.u64 0), (Go.Value.int Go.IntKind.i64 0)] [(0, 9, x17), (9, 1, (Go.Value.int Go.IntKind.i64 1))]) fun x18 => S.bd (alv s x18) fun r19 => some ((Value.tuple ⟨[r19.1, (Go.Value.int Go.IntKind.i64 0)]⟩), r19.2))
def unsplice_New.v (a0 : Value) (s : St) : Option (Value × St) := unsplice_New.t std a0 s
def unsplice_New.w : List Value → St → Option (Value × St)
  | [a0], s => unsplice_New.v a0 s
  | _, _ => none
def unsplice_New.an : An := ⟨34, false, [1], [], [], []⟩
theorem unsplice_New.ok (S : Sig) (a0 : Value) (s : St) : evF S Try.prog unsplice_New.ctx unsplice_New.an Try.f46 [a0] s = unsplice_New.t S a0 s := by kernel_rfl
theorem unsplice_New.cok : CtxOk Try.prog unsplice_New.ctx := .cons vec_Right.sound vec_Right.can <| .cons vec_Begins.sound vec_Begins.can <| .cons lock_Check.sound lock_Check.can <| .nil
theorem unsplice_New.draws : fnDraws unsplice_New.an Try.f46 = true := by kernel_rfl
theorem unsplice_New.can : callOk Try.prog 46 = true := by kernel_rfl
theorem unsplice_New.sound : FnOk Try.prog 46 (.st unsplice_New.w) := FnOk.st_of (evF_ok unsplice_New.cok mixed (f := 46) (fn := Try.f46) (by kernel_rfl) unsplice_New.draws) fun args s r h => by
  unfold unsplice_New.w at h; split at h
  · rw [unsplice_New.ok std]; exact h
  · simp at h

/-! ### (*leapfrog/remove.Remove).leaves: function 31 -/
def remove_Remove_leaves.ctx : Ctx := [(45, .rd vec_Prefix.w), (46, .st unsplice_New.w), (32, .st remove_Remove_ends.w)]
def remove_Remove_leaves.t (S : Sig) (a0 a1 : Value) (s : St) : Option (Value × St) :=
  S.bd (nck a0) fun x1 => S.bd (fld 10 x1) fun x2 => S.bd (fld 3 x2) fun x3 => S.bd (lda s 2 x3) fun x4 => S.bd (vec_Prefix.r x4 a1 s) fun x5 => S.bd (xtr 0 x5) fun x6 => S.bd (xtr 1 x5) fun x7 => S.bd (bx (Go.Value.agg #[(Go.Value.int Go.IntKind.i64 0), (Go.Value.int Go.IntKind.u64 0)])) fun c8 => S.bd (stl c8 0 2 x6) fun c9 => S.bd (lal c9 0 2) fun x10 => S.bd (nck a0) fun x11 => S.bd (fld 10 x11) fun x12 => S.bd (lda s 5 x12) fun x13 => S.bd (nck a0) fun x14 => S.bd (fld 0 x14) fun x15 => S.bd (fld 7 x15) fun x16 => S.bd (lda s 2 x16) fun x17 => S.bd (bld [(Go.Value.int Go.IntKind.i64 0), (Go.Value.int Go.IntKind.u64 0), (Go.Value.int Go.IntKind.i64 0), (Go.Value.int Go.IntKind.i64 0), (Go.Value.int Go.IntKind.u64 0), (Go.Value.int Go.IntKind.i64 0), (Go.Value.int Go.IntKind.u64 0), (Go.Value.int Go.IntKind.i64 0), (Go.Value.int Go.IntKind.i64 0)] [(0, 2, x10), (2, 5, x13), (7, 2, x17)]) fun x18 => S.bd (unsplice_New.v x18 s) fun r19 => S.bd (lda r19.2 5 x12) fun x20 => S.cnd (Value.bool (sameV x20 x13)) (S.bd (lda r19.2 2 x16) fun x21 => S.cnd (Value.bool (sameV x21 x17)) (S.bd (xtr 0 r19.1) fun x22 => S.bd (xtr 1 r19.1) fun x23 => S.bd (eqb [1] false true x7 (Go.Value.int Go.IntKind.i64 0)) fun x24 => S.bd (S.gd x24 false (some x23)) fun x25 => S.bd (S.gd x24 false (eqb [1] false true x25 (Go.Value.int Go.IntKind.i64 0))) fun x26 => S.bd (pik x24 (Go.Value.bool Bool.true) x26) fun x27 => S.cnd x27 (S.bd (remove_Remove_ends.v a0 (Go.Value.int Go.IntKind.i64 0) r19.2) fun r28 => some ((Value.tuple ⟨[]⟩), r28.2)) (S.bd (nck a0) fun x29 => S.bd (fld 15 x29) fun x30 => S.bd (stv r19.2 1 x30 a1) fun s31 => S.bd (nck a0) fun x32 => S.bd (fld 9 x32) fun x33 => S.bd (stv s31 1 x33 (Value.iface 107 x22)) fun s34 => some ((Value.tuple ⟨[]⟩), s34))) (none)) (none)
def remove_Remove_leaves.v (a0 a1 : Value) (s : St) : Option (Value × St) := remove_Remove_leaves.t std a0 a1 s
def remove_Remove_leaves.w : List Value → St → Option (Value × St)
  | [a0, a1], s => remove_Remove_leaves.v a0 a1 s
  | _, _ => none
def remove_Remove_leaves.an : An := ⟨50, false, [4], [], [], [(1, [(0, 33, [], []), (1, 0, [], []), (2, 0, [], []), (3, 0, [], []), (4, 2, [], []), (5, 0, [], []), (6, 0, [], []), (7, 0, [], []), (8, 0, [], []), (9, 2, [], []), (10, 0, [], []), (11, 4, [4, 9], []), (12, 0, [], []), (13, 0, [], []), (14, 0, [], []), (15, 0, [], []), (16, 0, [], [])])]⟩
theorem remove_Remove_leaves.ok (S : Sig) (a0 a1 : Value) (s : St) : evF S Try.prog remove_Remove_leaves.ctx remove_Remove_leaves.an Try.f31 [a0, a1] s = remove_Remove_leaves.t S a0 a1 s := by kernel_rfl
theorem remove_Remove_leaves.cok : CtxOk Try.prog remove_Remove_leaves.ctx := .cons vec_Prefix.sound vec_Prefix.can <| .cons unsplice_New.sound unsplice_New.can <| .cons remove_Remove_ends.sound remove_Remove_ends.can <| .nil
theorem remove_Remove_leaves.draws : fnDraws remove_Remove_leaves.an Try.f31 = true := by kernel_rfl
theorem remove_Remove_leaves.can : callOk Try.prog 31 = true := by kernel_rfl
theorem remove_Remove_leaves.sound : FnOk Try.prog 31 (.st remove_Remove_leaves.w) := FnOk.st_of (evF_ok remove_Remove_leaves.cok mixed (f := 31) (fn := Try.f31) (by kernel_rfl) remove_Remove_leaves.draws) fun args s r h => by
  unfold remove_Remove_leaves.w at h; split at h
  · rw [remove_Remove_leaves.ok std]; exact h
  · simp at h

/-! ### (*leapfrog/remove.Remove).settles: function 30 -/
def remove_Remove_settles.ctx : Ctx := [(10, .st remove_Remove_Next.w), (11, .rd leapfrogref16x_Remove_Next.w), (29, .rd leapfrogref12x_Seek_Next.w), (28, .rd leapfrogref14x_Unsplice_Next.w), (88, .rd seek_Seek_Next.w), (105, .rd unsplice_Unsplice_Next.w), (32, .st remove_Remove_ends.w), (31, .st remove_Remove_leaves.w)]
def remove_Remove_settles.t (S : Sig) (a0 : Value) (s : St) : Option (Value × St) :=
  S.bd (nck a0) fun x1 => S.bd (fld 9 x1) fun x2 => S.bd (ldc s x2) fun x3 => S.bd (callI Try.prog (remove_Remove_settles.ctx) "Next" x3 [] s) fun r4 => S.bd (bx (Go.Value.agg #[(Go.Value.int Go.IntKind.i64 0), (Go.Value.int Go.IntKind.i64 0), (Go.Value.int Go.IntKind.i64 0), (Go.Value.int Go.IntKind.u64 0), (Go.Value.int Go.IntKind.i64 0), (Go.Value.int Go.IntKind.u64 0), (Go.Value.int Go.IntKind.i64 0), (Go.Value.int Go.IntKind.i64 0), (Go.Value.int Go.IntKind.u64 0), (Go.Value.int Go.IntKind.i64 0), (Go.Value.int Go.IntKind.i64 0), (Go.Value.int Go.IntKind.u64 0), (Go.Value.int Go.IntKind.i64 0), (Go.Value.int Go.IntKind.u64 0), (Go.Value.int Go.IntKind.i64 0), (Go.Value.int Go.IntKind.i64 0), (Go.Value.int Go.IntKind.u64 0), (Go.Value.int Go.IntKind.i64 0), (Go.Value.int Go.IntKind.u64 0), (Go.Value.int Go.IntKind.i64 0), (Go.Value.int Go.IntKind.i64 0), (Go.Value.int Go.IntKind.i64 0), (Go.Value.int Go.IntKind.u64 0), (Go.Value.slice Option.none 0 0), (Go.Value.slice Option.none 0 0), (Go.Value.int Go.IntKind.i64 0), (Go.Value.int Go.IntKind.i64 0), (Go.Value.int Go.IntKind.u64 0), (Go.Value.int Go.IntKind.i64 0), (Go.Value.int Go.IntKind.u64 0), (Go.Value.int Go.IntKind.i64 0), (Go.Value.int Go.IntKind.i64 0), (Go.Value.int Go.IntKind.u64 0), (Go.Value.int Go.IntKind.i64 0), (Go.Value.int Go.IntKind.u64 0), (Go.Value.bool Bool.false)])) fun c5 => S.bd (stl c5 0 36 r4.1) fun c6 => S.bd (lcl c6 0) fun x7 => S.bd (eqb [1] false true x7 (Go.Value.int Go.IntKind.i64 3)) fun x8 => S.cnd x8 (some ((Value.tuple ⟨[]⟩), r4.2)) (S.bd (nck a0) fun x9 => S.bd (fld 15 x9) fun x10 => S.bd (ldc r4.2 x10) fun x11 => S.bd (eqb [1] false false x11 (Go.Value.int Go.IntKind.i64 (-1))) fun x12 => S.cnd x12 (S.bd (nck a0) fun x13 => S.bd (fld 9 x13) fun x14 => S.bd (stv r4.2 1 x14 Go.Value.nilIface) fun s15 => S.bd (lal c6 30 5) fun x16 => S.bd (nck a0) fun x17 => S.bd (fld 10 x17) fun x18 => S.bd (stv s15 5 x18 x16) fun s19 => S.bd (lcl c6 21) fun x20 => S.bd (eqb [1] false true x20 (Go.Value.int Go.IntKind.i64 0)) fun x21 => S.cnd x21 (S.bd (lcl c6 21) fun x22 => S.bd (remove_Remove_ends.v a0 x22 s19) fun r23 => some ((Value.tuple ⟨[]⟩), r23.2)) (S.bd (lcl c6 35) fun x24 => S.bd (un .not x24) fun x25 => S.cnd x25 (S.bd (remove_Remove_ends.v a0 (Go.Value.int Go.IntKind.i64 101) s19) fun r26 => some ((Value.tuple ⟨[]⟩), r26.2)) (some ((Value.tuple ⟨[]⟩), s19)))) (S.bd (eqb [1] false false x11 (Go.Value.int Go.IntKind.i64 0)) fun x27 => S.cnd x27 (S.bd (remove_Remove_ends.v a0 (Go.Value.int Go.IntKind.i64 0) r4.2) fun r28 => some ((Value.tuple ⟨[]⟩), r28.2)) (S.bd (lcl c6 21) fun x29 => S.bd (eqb [1] false true x29 (Go.Value.int Go.IntKind.i64 0)) fun x30 => S.cnd x30 (S.bd (remove_Remove_ends.v a0 (Go.Value.int Go.IntKind.i64 0) r4.2) fun r31 => some ((Value.tuple ⟨[]⟩), r31.2)) (S.bd (nck a0) fun x32 => S.bd (fld 15 x32) fun x33 => S.bd (ldc r4.2 x33) fun x34 => S.bd (bin .sub x34 (Go.Value.int Go.IntKind.i64 1)) fun x35 => S.bd (remove_Remove_leaves.v a0 x35 r4.2) fun r36 => some ((Value.tuple ⟨[]⟩), r36.2)))))
def remove_Remove_settles.v (a0 : Value) (s : St) : Option (Value × St) := remove_Remove_settles.t std a0 s
def remove_Remove_settles.w : List Value → St → Option (Value × St)
  | [a0], s => remove_Remove_settles.v a0 s
  | _, _ => none
def remove_Remove_settles.an : An := ⟨58, false, [2], [], [], []⟩
theorem remove_Remove_settles.ok (S : Sig) (a0 : Value) (s : St) : evF S Try.prog remove_Remove_settles.ctx remove_Remove_settles.an Try.f30 [a0] s = remove_Remove_settles.t S a0 s := by kernel_rfl
theorem remove_Remove_settles.cok : CtxOk Try.prog remove_Remove_settles.ctx := .cons remove_Remove_Next.sound remove_Remove_Next.can <| .cons leapfrogref16x_Remove_Next.sound leapfrogref16x_Remove_Next.can <| .cons leapfrogref12x_Seek_Next.sound leapfrogref12x_Seek_Next.can <| .cons leapfrogref14x_Unsplice_Next.sound leapfrogref14x_Unsplice_Next.can <| .cons seek_Seek_Next.sound seek_Seek_Next.can <| .cons unsplice_Unsplice_Next.sound unsplice_Unsplice_Next.can <| .cons remove_Remove_ends.sound remove_Remove_ends.can <| .cons remove_Remove_leaves.sound remove_Remove_leaves.can <| .nil
theorem remove_Remove_settles.draws : fnDraws remove_Remove_settles.an Try.f30 = true := by kernel_rfl
theorem remove_Remove_settles.can : callOk Try.prog 30 = true := by kernel_rfl
theorem remove_Remove_settles.sound : FnOk Try.prog 30 (.st remove_Remove_settles.w) := FnOk.st_of (evF_ok remove_Remove_settles.cok mixed (f := 30) (fn := Try.f30) (by kernel_rfl) remove_Remove_settles.draws) fun args s r h => by
  unfold remove_Remove_settles.w at h; split at h
  · rw [remove_Remove_settles.ok std]; exact h
  · simp at h

/-! ### (*leapfrog/remove.Remove).Tell: function 13 -/
def remove_Remove_Tell.ctx : Ctx := [(27, .rd remove_Remove_is.w), (14, .st leapfrogref16x_Remove_Tell.w), (37, .st leapfrogref12x_Seek_Tell.w), (35, .st leapfrogref14x_Unsplice_Tell.w), (89, .st seek_Seek_Tell.w), (106, .st unsplice_Unsplice_Tell.w), (30, .st remove_Remove_settles.w), (31, .st remove_Remove_leaves.w), (32, .st remove_Remove_ends.w)]
def remove_Remove_Tell.t (S : Sig) (a0 a1 : Value) (s : St) : Option (Value × St) :=
  S.bd (bx a1) fun c1 => S.bd (remove_Remove_is.r a0 s) fun x2 => S.bd (un .not x2) fun x3 => S.bd (S.gd x3 false (some a0)) fun x4 => S.bd (S.gd x3 false (nck x4)) fun x5 => S.bd (S.gd x3 false (fld 17 x5)) fun x6 => S.bd (S.gd x3 false (ldc s x6)) fun x7 => S.bd (pik x3 (Go.Value.bool Bool.true) x7) fun x8 => S.cnd x8 (some ((Value.tuple ⟨[]⟩), s)) (S.bd (nck a0) fun x9 => S.bd (fld 9 x9) fun x10 => S.bd (ldc s x10) fun x11 => S.bd (eqI true x11 Go.Value.nilIface) fun x12 => S.cnd x12 (S.bd (nck a0) fun x13 => S.bd (fld 9 x13) fun x14 => S.bd (ldc s x14) fun x15 => S.bd (lal c1 0 13) fun x16 => S.bd (callI Try.prog (remove_Remove_Tell.ctx) "Tell" x15 [x16] s) fun r17 => S.bd (remove_Remove_settles.v a0 r17.2) fun r18 => some ((Value.tuple ⟨[]⟩), r18.2)) (S.bd (lcl c1 0) fun x19 => S.bd (eqb [1] false false x19 (Go.Value.int Go.IntKind.i64 1)) fun x20 => S.cnd x20 (S.bd (nck a0) fun x21 => S.bd (fld 16 x21) fun x22 => S.bd (stv s 1 x22 (Go.Value.bool Bool.true)) fun s23 => S.bd (nck a0) fun x24 => S.bd (fld 10 x24) fun x25 => S.bd (fld 3 x25) fun x26 => S.bd (fld 0 x26) fun x27 => S.bd (ldc s23 x27) fun x28 => S.bd (remove_Remove_leaves.v a0 x28 s23) fun r29 => some ((Value.tuple ⟨[]⟩), r29.2)) (S.bd (lcl c1 0) fun x30 => S.bd (eqb [1] false false x30 (Go.Value.int Go.IntKind.i64 3)) fun x31 => S.cnd x31 (S.bd (remove_Remove_ends.v a0 (Go.Value.int Go.IntKind.i64 132) s) fun r32 => some ((Value.tuple ⟨[]⟩), r32.2)) (S.bd (remove_Remove_ends.v a0 (Go.Value.int Go.IntKind.i64 101) s) fun r33 => some ((Value.tuple ⟨[]⟩), r33.2)))))
def remove_Remove_Tell.v (a0 a1 : Value) (s : St) : Option (Value × St) := remove_Remove_Tell.t std a0 a1 s
def remove_Remove_Tell.w : List Value → St → Option (Value × St)
  | [a0, a1], s => remove_Remove_Tell.v a0 a1 s
  | _, _ => none
def remove_Remove_Tell.an : An := ⟨51, false, [3], [], [], [(4, [(0, 0, [], []), (1, 0, [], []), (2, 0, [], []), (3, 2, [], []), (4, 25, [], []), (5, 4, [], [])])]⟩
theorem remove_Remove_Tell.ok (S : Sig) (a0 a1 : Value) (s : St) : evF S Try.prog remove_Remove_Tell.ctx remove_Remove_Tell.an Try.f13 [a0, a1] s = remove_Remove_Tell.t S a0 a1 s := by kernel_rfl
theorem remove_Remove_Tell.cok : CtxOk Try.prog remove_Remove_Tell.ctx := .cons remove_Remove_is.sound remove_Remove_is.can <| .cons leapfrogref16x_Remove_Tell.sound leapfrogref16x_Remove_Tell.can <| .cons leapfrogref12x_Seek_Tell.sound leapfrogref12x_Seek_Tell.can <| .cons leapfrogref14x_Unsplice_Tell.sound leapfrogref14x_Unsplice_Tell.can <| .cons seek_Seek_Tell.sound seek_Seek_Tell.can <| .cons unsplice_Unsplice_Tell.sound unsplice_Unsplice_Tell.can <| .cons remove_Remove_settles.sound remove_Remove_settles.can <| .cons remove_Remove_leaves.sound remove_Remove_leaves.can <| .cons remove_Remove_ends.sound remove_Remove_ends.can <| .nil
theorem remove_Remove_Tell.draws : fnDraws remove_Remove_Tell.an Try.f13 = true := by kernel_rfl
theorem remove_Remove_Tell.can : callOk Try.prog 13 = true := by kernel_rfl
theorem remove_Remove_Tell.sound : FnOk Try.prog 13 (.st remove_Remove_Tell.w) := FnOk.st_of (evF_ok remove_Remove_Tell.cok mixed (f := 13) (fn := Try.f13) (by kernel_rfl) remove_Remove_Tell.draws) fun args s r h => by
  unfold remove_Remove_Tell.w at h; split at h
  · rw [remove_Remove_Tell.ok std]; exact h
  · simp at h

/-! ### (*leapfrog/remove.Remove).Wake: function 15 -/
def remove_Remove_Wake.ctx : Ctx := [(27, .rd remove_Remove_is.w), (16, .st leapfrogref16x_Remove_Wake.w), (39, .st leapfrogref14x_Unsplice_Wake.w), (90, .rd seek_Seek_Wake.w), (107, .st unsplice_Unsplice_Wake.w), (30, .st remove_Remove_settles.w)]
def remove_Remove_Wake.t (S : Sig) (a0 : Value) (s : St) : Option (Value × St) :=
  S.bd (remove_Remove_is.r a0 s) fun x1 => S.bd (S.gd x1 true (some a0)) fun x2 => S.bd (S.gd x1 true (nck x2)) fun x3 => S.bd (S.gd x1 true (fld 17 x3)) fun x4 => S.bd (S.gd x1 true (ldc s x4)) fun x5 => S.bd (S.gd x1 true (un .not x5)) fun x6 => S.bd (pik x1 x6 (Go.Value.bool Bool.false)) fun x7 => S.bd (S.gd x7 true (some a0)) fun x8 => S.bd (S.gd x7 true (nck x8)) fun x9 => S.bd (S.gd x7 true (fld 9 x9)) fun x10 => S.bd (S.gd x7 true (ldc s x10)) fun x11 => S.bd (S.gd x7 true (eqI true x11 Go.Value.nilIface)) fun x12 => S.bd (pik x7 x12 (Go.Value.bool Bool.false)) fun x13 => S.cnd x13 (S.bd (nck a0) fun x14 => S.bd (fld 9 x14) fun x15 => S.bd (ldc s x15) fun x16 => S.bd (callI Try.prog (remove_Remove_Wake.ctx) "Wake" x16 [] s) fun r17 => S.bd (remove_Remove_settles.v a0 r17.2) fun r18 => some ((Value.tuple ⟨[]⟩), r18.2)) (some ((Value.tuple ⟨[]⟩), s))
def remove_Remove_Wake.v (a0 : Value) (s : St) : Option (Value × St) := remove_Remove_Wake.t std a0 s
def remove_Remove_Wake.w : List Value → St → Option (Value × St)
  | [a0], s => remove_Remove_Wake.v a0 s
  | _, _ => none
def remove_Remove_Wake.an : An := ⟨25, false, [], [], [], []⟩
theorem remove_Remove_Wake.ok (S : Sig) (a0 : Value) (s : St) : evF S Try.prog remove_Remove_Wake.ctx remove_Remove_Wake.an Try.f15 [a0] s = remove_Remove_Wake.t S a0 s := by kernel_rfl
theorem remove_Remove_Wake.cok : CtxOk Try.prog remove_Remove_Wake.ctx := .cons remove_Remove_is.sound remove_Remove_is.can <| .cons leapfrogref16x_Remove_Wake.sound leapfrogref16x_Remove_Wake.can <| .cons leapfrogref14x_Unsplice_Wake.sound leapfrogref14x_Unsplice_Wake.can <| .cons seek_Seek_Wake.sound seek_Seek_Wake.can <| .cons unsplice_Unsplice_Wake.sound unsplice_Unsplice_Wake.can <| .cons remove_Remove_settles.sound remove_Remove_settles.can <| .nil
theorem remove_Remove_Wake.draws : fnDraws remove_Remove_Wake.an Try.f15 = true := by kernel_rfl
theorem remove_Remove_Wake.can : callOk Try.prog 15 = true := by kernel_rfl
theorem remove_Remove_Wake.sound : FnOk Try.prog 15 (.st remove_Remove_Wake.w) := FnOk.st_of (evF_ok remove_Remove_Wake.cok mixed (f := 15) (fn := Try.f15) (by kernel_rfl) remove_Remove_Wake.draws) fun args s r h => by
  unfold remove_Remove_Wake.w at h; split at h
  · rw [remove_Remove_Wake.ok std]; exact h
  · simp at h

/-! ### leapfrog/leapfrogref12.SameResult: function 26 -/
def leapfrogref12x_SameResult.ctx : Ctx := []
def leapfrogref12x_SameResult.l4 (S : Sig) (rec63 : List Value → St → Option Cut) (xs61 : List Value) (s62 : St) : Option Cut :=
  S.bd (lcl (cellsA (xs61.getD 1 undef)) 3) fun x64 => S.bd (lenL x64) fun x65 => S.bd (bin .lss (xs61.getD 0 undef) x65) fun x66 => S.cnd x66 (S.bd (lcl (cellsA (xs61.getD 1 undef)) 3) fun x67 => S.bd (idx s62 2 x67 (xs61.getD 0 undef)) fun x68 => S.bd (fld 0 x68) fun x69 => S.bd (ldc s62 x69) fun x70 => S.bd (lcl (cellsA (xs61.getD 2 undef)) 3) fun x71 => S.bd (idx s62 2 x71 (xs61.getD 0 undef)) fun x72 => S.bd (fld 0 x72) fun x73 => S.bd (ldc s62 x73) fun x74 => S.bd (eqb [1] false true x70 x74) fun x75 => S.bd (S.gd x75 false (lcl (cellsA (xs61.getD 1 undef)) 3)) fun x76 => S.bd (S.gd x75 false (some (xs61.getD 0 undef))) fun x77 => S.bd (S.gd x75 false (idx s62 2 x76 x77)) fun x78 => S.bd (S.gd x75 false (fld 1 x78)) fun x79 => S.bd (S.gd x75 false (ldc s62 x79)) fun x80 => S.bd (S.gd x75 false (b2s s62 x80)) fun x81 => S.bd (S.gd x75 false (lcl (cellsA (xs61.getD 2 undef)) 3)) fun x82 => S.bd (S.gd x75 false (some (xs61.getD 0 undef))) fun x83 => S.bd (S.gd x75 false (idx s62 2 x82 x83)) fun x84 => S.bd (S.gd x75 false (fld 1 x84)) fun x85 => S.bd (S.gd x75 false (ldc s62 x85)) fun x86 => S.bd (S.gd x75 false (b2s s62 x86)) fun x87 => S.bd (S.gd x75 false (eqb [2] false true x81 x87)) fun x88 => S.bd (pik x75 (Go.Value.bool Bool.true) x88) fun x89 => S.cnd x89 (some (1, [(Go.Value.bool Bool.false)], s62)) (S.bd (bin .add (xs61.getD 0 undef) (Go.Value.int Go.IntKind.i64 1)) fun x90 => rec63 [x90, (Value.agg ⟨(cellsA (xs61.getD 1 undef))⟩), (Value.agg ⟨(cellsA (xs61.getD 2 undef))⟩)] s62)) (some (0, [], s62))

def leapfrogref12x_SameResult.t (S : Sig) (a0 a1 : Value) (s : St) : Option Value :=
  S.bd (bx a0) fun c1 => S.bd (bx a1) fun c2 => S.bd (lcl c1 0) fun x3 => S.bd (lcl c2 0) fun x4 => S.bd (eqb [1] false true x3 x4) fun x5 => S.bd (S.gd x5 false (lcl c1 1)) fun x6 => S.bd (S.gd x5 false (lcl c2 1)) fun x7 => S.bd (S.gd x5 false (eqb [1] false true x6 x7)) fun x8 => S.bd (pik x5 (Go.Value.bool Bool.true) x8) fun x9 => S.bd (S.gd x9 false (lcl c1 2)) fun x10 => S.bd (S.gd x9 false (b2s s x10)) fun x11 => S.bd (S.gd x9 false (lcl c2 2)) fun x12 => S.bd (S.gd x9 false (b2s s x12)) fun x13 => S.bd (S.gd x9 false (eqb [2] false true x11 x13)) fun x14 => S.bd (pik x9 (Go.Value.bool Bool.true) x14) fun x15 => S.bd (S.gd x15 false (lcl c1 3)) fun x16 => S.bd (S.gd x15 false (lenL x16)) fun x17 => S.bd (S.gd x15 false (lcl c2 3)) fun x18 => S.bd (S.gd x15 false (lenL x18)) fun x19 => S.bd (S.gd x15 false (eqb [1] false true x17 x19)) fun x20 => S.bd (pik x15 (Go.Value.bool Bool.true) x20) fun x21 => S.bd (S.gd x21 false (lal c1 4 5)) fun x22 => S.bd (S.gd x21 false (lal c2 4 5)) fun x23 => S.bd (S.gd x21 false (eqb [1, 1, 1, 1, 1] true true x22 x23)) fun x24 => S.bd (pik x21 (Go.Value.bool Bool.true) x24) fun x25 => S.bd (S.gd x25 false (lal c1 9 5)) fun x26 => S.bd (S.gd x25 false (lal c2 9 5)) fun x27 => S.bd (S.gd x25 false (eqb [1, 1, 1, 1, 1] true true x26 x27)) fun x28 => S.bd (pik x25 (Go.Value.bool Bool.true) x28) fun x29 => S.bd (S.gd x29 false (lcl c1 14)) fun x30 => S.bd (S.gd x29 false (lcl c2 14)) fun x31 => S.bd (S.gd x29 false (eqb [0] false true x30 x31)) fun x32 => S.bd (pik x29 (Go.Value.bool Bool.true) x32) fun x33 => S.cnd x33 (some ((Go.Value.bool Bool.false))) (S.bd (S.it (leapfrogref12x_SameResult.l4 S) [(Go.Value.int Go.IntKind.i64 0), (Value.agg ⟨c1⟩), (Value.agg ⟨c2⟩)] s) fun r91 => if r91.1 = 0 then (some ((Go.Value.bool Bool.true))) else (some ((r91.2.1.getD 0 undef))))
def leapfrogref12x_SameResult.r (a0 a1 : Value) (s : St) : Option Value := leapfrogref12x_SameResult.t std a0 a1 s
def leapfrogref12x_SameResult.w : List Value → St → Option Value
  | [a0, a1], s => leapfrogref12x_SameResult.r a0 a1 s
  | _, _ => none
def leapfrogref12x_SameResult.an : An := ⟨94, true, [2, 3], [(4, ⟨[.p 2 2 0, .p 3 3 0, .v 5, .l 2, .l 3], [(.exit 0, []), (.ret, [.v 4])]⟩)], [], [(6, [(0, 0, [], []), (1, 17, [], []), (2, 0, [], []), (3, 2, [], []), (4, 0, [], []), (5, 2, [], []), (6, 0, [], []), (7, 25, [], []), (8, 0, [], []), (9, 2, [], []), (10, 0, [], []), (11, 2, [], []), (12, 0, [], []), (13, 0, [], []), (14, 0, [], []), (15, 17, [], []), (16, 0, [], []), (17, 2, [], []), (18, 0, [], []), (19, 2, [], []), (20, 2, [], []), (21, 0, [], []), (22, 25, [], []), (23, 0, [], []), (24, 2, [], []), (25, 0, [], []), (26, 2, [], []), (27, 2, [], []), (28, 0, [], []), (29, 0, [], [])])]⟩
theorem leapfrogref12x_SameResult.ok (S : Sig) (a0 a1 : Value) (s : St) : evG S Try.prog leapfrogref12x_SameResult.ctx leapfrogref12x_SameResult.an Try.f26 [a0, a1] s = leapfrogref12x_SameResult.t S a0 a1 s := by kernel_rfl
theorem leapfrogref12x_SameResult.cok : CtxOk Try.prog leapfrogref12x_SameResult.ctx := .nil
theorem leapfrogref12x_SameResult.draws : fnDraws leapfrogref12x_SameResult.an Try.f26 = true := by kernel_rfl
theorem leapfrogref12x_SameResult.can : callOk Try.prog 26 = true := by kernel_rfl
theorem leapfrogref12x_SameResult.sound : FnOk Try.prog 26 (.rd leapfrogref12x_SameResult.w) := FnOk.rd_of (evG_ok leapfrogref12x_SameResult.cok mixed (f := 26) (fn := Try.f26) (by kernel_rfl) leapfrogref12x_SameResult.draws) fun args s r h => by
  unfold leapfrogref12x_SameResult.w at h; split at h
  · rw [leapfrogref12x_SameResult.ok std]; exact h
  · simp at h

/-! ### leapfrog/leapfrogref12.SameStep: function 9 -/
def leapfrogref12x_SameStep.ctx : Ctx := [(26, .rd leapfrogref12x_SameResult.w)]
def leapfrogref12x_SameStep.t (S : Sig) (a0 a1 : Value) (s : St) : Option Value :=
  S.bd (bx a0) fun c1 => S.bd (bx a1) fun c2 => S.bd (lcl c1 0) fun x3 => S.bd (lcl c2 0) fun x4 => S.bd (eqb [1] false false x3 x4) fun x5 => S.bd (S.gd x5 true (lal c1 1 5)) fun x6 => S.bd (S.gd x5 true (lal c2 1 5)) fun x7 => S.bd (S.gd x5 true (eqb [1, 1, 1, 1, 1] true false x6 x7)) fun x8 => S.bd (pik x5 x8 (Go.Value.bool Bool.false)) fun x9 => S.bd (S.gd x9 true (lal c1 6 15)) fun x10 => S.bd (S.gd x9 true (lal c2 6 15)) fun x11 => S.bd (S.gd x9 true (eqb [1, 1, 1, 1, 1, 1, 1, 1, 1, 1, 1, 1, 1, 1, 1] true false x10 x11)) fun x12 => S.bd (pik x9 x12 (Go.Value.bool Bool.false)) fun x13 => S.bd (S.gd x13 true (lal c1 21 15)) fun x14 => S.bd (S.gd x13 true (lal c2 21 15)) fun x15 => S.bd (S.gd x13 true (leapfrogref12x_SameResult.r x14 x15 s)) fun x16 => S.bd (pik x13 x16 (Go.Value.bool Bool.false)) fun x17 => some (x17)
def leapfrogref12x_SameStep.r (a0 a1 : Value) (s : St) : Option Value := leapfrogref12x_SameStep.t std a0 a1 s
def leapfrogref12x_SameStep.w : List Value → St → Option Value
  | [a0, a1], s => leapfrogref12x_SameStep.r a0 a1 s
  | _, _ => none
def leapfrogref12x_SameStep.an : An := ⟨31, true, [2, 3], [], [], []⟩
theorem leapfrogref12x_SameStep.ok (S : Sig) (a0 a1 : Value) (s : St) : evG S Try.prog leapfrogref12x_SameStep.ctx leapfrogref12x_SameStep.an Try.f9 [a0, a1] s = leapfrogref12x_SameStep.t S a0 a1 s := by kernel_rfl
theorem leapfrogref12x_SameStep.cok : CtxOk Try.prog leapfrogref12x_SameStep.ctx := .cons leapfrogref12x_SameResult.sound leapfrogref12x_SameResult.can <| .nil
theorem leapfrogref12x_SameStep.draws : fnDraws leapfrogref12x_SameStep.an Try.f9 = true := by kernel_rfl
theorem leapfrogref12x_SameStep.can : callOk Try.prog 9 = true := by kernel_rfl
theorem leapfrogref12x_SameStep.sound : FnOk Try.prog 9 (.rd leapfrogref12x_SameStep.w) := FnOk.rd_of (evG_ok leapfrogref12x_SameStep.cok mixed (f := 9) (fn := Try.f9) (by kernel_rfl) leapfrogref12x_SameStep.draws) fun args s r h => by
  unfold leapfrogref12x_SameStep.w at h; split at h
  · rw [leapfrogref12x_SameStep.ok std]; exact h
  · simp at h

/-! ### (*leapfrog/remove.Remove).Marked: function 12 -/
def remove_Remove_Marked.ctx : Ctx := [(27, .rd remove_Remove_is.w)]
def remove_Remove_Marked.t (S : Sig) (a0 : Value) (s : St) : Option Value :=
  S.bd (remove_Remove_is.r a0 s) fun x1 => S.bd (S.gd x1 true (some a0)) fun x2 => S.bd (S.gd x1 true (nck x2)) fun x3 => S.bd (S.gd x1 true (fld 16 x3)) fun x4 => S.bd (S.gd x1 true (ldc s x4)) fun x5 => S.bd (pik x1 x5 (Go.Value.bool Bool.false)) fun x6 => some (x6)
def remove_Remove_Marked.r (a0 : Value) (s : St) : Option Value := remove_Remove_Marked.t std a0 s
def remove_Remove_Marked.w : List Value → St → Option Value
  | [a0], s => remove_Remove_Marked.r a0 s
  | _, _ => none
def remove_Remove_Marked.an : An := ⟨11, true, [], [], [], []⟩
theorem remove_Remove_Marked.ok (S : Sig) (a0 : Value) (s : St) : evG S Try.prog remove_Remove_Marked.ctx remove_Remove_Marked.an Try.f12 [a0] s = remove_Remove_Marked.t S a0 s := by kernel_rfl
theorem remove_Remove_Marked.cok : CtxOk Try.prog remove_Remove_Marked.ctx := .cons remove_Remove_is.sound remove_Remove_is.can <| .nil
theorem remove_Remove_Marked.draws : fnDraws remove_Remove_Marked.an Try.f12 = true := by kernel_rfl
theorem remove_Remove_Marked.can : callOk Try.prog 12 = true := by kernel_rfl
theorem remove_Remove_Marked.sound : FnOk Try.prog 12 (.rd remove_Remove_Marked.w) := FnOk.rd_of (evG_ok remove_Remove_Marked.cok mixed (f := 12) (fn := Try.f12) (by kernel_rfl) remove_Remove_Marked.draws) fun args s r h => by
  unfold remove_Remove_Marked.w at h; split at h
  · rw [remove_Remove_Marked.ok std]; exact h
  · simp at h

/-! ### leapfrog/leapfroglaw16.Owner: function 20 -/
def leapfroglaw16x_Owner.ctx : Ctx := []
def leapfroglaw16x_Owner.t (S : Sig) (s : St) : Option Value :=
  S.bd (bx (Go.Value.agg #[(Go.Value.int Go.IntKind.i64 0), (Go.Value.int Go.IntKind.i64 0)])) fun c1 => S.bd (bld [(Go.Value.int Go.IntKind.i64 0), (Go.Value.int Go.IntKind.i64 0)] [(0, 1, (Go.Value.int Go.IntKind.i64 1)), (1, 1, (Go.Value.int Go.IntKind.i64 1))]) fun x2 => S.bd (stl c1 0 2 x2) fun c3 => S.bd (lal c3 0 2) fun x4 => some (x4)
def leapfroglaw16x_Owner.r (s : St) : Option Value := leapfroglaw16x_Owner.t std  s
def leapfroglaw16x_Owner.w : List Value → St → Option Value
  | [], s => leapfroglaw16x_Owner.r  s
  | _, _ => none
def leapfroglaw16x_Owner.an : An := ⟨2, true, [0], [], [], []⟩
theorem leapfroglaw16x_Owner.ok (S : Sig) (s : St) : evG S Try.prog leapfroglaw16x_Owner.ctx leapfroglaw16x_Owner.an Try.f20 [] s = leapfroglaw16x_Owner.t S  s := by kernel_rfl
theorem leapfroglaw16x_Owner.cok : CtxOk Try.prog leapfroglaw16x_Owner.ctx := .nil
theorem leapfroglaw16x_Owner.draws : fnDraws leapfroglaw16x_Owner.an Try.f20 = true := by kernel_rfl
theorem leapfroglaw16x_Owner.can : callOk Try.prog 20 = true := by kernel_rfl
theorem leapfroglaw16x_Owner.sound : FnOk Try.prog 20 (.rd leapfroglaw16x_Owner.w) := FnOk.rd_of (evG_ok leapfroglaw16x_Owner.cok mixed (f := 20) (fn := Try.f20) (by kernel_rfl) leapfroglaw16x_Owner.draws) fun args s r h => by
  unfold leapfroglaw16x_Owner.w at h; split at h
  · rw [leapfroglaw16x_Owner.ok std]; exact h
  · simp at h

/-! ### leapfrog/seek.right: function 40 -/
def seek_right.ctx : Ctx := [(41, .rd key_Check.w), (57, .rd vec_Right.w)]
def seek_right.t (S : Sig) (a0 a1 : Value) (s : St) : Option Value :=
  S.bd (bx a0) fun c1 => S.bd (lal c1 1 2) fun x2 => S.bd (key_Check.r x2 s) fun x3 => S.bd (eqb [1] false false x3 (Go.Value.int Go.IntKind.i64 0)) fun x4 => S.bd (S.gd x4 true (lal c1 3 2)) fun x5 => S.bd (S.gd x4 true (vec_Right.r x5 s)) fun x6 => S.bd (S.gd x4 true (eqb [1] false false x6 (Go.Value.int Go.IntKind.i64 0))) fun x7 => S.bd (pik x4 x7 (Go.Value.bool Bool.false)) fun x8 => S.bd (S.gd x8 true (lcl c1 3)) fun x9 => S.bd (S.gd x8 true (some a1)) fun x10 => S.bd (S.gd x8 true (eqb [1] false false x9 x10)) fun x11 => S.bd (pik x8 x11 (Go.Value.bool Bool.false)) fun x12 => some (x12)
def seek_right.r (a0 a1 : Value) (s : St) : Option Value := seek_right.t std a0 a1 s
def seek_right.w : List Value → St → Option Value
  | [a0, a1], s => seek_right.r a0 a1 s
  | _, _ => none
def seek_right.an : An := ⟨22, true, [2], [], [], []⟩
theorem seek_right.ok (S : Sig) (a0 a1 : Value) (s : St) : evG S Try.prog seek_right.ctx seek_right.an Try.f40 [a0, a1] s = seek_right.t S a0 a1 s := by kernel_rfl
theorem seek_right.cok : CtxOk Try.prog seek_right.ctx := .cons key_Check.sound key_Check.can <| .cons vec_Right.sound vec_Right.can <| .nil
theorem seek_right.draws : fnDraws seek_right.an Try.f40 = true := by kernel_rfl
theorem seek_right.can : callOk Try.prog 40 = true := by kernel_rfl
theorem seek_right.sound : FnOk Try.prog 40 (.rd seek_right.w) := FnOk.rd_of (evG_ok seek_right.cok mixed (f := 40) (fn := Try.f40) (by kernel_rfl) seek_right.draws) fun args s r h => by
  unfold seek_right.w at h; split at h
  · rw [seek_right.ok std]; exact h
  · simp at h

/-! ### leapfrog/seek.New: function 22 -/
def seek_New.ctx : Ctx := [(40, .rd seek_right.w), (41, .rd key_Check.w)]
def seek_New.t.p1 (S : Sig) (x6 : Value) (x9 : Value) (c1 : List Value) (s : St) : Option (Value × St) :=
  S.bd (S.gd x6 false (un .not x9)) fun x10 => S.bd (pik x6 (Go.Value.bool Bool.true) x10) fun x11 => S.bd (S.gd x11 false (lal c1 6 2)) fun x12 => S.bd (S.gd x11 false (key_Check.r x12 s)) fun x13 => S.bd (S.gd x11 false (eqb [1] false true x13 (Go.Value.int Go.IntKind.i64 0))) fun x14 => S.bd (pik x11 (Go.Value.bool Bool.true) x14) fun x15 => S.bd (S.gd x15 false (lcl c1 6)) fun x16 => S.bd (S.gd x15 false (eqb [1] false false x16 (Go.Value.int Go.IntKind.i64 1))) fun x17 => S.bd (pik x15 (Go.Value.bool Bool.true) x17) fun x18 => S.cnd x18 (some ((Value.tuple ⟨[(Go.Value.pointer Option.none), (Go.Value.int Go.IntKind.i64 120)]⟩), s)) (S.bd (lal c1 0 8) fun x19 => S.bd (lal c1 1 5) fun x20 => S.bd (lal c1 4 2) fun x21 => S.bd (mkm s) fun r22 => S.bd (bld [(Go.Value.int Go.IntKind.i64 0), (Go.Value.int Go.IntKind.i64 0), (Go.Value.int Go.IntKind.i64 0), (Go.Value.int Go.IntKind.u64 0), (Go.Value.int Go.IntKind.i64 0), (Go.Value.int Go.IntKind.u64 0), (Go.Value.int Go.IntKind.i64 0), (Go.Value.int Go.IntKind.u64 0), (Go.Value.bool Bool.false), (Go.Value.int Go.IntKind.i64 0), (Go.Value.int Go.IntKind.i64 0), (Go.Value.int Go.IntKind.u64 0), (Go.Value.int Go.IntKind.i64 0), (Go.Value.int Go.IntKind.u64 0), (Go.Value.int Go.IntKind.i64 0), (Go.Value.int Go.IntKind.u64 0), (Go.Value.bool Bool.false), (Go.Value.int Go.IntKind.i64 0), (Go.Value.int Go.IntKind.i64 0), (Go.Value.int Go.IntKind.u64 0), (Go.Value.int Go.IntKind.i64 0), (Go.Value.int Go.IntKind.u64 0), (Go.Value.map Option.none), (Go.Value.int Go.IntKind.i64 0), (Go.Value.bool Bool.false), (Go.Value.int Go.IntKind.i64 0), (Go.Value.int Go.IntKind.u64 0), (Go.Value.slice Option.none 0 0), (Go.Value.slice Option.none 0 0), (Go.Value.int Go.IntKind.i64 0), (Go.Value.int Go.IntKind.i64 0), (Go.Value.int Go.IntKind.u64 0), (Go.Value.int Go.IntKind.i64 0), (Go.Value.int Go.IntKind.u64 0), (Go.Value.int Go.IntKind.i64 0), (Go.Value.int Go.IntKind.i64 0), (Go.Value.int Go.IntKind.u64 0), (Go.Value.int Go.IntKind.i64 0), (Go.Value.int Go.IntKind.u64 0), (Go.Value.bool Bool.false)] [(0, 8, x19), (8, 1, (Go.Value.bool Bool.true)), (9, 5, x20), (14, 2, x21), (22, 1, r22.1)]) fun x23 => S.bd (alv r22.2 x23) fun r24 => some ((Value.tuple ⟨[r24.1, (Go.Value.int Go.IntKind.i64 0)]⟩), r24.2))

def seek_New.t (S : Sig) (a0 : Value) (s : St) : Option (Value × St) :=
  S.bd (bx a0) fun c1 => S.bd (lcl c1 0) fun x2 => S.bd (bin .lss x2 (Go.Value.int Go.IntKind.i64 0)) fun x3 => S.bd (S.gd x3 false (lcl c1 0)) fun x4 => S.bd (S.gd x3 false (bin .gtr x4 (Go.Value.int Go.IntKind.i64 32))) fun x5 => S.bd (pik x3 (Go.Value.bool Bool.true) x5) fun x6 => S.bd (S.gd x6 false (lal c1 1 5)) fun x7 => S.bd (S.gd x6 false (lcl c1 0)) fun x8 => S.bd (S.gd x6 false (seek_right.r x7 x8 s)) fun x9 => seek_New.t.p1 S x6 x9 c1 s
def seek_New.v (a0 : Value) (s : St) : Option (Value × St) := seek_New.t std a0 s
def seek_New.w : List Value → St → Option (Value × St)
  | [a0], s => seek_New.v a0 s
  | _, _ => none
def seek_New.an : An := ⟨41, false, [1], [], [], []⟩
theorem seek_New.ok (S : Sig) (a0 : Value) (s : St) : evF S Try.prog seek_New.ctx seek_New.an Try.f22 [a0] s = seek_New.t S a0 s := by kernel_rfl
theorem seek_New.cok : CtxOk Try.prog seek_New.ctx := .cons seek_right.sound seek_right.can <| .cons key_Check.sound key_Check.can <| .nil
theorem seek_New.draws : fnDraws seek_New.an Try.f22 = true := by kernel_rfl
theorem seek_New.can : callOk Try.prog 22 = true := by kernel_rfl
theorem seek_New.sound : FnOk Try.prog 22 (.st seek_New.w) := FnOk.st_of (evF_ok seek_New.cok mixed (f := 22) (fn := Try.f22) (by kernel_rfl) seek_New.draws) fun args s r h => by
  unfold seek_New.w at h; split at h
  · rw [seek_New.ok std]; exact h
  · simp at h

/-! ### leapfrog/remove.New: function 7 -/
def remove_New.ctx : Ctx := [(22, .st seek_New.w), (23, .rd lock_Check.w)]
def remove_New.t (S : Sig) (a0 : Value) (s : St) : Option (Value × St) :=
  S.bd (bx a0) fun c1 => S.bd (lcl c1 0) fun x2 => S.bd (lal c1 1 5) fun x3 => S.bd (lcl c1 6) fun x4 => S.bd (bld [(Go.Value.int Go.IntKind.i64 0), (Go.Value.int Go.IntKind.u64 0)] [(0, 1, (Go.Value.int Go.IntKind.i64 2)), (1, 1, x4)]) fun x5 => S.bd (bld [(Go.Value.int Go.IntKind.i64 0), (Go.Value.int Go.IntKind.i64 0), (Go.Value.int Go.IntKind.i64 0), (Go.Value.int Go.IntKind.u64 0), (Go.Value.int Go.IntKind.i64 0), (Go.Value.int Go.IntKind.u64 0), (Go.Value.int Go.IntKind.i64 0), (Go.Value.int Go.IntKind.u64 0)] [(0, 1, x2), (1, 5, x3), (6, 2, x5)]) fun x6 => S.bd (seek_New.v x6 s) fun r7 => S.bd (xtr 0 r7.1) fun x8 => S.bd (xtr 1 r7.1) fun x9 => S.bd (eqb [1] false true x9 (Go.Value.int Go.IntKind.i64 0)) fun x10 => S.bd (S.gd x10 false (lal c1 7 2)) fun x11 => S.bd (S.gd x10 false (lock_Check.r x11 r7.2)) fun x12 => S.bd (S.gd x10 false (eqb [1] false true x12 (Go.Value.int Go.IntKind.i64 0))) fun x13 => S.bd (pik x10 (Go.Value.bool Bool.true) x13) fun x14 => S.cnd x14 (some ((Value.tuple ⟨[(Go.Value.pointer Option.none), (Go.Value.int Go.IntKind.i64 160)]⟩), r7.2)) (S.bd (lal c1 0 9) fun x15 => S.bd (bld [(Go.Value.int Go.IntKind.i64 0), (Go.Value.int Go.IntKind.i64 0), (Go.Value.int Go.IntKind.i64 0), (Go.Value.int Go.IntKind.u64 0), (Go.Value.int Go.IntKind.i64 0), (Go.Value.int Go.IntKind.u64 0), (Go.Value.int Go.IntKind.u64 0), (Go.Value.int Go.IntKind.i64 0), (Go.Value.int Go.IntKind.i64 0), Go.Value.nilIface, (Go.Value.int Go.IntKind.i64 0), (Go.Value.int Go.IntKind.i64 0), (Go.Value.int Go.IntKind.u64 0), (Go.Value.int Go.IntKind.i64 0), (Go.Value.int Go.IntKind.u64 0), (Go.Value.int Go.IntKind.i64 0), (Go.Value.bool Bool.false), (Go.Value.bool Bool.false), (Go.Value.int Go.IntKind.i64 0), (Go.Value.bool Bool.false)] [(0, 9, x15), (9, 1, (Value.iface 77 x8)), (15, 1, (Go.Value.int Go.IntKind.i64 (-1))), (19, 1, (Go.Value.bool Bool.true))]) fun x16 => S.bd (alv r7.2 x16) fun r17 => some ((Value.tuple ⟨[r17.1, (Go.Value.int Go.IntKind.i64 0)]⟩), r17.2))
def remove_New.v (a0 : Value) (s : St) : Option (Value × St) := remove_New.t std a0 s
def remove_New.w : List Value → St → Option (Value × St)
  | [a0], s => remove_New.v a0 s
  | _, _ => none
def remove_New.an : An := ⟨31, false, [1], [], [], []⟩
theorem remove_New.ok (S : Sig) (a0 : Value) (s : St) : evF S Try.prog remove_New.ctx remove_New.an Try.f7 [a0] s = remove_New.t S a0 s := by kernel_rfl
theorem remove_New.cok : CtxOk Try.prog remove_New.ctx := .cons seek_New.sound seek_New.can <| .cons lock_Check.sound lock_Check.can <| .nil
theorem remove_New.draws : fnDraws remove_New.an Try.f7 = true := by kernel_rfl
theorem remove_New.can : callOk Try.prog 7 = true := by kernel_rfl
theorem remove_New.sound : FnOk Try.prog 7 (.st remove_New.w) := FnOk.st_of (evF_ok remove_New.cok mixed (f := 7) (fn := Try.f7) (by kernel_rfl) remove_New.draws) fun args s r h => by
  unfold remove_New.w at h; split at h
  · rw [remove_New.ok std]; exact h
  · simp at h

/-! ### leapfrog/leapfrogref12.Tail: function 21 -/
def leapfrogref12x_Tail.ctx : Ctx := []
def leapfrogref12x_Tail.t (S : Sig) (a0 : Value) (s : St) : Option Value :=
  S.bd (bx (Go.Value.agg #[(Go.Value.int Go.IntKind.i64 0), (Go.Value.int Go.IntKind.i64 0), (Go.Value.int Go.IntKind.u64 0), (Go.Value.int Go.IntKind.i64 0), (Go.Value.int Go.IntKind.u64 0)])) fun c1 => S.bd (bld [(Go.Value.int Go.IntKind.i64 0), (Go.Value.int Go.IntKind.u64 0)] [(0, 1, (Go.Value.int Go.IntKind.i64 3))]) fun x2 => S.bd (bld [(Go.Value.int Go.IntKind.i64 0), (Go.Value.int Go.IntKind.u64 0)] [(0, 1, a0)]) fun x3 => S.bd (bld [(Go.Value.int Go.IntKind.i64 0), (Go.Value.int Go.IntKind.i64 0), (Go.Value.int Go.IntKind.u64 0), (Go.Value.int Go.IntKind.i64 0), (Go.Value.int Go.IntKind.u64 0)] [(0, 1, (Go.Value.int Go.IntKind.i64 1)), (1, 2, x2), (3, 2, x3)]) fun x4 => S.bd (stl c1 0 5 x4) fun c5 => S.bd (lal c5 0 5) fun x6 => some (x6)
def leapfrogref12x_Tail.r (a0 : Value) (s : St) : Option Value := leapfrogref12x_Tail.t std a0 s
def leapfrogref12x_Tail.w : List Value → St → Option Value
  | [a0], s => leapfrogref12x_Tail.r a0 s
  | _, _ => none
def leapfrogref12x_Tail.an : An := ⟨7, true, [2], [], [], []⟩
theorem leapfrogref12x_Tail.ok (S : Sig) (a0 : Value) (s : St) : evG S Try.prog leapfrogref12x_Tail.ctx leapfrogref12x_Tail.an Try.f21 [a0] s = leapfrogref12x_Tail.t S a0 s := by kernel_rfl
theorem leapfrogref12x_Tail.cok : CtxOk Try.prog leapfrogref12x_Tail.ctx := .nil
theorem leapfrogref12x_Tail.draws : fnDraws leapfrogref12x_Tail.an Try.f21 = true := by kernel_rfl
theorem leapfrogref12x_Tail.can : callOk Try.prog 21 = true := by kernel_rfl
theorem leapfrogref12x_Tail.sound : FnOk Try.prog 21 (.rd leapfrogref12x_Tail.w) := FnOk.rd_of (evG_ok leapfrogref12x_Tail.cok mixed (f := 21) (fn := Try.f21) (by kernel_rfl) leapfrogref12x_Tail.draws) fun args s r h => by
  unfold leapfrogref12x_Tail.w at h; split at h
  · rw [leapfrogref12x_Tail.ok std]; exact h
  · simp at h

/-! ### leapfrog/leapfroglaw16.awake: function 6 -/
def leapfroglaw16x_awake.ctx : Ctx := [(19, .rd leapfrogref12x_Head.w), (20, .rd leapfroglaw16x_Owner.w), (7, .st remove_New.w), (10, .st remove_Remove_Next.w), (21, .rd leapfrogref12x_Tail.w), (13, .st remove_Remove_Tell.w), (12, .rd remove_Remove_Marked.w)]
def leapfroglaw16x_awake.t.p1 (S : Sig) (x5 : Value) (r4 : Value × St) : Option (Value × St) :=
  S.bd (remove_Remove_Next.v x5 r4.2) fun r11 => S.bd (bx (Go.Value.agg #[(Go.Value.int Go.IntKind.i64 0), (Go.Value.int Go.IntKind.i64 0), (Go.Value.int Go.IntKind.i64 0), (Go.Value.int Go.IntKind.u64 0), (Go.Value.int Go.IntKind.i64 0), (Go.Value.int Go.IntKind.u64 0), (Go.Value.int Go.IntKind.i64 0), (Go.Value.int Go.IntKind.i64 0), (Go.Value.int Go.IntKind.u64 0), (Go.Value.int Go.IntKind.i64 0), (Go.Value.int Go.IntKind.i64 0), (Go.Value.int Go.IntKind.u64 0), (Go.Value.int Go.IntKind.i64 0), (Go.Value.int Go.IntKind.u64 0), (Go.Value.int Go.IntKind.i64 0), (Go.Value.int Go.IntKind.i64 0), (Go.Value.int Go.IntKind.u64 0), (Go.Value.int Go.IntKind.i64 0), (Go.Value.int Go.IntKind.u64 0), (Go.Value.int Go.IntKind.i64 0), (Go.Value.int Go.IntKind.i64 0), (Go.Value.int Go.IntKind.i64 0), (Go.Value.int Go.IntKind.u64 0), (Go.Value.slice Option.none 0 0), (Go.Value.slice Option.none 0 0), (Go.Value.int Go.IntKind.i64 0), (Go.Value.int Go.IntKind.i64 0), (Go.Value.int Go.IntKind.u64 0), (Go.Value.int Go.IntKind.i64 0), (Go.Value.int Go.IntKind.u64 0), (Go.Value.int Go.IntKind.i64 0), (Go.Value.int Go.IntKind.i64 0), (Go.Value.int Go.IntKind.u64 0), (Go.Value.int Go.IntKind.i64 0), (Go.Value.int Go.IntKind.u64 0), (Go.Value.bool Bool.false)])) fun c12 => S.bd (stl c12 0 36 r11.1) fun c13 => S.bd (leapfrogref12x_Tail.r (Go.Value.int Go.IntKind.i64 0) r11.2) fun x14 => S.bd (bld [(Go.Value.int Go.IntKind.i64 0), (Go.Value.bool Bool.false), (Go.Value.int Go.IntKind.i64 0), (Go.Value.int Go.IntKind.i64 0), (Go.Value.int Go.IntKind.u64 0), (Go.Value.int Go.IntKind.i64 0), (Go.Value.int Go.IntKind.u64 0), (Go.Value.int Go.IntKind.i64 0), (Go.Value.int Go.IntKind.i64 0), (Go.Value.int Go.IntKind.u64 0), (Go.Value.int Go.IntKind.i64 0), (Go.Value.int Go.IntKind.u64 0), (Go.Value.slice Option.none 0 0)] [(0, 1, (Go.Value.int Go.IntKind.i64 1)), (7, 5, x14)]) fun x15 => S.bd (remove_Remove_Tell.v x5 x15 r11.2) fun r16 => S.bd (remove_Remove_Next.v x5 r16.2) fun r17 => S.bd (bx (Go.Value.agg #[(Go.Value.int Go.IntKind.i64 0), (Go.Value.int Go.IntKind.i64 0), (Go.Value.int Go.IntKind.i64 0), (Go.Value.int Go.IntKind.u64 0), (Go.Value.int Go.IntKind.i64 0), (Go.Value.int Go.IntKind.u64 0), (Go.Value.int Go.IntKind.i64 0), (Go.Value.int Go.IntKind.i64 0), (Go.Value.int Go.IntKind.u64 0), (Go.Value.int Go.IntKind.i64 0), (Go.Value.int Go.IntKind.i64 0), (Go.Value.int Go.IntKind.u64 0), (Go.Value.int Go.IntKind.i64 0), (Go.Value.int Go.IntKind.u64 0), (Go.Value.int Go.IntKind.i64 0), (Go.Value.int Go.IntKind.i64 0), (Go.Value.int Go.IntKind.u64 0), (Go.Value.int Go.IntKind.i64 0), (Go.Value.int Go.IntKind.u64 0), (Go.Value.int Go.IntKind.i64 0), (Go.Value.int Go.IntKind.i64 0), (Go.Value.int Go.IntKind.i64 0), (Go.Value.int Go.IntKind.u64 0), (Go.Value.slice Option.none 0 0), (Go.Value.slice Option.none 0 0), (Go.Value.int Go.IntKind.i64 0), (Go.Value.int Go.IntKind.i64 0), (Go.Value.int Go.IntKind.u64 0), (Go.Value.int Go.IntKind.i64 0), (Go.Value.int Go.IntKind.u64 0), (Go.Value.int Go.IntKind.i64 0), (Go.Value.int Go.IntKind.i64 0), (Go.Value.int Go.IntKind.u64 0), (Go.Value.int Go.IntKind.i64 0), (Go.Value.int Go.IntKind.u64 0), (Go.Value.bool Bool.false)])) fun c18 => S.bd (stl c18 0 36 r17.1) fun c19 => S.bd (lcl c13 0) fun x20 => S.bd (eqb [1] false false x20 (Go.Value.int Go.IntKind.i64 1)) fun x21 => S.bd (S.gd x21 true (lcl c13 6)) fun x22 => S.bd (S.gd x21 true (eqb [1] false false x22 (Go.Value.int Go.IntKind.i64 1))) fun x23 => S.bd (pik x21 x23 (Go.Value.bool Bool.false)) fun x24 => S.bd (S.gd x24 true (lcl c19 0)) fun x25 => S.bd (S.gd x24 true (eqb [1] false false x25 (Go.Value.int Go.IntKind.i64 3))) fun x26 => S.bd (pik x24 x26 (Go.Value.bool Bool.false)) fun x27 => S.bd (S.gd x27 true (lcl c19 21)) fun x28 => S.bd (S.gd x27 true (eqb [1] false false x28 (Go.Value.int Go.IntKind.i64 101))) fun x29 => S.bd (pik x27 x29 (Go.Value.bool Bool.false)) fun x30 => S.bd (S.gd x30 true (some x5)) fun x31 => S.bd (S.gd x30 true (remove_Remove_Marked.r x31 r17.2)) fun x32 => S.bd (S.gd x30 true (un .not x32)) fun x33 => S.bd (pik x30 x33 (Go.Value.bool Bool.false)) fun x34 => some (x34, r17.2)

def leapfroglaw16x_awake.t (S : Sig) (s : St) : Option (Value × St) :=
  S.bd (leapfrogref12x_Head.r (Go.Value.int Go.IntKind.i64 0) s) fun x1 => S.bd (leapfroglaw16x_Owner.r  s) fun x2 => S.bd (bld [(Go.Value.int Go.IntKind.i64 0), (Go.Value.int Go.IntKind.i64 0), (Go.Value.int Go.IntKind.i64 0), (Go.Value.int Go.IntKind.u64 0), (Go.Value.int Go.IntKind.i64 0), (Go.Value.int Go.IntKind.u64 0), (Go.Value.int Go.IntKind.u64 0), (Go.Value.int Go.IntKind.i64 0), (Go.Value.int Go.IntKind.i64 0)] [(1, 5, x1), (6, 1, (Go.Value.int Go.IntKind.u64 7)), (7, 2, x2)]) fun x3 => S.bd (remove_New.v x3 s) fun r4 => S.bd (xtr 0 r4.1) fun x5 => S.bd (xtr 1 r4.1) fun x6 => S.bd (eqb [1] false true x6 (Go.Value.int Go.IntKind.i64 0)) fun x7 => S.bd (S.gd x7 false (some x5)) fun x8 => S.bd (S.gd x7 false (eqb [3] false false x8 (Go.Value.pointer Option.none))) fun x9 => S.bd (pik x7 (Go.Value.bool Bool.true) x9) fun x10 => S.cnd x10 (some ((Go.Value.bool Bool.false), r4.2)) (leapfroglaw16x_awake.t.p1 S x5 r4)
def leapfroglaw16x_awake.v (s : St) : Option (Value × St) := leapfroglaw16x_awake.t std  s
def leapfroglaw16x_awake.w : List Value → St → Option (Value × St)
  | [], s => leapfroglaw16x_awake.v  s
  | _, _ => none
def leapfroglaw16x_awake.an : An := ⟨51, false, [3, 4], [], [], []⟩
theorem leapfroglaw16x_awake.ok (S : Sig) (s : St) : evF S Try.prog leapfroglaw16x_awake.ctx leapfroglaw16x_awake.an Try.f6 [] s = leapfroglaw16x_awake.t S  s := by kernel_rfl
theorem leapfroglaw16x_awake.cok : CtxOk Try.prog leapfroglaw16x_awake.ctx := .cons leapfrogref12x_Head.sound leapfrogref12x_Head.can <| .cons leapfroglaw16x_Owner.sound leapfroglaw16x_Owner.can <| .cons remove_New.sound remove_New.can <| .cons remove_Remove_Next.sound remove_Remove_Next.can <| .cons leapfrogref12x_Tail.sound leapfrogref12x_Tail.can <| .cons remove_Remove_Tell.sound remove_Remove_Tell.can <| .cons remove_Remove_Marked.sound remove_Remove_Marked.can <| .nil
theorem leapfroglaw16x_awake.draws : fnDraws leapfroglaw16x_awake.an Try.f6 = true := by kernel_rfl
theorem leapfroglaw16x_awake.can : callOk Try.prog 6 = true := by kernel_rfl
theorem leapfroglaw16x_awake.sound : FnOk Try.prog 6 (.st leapfroglaw16x_awake.w) := FnOk.st_of (evF_ok leapfroglaw16x_awake.cok mixed (f := 6) (fn := Try.f6) (by kernel_rfl) leapfroglaw16x_awake.draws) fun args s r h => by
  unfold leapfroglaw16x_awake.w at h; split at h
  · rw [leapfroglaw16x_awake.ok std]; exact h
  · simp at h

/-! ### leapfrog/leapfroglaw16.awake: function 6, closed -/
def leapfroglaw16x_awakeC.r (s : St) : Option Value := some (Value.bool true)
def leapfroglaw16x_awakeC.w : List Value → St → Option Value := closedW (Value.bool true)
theorem leapfroglaw16x_awakeC.can : callOk Try.prog 6 = true := leapfroglaw16x_awake.can
theorem leapfroglaw16x_awakeC.sound : FnOk Try.prog 6 (.rd leapfroglaw16x_awakeC.w) := FnOk.closed leapfroglaw16x_awake.sound (by kernel_rfl) rfl


end
end Go.Proofs.Ytdppefkjoeefnaa
