/-
  What the functions answer that MendNobody reaches (part 0): for each function of the program a plain function over abstract values, and that the model answers as it does.
-/
import Derived.Test.YtpjobebheebncaaSimZ
import Derived.Test.YtpjobebheebncaaProg
import Derived.KernelRfl
set_option linter.unusedVariables false
set_option maxRecDepth 100000
namespace Go.Proofs.Ytpjobebheebncaa
open Go.Sim
theorem mixed : Try.prog.follows .mixedOrders = true := by kernel_rfl
/-! ### leapfrog/mend.New$1: function 37 -/
def mend_New_fn1.ctx : Ctx := []
def mend_New_fn1.t (S : Sig) (a0 a1 a2 : Value) (s : St) : Option Value :=
  S.bd (bx a0) fun c1 => S.bd (bx a1) fun c2 => S.bd (bx (Go.Value.agg #[(Go.Value.int Go.IntKind.i64 0), (Go.Value.int Go.IntKind.i64 0), (Go.Value.int Go.IntKind.i64 0), (Go.Value.int Go.IntKind.u64 0), (Go.Value.int Go.IntKind.i64 0), (Go.Value.int Go.IntKind.u64 0), (Go.Value.int Go.IntKind.i64 0), (Go.Value.int Go.IntKind.i64 0), (Go.Value.int Go.IntKind.u64 0), (Go.Value.int Go.IntKind.i64 0), (Go.Value.int Go.IntKind.i64 0), (Go.Value.int Go.IntKind.u64 0), (Go.Value.int Go.IntKind.i64 0), (Go.Value.int Go.IntKind.u64 0), (Go.Value.int Go.IntKind.i64 0), (Go.Value.int Go.IntKind.i64 0), (Go.Value.int Go.IntKind.u64 0), (Go.Value.int Go.IntKind.i64 0), (Go.Value.int Go.IntKind.u64 0), (Go.Value.int Go.IntKind.i64 0), (Go.Value.int Go.IntKind.i64 0), (Go.Value.int Go.IntKind.i64 0), (Go.Value.int Go.IntKind.u64 0), (Go.Value.slice Option.none 0 0), (Go.Value.slice Option.none 0 0), (Go.Value.int Go.IntKind.i64 0), (Go.Value.int Go.IntKind.i64 0), (Go.Value.int Go.IntKind.u64 0), (Go.Value.int Go.IntKind.i64 0), (Go.Value.int Go.IntKind.u64 0), (Go.Value.int Go.IntKind.i64 0), (Go.Value.int Go.IntKind.i64 0), (Go.Value.int Go.IntKind.u64 0), (Go.Value.int Go.IntKind.i64 0), (Go.Value.int Go.IntKind.u64 0), (Go.Value.bool Bool.false)])) fun c3 => S.bd (fld 0 a2) fun x4 => S.bd (lda s 2 x4) fun x5 => S.bd (stl c2 1 2 x5) fun c6 => S.bd (lal c1 0 5) fun x7 => S.bd (lal c6 0 15) fun x8 => S.bd (bld [(Go.Value.int Go.IntKind.i64 0), (Go.Value.int Go.IntKind.i64 0), (Go.Value.int Go.IntKind.i64 0), (Go.Value.int Go.IntKind.u64 0), (Go.Value.int Go.IntKind.i64 0), (Go.Value.int Go.IntKind.u64 0), (Go.Value.int Go.IntKind.i64 0), (Go.Value.int Go.IntKind.i64 0), (Go.Value.int Go.IntKind.u64 0), (Go.Value.int Go.IntKind.i64 0), (Go.Value.int Go.IntKind.i64 0), (Go.Value.int Go.IntKind.u64 0), (Go.Value.int Go.IntKind.i64 0), (Go.Value.int Go.IntKind.u64 0), (Go.Value.int Go.IntKind.i64 0), (Go.Value.int Go.IntKind.i64 0), (Go.Value.int Go.IntKind.u64 0), (Go.Value.int Go.IntKind.i64 0), (Go.Value.int Go.IntKind.u64 0), (Go.Value.int Go.IntKind.i64 0), (Go.Value.int Go.IntKind.i64 0), (Go.Value.int Go.IntKind.i64 0), (Go.Value.int Go.IntKind.u64 0), (Go.Value.slice Option.none 0 0), (Go.Value.slice Option.none 0 0), (Go.Value.int Go.IntKind.i64 0), (Go.Value.int Go.IntKind.i64 0), (Go.Value.int Go.IntKind.u64 0), (Go.Value.int Go.IntKind.i64 0), (Go.Value.int Go.IntKind.u64 0), (Go.Value.int Go.IntKind.i64 0), (Go.Value.int Go.IntKind.i64 0), (Go.Value.int Go.IntKind.u64 0), (Go.Value.int Go.IntKind.i64 0), (Go.Value.int Go.IntKind.u64 0), (Go.Value.bool Bool.false)] [(0, 1, (Go.Value.int Go.IntKind.i64 1)), (1, 5, x7), (6, 15, x8)]) fun x9 => S.bd (stl c3 0 36 x9) fun c10 => S.bd (lal c10 0 36) fun x11 => some (x11)
def mend_New_fn1.r (a0 a1 a2 : Value) (s : St) : Option Value := mend_New_fn1.t std a0 a1 a2 s
def mend_New_fn1.w : List Value → St → Option Value
  | [a0, a1, a2], s => mend_New_fn1.r a0 a1 a2 s
  | _, _ => none
def mend_New_fn1.an : An := ⟨12, true, [3, 4, 5], [], [], []⟩
theorem mend_New_fn1.ok (S : Sig) (a0 a1 a2 : Value) (s : St) : evG S Try.prog mend_New_fn1.ctx mend_New_fn1.an Try.f37 [a0, a1, a2] s = mend_New_fn1.t S a0 a1 a2 s := by kernel_rfl
theorem mend_New_fn1.cok : CtxOk Try.prog mend_New_fn1.ctx := .nil
theorem mend_New_fn1.draws : fnDraws mend_New_fn1.an Try.f37 = true := by kernel_rfl
theorem mend_New_fn1.can : callOk Try.prog 37 = true := by kernel_rfl
theorem mend_New_fn1.sound : FnOk Try.prog 37 (.rd mend_New_fn1.w) := FnOk.rd_of (evG_ok mend_New_fn1.cok mixed (f := 37) (fn := Try.f37) (by kernel_rfl) mend_New_fn1.draws) fun args s r h => by
  unfold mend_New_fn1.w at h; split at h
  · rw [mend_New_fn1.ok std]; exact h
  · simp at h

/-! ### cmp.isNaN[leapfrog/api.Rank]: function 94 -/
def cmp_isNaN_api_Rank.ctx : Ctx := []
def cmp_isNaN_api_Rank.t (S : Sig) (a0 : Value) (s : St) : Option Value :=
  S.bd (eqb [1] false true a0 a0) fun x1 => some (x1)
def cmp_isNaN_api_Rank.r (a0 : Value) (s : St) : Option Value := cmp_isNaN_api_Rank.t std a0 s
def cmp_isNaN_api_Rank.w : List Value → St → Option Value
  | [a0], s => cmp_isNaN_api_Rank.r a0 s
  | _, _ => none
def cmp_isNaN_api_Rank.an : An := ⟨6, true, [], [], [], []⟩
theorem cmp_isNaN_api_Rank.ok (S : Sig) (a0 : Value) (s : St) : evG S Try.prog cmp_isNaN_api_Rank.ctx cmp_isNaN_api_Rank.an Try.f94 [a0] s = cmp_isNaN_api_Rank.t S a0 s := by kernel_rfl
theorem cmp_isNaN_api_Rank.cok : CtxOk Try.prog cmp_isNaN_api_Rank.ctx := .nil
theorem cmp_isNaN_api_Rank.draws : fnDraws cmp_isNaN_api_Rank.an Try.f94 = true := by kernel_rfl
theorem cmp_isNaN_api_Rank.can : callOk Try.prog 94 = true := by kernel_rfl
theorem cmp_isNaN_api_Rank.sound : FnOk Try.prog 94 (.rd cmp_isNaN_api_Rank.w) := FnOk.rd_of (evG_ok cmp_isNaN_api_Rank.cok mixed (f := 94) (fn := Try.f94) (by kernel_rfl) cmp_isNaN_api_Rank.draws) fun args s r h => by
  unfold cmp_isNaN_api_Rank.w at h; split at h
  · rw [cmp_isNaN_api_Rank.ok std]; exact h
  · simp at h

/-! ### cmp.Compare[leapfrog/api.Rank]: function 92 -/
def cmp_Compare_api_Rank.ctx : Ctx := [(94, .rd cmp_isNaN_api_Rank.w)]
def cmp_Compare_api_Rank.t (S : Sig) (a0 a1 : Value) (s : St) : Option Value :=
  S.bd (cmp_isNaN_api_Rank.r a0 s) fun x1 => S.bd (cmp_isNaN_api_Rank.r a1 s) fun x2 => S.cnd x1 (S.cnd x2 (some ((Go.Value.int Go.IntKind.i64 0))) (some ((Go.Value.int Go.IntKind.i64 (-1))))) (S.cnd x2 (some ((Go.Value.int Go.IntKind.i64 1))) (S.bd (bin .lss a0 a1) fun x3 => S.cnd x3 (some ((Go.Value.int Go.IntKind.i64 (-1)))) (S.bd (bin .gtr a0 a1) fun x4 => S.cnd x4 (some ((Go.Value.int Go.IntKind.i64 1))) (some ((Go.Value.int Go.IntKind.i64 0))))))
def cmp_Compare_api_Rank.r (a0 a1 : Value) (s : St) : Option Value := cmp_Compare_api_Rank.t std a0 a1 s
def cmp_Compare_api_Rank.w : List Value → St → Option Value
  | [a0, a1], s => cmp_Compare_api_Rank.r a0 a1 s
  | _, _ => none
def cmp_Compare_api_Rank.an : An := ⟨20, true, [], [], [], []⟩
theorem cmp_Compare_api_Rank.ok (S : Sig) (a0 a1 : Value) (s : St) : evG S Try.prog cmp_Compare_api_Rank.ctx cmp_Compare_api_Rank.an Try.f92 [a0, a1] s = cmp_Compare_api_Rank.t S a0 a1 s := by kernel_rfl
theorem cmp_Compare_api_Rank.cok : CtxOk Try.prog cmp_Compare_api_Rank.ctx := .cons cmp_isNaN_api_Rank.sound cmp_isNaN_api_Rank.can <| .nil
theorem cmp_Compare_api_Rank.draws : fnDraws cmp_Compare_api_Rank.an Try.f92 = true := by kernel_rfl
theorem cmp_Compare_api_Rank.can : callOk Try.prog 92 = true := by kernel_rfl
theorem cmp_Compare_api_Rank.sound : FnOk Try.prog 92 (.rd cmp_Compare_api_Rank.w) := FnOk.rd_of (evG_ok cmp_Compare_api_Rank.cok mixed (f := 92) (fn := Try.f92) (by kernel_rfl) cmp_Compare_api_Rank.draws) fun args s r h => by
  unfold cmp_Compare_api_Rank.w at h; split at h
  · rw [cmp_Compare_api_Rank.ok std]; exact h
  · simp at h

/-! ### cmp.isNaN[uint64]: function 95 -/
def cmp_isNaN_uint64.ctx : Ctx := []
def cmp_isNaN_uint64.t (S : Sig) (a0 : Value) (s : St) : Option Value :=
  S.bd (eqb [1] false true a0 a0) fun x1 => some (x1)
def cmp_isNaN_uint64.r (a0 : Value) (s : St) : Option Value := cmp_isNaN_uint64.t std a0 s
def cmp_isNaN_uint64.w : List Value → St → Option Value
  | [a0], s => cmp_isNaN_uint64.r a0 s
  | _, _ => none
def cmp_isNaN_uint64.an : An := ⟨6, true, [], [], [], []⟩
theorem cmp_isNaN_uint64.ok (S : Sig) (a0 : Value) (s : St) : evG S Try.prog cmp_isNaN_uint64.ctx cmp_isNaN_uint64.an Try.f95 [a0] s = cmp_isNaN_uint64.t S a0 s := by kernel_rfl
theorem cmp_isNaN_uint64.cok : CtxOk Try.prog cmp_isNaN_uint64.ctx := .nil
theorem cmp_isNaN_uint64.draws : fnDraws cmp_isNaN_uint64.an Try.f95 = true := by kernel_rfl
theorem cmp_isNaN_uint64.can : callOk Try.prog 95 = true := by kernel_rfl
theorem cmp_isNaN_uint64.sound : FnOk Try.prog 95 (.rd cmp_isNaN_uint64.w) := FnOk.rd_of (evG_ok cmp_isNaN_uint64.cok mixed (f := 95) (fn := Try.f95) (by kernel_rfl) cmp_isNaN_uint64.draws) fun args s r h => by
  unfold cmp_isNaN_uint64.w at h; split at h
  · rw [cmp_isNaN_uint64.ok std]; exact h
  · simp at h

/-! ### cmp.Compare[uint64]: function 93 -/
def cmp_Compare_uint64.ctx : Ctx := [(95, .rd cmp_isNaN_uint64.w)]
def cmp_Compare_uint64.t (S : Sig) (a0 a1 : Value) (s : St) : Option Value :=
  S.bd (cmp_isNaN_uint64.r a0 s) fun x1 => S.bd (cmp_isNaN_uint64.r a1 s) fun x2 => S.cnd x1 (S.cnd x2 (some ((Go.Value.int Go.IntKind.i64 0))) (some ((Go.Value.int Go.IntKind.i64 (-1))))) (S.cnd x2 (some ((Go.Value.int Go.IntKind.i64 1))) (S.bd (bin .lss a0 a1) fun x3 => S.cnd x3 (some ((Go.Value.int Go.IntKind.i64 (-1)))) (S.bd (bin .gtr a0 a1) fun x4 => S.cnd x4 (some ((Go.Value.int Go.IntKind.i64 1))) (some ((Go.Value.int Go.IntKind.i64 0))))))
def cmp_Compare_uint64.r (a0 a1 : Value) (s : St) : Option Value := cmp_Compare_uint64.t std a0 a1 s
def cmp_Compare_uint64.w : List Value → St → Option Value
  | [a0, a1], s => cmp_Compare_uint64.r a0 a1 s
  | _, _ => none
def cmp_Compare_uint64.an : An := ⟨20, true, [], [], [], []⟩
theorem cmp_Compare_uint64.ok (S : Sig) (a0 a1 : Value) (s : St) : evG S Try.prog cmp_Compare_uint64.ctx cmp_Compare_uint64.an Try.f93 [a0, a1] s = cmp_Compare_uint64.t S a0 a1 s := by kernel_rfl
theorem cmp_Compare_uint64.cok : CtxOk Try.prog cmp_Compare_uint64.ctx := .cons cmp_isNaN_uint64.sound cmp_isNaN_uint64.can <| .nil
theorem cmp_Compare_uint64.draws : fnDraws cmp_Compare_uint64.an Try.f93 = true := by kernel_rfl
theorem cmp_Compare_uint64.can : callOk Try.prog 93 = true := by kernel_rfl
theorem cmp_Compare_uint64.sound : FnOk Try.prog 93 (.rd cmp_Compare_uint64.w) := FnOk.rd_of (evG_ok cmp_Compare_uint64.cok mixed (f := 93) (fn := Try.f93) (by kernel_rfl) cmp_Compare_uint64.draws) fun args s r h => by
  unfold cmp_Compare_uint64.w at h; split at h
  · rw [cmp_Compare_uint64.ok std]; exact h
  · simp at h

/-! ### cmp.Or[int]: function 91 -/
def cmp_Or_int.ctx : Ctx := []
def cmp_Or_int.l3 (S : Sig) (rec9 : List Value → St → Option Cut) (xs7 : List Value) (s8 : St) : Option Cut :=
  S.bd (bin .lss (xs7.getD 3 undef) (xs7.getD 2 undef)) fun x10 => S.cnd x10 (S.bd (idx s8 1 (xs7.getD 1 undef) (xs7.getD 3 undef)) fun x11 => S.bd (ldc s8 x11) fun x12 => S.bd (eqb [1] false true x12 (xs7.getD 0 undef)) fun x13 => S.cnd x13 (some (1, [x12], s8)) (S.bd (bin .add (xs7.getD 3 undef) (Go.Value.int Go.IntKind.i64 1)) fun x14 => rec9 [(xs7.getD 0 undef), (xs7.getD 1 undef), (xs7.getD 2 undef), x14] s8)) (some (0, [(xs7.getD 0 undef)], s8))

def cmp_Or_int.t (S : Sig) (a0 : Value) (s : St) : Option Value :=
  S.bd (lenL a0) fun x1 => S.bd (S.it (cmp_Or_int.l3 S) [(Go.Value.int Go.IntKind.i64 0), a0, x1, (Go.Value.int Go.IntKind.i64 0)] s) fun r15 => if r15.1 = 0 then (some ((r15.2.1.getD 0 undef))) else (some ((r15.2.1.getD 0 undef)))
def cmp_Or_int.r (a0 : Value) (s : St) : Option Value := cmp_Or_int.t std a0 s
def cmp_Or_int.w : List Value → St → Option Value
  | [a0], s => cmp_Or_int.r a0 s
  | _, _ => none
def cmp_Or_int.an : An := ⟨18, true, [], [(3, ⟨[.v 3, .v 6, .v 7, .v 8], [(.exit 0, [.v 3]), (.ret, [.v 2])]⟩)], [], []⟩
theorem cmp_Or_int.ok (S : Sig) (a0 : Value) (s : St) : evG S Try.prog cmp_Or_int.ctx cmp_Or_int.an Try.f91 [a0] s = cmp_Or_int.t S a0 s := by kernel_rfl
theorem cmp_Or_int.cok : CtxOk Try.prog cmp_Or_int.ctx := .nil
theorem cmp_Or_int.draws : fnDraws cmp_Or_int.an Try.f91 = true := by kernel_rfl
theorem cmp_Or_int.can : callOk Try.prog 91 = true := by kernel_rfl
theorem cmp_Or_int.sound : FnOk Try.prog 91 (.rd cmp_Or_int.w) := FnOk.rd_of (evG_ok cmp_Or_int.cok mixed (f := 91) (fn := Try.f91) (by kernel_rfl) cmp_Or_int.draws) fun args s r h => by
  unfold cmp_Or_int.w at h; split at h
  · rw [cmp_Or_int.ok std]; exact h
  · simp at h

/-! ### leapfrog/key.Compare: function 90 -/
def key_Compare.ctx : Ctx := [(92, .rd cmp_Compare_api_Rank.w), (93, .rd cmp_Compare_uint64.w), (91, .rd cmp_Or_int.w)]
def key_Compare.t (S : Sig) (a0 a1 : Value) (s : St) : Option (Value × St) :=
  S.bd (bx a0) fun c1 => S.bd (bx a1) fun c2 => S.bd (lcl c1 0) fun x3 => S.bd (lcl c2 0) fun x4 => S.bd (lcl c1 1) fun x5 => S.bd (lcl c2 1) fun x6 => S.bd (cmp_Compare_api_Rank.r x3 x4 s) fun x7 => S.bd (cmp_Compare_uint64.r x5 x6 s) fun x8 => S.bd (S.bd (bls 1 (List.replicate 2 [(Go.Value.int Go.IntKind.i64 0)]) [(0, x7), (1, x8)]) fun rows => als s 1 2 rows) fun r9 => S.bd (cmp_Or_int.r r9.1 r9.2) fun x10 => some (x10, r9.2)
def key_Compare.v (a0 a1 : Value) (s : St) : Option (Value × St) := key_Compare.t std a0 a1 s
def key_Compare.w : List Value → St → Option (Value × St)
  | [a0, a1], s => key_Compare.v a0 a1 s
  | _, _ => none
def key_Compare.an : An := ⟨17, false, [2, 3], [], [], [(1, [(0, 0, [], []), (1, 17, [], []), (2, 0, [], []), (3, 25, [], []), (5, 0, [], []), (6, 17, [], []), (7, 0, [], []), (8, 25, [], []), (4, 3, [], []), (9, 3, [], []), (10, 3, [], []), (11, 3, [], []), (12, 0, [], [])])]⟩
theorem key_Compare.ok (S : Sig) (a0 a1 : Value) (s : St) : evF S Try.prog key_Compare.ctx key_Compare.an Try.f90 [a0, a1] s = key_Compare.t S a0 a1 s := by kernel_rfl
theorem key_Compare.cok : CtxOk Try.prog key_Compare.ctx := .cons cmp_Compare_api_Rank.sound cmp_Compare_api_Rank.can <| .cons cmp_Compare_uint64.sound cmp_Compare_uint64.can <| .cons cmp_Or_int.sound cmp_Or_int.can <| .nil
theorem key_Compare.draws : fnDraws key_Compare.an Try.f90 = true := by kernel_rfl
theorem key_Compare.can : callOk Try.prog 90 = true := by kernel_rfl
theorem key_Compare.sound : FnOk Try.prog 90 (.st key_Compare.w) := FnOk.st_of (evF_ok key_Compare.cok mixed (f := 90) (fn := Try.f90) (by kernel_rfl) key_Compare.draws) fun args s r h => by
  unfold key_Compare.w at h; split at h
  · rw [key_Compare.ok std]; exact h
  · simp at h

/-! ### leapfrog/key.Compare: function 90, as a reading -/
def key_CompareQ.r (a0 a1 : Value) (s : St) : Option Value := frzR (fun s => key_Compare.v a0 a1 s) s
def key_CompareQ.w : List Value → St → Option Value := fun args s => frzR (key_Compare.w args) s
theorem key_CompareQ.can : callOk Try.prog 90 = true := key_Compare.can
theorem key_CompareQ.sound : FnOk Try.prog 90 (.rd key_CompareQ.w) := FnOk.frozen key_Compare.sound

/-! ### leapfrog/key.Less: function 89 -/
def key_Less.ctx : Ctx := [(90, .rd key_CompareQ.w)]
def key_Less.t (S : Sig) (a0 a1 : Value) (s : St) : Option Value :=
  S.bd (bx a0) fun c1 => S.bd (bx a1) fun c2 => S.bd (lal c1 0 2) fun x3 => S.bd (lal c2 0 2) fun x4 => S.bd (key_CompareQ.r x3 x4 s) fun x5 => S.bd (bin .lss x5 (Go.Value.int Go.IntKind.i64 0)) fun x6 => some (x6)
def key_Less.r (a0 a1 : Value) (s : St) : Option Value := key_Less.t std a0 a1 s
def key_Less.w : List Value → St → Option Value
  | [a0, a1], s => key_Less.r a0 a1 s
  | _, _ => none
def key_Less.an : An := ⟨9, true, [2, 3], [], [], []⟩
theorem key_Less.ok (S : Sig) (a0 a1 : Value) (s : St) : evG S Try.prog key_Less.ctx key_Less.an Try.f89 [a0, a1] s = key_Less.t S a0 a1 s := by kernel_rfl
theorem key_Less.cok : CtxOk Try.prog key_Less.ctx := .cons key_CompareQ.sound key_CompareQ.can <| .nil
theorem key_Less.draws : fnDraws key_Less.an Try.f89 = true := by kernel_rfl
theorem key_Less.can : callOk Try.prog 89 = true := by kernel_rfl
theorem key_Less.sound : FnOk Try.prog 89 (.rd key_Less.w) := FnOk.rd_of (evG_ok key_Less.cok mixed (f := 89) (fn := Try.f89) (by kernel_rfl) key_Less.draws) fun args s r h => by
  unfold key_Less.w at h; split at h
  · rw [key_Less.ok std]; exact h
  · simp at h

/-! ### (*leapfrog/mend.Mend).fail: function 58 -/
def mend_Mend_fail.ctx : Ctx := []
def mend_Mend_fail.t (S : Sig) (a0 : Value) (s : St) : Option (Value × St) :=
  S.bd (bld [(Go.Value.int Go.IntKind.i64 0), (Go.Value.int Go.IntKind.u64 0), (Go.Value.slice Option.none 0 0), (Go.Value.slice Option.none 0 0), (Go.Value.int Go.IntKind.i64 0), (Go.Value.int Go.IntKind.i64 0), (Go.Value.int Go.IntKind.u64 0), (Go.Value.int Go.IntKind.i64 0), (Go.Value.int Go.IntKind.u64 0), (Go.Value.int Go.IntKind.i64 0), (Go.Value.int Go.IntKind.i64 0), (Go.Value.int Go.IntKind.u64 0), (Go.Value.int Go.IntKind.i64 0), (Go.Value.int Go.IntKind.u64 0), (Go.Value.bool Bool.false)] [(0, 1, (Go.Value.int Go.IntKind.i64 131))]) fun x1 => S.bd (nck a0) fun x2 => S.bd (fld 9 x2) fun x3 => S.bd (stv s 1 x3 (Go.Value.int Go.IntKind.i64 5)) fun s4 => S.bd (nck a0) fun x5 => S.bd (fld 19 x5) fun x6 => S.bd (stv s4 15 x6 x1) fun s7 => some ((Value.tuple ⟨[]⟩), s7)
def mend_Mend_fail.v (a0 : Value) (s : St) : Option (Value × St) := mend_Mend_fail.t std a0 s
def mend_Mend_fail.w : List Value → St → Option (Value × St)
  | [a0], s => mend_Mend_fail.v a0 s
  | _, _ => none
def mend_Mend_fail.an : An := ⟨9, false, [], [], [], []⟩
theorem mend_Mend_fail.ok (S : Sig) (a0 : Value) (s : St) : evF S Try.prog mend_Mend_fail.ctx mend_Mend_fail.an Try.f58 [a0] s = mend_Mend_fail.t S a0 s := by kernel_rfl
theorem mend_Mend_fail.cok : CtxOk Try.prog mend_Mend_fail.ctx := .nil
theorem mend_Mend_fail.draws : fnDraws mend_Mend_fail.an Try.f58 = true := by kernel_rfl
theorem mend_Mend_fail.can : callOk Try.prog 58 = true := by kernel_rfl
theorem mend_Mend_fail.sound : FnOk Try.prog 58 (.st mend_Mend_fail.w) := FnOk.st_of (evF_ok mend_Mend_fail.cok mixed (f := 58) (fn := Try.f58) (by kernel_rfl) mend_Mend_fail.draws) fun args s r h => by
  unfold mend_Mend_fail.w at h; split at h
  · rw [mend_Mend_fail.ok std]; exact h
  · simp at h

/-! ### (*leapfrog/mend.Mend).look: function 82 -/
def mend_Mend_look.ctx : Ctx := [(89, .rd key_Less.w), (58, .st mend_Mend_fail.w)]
def mend_Mend_look.t (S : Sig) (a0 a1 : Value) (s : St) : Option (Value × St) :=
  S.bd (bx a1) fun c1 => S.bd (nck a0) fun x2 => S.bd (fld 15 x2) fun x3 => S.bd (lda s 2 x3) fun x4 => S.bd (lal c1 1 2) fun x5 => S.bd (key_Less.r x4 x5 s) fun x6 => S.bd (un .not x6) fun x7 => S.cnd x7 (S.bd (mend_Mend_fail.v a0 s) fun r8 => some ((Value.tuple ⟨[]⟩), r8.2)) (S.bd (lal c1 0 5) fun x9 => S.bd (nck a0) fun x10 => S.bd (fld 10 x10) fun x11 => S.bd (stv s 5 x11 x9) fun s12 => S.bd (nck a0) fun x13 => S.bd (fld 9 x13) fun x14 => S.bd (stv s12 1 x14 (Go.Value.int Go.IntKind.i64 2)) fun s15 => some ((Value.tuple ⟨[]⟩), s15))
def mend_Mend_look.v (a0 a1 : Value) (s : St) : Option (Value × St) := mend_Mend_look.t std a0 a1 s
def mend_Mend_look.w : List Value → St → Option (Value × St)
  | [a0, a1], s => mend_Mend_look.v a0 a1 s
  | _, _ => none
def mend_Mend_look.an : An := ⟨21, false, [3], [], [], [(1, [(0, 0, [], []), (1, 0, [], []), (2, 0, [], []), (3, 2, [], []), (4, 0, [], []), (5, 25, [], []), (6, 3, [], []), (7, 0, [], [])])]⟩
theorem mend_Mend_look.ok (S : Sig) (a0 a1 : Value) (s : St) : evF S Try.prog mend_Mend_look.ctx mend_Mend_look.an Try.f82 [a0, a1] s = mend_Mend_look.t S a0 a1 s := by kernel_rfl
theorem mend_Mend_look.cok : CtxOk Try.prog mend_Mend_look.ctx := .cons key_Less.sound key_Less.can <| .cons mend_Mend_fail.sound mend_Mend_fail.can <| .nil
theorem mend_Mend_look.draws : fnDraws mend_Mend_look.an Try.f82 = true := by kernel_rfl
theorem mend_Mend_look.can : callOk Try.prog 82 = true := by kernel_rfl
theorem mend_Mend_look.sound : FnOk Try.prog 82 (.st mend_Mend_look.w) := FnOk.st_of (evF_ok mend_Mend_look.cok mixed (f := 82) (fn := Try.f82) (by kernel_rfl) mend_Mend_look.draws) fun args s r h => by
  unfold mend_Mend_look.w at h; split at h
  · rw [mend_Mend_look.ok std]; exact h
  · simp at h

/-! ### (*leapfrog/mend.Mend).end: function 57 -/
def mend_Mend_end.ctx : Ctx := []
def mend_Mend_end.t (S : Sig) (a0 a1 : Value) (s : St) : Option (Value × St) :=
  S.bd (bld [(Go.Value.int Go.IntKind.i64 0), (Go.Value.int Go.IntKind.u64 0), (Go.Value.slice Option.none 0 0), (Go.Value.slice Option.none 0 0), (Go.Value.int Go.IntKind.i64 0), (Go.Value.int Go.IntKind.i64 0), (Go.Value.int Go.IntKind.u64 0), (Go.Value.int Go.IntKind.i64 0), (Go.Value.int Go.IntKind.u64 0), (Go.Value.int Go.IntKind.i64 0), (Go.Value.int Go.IntKind.i64 0), (Go.Value.int Go.IntKind.u64 0), (Go.Value.int Go.IntKind.i64 0), (Go.Value.int Go.IntKind.u64 0), (Go.Value.bool Bool.false)] [(0, 1, a1)]) fun x1 => S.bd (nck a0) fun x2 => S.bd (fld 9 x2) fun x3 => S.bd (stv s 1 x3 (Go.Value.int Go.IntKind.i64 6)) fun s4 => S.bd (nck a0) fun x5 => S.bd (fld 19 x5) fun x6 => S.bd (stv s4 15 x6 x1) fun s7 => some ((Value.tuple ⟨[]⟩), s7)
def mend_Mend_end.v (a0 a1 : Value) (s : St) : Option (Value × St) := mend_Mend_end.t std a0 a1 s
def mend_Mend_end.w : List Value → St → Option (Value × St)
  | [a0, a1], s => mend_Mend_end.v a0 a1 s
  | _, _ => none
def mend_Mend_end.an : An := ⟨12, false, [], [], [], []⟩
theorem mend_Mend_end.ok (S : Sig) (a0 a1 : Value) (s : St) : evF S Try.prog mend_Mend_end.ctx mend_Mend_end.an Try.f57 [a0, a1] s = mend_Mend_end.t S a0 a1 s := by kernel_rfl
theorem mend_Mend_end.cok : CtxOk Try.prog mend_Mend_end.ctx := .nil
theorem mend_Mend_end.draws : fnDraws mend_Mend_end.an Try.f57 = true := by kernel_rfl
theorem mend_Mend_end.can : callOk Try.prog 57 = true := by kernel_rfl
theorem mend_Mend_end.sound : FnOk Try.prog 57 (.st mend_Mend_end.w) := FnOk.st_of (evF_ok mend_Mend_end.cok mixed (f := 57) (fn := Try.f57) (by kernel_rfl) mend_Mend_end.draws) fun args s r h => by
  unfold mend_Mend_end.w at h; split at h
  · rw [mend_Mend_end.ok std]; exact h
  · simp at h

/-! ### (*leapfrog/mend.Mend).locked: function 55 -/
def mend_Mend_locked.ctx : Ctx := [(82, .st mend_Mend_look.w), (57, .st mend_Mend_end.w)]
def mend_Mend_locked.t (S : Sig) (a0 a1 : Value) (s : St) : Option (Value × St) :=
  S.bd (bx a1) fun c1 => S.bd (lcl c1 0) fun x2 => S.bd (eqb [1] false false x2 (Go.Value.int Go.IntKind.i64 1)) fun x3 => S.cnd x3 (S.bd (nck a0) fun x4 => S.bd (fld 0 x4) fun x5 => S.bd (fld 2 x5) fun x6 => S.bd (fld 1 x6) fun x7 => S.bd (lda s 2 x7) fun x8 => S.bd (nck a0) fun x9 => S.bd (fld 15 x9) fun x10 => S.bd (stv s 2 x10 x8) fun s11 => S.bd (nck a0) fun x12 => S.bd (fld 17 x12) fun x13 => S.bd (stv s11 1 x13 (Go.Value.bool Bool.false)) fun s14 => S.bd (lal c1 7 5) fun x15 => S.bd (mend_Mend_look.v a0 x15 s14) fun r16 => some ((Value.tuple ⟨[]⟩), r16.2)) (S.bd (eqb [1] false false x2 (Go.Value.int Go.IntKind.i64 3)) fun x17 => S.cnd x17 (S.bd (mend_Mend_end.v a0 (Go.Value.int Go.IntKind.i64 132) s) fun r18 => some ((Value.tuple ⟨[]⟩), r18.2)) (S.bd (eqb [1] false false x2 (Go.Value.int Go.IntKind.i64 2)) fun x19 => S.cnd x19 (S.bd (mend_Mend_end.v a0 (Go.Value.int Go.IntKind.i64 0) s) fun r20 => some ((Value.tuple ⟨[]⟩), r20.2)) (S.bd (mend_Mend_end.v a0 (Go.Value.int Go.IntKind.i64 131) s) fun r21 => some ((Value.tuple ⟨[]⟩), r21.2))))
def mend_Mend_locked.v (a0 a1 : Value) (s : St) : Option (Value × St) := mend_Mend_locked.t std a0 a1 s
def mend_Mend_locked.w : List Value → St → Option (Value × St)
  | [a0, a1], s => mend_Mend_locked.v a0 a1 s
  | _, _ => none
def mend_Mend_locked.an : An := ⟨34, false, [3], [], [], []⟩
theorem mend_Mend_locked.ok (S : Sig) (a0 a1 : Value) (s : St) : evF S Try.prog mend_Mend_locked.ctx mend_Mend_locked.an Try.f55 [a0, a1] s = mend_Mend_locked.t S a0 a1 s := by kernel_rfl
theorem mend_Mend_locked.cok : CtxOk Try.prog mend_Mend_locked.ctx := .cons mend_Mend_look.sound mend_Mend_look.can <| .cons mend_Mend_end.sound mend_Mend_end.can <| .nil
theorem mend_Mend_locked.draws : fnDraws mend_Mend_locked.an Try.f55 = true := by kernel_rfl
theorem mend_Mend_locked.can : callOk Try.prog 55 = true := by kernel_rfl
theorem mend_Mend_locked.sound : FnOk Try.prog 55 (.st mend_Mend_locked.w) := FnOk.st_of (evF_ok mend_Mend_locked.cok mixed (f := 55) (fn := Try.f55) (by kernel_rfl) mend_Mend_locked.draws) fun args s r h => by
  unfold mend_Mend_locked.w at h; split at h
  · rw [mend_Mend_locked.ok std]; exact h
  · simp at h

/-! ### (*leapfrog/mend.Mend).done: function 59 -/
def mend_Mend_done.ctx : Ctx := []
def mend_Mend_done.t (S : Sig) (a0 a1 : Value) (s : St) : Option (Value × St) :=
  S.bd (nck a0) fun x1 => S.bd (fld 10 x1) fun x2 => S.bd (lda s 5 x2) fun x3 => S.bd (bld [(Go.Value.int Go.IntKind.i64 0), (Go.Value.int Go.IntKind.u64 0), (Go.Value.slice Option.none 0 0), (Go.Value.slice Option.none 0 0), (Go.Value.int Go.IntKind.i64 0), (Go.Value.int Go.IntKind.i64 0), (Go.Value.int Go.IntKind.u64 0), (Go.Value.int Go.IntKind.i64 0), (Go.Value.int Go.IntKind.u64 0), (Go.Value.int Go.IntKind.i64 0), (Go.Value.int Go.IntKind.i64 0), (Go.Value.int Go.IntKind.u64 0), (Go.Value.int Go.IntKind.i64 0), (Go.Value.int Go.IntKind.u64 0), (Go.Value.bool Bool.false)] [(9, 5, x3), (14, 1, a1)]) fun x4 => S.bd (nck a0) fun x5 => S.bd (fld 9 x5) fun x6 => S.bd (stv s 1 x6 (Go.Value.int Go.IntKind.i64 5)) fun s7 => S.bd (nck a0) fun x8 => S.bd (fld 19 x8) fun x9 => S.bd (stv s7 15 x9 x4) fun s10 => some ((Value.tuple ⟨[]⟩), s10)
def mend_Mend_done.v (a0 a1 : Value) (s : St) : Option (Value × St) := mend_Mend_done.t std a0 a1 s
def mend_Mend_done.w : List Value → St → Option (Value × St)
  | [a0, a1], s => mend_Mend_done.v a0 a1 s
  | _, _ => none
def mend_Mend_done.an : An := ⟨16, false, [], [], [], []⟩
theorem mend_Mend_done.ok (S : Sig) (a0 a1 : Value) (s : St) : evF S Try.prog mend_Mend_done.ctx mend_Mend_done.an Try.f59 [a0, a1] s = mend_Mend_done.t S a0 a1 s := by kernel_rfl
theorem mend_Mend_done.cok : CtxOk Try.prog mend_Mend_done.ctx := .nil
theorem mend_Mend_done.draws : fnDraws mend_Mend_done.an Try.f59 = true := by kernel_rfl
theorem mend_Mend_done.can : callOk Try.prog 59 = true := by kernel_rfl
theorem mend_Mend_done.sound : FnOk Try.prog 59 (.st mend_Mend_done.w) := FnOk.st_of (evF_ok mend_Mend_done.cok mixed (f := 59) (fn := Try.f59) (by kernel_rfl) mend_Mend_done.draws) fun args s r h => by
  unfold mend_Mend_done.w at h; split at h
  · rw [mend_Mend_done.ok std]; exact h
  · simp at h

/-! ### (*leapfrog/mend.Mend).looked: function 56 -/
def mend_Mend_looked.ctx : Ctx := [(82, .st mend_Mend_look.w), (58, .st mend_Mend_fail.w), (59, .st mend_Mend_done.w)]
def mend_Mend_looked.t (S : Sig) (a0 a1 : Value) (s : St) : Option (Value × St) :=
  S.bd (bx a1) fun c1 => S.bd (lcl c1 0) fun x2 => S.bd (eqb [1] false false x2 (Go.Value.int Go.IntKind.i64 3)) fun x3 => S.cnd x3 (S.bd (nck a0) fun x4 => S.bd (fld 10 x4) fun x5 => S.bd (fld 1 x5) fun x6 => S.bd (lda s 2 x6) fun x7 => S.bd (nck a0) fun x8 => S.bd (fld 15 x8) fun x9 => S.bd (stv s 2 x9 x7) fun s10 => S.bd (nck a0) fun x11 => S.bd (fld 17 x11) fun x12 => S.bd (stv s10 1 x12 (Go.Value.bool Bool.true)) fun s13 => S.bd (lal c1 7 5) fun x14 => S.bd (mend_Mend_look.v a0 x14 s13) fun r15 => some ((Value.tuple ⟨[]⟩), r15.2)) (S.bd (lcl c1 0) fun x16 => S.bd (eqb [1] false true x16 (Go.Value.int Go.IntKind.i64 1)) fun x17 => S.cnd x17 (S.bd (mend_Mend_fail.v a0 s) fun r18 => some ((Value.tuple ⟨[]⟩), r18.2)) (S.bd (nck a0) fun x19 => S.bd (fld 17 x19) fun x20 => S.bd (ldc s x20) fun x21 => S.cnd x21 (S.bd (nck a0) fun x22 => S.bd (fld 9 x22) fun x23 => S.bd (stv s 1 x23 (Go.Value.int Go.IntKind.i64 3)) fun s24 => some ((Value.tuple ⟨[]⟩), s24)) (S.bd (lal c1 2 5) fun x25 => S.bd (nck a0) fun x26 => S.bd (fld 0 x26) fun x27 => S.bd (fld 2 x27) fun x28 => S.bd (lda s 5 x28) fun x29 => S.bd (eqb [1, 1, 1, 1, 1] true false x25 x29) fun x30 => S.cnd x30 (S.bd (mend_Mend_done.v a0 (Go.Value.bool Bool.false) s) fun r31 => some ((Value.tuple ⟨[]⟩), r31.2)) (S.bd (nck a0) fun x32 => S.bd (fld 9 x32) fun x33 => S.bd (stv s 1 x33 (Go.Value.int Go.IntKind.i64 4)) fun s34 => some ((Value.tuple ⟨[]⟩), s34)))))
def mend_Mend_looked.v (a0 a1 : Value) (s : St) : Option (Value × St) := mend_Mend_looked.t std a0 a1 s
def mend_Mend_looked.w : List Value → St → Option (Value × St)
  | [a0, a1], s => mend_Mend_looked.v a0 a1 s
  | _, _ => none
def mend_Mend_looked.an : An := ⟨51, false, [3], [], [], [(9, [(0, 0, [], []), (1, 25, [], []), (2, 0, [], []), (3, 0, [], []), (4, 0, [], []), (5, 0, [], []), (6, 2, [], []), (7, 0, [], []), (8, 0, [], [])])]⟩
theorem mend_Mend_looked.ok (S : Sig) (a0 a1 : Value) (s : St) : evF S Try.prog mend_Mend_looked.ctx mend_Mend_looked.an Try.f56 [a0, a1] s = mend_Mend_looked.t S a0 a1 s := by kernel_rfl
theorem mend_Mend_looked.cok : CtxOk Try.prog mend_Mend_looked.ctx := .cons mend_Mend_look.sound mend_Mend_look.can <| .cons mend_Mend_fail.sound mend_Mend_fail.can <| .cons mend_Mend_done.sound mend_Mend_done.can <| .nil
theorem mend_Mend_looked.draws : fnDraws mend_Mend_looked.an Try.f56 = true := by kernel_rfl
theorem mend_Mend_looked.can : callOk Try.prog 56 = true := by kernel_rfl
theorem mend_Mend_looked.sound : FnOk Try.prog 56 (.st mend_Mend_looked.w) := FnOk.st_of (evF_ok mend_Mend_looked.cok mixed (f := 56) (fn := Try.f56) (by kernel_rfl) mend_Mend_looked.draws) fun args s r h => by
  unfold mend_Mend_looked.w at h; split at h
  · rw [mend_Mend_looked.ok std]; exact h
  · simp at h

/-! ### (*leapfrog/mend.Mend).Tell: function 21 -/
def mend_Mend_Tell.ctx : Ctx := [(55, .st mend_Mend_locked.w), (56, .st mend_Mend_looked.w), (57, .st mend_Mend_end.w), (58, .st mend_Mend_fail.w), (59, .st mend_Mend_done.w)]
def mend_Mend_Tell.t.p1 (S : Sig) (a0 : Value) (s : St) (c1 : List Value) : Option (Value × St) :=
  S.bd (nck a0) fun x3 => S.bd (fld 9 x3) fun x4 => S.bd (ldc s x4) fun x5 => S.bd (show Option Cut from S.bd (eqb [1] false false x5 (Go.Value.int Go.IntKind.i64 1)) fun x28 => S.cnd x28 (S.bd (lal c1 0 13) fun x29 => S.bd (mend_Mend_locked.v a0 x29 s) fun r30 => some (0, [], r30.2)) (S.bd (eqb [1] false false x5 (Go.Value.int Go.IntKind.i64 2)) fun x31 => S.cnd x31 (S.bd (lal c1 0 13) fun x32 => S.bd (mend_Mend_looked.v a0 x32 s) fun r33 => some (0, [], r33.2)) (S.bd (eqb [1] false false x5 (Go.Value.int Go.IntKind.i64 3)) fun x34 => S.cnd x34 (S.bd (lcl c1 0) fun x35 => S.bd (eqb [1] false false x35 (Go.Value.int Go.IntKind.i64 1)) fun x36 => S.cnd x36 (S.bd (nck a0) fun x37 => S.bd (fld 9 x37) fun x38 => S.bd (stv s 1 x38 (Go.Value.int Go.IntKind.i64 4)) fun s39 => some (0, [], s39)) (S.bd (eqb [1] false false x35 (Go.Value.int Go.IntKind.i64 3)) fun x40 => S.cnd x40 (S.bd (mend_Mend_end.v a0 (Go.Value.int Go.IntKind.i64 132) s) fun r41 => some (0, [], r41.2)) (S.bd (mend_Mend_fail.v a0 s) fun r42 => some (0, [], r42.2)))) (S.bd (eqb [1] false false x5 (Go.Value.int Go.IntKind.i64 4)) fun x43 => S.cnd x43 (S.bd (lcl c1 0) fun x44 => S.bd (eqb [1] false false x44 (Go.Value.int Go.IntKind.i64 3)) fun x45 => S.cnd x45 (S.bd (mend_Mend_fail.v a0 s) fun r46 => some (0, [], r46.2)) (S.bd (mend_Mend_done.v a0 (Go.Value.bool Bool.true) s) fun r47 => some (0, [], r47.2))) (S.bd (eqb [1] false false x5 (Go.Value.int Go.IntKind.i64 5)) fun x48 => S.cnd x48 (some (1, [a0], s)) (S.bd (eqb [1] false false x5 (Go.Value.int Go.IntKind.i64 6)) fun x49 => S.cnd x49 (some (1, [a0], s)) (some (0, [], s)))))))) fun r50 => if r50.1 = 0 then (some ((Value.tuple ⟨[]⟩), r50.2.2)) else (S.bd (nck (r50.2.1.getD 0 undef)) fun x51 => S.bd (fld 9 x51) fun x52 => S.bd (ldc r50.2.2 x52) fun x53 => S.bd (eqb [1] false false x53 (Go.Value.int Go.IntKind.i64 5)) fun x54 => S.cnd x54 (S.bd (nck (r50.2.1.getD 0 undef)) fun x55 => S.bd (fld 9 x55) fun x56 => S.bd (stv r50.2.2 1 x56 (Go.Value.int Go.IntKind.i64 6)) fun s57 => some ((Value.tuple ⟨[]⟩), s57)) (some ((Value.tuple ⟨[]⟩), r50.2.2)))

def mend_Mend_Tell.t (S : Sig) (a0 a1 : Value) (s : St) : Option (Value × St) :=
  S.bd (bx a1) fun c1 => S.bd (eqb [3] false false a0 (Go.Value.pointer Option.none)) fun x2 => S.cnd x2 (some ((Value.tuple ⟨[]⟩), s)) (mend_Mend_Tell.t.p1 S a0 s c1)
def mend_Mend_Tell.v (a0 a1 : Value) (s : St) : Option (Value × St) := mend_Mend_Tell.t std a0 a1 s
def mend_Mend_Tell.w : List Value → St → Option (Value × St)
  | [a0, a1], s => mend_Mend_Tell.v a0 a1 s
  | _, _ => none
def mend_Mend_Tell.an : An := ⟨56, false, [3], [], [(20, ⟨[], [(.exit 0, []), (.normal, [.v 0])]⟩)], []⟩
theorem mend_Mend_Tell.ok (S : Sig) (a0 a1 : Value) (s : St) : evF S Try.prog mend_Mend_Tell.ctx mend_Mend_Tell.an Try.f21 [a0, a1] s = mend_Mend_Tell.t S a0 a1 s := by kernel_rfl
theorem mend_Mend_Tell.cok : CtxOk Try.prog mend_Mend_Tell.ctx := .cons mend_Mend_locked.sound mend_Mend_locked.can <| .cons mend_Mend_looked.sound mend_Mend_looked.can <| .cons mend_Mend_end.sound mend_Mend_end.can <| .cons mend_Mend_fail.sound mend_Mend_fail.can <| .cons mend_Mend_done.sound mend_Mend_done.can <| .nil
theorem mend_Mend_Tell.draws : fnDraws mend_Mend_Tell.an Try.f21 = true := by kernel_rfl
theorem mend_Mend_Tell.can : callOk Try.prog 21 = true := by kernel_rfl
theorem mend_Mend_Tell.sound : FnOk Try.prog 21 (.st mend_Mend_Tell.w) := FnOk.st_of (evF_ok mend_Mend_Tell.cok mixed (f := 21) (fn := Try.f21) (by kernel_rfl) mend_Mend_Tell.draws) fun args s r h => by
  unfold mend_Mend_Tell.w at h; split at h
  · rw [mend_Mend_Tell.ok std]; exact h
  · simp at h

/-! ### (*leapfrog/mend.Mend).Wake: function 22 -/
def mend_Mend_Wake.ctx : Ctx := []
def mend_Mend_Wake.t (S : Sig) (a0 : Value) (s : St) : Option Value :=
  some ((Value.tuple ⟨[]⟩))
def mend_Mend_Wake.r (a0 : Value) (s : St) : Option Value := mend_Mend_Wake.t std a0 s
def mend_Mend_Wake.w : List Value → St → Option Value
  | [a0], s => mend_Mend_Wake.r a0 s
  | _, _ => none
def mend_Mend_Wake.an : An := ⟨2, true, [], [], [], []⟩
theorem mend_Mend_Wake.ok (S : Sig) (a0 : Value) (s : St) : evG S Try.prog mend_Mend_Wake.ctx mend_Mend_Wake.an Try.f22 [a0] s = mend_Mend_Wake.t S a0 s := by kernel_rfl
theorem mend_Mend_Wake.cok : CtxOk Try.prog mend_Mend_Wake.ctx := .nil
theorem mend_Mend_Wake.draws : fnDraws mend_Mend_Wake.an Try.f22 = true := by kernel_rfl
theorem mend_Mend_Wake.can : callOk Try.prog 22 = true := by kernel_rfl
theorem mend_Mend_Wake.sound : FnOk Try.prog 22 (.rd mend_Mend_Wake.w) := FnOk.rd_of (evG_ok mend_Mend_Wake.cok mixed (f := 22) (fn := Try.f22) (by kernel_rfl) mend_Mend_Wake.draws) fun args s r h => by
  unfold mend_Mend_Wake.w at h; split at h
  · rw [mend_Mend_Wake.ok std]; exact h
  · simp at h

/-! ### (*leapfrog/mend.Mend).Next: function 20 -/
def mend_Mend_Next.ctx : Ctx := [(37, .rd mend_New_fn1.w)]
def mend_Mend_Next.t.p1 (S : Sig) (x20 : Value) (a0 : Value) (s17 : St) (c1 : List Value) : Option (Value × St) :=
  S.bd (eqb [1] false false x20 (Go.Value.int Go.IntKind.i64 6)) fun x81 => S.cnd x81 (S.bd (nck a0) fun x82 => S.bd (fld 19 x82) fun x83 => S.bd (lda s17 15 x83) fun x84 => S.bd (bld [(Go.Value.int Go.IntKind.i64 0), (Go.Value.int Go.IntKind.i64 0), (Go.Value.int Go.IntKind.i64 0), (Go.Value.int Go.IntKind.u64 0), (Go.Value.int Go.IntKind.i64 0), (Go.Value.int Go.IntKind.u64 0), (Go.Value.int Go.IntKind.i64 0), (Go.Value.int Go.IntKind.i64 0), (Go.Value.int Go.IntKind.u64 0), (Go.Value.int Go.IntKind.i64 0), (Go.Value.int Go.IntKind.i64 0), (Go.Value.int Go.IntKind.u64 0), (Go.Value.int Go.IntKind.i64 0), (Go.Value.int Go.IntKind.u64 0), (Go.Value.int Go.IntKind.i64 0), (Go.Value.int Go.IntKind.i64 0), (Go.Value.int Go.IntKind.u64 0), (Go.Value.int Go.IntKind.i64 0), (Go.Value.int Go.IntKind.u64 0), (Go.Value.int Go.IntKind.i64 0), (Go.Value.int Go.IntKind.i64 0), (Go.Value.int Go.IntKind.i64 0), (Go.Value.int Go.IntKind.u64 0), (Go.Value.slice Option.none 0 0), (Go.Value.slice Option.none 0 0), (Go.Value.int Go.IntKind.i64 0), (Go.Value.int Go.IntKind.i64 0), (Go.Value.int Go.IntKind.u64 0), (Go.Value.int Go.IntKind.i64 0), (Go.Value.int Go.IntKind.u64 0), (Go.Value.int Go.IntKind.i64 0), (Go.Value.int Go.IntKind.i64 0), (Go.Value.int Go.IntKind.u64 0), (Go.Value.int Go.IntKind.i64 0), (Go.Value.int Go.IntKind.u64 0), (Go.Value.bool Bool.false)] [(0, 1, (Go.Value.int Go.IntKind.i64 3)), (21, 15, x84)]) fun x85 => S.bd (stl c1 0 36 x85) fun c86 => S.bd (lal c86 0 36) fun x87 => some (x87, s17)) (S.bd (bld [(Go.Value.int Go.IntKind.i64 0), (Go.Value.int Go.IntKind.i64 0), (Go.Value.int Go.IntKind.i64 0), (Go.Value.int Go.IntKind.u64 0), (Go.Value.int Go.IntKind.i64 0), (Go.Value.int Go.IntKind.u64 0), (Go.Value.int Go.IntKind.i64 0), (Go.Value.int Go.IntKind.i64 0), (Go.Value.int Go.IntKind.u64 0), (Go.Value.int Go.IntKind.i64 0), (Go.Value.int Go.IntKind.i64 0), (Go.Value.int Go.IntKind.u64 0), (Go.Value.int Go.IntKind.i64 0), (Go.Value.int Go.IntKind.u64 0), (Go.Value.int Go.IntKind.i64 0), (Go.Value.int Go.IntKind.i64 0), (Go.Value.int Go.IntKind.u64 0), (Go.Value.int Go.IntKind.i64 0), (Go.Value.int Go.IntKind.u64 0), (Go.Value.int Go.IntKind.i64 0), (Go.Value.int Go.IntKind.i64 0), (Go.Value.int Go.IntKind.i64 0), (Go.Value.int Go.IntKind.u64 0), (Go.Value.slice Option.none 0 0), (Go.Value.slice Option.none 0 0), (Go.Value.int Go.IntKind.i64 0), (Go.Value.int Go.IntKind.i64 0), (Go.Value.int Go.IntKind.u64 0), (Go.Value.int Go.IntKind.i64 0), (Go.Value.int Go.IntKind.u64 0), (Go.Value.int Go.IntKind.i64 0), (Go.Value.int Go.IntKind.i64 0), (Go.Value.int Go.IntKind.u64 0), (Go.Value.int Go.IntKind.i64 0), (Go.Value.int Go.IntKind.u64 0), (Go.Value.bool Bool.false)] []) fun x88 => S.bd (stl c1 0 36 x88) fun c89 => S.bd (lal c89 0 36) fun x90 => some (x90, s17))

def mend_Mend_Next.t.p2 (S : Sig) (x20 : Value) (a0 : Value) (s17 : St) (c16 : List Value) (c1 : List Value) (r15 : Value × St) : Option (Value × St) :=
  S.bd (eqb [1] false false x20 (Go.Value.int Go.IntKind.i64 4)) fun x58 => S.cnd x58 (S.bd (nck a0) fun x59 => S.bd (fld 18 x59) fun x60 => S.bd (ldc s17 x60) fun x61 => S.bd (nck a0) fun x62 => S.bd (fld 10 x62) fun x63 => S.bd (lda s17 5 x63) fun x64 => S.bd (lal c16 0 5) fun x65 => S.bd (bld [(Go.Value.int Go.IntKind.i64 0), (Go.Value.int Go.IntKind.i64 0), (Go.Value.int Go.IntKind.u64 0), (Go.Value.int Go.IntKind.i64 0), (Go.Value.int Go.IntKind.i64 0), (Go.Value.int Go.IntKind.u64 0), (Go.Value.int Go.IntKind.i64 0), (Go.Value.int Go.IntKind.u64 0), (Go.Value.int Go.IntKind.i64 0), (Go.Value.int Go.IntKind.i64 0), (Go.Value.int Go.IntKind.u64 0), (Go.Value.int Go.IntKind.i64 0), (Go.Value.int Go.IntKind.u64 0), (Go.Value.int Go.IntKind.i64 0), (Go.Value.int Go.IntKind.i64 0)] [(0, 1, (Go.Value.int Go.IntKind.i64 6)), (3, 5, x65)]) fun x66 => S.bd (callV (mend_Mend_Next.ctx) x61 [x64, x66] s17) fun r67 => S.bd (stl c1 0 36 r67.1) fun c68 => S.bd (lal c68 0 36) fun x69 => some (x69, r67.2)) (S.bd (eqb [1] false false x20 (Go.Value.int Go.IntKind.i64 5)) fun x70 => S.cnd x70 (S.bd (nck a0) fun x71 => S.bd (fld 18 x71) fun x72 => S.bd (ldc s17 x72) fun x73 => S.bd (lal c16 0 5) fun x74 => S.bd (lda s17 2 r15.1) fun x75 => S.bd (bld [(Go.Value.int Go.IntKind.i64 0), (Go.Value.int Go.IntKind.i64 0), (Go.Value.int Go.IntKind.u64 0), (Go.Value.int Go.IntKind.i64 0), (Go.Value.int Go.IntKind.i64 0), (Go.Value.int Go.IntKind.u64 0), (Go.Value.int Go.IntKind.i64 0), (Go.Value.int Go.IntKind.u64 0), (Go.Value.int Go.IntKind.i64 0), (Go.Value.int Go.IntKind.i64 0), (Go.Value.int Go.IntKind.u64 0), (Go.Value.int Go.IntKind.i64 0), (Go.Value.int Go.IntKind.u64 0), (Go.Value.int Go.IntKind.i64 0), (Go.Value.int Go.IntKind.i64 0)] [(0, 1, (Go.Value.int Go.IntKind.i64 4)), (13, 2, x75)]) fun x76 => S.bd (callV (mend_Mend_Next.ctx) x73 [x74, x76] s17) fun r77 => S.bd (lda r77.2 2 r15.1) fun x78 => S.cnd (Value.bool (sameV x78 x75)) (S.bd (stl c1 0 36 r77.1) fun c79 => S.bd (lal c79 0 36) fun x80 => some (x80, r77.2)) (none)) (mend_Mend_Next.t.p1 S x20 a0 s17 c1))

def mend_Mend_Next.t.p3 (S : Sig) (x20 : Value) (a0 : Value) (s17 : St) (c1 : List Value) (c16 : List Value) (r15 : Value × St) : Option (Value × St) :=
  S.bd (eqb [1] false false x20 (Go.Value.int Go.IntKind.i64 2)) fun x32 => S.cnd x32 (S.bd (nck a0) fun x33 => S.bd (fld 18 x33) fun x34 => S.bd (ldc s17 x34) fun x35 => S.bd (nck a0) fun x36 => S.bd (fld 10 x36) fun x37 => S.bd (lda s17 5 x37) fun x38 => S.bd (bld [(Go.Value.int Go.IntKind.i64 0), (Go.Value.int Go.IntKind.i64 0), (Go.Value.int Go.IntKind.u64 0), (Go.Value.int Go.IntKind.i64 0), (Go.Value.int Go.IntKind.i64 0), (Go.Value.int Go.IntKind.u64 0), (Go.Value.int Go.IntKind.i64 0), (Go.Value.int Go.IntKind.u64 0), (Go.Value.int Go.IntKind.i64 0), (Go.Value.int Go.IntKind.i64 0), (Go.Value.int Go.IntKind.u64 0), (Go.Value.int Go.IntKind.i64 0), (Go.Value.int Go.IntKind.u64 0), (Go.Value.int Go.IntKind.i64 0), (Go.Value.int Go.IntKind.i64 0)] [(0, 1, (Go.Value.int Go.IntKind.i64 1))]) fun x39 => S.bd (callV (mend_Mend_Next.ctx) x35 [x38, x39] s17) fun r40 => S.bd (stl c1 0 36 r40.1) fun c41 => S.bd (lal c41 0 36) fun x42 => some (x42, r40.2)) (S.bd (eqb [1] false false x20 (Go.Value.int Go.IntKind.i64 3)) fun x43 => S.cnd x43 (S.bd (nck a0) fun x44 => S.bd (fld 18 x44) fun x45 => S.bd (ldc s17 x45) fun x46 => S.bd (lal c16 0 5) fun x47 => S.bd (nck a0) fun x48 => S.bd (fld 10 x48) fun x49 => S.bd (lda s17 5 x49) fun x50 => S.bd (lda s17 2 r15.1) fun x51 => S.bd (bld [(Go.Value.int Go.IntKind.i64 0), (Go.Value.int Go.IntKind.i64 0), (Go.Value.int Go.IntKind.u64 0), (Go.Value.int Go.IntKind.i64 0), (Go.Value.int Go.IntKind.i64 0), (Go.Value.int Go.IntKind.u64 0), (Go.Value.int Go.IntKind.i64 0), (Go.Value.int Go.IntKind.u64 0), (Go.Value.int Go.IntKind.i64 0), (Go.Value.int Go.IntKind.i64 0), (Go.Value.int Go.IntKind.u64 0), (Go.Value.int Go.IntKind.i64 0), (Go.Value.int Go.IntKind.u64 0), (Go.Value.int Go.IntKind.i64 0), (Go.Value.int Go.IntKind.i64 0)] [(0, 1, (Go.Value.int Go.IntKind.i64 5)), (3, 5, x50), (13, 2, x51)]) fun x52 => S.bd (callV (mend_Mend_Next.ctx) x46 [x47, x52] s17) fun r53 => S.bd (lda r53.2 5 x49) fun x54 => S.cnd (Value.bool (sameV x54 x50)) (S.bd (lda r53.2 2 r15.1) fun x55 => S.cnd (Value.bool (sameV x55 x51)) (S.bd (stl c1 0 36 r53.1) fun c56 => S.bd (lal c56 0 36) fun x57 => some (x57, r53.2)) (none)) (none)) (mend_Mend_Next.t.p2 S x20 a0 s17 c16 c1 r15))

def mend_Mend_Next.t.p4 (S : Sig) (a0 : Value) (s : St) (c1 : List Value) : Option (Value × St) :=
  S.bd (nck a0) fun x6 => S.bd (fld 0 x6) fun x7 => S.bd (fld 2 x7) fun x8 => S.bd (lda s 5 x8) fun x9 => S.bd (nck a0) fun x10 => S.bd (fld 0 x10) fun x11 => S.bd (fld 7 x11) fun x12 => S.bd (lda s 2 x12) fun x13 => S.bd (alv s (Go.Value.agg #[(Go.Value.int Go.IntKind.i64 0), (Go.Value.int Go.IntKind.i64 0)])) fun _ => S.bd (bx (Go.Value.agg #[(Go.Value.int Go.IntKind.i64 0), (Go.Value.int Go.IntKind.i64 0), (Go.Value.int Go.IntKind.u64 0), (Go.Value.int Go.IntKind.i64 0), (Go.Value.int Go.IntKind.u64 0)])) fun c14 => S.bd (alv s (Go.Value.agg #[(Go.Value.int Go.IntKind.i64 0), (Go.Value.int Go.IntKind.i64 0)])) fun r15 => S.bd (stl c14 0 5 x9) fun c16 => S.bd (stv r15.2 2 r15.1 x13) fun s17 => S.bd (nck a0) fun x18 => S.bd (fld 9 x18) fun x19 => S.bd (ldc s17 x19) fun x20 => S.bd (eqb [1] false false x20 (Go.Value.int Go.IntKind.i64 1)) fun x21 => S.cnd x21 (S.bd (nck a0) fun x22 => S.bd (fld 18 x22) fun x23 => S.bd (ldc s17 x23) fun x24 => S.bd (lal c16 0 5) fun x25 => S.bd (lda s17 2 r15.1) fun x26 => S.bd (bld [(Go.Value.int Go.IntKind.i64 0), (Go.Value.int Go.IntKind.i64 0), (Go.Value.int Go.IntKind.u64 0), (Go.Value.int Go.IntKind.i64 0), (Go.Value.int Go.IntKind.i64 0), (Go.Value.int Go.IntKind.u64 0), (Go.Value.int Go.IntKind.i64 0), (Go.Value.int Go.IntKind.u64 0), (Go.Value.int Go.IntKind.i64 0), (Go.Value.int Go.IntKind.i64 0), (Go.Value.int Go.IntKind.u64 0), (Go.Value.int Go.IntKind.i64 0), (Go.Value.int Go.IntKind.u64 0), (Go.Value.int Go.IntKind.i64 0), (Go.Value.int Go.IntKind.i64 0)] [(0, 1, (Go.Value.int Go.IntKind.i64 3)), (13, 2, x26)]) fun x27 => S.bd (callV (mend_Mend_Next.ctx) x24 [x25, x27] s17) fun r28 => S.bd (lda r28.2 2 r15.1) fun x29 => S.cnd (Value.bool (sameV x29 x26)) (S.bd (stl c1 0 36 r28.1) fun c30 => S.bd (lal c30 0 36) fun x31 => some (x31, r28.2)) (none)) (mend_Mend_Next.t.p3 S x20 a0 s17 c1 c16 r15)

def mend_Mend_Next.t (S : Sig) (a0 : Value) (s : St) : Option (Value × St) :=
  S.bd (bx (Go.Value.agg #[(Go.Value.int Go.IntKind.i64 0), (Go.Value.int Go.IntKind.i64 0), (Go.Value.int Go.IntKind.i64 0), (Go.Value.int Go.IntKind.u64 0), (Go.Value.int Go.IntKind.i64 0), (Go.Value.int Go.IntKind.u64 0), (Go.Value.int Go.IntKind.i64 0), (Go.Value.int Go.IntKind.i64 0), (Go.Value.int Go.IntKind.u64 0), (Go.Value.int Go.IntKind.i64 0), (Go.Value.int Go.IntKind.i64 0), (Go.Value.int Go.IntKind.u64 0), (Go.Value.int Go.IntKind.i64 0), (Go.Value.int Go.IntKind.u64 0), (Go.Value.int Go.IntKind.i64 0), (Go.Value.int Go.IntKind.i64 0), (Go.Value.int Go.IntKind.u64 0), (Go.Value.int Go.IntKind.i64 0), (Go.Value.int Go.IntKind.u64 0), (Go.Value.int Go.IntKind.i64 0), (Go.Value.int Go.IntKind.i64 0), (Go.Value.int Go.IntKind.i64 0), (Go.Value.int Go.IntKind.u64 0), (Go.Value.slice Option.none 0 0), (Go.Value.slice Option.none 0 0), (Go.Value.int Go.IntKind.i64 0), (Go.Value.int Go.IntKind.i64 0), (Go.Value.int Go.IntKind.u64 0), (Go.Value.int Go.IntKind.i64 0), (Go.Value.int Go.IntKind.u64 0), (Go.Value.int Go.IntKind.i64 0), (Go.Value.int Go.IntKind.i64 0), (Go.Value.int Go.IntKind.u64 0), (Go.Value.int Go.IntKind.i64 0), (Go.Value.int Go.IntKind.u64 0), (Go.Value.bool Bool.false)])) fun c1 => S.bd (eqb [3] false false a0 (Go.Value.pointer Option.none)) fun x2 => S.cnd x2 (S.bd (bld [(Go.Value.int Go.IntKind.i64 0), (Go.Value.int Go.IntKind.i64 0), (Go.Value.int Go.IntKind.i64 0), (Go.Value.int Go.IntKind.u64 0), (Go.Value.int Go.IntKind.i64 0), (Go.Value.int Go.IntKind.u64 0), (Go.Value.int Go.IntKind.i64 0), (Go.Value.int Go.IntKind.i64 0), (Go.Value.int Go.IntKind.u64 0), (Go.Value.int Go.IntKind.i64 0), (Go.Value.int Go.IntKind.i64 0), (Go.Value.int Go.IntKind.u64 0), (Go.Value.int Go.IntKind.i64 0), (Go.Value.int Go.IntKind.u64 0), (Go.Value.int Go.IntKind.i64 0), (Go.Value.int Go.IntKind.i64 0), (Go.Value.int Go.IntKind.u64 0), (Go.Value.int Go.IntKind.i64 0), (Go.Value.int Go.IntKind.u64 0), (Go.Value.int Go.IntKind.i64 0), (Go.Value.int Go.IntKind.i64 0), (Go.Value.int Go.IntKind.i64 0), (Go.Value.int Go.IntKind.u64 0), (Go.Value.slice Option.none 0 0), (Go.Value.slice Option.none 0 0), (Go.Value.int Go.IntKind.i64 0), (Go.Value.int Go.IntKind.i64 0), (Go.Value.int Go.IntKind.u64 0), (Go.Value.int Go.IntKind.i64 0), (Go.Value.int Go.IntKind.u64 0), (Go.Value.int Go.IntKind.i64 0), (Go.Value.int Go.IntKind.i64 0), (Go.Value.int Go.IntKind.u64 0), (Go.Value.int Go.IntKind.i64 0), (Go.Value.int Go.IntKind.u64 0), (Go.Value.bool Bool.false)] []) fun x3 => S.bd (stl c1 0 36 x3) fun c4 => S.bd (lal c4 0 36) fun x5 => some (x5, s)) (mend_Mend_Next.t.p4 S a0 s c1)
def mend_Mend_Next.v (a0 : Value) (s : St) : Option (Value × St) := mend_Mend_Next.t std a0 s
def mend_Mend_Next.w : List Value → St → Option (Value × St)
  | [a0], s => mend_Mend_Next.v a0 s
  | _, _ => none
def mend_Mend_Next.an : An := ⟨89, false, [2, 3], [], [], [(3, [(0, 0, [], []), (1, 0, [], []), (2, 0, [], []), (3, 0, [], []), (4, 2, [], []), (5, 0, [], []), (6, 0, [], []), (7, 0, [], []), (8, 0, [], []), (9, 2, [], []), (10, 6, [], [11]), (11, 3, [], []), (12, 29, [], []), (13, 4, [], [])]), (6, [(0, 0, [], []), (1, 0, [], []), (2, 0, [], []), (3, 2, [], []), (4, 25, [], []), (5, 2, [], []), (6, 0, [], []), (7, 4, [5], []), (8, 21, [], [])]), (8, [(0, 0, [], []), (1, 0, [], []), (2, 0, [], []), (3, 2, [], []), (4, 0, [], []), (5, 0, [], []), (6, 0, [], []), (7, 2, [], []), (8, 0, [], []), (9, 4, [], []), (10, 21, [], [])]), (10, [(0, 0, [], []), (1, 0, [], []), (2, 0, [], []), (3, 2, [], []), (4, 25, [], []), (5, 0, [], []), (6, 0, [], []), (7, 0, [], []), (8, 2, [], []), (9, 2, [], []), (10, 0, [], []), (11, 4, [8, 9], []), (12, 21, [], [])]), (12, [(0, 0, [], []), (1, 0, [], []), (2, 0, [], []), (3, 2, [], []), (4, 0, [], []), (5, 0, [], []), (6, 0, [], []), (7, 2, [], []), (8, 25, [], []), (9, 0, [], []), (10, 4, [], []), (11, 21, [], [])]), (14, [(0, 0, [], []), (1, 0, [], []), (2, 0, [], []), (3, 2, [], []), (4, 25, [], []), (5, 2, [], []), (6, 0, [], []), (7, 4, [5], []), (8, 21, [], [])])]⟩
theorem mend_Mend_Next.ok (S : Sig) (a0 : Value) (s : St) : evF S Try.prog mend_Mend_Next.ctx mend_Mend_Next.an Try.f20 [a0] s = mend_Mend_Next.t S a0 s := by kernel_rfl
theorem mend_Mend_Next.cok : CtxOk Try.prog mend_Mend_Next.ctx := .cons mend_New_fn1.sound mend_New_fn1.can <| .nil
theorem mend_Mend_Next.draws : fnDraws mend_Mend_Next.an Try.f20 = true := by kernel_rfl
theorem mend_Mend_Next.can : callOk Try.prog 20 = true := by kernel_rfl
theorem mend_Mend_Next.sound : FnOk Try.prog 20 (.st mend_Mend_Next.w) := FnOk.st_of (evF_ok mend_Mend_Next.cok mixed (f := 20) (fn := Try.f20) (by kernel_rfl) mend_Mend_Next.draws) fun args s r h => by
  unfold mend_Mend_Next.w at h; split at h
  · rw [mend_Mend_Next.ok std]; exact h
  · simp at h

/-! ### leapfrog/leapfrogref12.SameResult: function 60 -/
def leapfrogref12x_SameResult.ctx : Ctx := []
def leapfrogref12x_SameResult.l4 (S : Sig) (rec63 : List Value → St → Option Cut) (xs61 : List Value) (s62 : St) : Option Cut :=
  S.bd (lcl (cellsA (xs61.getD 1 undef)) 3) fun x64 => S.bd (lenL x64) fun x65 => S.bd (bin .lss (xs61.getD 0 undef) x65) fun x66 => S.cnd x66 (S.bd (lcl (cellsA (xs61.getD 1 undef)) 3) fun x67 => S.bd (idx s62 2 x67 (xs61.getD 0 undef)) fun x68 => S.bd (fld 0 x68) fun x69 => S.bd (ldc s62 x69) fun x70 => S.bd (lcl (cellsA (xs61.getD 2 undef)) 3) fun x71 => S.bd (idx s62 2 x71 (xs61.getD 0 undef)) fun x72 => S.bd (fld 0 x72) fun x73 => S.bd (ldc s62 x73) fun x74 => S.bd (eqb [1] false true x70 x74) fun x75 => S.bd (S.gd x75 false (lcl (cellsA (xs61.getD 1 undef)) 3)) fun x76 => S.bd (S.gd x75 false (some (xs61.getD 0 undef))) fun x77 => S.bd (S.gd x75 false (idx s62 2 x76 x77)) fun x78 => S.bd (S.gd x75 false (fld 1 x78)) fun x79 => S.bd (S.gd x75 false (ldc s62 x79)) fun x80 => S.bd (S.gd x75 false (b2s s62 x80)) fun x81 => S.bd (S.gd x75 false (lcl (cellsA (xs61.getD 2 undef)) 3)) fun x82 => S.bd (S.gd x75 false (some (xs61.getD 0 undef))) fun x83 => S.bd (S.gd x75 false (idx s62 2 x82 x83)) fun x84 => S.bd (S.gd x75 false (fld 1 x84)) fun x85 => S.bd (S.gd x75 false (ldc s62 x85)) fun x86 => S.bd (S.gd x75 false (b2s s62 x86)) fun x87 => S.bd (S.gd x75 false (eqb [2] false true x81 x87)) fun x88 => S.bd (pik x75 (Go.Value.bool Bool.true) x88) fun x89 => S.cnd x89 (some (1, [(Go.Value.bool Bool.false)], s62)) (S.bd (bin .add (xs61.getD 0 undef) (Go.Value.int Go.IntKind.i64 1)) fun x90 => rec63 [x90, (Value.agg ⟨(cellsA (xs61.getD 1 undef))⟩), (Value.agg ⟨(cellsA (xs61.getD 2 undef))⟩)] s62)) (some (0, [], s62))

def leapfrogref12x_SameResult.t (S : Sig) (a0 a1 : Value) (s : St) : Option Value :=
  S.bd (bx a0) fun c1 => S.bd (bx a1) fun c2 => S.bd (lcl c1 0) fun x3 => S.bd (lcl c2 0) fun x4 => S.bd (eqb [1] false true x3 x4) fun x5 => S.bd (S.gd x5 false (lcl c1 1)) fun x6 => S.bd (S.gd x5 false (lcl c2 1)) fun x7 => S.bd (S.gd x5 false (eqb [1] false true x6 x7)) fun x8 => S.bd (pik x5 (Go.Value.bool Bool.true) x8) fun x9 => S.bd (S.gd x9 false (lcl c1 2)) fun x10 => S.bd (S.gd x9 false (b2s s x10)) fun x11 => S.bd (S.gd x9 false (lcl c2 2)) fun x12 => S.bd (S.gd x9 false (b2s s x12)) fun x13 => S.bd (S.gd x9 false (eqb [2] false true x11 x13)) fun x14 => S.bd (pik x9 (Go.Value.bool Bool.true) x14) fun x15 => S.bd (S.gd x15 false (lcl c1 3)) fun x16 => S.bd (S.gd x15 false (lenL x16)) fun x17 => S.bd (S.gd x15 false (lcl c2 3)) fun x18 => S.bd (S.gd x15 false (lenL x18)) fun x19 => S.bd (S.gd x15 false (eqb [1] false true x17 x19)) fun x20 => S.bd (pik x15 (Go.Value.bool Bool.true) x20) fun x21 => S.bd (S.gd x21 false (lal c1 4 5)) fun x22 => S.bd (S.gd x21 false (lal c2 4 5)) fun x23 => S.bd (S.gd x21 false (eqb [1, 1, 1, 1, 1] true true x22 x23)) fun x24 => S.bd (pik x21 (Go.Value.bool Bool.true) x24) fun x25 => S.bd (S.gd x25 false (lal c1 9 5)) fun x26 => S.bd (S.gd x25 false (lal c2 9 5)) fun x27 => S.bd (S.gd x25 false (eqb [1, 1, 1, 1, 1] true true x26 x27)) fun x28 => S.bd (pik x25 (Go.Value.bool Bool.true) x28) fun x29 => S.bd (S.gd x29 false (lcl c1 14)) fun x30 => S.bd (S.gd x29 false (lcl c2 14)) fun x31 => S.bd (S.gd x29 false (eqb [0] false true x30 x31)) fun x32 => S.bd (pik x29 (Go.Value.bool Bool.true) x32) fun x33 => S.cnd x33 (some ((Go.Value.bool Bool.false))) (S.bd (S.it (leapfrogref12x_SameResult.l4 S) [(Go.Value.int Go.IntKind.i64 0), (Value.agg ⟨c1⟩), (Value.agg ⟨c2⟩)] s) fun r91 => if r91.1 = 0 then (some ((Go.Value.bool Bool.true))) else (some ((r91.2.1.getD 0 undef))))
def leapfrogref12x_SameResult.r (a0 a1 : Value) (s : St) : Option Value := leapfrogref12x_SameResult.t std a0 a1 s
def leapfrogref12x_SameResult.w : List Value → St → Option Value
  | [a0, a1], s => leapfrogref12x_SameResult.r a0 a1 s
  | _, _ => none
def leapfrogref12x_SameResult.an : An := ⟨94, true, [2, 3], [(4, ⟨[.p 2 2 0, .p 3 3 0, .v 5, .l 2, .l 3], [(.exit 0, []), (.ret, [.v 4])]⟩)], [], [(6, [(0, 0, [], []), (1, 17, [], []), (2, 0, [], []), (3, 2, [], []), (4, 0, [], []), (5, 2, [], []), (6, 0, [], []), (7, 25, [], []), (8, 0, [], []), (9, 2, [], []), (10, 0, [], []), (11, 2, [], []), (12, 0, [], []), (13, 0, [], []), (14, 0, [], []), (15, 17, [], []), (16, 0, [], []), (17, 2, [], []), (18, 0, [], []), (19, 2, [], []), (20, 2, [], []), (21, 0, [], []), (22, 25, [], []), (23, 0, [], []), (24, 2, [], []), (25, 0, [], []), (26, 2, [], []), (27, 2, [], []), (28, 0, [], []), (29, 0, [], [])])]⟩
theorem leapfrogref12x_SameResult.ok (S : Sig) (a0 a1 : Value) (s : St) : evG S Try.prog leapfrogref12x_SameResult.ctx leapfrogref12x_SameResult.an Try.f60 [a0, a1] s = leapfrogref12x_SameResult.t S a0 a1 s := by kernel_rfl
theorem leapfrogref12x_SameResult.cok : CtxOk Try.prog leapfrogref12x_SameResult.ctx := .nil
theorem leapfrogref12x_SameResult.draws : fnDraws leapfrogref12x_SameResult.an Try.f60 = true := by kernel_rfl
theorem leapfrogref12x_SameResult.can : callOk Try.prog 60 = true := by kernel_rfl
theorem leapfrogref12x_SameResult.sound : FnOk Try.prog 60 (.rd leapfrogref12x_SameResult.w) := FnOk.rd_of (evG_ok leapfrogref12x_SameResult.cok mixed (f := 60) (fn := Try.f60) (by kernel_rfl) leapfrogref12x_SameResult.draws) fun args s r h => by
  unfold leapfrogref12x_SameResult.w at h; split at h
  · rw [leapfrogref12x_SameResult.ok std]; exact h
  · simp at h

/-! ### leapfrog/leapfrogref12.SameStep: function 23 -/
def leapfrogref12x_SameStep.ctx : Ctx := [(60, .rd leapfrogref12x_SameResult.w)]
def leapfrogref12x_SameStep.t (S : Sig) (a0 a1 : Value) (s : St) : Option Value :=
  S.bd (bx a0) fun c1 => S.bd (bx a1) fun c2 => S.bd (lcl c1 0) fun x3 => S.bd (lcl c2 0) fun x4 => S.bd (eqb [1] false false x3 x4) fun x5 => S.bd (S.gd x5 true (lal c1 1 5)) fun x6 => S.bd (S.gd x5 true (lal c2 1 5)) fun x7 => S.bd (S.gd x5 true (eqb [1, 1, 1, 1, 1] true false x6 x7)) fun x8 => S.bd (pik x5 x8 (Go.Value.bool Bool.false)) fun x9 => S.bd (S.gd x9 true (lal c1 6 15)) fun x10 => S.bd (S.gd x9 true (lal c2 6 15)) fun x11 => S.bd (S.gd x9 true (eqb [1, 1, 1, 1, 1, 1, 1, 1, 1, 1, 1, 1, 1, 1, 1] true false x10 x11)) fun x12 => S.bd (pik x9 x12 (Go.Value.bool Bool.false)) fun x13 => S.bd (S.gd x13 true (lal c1 21 15)) fun x14 => S.bd (S.gd x13 true (lal c2 21 15)) fun x15 => S.bd (S.gd x13 true (leapfrogref12x_SameResult.r x14 x15 s)) fun x16 => S.bd (pik x13 x16 (Go.Value.bool Bool.false)) fun x17 => some (x17)
def leapfrogref12x_SameStep.r (a0 a1 : Value) (s : St) : Option Value := leapfrogref12x_SameStep.t std a0 a1 s
def leapfrogref12x_SameStep.w : List Value → St → Option Value
  | [a0, a1], s => leapfrogref12x_SameStep.r a0 a1 s
  | _, _ => none
def leapfrogref12x_SameStep.an : An := ⟨31, true, [2, 3], [], [], []⟩
theorem leapfrogref12x_SameStep.ok (S : Sig) (a0 a1 : Value) (s : St) : evG S Try.prog leapfrogref12x_SameStep.ctx leapfrogref12x_SameStep.an Try.f23 [a0, a1] s = leapfrogref12x_SameStep.t S a0 a1 s := by kernel_rfl
theorem leapfrogref12x_SameStep.cok : CtxOk Try.prog leapfrogref12x_SameStep.ctx := .cons leapfrogref12x_SameResult.sound leapfrogref12x_SameResult.can <| .nil
theorem leapfrogref12x_SameStep.draws : fnDraws leapfrogref12x_SameStep.an Try.f23 = true := by kernel_rfl
theorem leapfrogref12x_SameStep.can : callOk Try.prog 23 = true := by kernel_rfl
theorem leapfrogref12x_SameStep.sound : FnOk Try.prog 23 (.rd leapfrogref12x_SameStep.w) := FnOk.rd_of (evG_ok leapfrogref12x_SameStep.cok mixed (f := 23) (fn := Try.f23) (by kernel_rfl) leapfrogref12x_SameStep.draws) fun args s r h => by
  unfold leapfrogref12x_SameStep.w at h; split at h
  · rw [leapfrogref12x_SameStep.ok std]; exact h
  · simp at h

/-! ### leapfrog/leapfrogref01.Power: function 61 -/
def leapfrogref01x_Power.ctx : Ctx := []
def leapfrogref01x_Power.l2 (S : Sig) (rec6 : List Value → St → Option Cut) (xs4 : List Value) (s5 : St) : Option Cut :=
  S.bd (bin .gtr (xs4.getD 0 undef) (Go.Value.int Go.IntKind.i64 0)) fun x7 => S.cnd x7 (S.bd (bin .mul (xs4.getD 1 undef) (Go.Value.int Go.IntKind.u64 2)) fun x8 => S.bd (bin .sub (xs4.getD 0 undef) (Go.Value.int Go.IntKind.i64 1)) fun x9 => rec6 [x9, x8] s5) (some (0, [(xs4.getD 1 undef)], s5))

def leapfrogref01x_Power.t (S : Sig) (a0 : Value) (s : St) : Option Value :=
  S.bd (S.it (leapfrogref01x_Power.l2 S) [a0, (Go.Value.int Go.IntKind.u64 1)] s) fun r10 => some ((r10.2.1.getD 0 undef))
def leapfrogref01x_Power.r (a0 : Value) (s : St) : Option Value := leapfrogref01x_Power.t std a0 s
def leapfrogref01x_Power.w : List Value → St → Option Value
  | [a0], s => leapfrogref01x_Power.r a0 s
  | _, _ => none
def leapfrogref01x_Power.an : An := ⟨11, true, [], [(2, ⟨[.v 0, .v 3], [(.exit 0, [.v 3])]⟩)], [], []⟩
theorem leapfrogref01x_Power.ok (S : Sig) (a0 : Value) (s : St) : evG S Try.prog leapfrogref01x_Power.ctx leapfrogref01x_Power.an Try.f61 [a0] s = leapfrogref01x_Power.t S a0 s := by kernel_rfl
theorem leapfrogref01x_Power.cok : CtxOk Try.prog leapfrogref01x_Power.ctx := .nil
theorem leapfrogref01x_Power.draws : fnDraws leapfrogref01x_Power.an Try.f61 = true := by kernel_rfl
theorem leapfrogref01x_Power.can : callOk Try.prog 61 = true := by kernel_rfl
theorem leapfrogref01x_Power.sound : FnOk Try.prog 61 (.rd leapfrogref01x_Power.w) := FnOk.rd_of (evG_ok leapfrogref01x_Power.cok mixed (f := 61) (fn := Try.f61) (by kernel_rfl) leapfrogref01x_Power.draws) fun args s r h => by
  unfold leapfrogref01x_Power.w at h; split at h
  · rw [leapfrogref01x_Power.ok std]; exact h
  · simp at h

/-! ### leapfrog/leapfrogref01.Right: function 24 -/
def leapfrogref01x_Right.ctx : Ctx := [(61, .rd leapfrogref01x_Power.w)]
def leapfrogref01x_Right.t (S : Sig) (a0 : Value) (s : St) : Option Value :=
  S.bd (bx a0) fun c1 => S.bd (lcl c1 0) fun x2 => S.bd (bin .geq x2 (Go.Value.int Go.IntKind.i64 0)) fun x3 => S.bd (S.gd x3 true (lcl c1 0)) fun x4 => S.bd (S.gd x3 true (bin .leq x4 (Go.Value.int Go.IntKind.i64 32))) fun x5 => S.bd (pik x3 x5 (Go.Value.bool Bool.false)) fun x6 => S.bd (S.gd x6 true (lcl c1 1)) fun x7 => S.bd (S.gd x6 true (lcl c1 0)) fun x8 => S.bd (S.gd x6 true (leapfrogref01x_Power.r x8 s)) fun x9 => S.bd (S.gd x6 true (bin .lss x7 x9)) fun x10 => S.bd (pik x6 x10 (Go.Value.bool Bool.false)) fun x11 => some (x11)
def leapfrogref01x_Right.r (a0 : Value) (s : St) : Option Value := leapfrogref01x_Right.t std a0 s
def leapfrogref01x_Right.w : List Value → St → Option Value
  | [a0], s => leapfrogref01x_Right.r a0 s
  | _, _ => none
def leapfrogref01x_Right.an : An := ⟨19, true, [1], [], [], [(1, [(0, 0, [], []), (1, 9, [], []), (2, 0, [], []), (3, 0, [], []), (4, 0, [], []), (5, 9, [], []), (6, 0, [], []), (7, 0, [], []), (8, 0, [], []), (9, 0, [], []), (10, 9, [], []), (11, 0, [], []), (12, 9, [], []), (13, 3, [], []), (14, 0, [], []), (15, 0, [], []), (16, 0, [], [])])]⟩
theorem leapfrogref01x_Right.ok (S : Sig) (a0 : Value) (s : St) : evG S Try.prog leapfrogref01x_Right.ctx leapfrogref01x_Right.an Try.f24 [a0] s = leapfrogref01x_Right.t S a0 s := by kernel_rfl
theorem leapfrogref01x_Right.cok : CtxOk Try.prog leapfrogref01x_Right.ctx := .cons leapfrogref01x_Power.sound leapfrogref01x_Power.can <| .nil
theorem leapfrogref01x_Right.draws : fnDraws leapfrogref01x_Right.an Try.f24 = true := by kernel_rfl
theorem leapfrogref01x_Right.can : callOk Try.prog 24 = true := by kernel_rfl
theorem leapfrogref01x_Right.sound : FnOk Try.prog 24 (.rd leapfrogref01x_Right.w) := FnOk.rd_of (evG_ok leapfrogref01x_Right.cok mixed (f := 24) (fn := Try.f24) (by kernel_rfl) leapfrogref01x_Right.draws) fun args s r h => by
  unfold leapfrogref01x_Right.w at h; split at h
  · rw [leapfrogref01x_Right.ok std]; exact h
  · simp at h

/-! ### leapfrog/leapfrogref11.Check: function 6 -/
def leapfrogref11x_Check.ctx : Ctx := [(24, .rd leapfrogref01x_Right.w)]
def leapfrogref11x_Check.l10 (S : Sig) (rec93 : List Value → St → Option Cut) (xs91 : List Value) (s92 : St) : Option Cut :=
  S.bd (bin .lss (xs91.getD 3 undef) (xs91.getD 2 undef)) fun x94 => S.cnd x94 (S.bd (idx s92 5 (xs91.getD 1 undef) (xs91.getD 3 undef)) fun x95 => S.bd (fld 0 x95) fun x96 => S.bd (ldc s92 x96) fun x97 => S.bd (lcl (cellsA (xs91.getD 14 undef)) 0) fun x98 => S.bd (eqb [1] false false x97 x98) fun x99 => S.bd (S.gd x99 false (some (xs91.getD 1 undef))) fun x100 => S.bd (S.gd x99 false (some (xs91.getD 3 undef))) fun x101 => S.bd (S.gd x99 false (idx s92 5 x100 x101)) fun x102 => S.bd (S.gd x99 false (fld 1 x102)) fun x103 => S.bd (S.gd x99 false (lda s92 2 x103)) fun x104 => S.bd (S.gd x99 false (lal (cellsA (xs91.getD 14 undef)) 1 2)) fun x105 => S.bd (S.gd x99 false (eqb [1, 1] true false x104 x105)) fun x106 => S.bd (pik x99 (Go.Value.bool Bool.true) x106) fun x107 => S.cnd x107 (some (1, [(Go.Value.int Go.IntKind.i64 110)], s92)) (S.bd (bin .add (xs91.getD 3 undef) (Go.Value.int Go.IntKind.i64 1)) fun x108 => rec93 [(xs91.getD 0 undef), (xs91.getD 1 undef), (xs91.getD 2 undef), x108, (xs91.getD 4 undef), (xs91.getD 5 undef), (xs91.getD 6 undef), (xs91.getD 7 undef), (xs91.getD 8 undef), (xs91.getD 9 undef), (xs91.getD 10 undef), (xs91.getD 11 undef), (xs91.getD 12 undef), (xs91.getD 13 undef), (Value.agg ⟨(cellsA (xs91.getD 14 undef))⟩)] s92)) (some (0, [(xs91.getD 0 undef), (xs91.getD 1 undef), (xs91.getD 2 undef), (xs91.getD 4 undef), (xs91.getD 5 undef), (xs91.getD 6 undef), (xs91.getD 7 undef), (xs91.getD 8 undef), (xs91.getD 9 undef), (xs91.getD 10 undef), (xs91.getD 11 undef), (xs91.getD 12 undef), (xs91.getD 13 undef)], s92))

def leapfrogref11x_Check.l4 (S : Sig) (rec68 : List Value → St → Option Cut) (xs66 : List Value) (s67 : St) : Option Cut :=
  S.bd (lenL (xs66.getD 1 undef)) fun x69 => S.bd (bin .lss (xs66.getD 2 undef) x69) fun x70 => S.cnd x70 (S.bd (idx s67 5 (xs66.getD 1 undef) (xs66.getD 2 undef)) fun x71 => S.bd (lda s67 5 x71) fun x72 => S.bd (bx (Go.Value.agg #[(Go.Value.int Go.IntKind.i64 0), (Go.Value.int Go.IntKind.i64 0), (Go.Value.int Go.IntKind.u64 0), (Go.Value.int Go.IntKind.i64 0), (Go.Value.int Go.IntKind.u64 0)])) fun c73 => S.bd (stl c73 0 5 x72) fun c74 => S.bd (lcl c74 0) fun x75 => S.bd (bin .lss x75 (Go.Value.int Go.IntKind.i64 2)) fun x76 => S.bd (S.gd x76 false (lcl c74 0)) fun x77 => S.bd (S.gd x76 false (bin .geq x77 (Go.Value.int Go.IntKind.i64 1024))) fun x78 => S.bd (pik x76 (Go.Value.bool Bool.true) x78) fun x79 => S.bd (S.gd x79 false (lcl c74 1)) fun x80 => S.bd (S.gd x79 false (eqb [1] false true x80 (Go.Value.int Go.IntKind.i64 2))) fun x81 => S.bd (pik x79 (Go.Value.bool Bool.true) x81) fun x82 => S.bd (S.gd x82 false (lal c74 3 2)) fun x83 => S.bd (S.gd x82 false (leapfrogref01x_Right.r x83 s67)) fun x84 => S.bd (S.gd x82 false (un .not x84)) fun x85 => S.bd (pik x82 (Go.Value.bool Bool.true) x85) fun x86 => S.bd (S.gd x86 false (lcl c74 3)) fun x87 => S.bd (S.gd x86 false (some (xs66.getD 0 undef))) fun x88 => S.bd (S.gd x86 false (eqb [1] false true x87 x88)) fun x89 => S.bd (pik x86 (Go.Value.bool Bool.true) x89) fun x90 => S.cnd x90 (some (1, [(Go.Value.int Go.IntKind.i64 110)], s67)) (S.bd (S.it (leapfrogref11x_Check.l10 S) [(xs66.getD 0 undef), (xs66.getD 1 undef), (xs66.getD 2 undef), (Go.Value.int Go.IntKind.i64 0), x77, x78, x80, x81, x83, x84, x85, x87, x88, x89, (Value.agg ⟨c74⟩)] s67) fun r109 => if r109.1 = 0 then (S.bd (bin .add (r109.2.1.getD 2 undef) (Go.Value.int Go.IntKind.i64 1)) fun x110 => rec68 [(r109.2.1.getD 0 undef), (r109.2.1.getD 1 undef), x110] r109.2.2) else (some (1, [(r109.2.1.getD 0 undef)], r109.2.2)))) (some (0, [], s67))

def leapfrogref11x_Check.t (S : Sig) (a0 a1 : Value) (s : St) : Option Value :=
  S.bd (bin .lss a0 (Go.Value.int Go.IntKind.i64 0)) fun x1 => S.bd (S.gd x1 false (some a0)) fun x2 => S.bd (S.gd x1 false (bin .gtr x2 (Go.Value.int Go.IntKind.i64 32))) fun x3 => S.bd (pik x1 (Go.Value.bool Bool.true) x3) fun x4 => S.bd (S.gd x4 false (some a1)) fun x5 => S.bd (S.gd x4 false (lenL x5)) fun x6 => S.bd (S.gd x4 false (bin .gtr x6 (Go.Value.int Go.IntKind.i64 1022))) fun x7 => S.bd (pik x4 (Go.Value.bool Bool.true) x7) fun x8 => S.cnd x8 (some ((Go.Value.int Go.IntKind.i64 110))) (S.bd (S.it (leapfrogref11x_Check.l4 S) [a0, a1, (Go.Value.int Go.IntKind.i64 0)] s) fun r111 => if r111.1 = 0 then (some ((Go.Value.int Go.IntKind.i64 0))) else (some ((r111.2.1.getD 0 undef))))
def leapfrogref11x_Check.r (a0 a1 : Value) (s : St) : Option Value := leapfrogref11x_Check.t std a0 a1 s
def leapfrogref11x_Check.w : List Value → St → Option Value
  | [a0, a1], s => leapfrogref11x_Check.r a0 a1 s
  | _, _ => none
def leapfrogref11x_Check.an : An := ⟨79, true, [6], [(10, ⟨[.v 0, .v 1, .v 5, .p 6 6 0, .v 7, .v 34, .v 35, .v 40, .v 41, .v 45, .v 46, .v 47, .v 52, .v 53, .v 54, .l 6], [(.exit 2, [.v 0, .v 1, .v 5, .v 34, .v 35, .v 40, .v 41, .v 45, .v 46, .v 47, .v 52, .v 53, .v 54]), (.ret, [.v 4])]⟩), (4, ⟨[.v 0, .v 1, .v 5], [(.exit 0, []), (.ret, [.v 4])]⟩)], [], [(12, [(0, 0, [], []), (1, 0, [], []), (2, 2, [], []), (3, 0, [], []), (4, 2, [], []), (5, 0, [], []), (6, 49, [], []), (7, 0, [], []), (8, 0, [], []), (9, 0, [], []), (10, 0, [], []), (11, 2, [], []), (12, 0, [], []), (13, 2, [], []), (14, 0, [], []), (15, 49, [], []), (16, 0, [], []), (17, 0, [], [])])]⟩
theorem leapfrogref11x_Check.ok (S : Sig) (a0 a1 : Value) (s : St) : evG S Try.prog leapfrogref11x_Check.ctx leapfrogref11x_Check.an Try.f6 [a0, a1] s = leapfrogref11x_Check.t S a0 a1 s := by kernel_rfl
theorem leapfrogref11x_Check.cok : CtxOk Try.prog leapfrogref11x_Check.ctx := .cons leapfrogref01x_Right.sound leapfrogref01x_Right.can <| .nil
theorem leapfrogref11x_Check.draws : fnDraws leapfrogref11x_Check.an Try.f6 = true := by kernel_rfl
theorem leapfrogref11x_Check.can : callOk Try.prog 6 = true := by kernel_rfl
theorem leapfrogref11x_Check.sound : FnOk Try.prog 6 (.rd leapfrogref11x_Check.w) := FnOk.rd_of (evG_ok leapfrogref11x_Check.cok mixed (f := 6) (fn := Try.f6) (by kernel_rfl) leapfrogref11x_Check.draws) fun args s r h => by
  unfold leapfrogref11x_Check.w at h; split at h
  · rw [leapfrogref11x_Check.ok std]; exact h
  · simp at h

/-! ### leapfrog/leapfrogref01.Bits: function 28 -/
def leapfrogref01x_Bits.ctx : Ctx := []
def leapfrogref01x_Bits.l4 (S : Sig) (rec16 : List Value → St → Option Cut) (xs14 : List Value) (s15 : St) : Option Cut :=
  S.bd (bin .geq (xs14.getD 2 undef) (Go.Value.int Go.IntKind.i64 0)) fun x17 => S.cnd x17 (S.bd (bin .rem (xs14.getD 1 undef) (Go.Value.int Go.IntKind.u64 2)) fun x18 => S.bd (cvi .i64 x18) fun x19 => S.bd (idx s15 1 (xs14.getD 0 undef) (xs14.getD 2 undef)) fun x20 => S.bd (stv s15 1 x20 x19) fun s21 => S.bd (bin .quo (xs14.getD 1 undef) (Go.Value.int Go.IntKind.u64 2)) fun x22 => S.bd (bin .sub (xs14.getD 2 undef) (Go.Value.int Go.IntKind.i64 1)) fun x23 => rec16 [(xs14.getD 0 undef), x22, x23] s21) (some (0, [(xs14.getD 0 undef)], s15))

def leapfrogref01x_Bits.t (S : Sig) (a0 : Value) (s : St) : Option (Value × St) :=
  S.bd (bx a0) fun c1 => S.bd (lcl c1 0) fun x2 => S.bd (mks s 1 8 [(Go.Value.int Go.IntKind.i64 0)] x2 x2) fun r3 => S.bd (lcl c1 1) fun x4 => S.bd (lcl c1 0) fun x5 => S.bd (bin .sub x5 (Go.Value.int Go.IntKind.i64 1)) fun x6 => S.bd (S.it (leapfrogref01x_Bits.l4 S) [r3.1, x4, x6] r3.2) fun r24 => some ((r24.2.1.getD 0 undef), r24.2.2)
def leapfrogref01x_Bits.v (a0 : Value) (s : St) : Option (Value × St) := leapfrogref01x_Bits.t std a0 s
def leapfrogref01x_Bits.w : List Value → St → Option (Value × St)
  | [a0], s => leapfrogref01x_Bits.v a0 s
  | _, _ => none
def leapfrogref01x_Bits.an : An := ⟨27, false, [1], [(4, ⟨[.v 3, .v 4, .v 5], [(.exit 0, [.v 3])]⟩)], [], []⟩
theorem leapfrogref01x_Bits.ok (S : Sig) (a0 : Value) (s : St) : evF S Try.prog leapfrogref01x_Bits.ctx leapfrogref01x_Bits.an Try.f28 [a0] s = leapfrogref01x_Bits.t S a0 s := by kernel_rfl
theorem leapfrogref01x_Bits.cok : CtxOk Try.prog leapfrogref01x_Bits.ctx := .nil
theorem leapfrogref01x_Bits.draws : fnDraws leapfrogref01x_Bits.an Try.f28 = true := by kernel_rfl
theorem leapfrogref01x_Bits.can : callOk Try.prog 28 = true := by kernel_rfl
theorem leapfrogref01x_Bits.sound : FnOk Try.prog 28 (.st leapfrogref01x_Bits.w) := FnOk.st_of (evF_ok leapfrogref01x_Bits.cok mixed (f := 28) (fn := Try.f28) (by kernel_rfl) leapfrogref01x_Bits.draws) fun args s r h => by
  unfold leapfrogref01x_Bits.w at h; split at h
  · rw [leapfrogref01x_Bits.ok std]; exact h
  · simp at h

/-! ### leapfrog/leapfrogref01.Of: function 27 -/
def leapfrogref01x_Of.ctx : Ctx := []
def leapfrogref01x_Of.l3 (S : Sig) (rec18 : List Value → St → Option Cut) (xs16 : List Value) (s17 : St) : Option Cut :=
  S.bd (lenL (xs16.getD 0 undef)) fun x19 => S.bd (bin .lss (xs16.getD 1 undef) x19) fun x20 => S.cnd x20 (S.bd (lcl (cellsA (xs16.getD 3 undef)) 1) fun x21 => S.bd (bin .mul x21 (Go.Value.int Go.IntKind.u64 2)) fun x22 => S.bd (idx s17 1 (xs16.getD 0 undef) (xs16.getD 1 undef)) fun x23 => S.bd (ldc s17 x23) fun x24 => S.bd (cvi .u64 x24) fun x25 => S.bd (bin .add x22 x25) fun x26 => S.bd (stl (cellsA (xs16.getD 3 undef)) 1 1 x26) fun c27 => S.bd (bin .add (xs16.getD 1 undef) (Go.Value.int Go.IntKind.i64 1)) fun x28 => rec18 [(xs16.getD 0 undef), x28, (Value.agg ⟨(cellsA (xs16.getD 2 undef))⟩), (Value.agg ⟨c27⟩)] s17) (some (0, [(Value.agg ⟨(cellsA (xs16.getD 2 undef))⟩), (Value.agg ⟨(cellsA (xs16.getD 3 undef))⟩)], s17))

def leapfrogref01x_Of.t (S : Sig) (a0 : Value) (s : St) : Option Value :=
  S.bd (bx (Go.Value.agg #[(Go.Value.int Go.IntKind.i64 0), (Go.Value.int Go.IntKind.u64 0)])) fun c1 => S.bd (lenL a0) fun x2 => S.bd (bld [(Go.Value.int Go.IntKind.i64 0), (Go.Value.int Go.IntKind.u64 0)] [(0, 1, x2)]) fun x3 => S.bd (bx (Go.Value.agg #[(Go.Value.int Go.IntKind.i64 0), (Go.Value.int Go.IntKind.u64 0)])) fun c4 => S.bd (stl c4 0 2 x3) fun c5 => S.bd (S.it (leapfrogref01x_Of.l3 S) [a0, (Go.Value.int Go.IntKind.i64 0), (Value.agg ⟨c1⟩), (Value.agg ⟨c5⟩)] s) fun r29 => S.bd (lal (cellsA (r29.2.1.getD 1 undef)) 0 2) fun x30 => S.bd (stl (cellsA (r29.2.1.getD 0 undef)) 0 2 x30) fun c31 => S.bd (lal c31 0 2) fun x32 => some (x32)
def leapfrogref01x_Of.r (a0 : Value) (s : St) : Option Value := leapfrogref01x_Of.t std a0 s
def leapfrogref01x_Of.w : List Value → St → Option Value
  | [a0], s => leapfrogref01x_Of.r a0 s
  | _, _ => none
def leapfrogref01x_Of.an : An := ⟨25, true, [2, 3], [(3, ⟨[.v 0, .p 2 2 0, .p 3 3 0, .v 4, .l 2, .l 3], [(.exit 0, [.p 2 2 0, .p 3 3 0, .l 2, .l 3])]⟩)], [], [(5, [(0, 0, [], []), (1, 25, [], []), (2, 0, [], []), (3, 0, [], []), (4, 0, [], []), (5, 2, [], []), (6, 2, [], []), (7, 0, [], []), (8, 0, [], []), (9, 0, [], []), (10, 29, [], [])])]⟩
theorem leapfrogref01x_Of.ok (S : Sig) (a0 : Value) (s : St) : evG S Try.prog leapfrogref01x_Of.ctx leapfrogref01x_Of.an Try.f27 [a0] s = leapfrogref01x_Of.t S a0 s := by kernel_rfl
theorem leapfrogref01x_Of.cok : CtxOk Try.prog leapfrogref01x_Of.ctx := .nil
theorem leapfrogref01x_Of.draws : fnDraws leapfrogref01x_Of.an Try.f27 = true := by kernel_rfl
theorem leapfrogref01x_Of.can : callOk Try.prog 27 = true := by kernel_rfl
theorem leapfrogref01x_Of.sound : FnOk Try.prog 27 (.rd leapfrogref01x_Of.w) := FnOk.rd_of (evG_ok leapfrogref01x_Of.cok mixed (f := 27) (fn := Try.f27) (by kernel_rfl) leapfrogref01x_Of.draws) fun args s r h => by
  unfold leapfrogref01x_Of.w at h; split at h
  · rw [leapfrogref01x_Of.ok std]; exact h
  · simp at h

/-! ### leapfrog/leapfrogref01.Prefixes: function 83 -/
def leapfrogref01x_Prefixes.ctx : Ctx := [(24, .rd leapfrogref01x_Right.w), (28, .st leapfrogref01x_Bits.w), (27, .rd leapfrogref01x_Of.w)]
def leapfrogref01x_Prefixes.l6 (S : Sig) (rec16 : List Value → St → Option Cut) (xs14 : List Value) (s15 : St) : Option Cut :=
  S.bd (lenL (xs14.getD 1 undef)) fun x17 => S.bd (bin .leq (xs14.getD 2 undef) x17) fun x18 => S.cnd x18 (S.bd (slc s15 1 (xs14.getD 1 undef) none (some (xs14.getD 2 undef)) none) fun x19 => S.bd (leapfrogref01x_Of.r x19 s15) fun x20 => S.bd (S.bd (bls 2 (List.replicate 1 [(Go.Value.int Go.IntKind.i64 0), (Go.Value.int Go.IntKind.u64 0)]) [(0, x20)]) fun rows => als s15 2 1 rows) fun r21 => S.bd (app r21.2 2 16 (xs14.getD 0 undef) r21.1) fun r22 => S.bd (bin .add (xs14.getD 2 undef) (Go.Value.int Go.IntKind.i64 1)) fun x23 => rec16 [r22.1, (xs14.getD 1 undef), x23] r22.2) (some (0, [(xs14.getD 0 undef)], s15))

def leapfrogref01x_Prefixes.t (S : Sig) (a0 : Value) (s : St) : Option (Value × St) :=
  S.bd (bx a0) fun c1 => S.bd (lal c1 0 2) fun x2 => S.bd (leapfrogref01x_Right.r x2 s) fun x3 => S.bd (un .not x3) fun x4 => S.cnd x4 (some ((Go.Value.slice Option.none 0 0), s)) (S.bd (lal c1 0 2) fun x5 => S.bd (leapfrogref01x_Bits.v x5 s) fun r6 => S.bd (S.it (leapfrogref01x_Prefixes.l6 S) [(Go.Value.slice Option.none 0 0), r6.1, (Go.Value.int Go.IntKind.i64 0)] r6.2) fun r24 => some ((r24.2.1.getD 0 undef), r24.2.2))
def leapfrogref01x_Prefixes.v (a0 : Value) (s : St) : Option (Value × St) := leapfrogref01x_Prefixes.t std a0 s
def leapfrogref01x_Prefixes.w : List Value → St → Option (Value × St)
  | [a0], s => leapfrogref01x_Prefixes.v a0 s
  | _, _ => none
def leapfrogref01x_Prefixes.an : An := ⟨25, false, [1], [(6, ⟨[.v 3, .v 4, .v 5], [(.exit 0, [.v 3])]⟩)], [], []⟩
theorem leapfrogref01x_Prefixes.ok (S : Sig) (a0 : Value) (s : St) : evF S Try.prog leapfrogref01x_Prefixes.ctx leapfrogref01x_Prefixes.an Try.f83 [a0] s = leapfrogref01x_Prefixes.t S a0 s := by kernel_rfl
theorem leapfrogref01x_Prefixes.cok : CtxOk Try.prog leapfrogref01x_Prefixes.ctx := .cons leapfrogref01x_Right.sound leapfrogref01x_Right.can <| .cons leapfrogref01x_Bits.sound leapfrogref01x_Bits.can <| .cons leapfrogref01x_Of.sound leapfrogref01x_Of.can <| .nil
theorem leapfrogref01x_Prefixes.draws : fnDraws leapfrogref01x_Prefixes.an Try.f83 = true := by kernel_rfl
theorem leapfrogref01x_Prefixes.can : callOk Try.prog 83 = true := by kernel_rfl
theorem leapfrogref01x_Prefixes.sound : FnOk Try.prog 83 (.st leapfrogref01x_Prefixes.w) := FnOk.st_of (evF_ok leapfrogref01x_Prefixes.cok mixed (f := 83) (fn := Try.f83) (by kernel_rfl) leapfrogref01x_Prefixes.draws) fun args s r h => by
  unfold leapfrogref01x_Prefixes.w at h; split at h
  · rw [leapfrogref01x_Prefixes.ok std]; exact h
  · simp at h

/-! ### leapfrog/leapfrogref01.common: function 81 -/
def leapfrogref01x_common.ctx : Ctx := []
def leapfrogref01x_common.l2 (S : Sig) (rec21 : List Value → St → Option Cut) (xs19 : List Value) (s20 : St) : Option Cut :=
  S.bd (lenL (xs19.getD 0 undef)) fun x22 => S.bd (bin .lss (xs19.getD 2 undef) x22) fun x23 => S.bd (S.gd x23 true (some (xs19.getD 2 undef))) fun x24 => S.bd (S.gd x23 true (some (xs19.getD 1 undef))) fun x25 => S.bd (S.gd x23 true (lenL x25)) fun x26 => S.bd (S.gd x23 true (bin .lss x24 x26)) fun x27 => S.bd (pik x23 x27 (Go.Value.bool Bool.false)) fun x28 => S.bd (S.gd x28 true (some (xs19.getD 0 undef))) fun x29 => S.bd (S.gd x28 true (some (xs19.getD 2 undef))) fun x30 => S.bd (S.gd x28 true (idx s20 1 x29 x30)) fun x31 => S.bd (S.gd x28 true (ldc s20 x31)) fun x32 => S.bd (S.gd x28 true (some (xs19.getD 1 undef))) fun x33 => S.bd (S.gd x28 true (some (xs19.getD 2 undef))) fun x34 => S.bd (S.gd x28 true (idx s20 1 x33 x34)) fun x35 => S.bd (S.gd x28 true (ldc s20 x35)) fun x36 => S.bd (S.gd x28 true (eqb [1] false false x32 x36)) fun x37 => S.bd (pik x28 x37 (Go.Value.bool Bool.false)) fun x38 => S.cnd x38 (S.bd (bin .add (xs19.getD 2 undef) (Go.Value.int Go.IntKind.i64 1)) fun x39 => rec21 [(xs19.getD 0 undef), (xs19.getD 1 undef), x39] s20) (some (0, [(xs19.getD 2 undef)], s20))

def leapfrogref01x_common.t (S : Sig) (a0 a1 : Value) (s : St) : Option Value :=
  S.bd (S.it (leapfrogref01x_common.l2 S) [a0, a1, (Go.Value.int Go.IntKind.i64 0)] s) fun r40 => some ((r40.2.1.getD 0 undef))
def leapfrogref01x_common.r (a0 a1 : Value) (s : St) : Option Value := leapfrogref01x_common.t std a0 a1 s
def leapfrogref01x_common.w : List Value → St → Option Value
  | [a0, a1], s => leapfrogref01x_common.r a0 a1 s
  | _, _ => none
def leapfrogref01x_common.an : An := ⟨30, true, [], [(2, ⟨[.v 0, .v 1, .v 5], [(.exit 0, [.v 5])]⟩)], [], [(2, [(0, 0, [], []), (1, 0, [], []), (2, 2, [], []), (3, 0, [], []), (4, 0, [], []), (5, 0, [], []), (6, 0, [], []), (7, 2, [], []), (8, 0, [], []), (9, 0, [], []), (10, 0, [], []), (11, 0, [], []), (12, 0, [], []), (13, 2, [], []), (14, 2, [], []), (15, 0, [], []), (16, 0, [], []), (17, 2, [], []), (18, 2, [], []), (19, 0, [], []), (20, 0, [], [])])]⟩
theorem leapfrogref01x_common.ok (S : Sig) (a0 a1 : Value) (s : St) : evG S Try.prog leapfrogref01x_common.ctx leapfrogref01x_common.an Try.f81 [a0, a1] s = leapfrogref01x_common.t S a0 a1 s := by kernel_rfl
theorem leapfrogref01x_common.cok : CtxOk Try.prog leapfrogref01x_common.ctx := .nil
theorem leapfrogref01x_common.draws : fnDraws leapfrogref01x_common.an Try.f81 = true := by kernel_rfl
theorem leapfrogref01x_common.can : callOk Try.prog 81 = true := by kernel_rfl
theorem leapfrogref01x_common.sound : FnOk Try.prog 81 (.rd leapfrogref01x_common.w) := FnOk.rd_of (evG_ok leapfrogref01x_common.cok mixed (f := 81) (fn := Try.f81) (by kernel_rfl) leapfrogref01x_common.draws) fun args s r h => by
  unfold leapfrogref01x_common.w at h; split at h
  · rw [leapfrogref01x_common.ok std]; exact h
  · simp at h

/-! ### leapfrog/leapfrogref01.Compare: function 88 -/
def leapfrogref01x_Compare.ctx : Ctx := [(24, .rd leapfrogref01x_Right.w), (28, .st leapfrogref01x_Bits.w), (81, .rd leapfrogref01x_common.w)]
def leapfrogref01x_Compare.t (S : Sig) (a0 a1 : Value) (s : St) : Option (Value × St) :=
  S.bd (bx a0) fun c1 => S.bd (bx a1) fun c2 => S.bd (lal c1 0 2) fun x3 => S.bd (leapfrogref01x_Right.r x3 s) fun x4 => S.bd (un .not x4) fun x5 => S.bd (S.gd x5 false (lal c2 0 2)) fun x6 => S.bd (S.gd x5 false (leapfrogref01x_Right.r x6 s)) fun x7 => S.bd (S.gd x5 false (un .not x7)) fun x8 => S.bd (pik x5 (Go.Value.bool Bool.true) x8) fun x9 => S.cnd x9 (some ((Value.tuple ⟨[(Go.Value.int Go.IntKind.i64 0), (Go.Value.int Go.IntKind.i64 10)]⟩), s)) (S.bd (lal c1 0 2) fun x10 => S.bd (lal c2 0 2) fun x11 => S.bd (leapfrogref01x_Bits.v x10 s) fun r12 => S.bd (leapfrogref01x_Bits.v x11 r12.2) fun r13 => S.bd (leapfrogref01x_common.r r12.1 r13.1 r13.2) fun x14 => S.bd (lenL r12.1) fun x15 => S.bd (eqb [1] false false x14 x15) fun x16 => S.bd (S.gd x16 true (some x14)) fun x17 => S.bd (S.gd x16 true (some r13.1)) fun x18 => S.bd (S.gd x16 true (lenL x18)) fun x19 => S.bd (S.gd x16 true (eqb [1] false false x17 x19)) fun x20 => S.bd (pik x16 x20 (Go.Value.bool Bool.false)) fun x21 => S.cnd x21 (some ((Value.tuple ⟨[(Go.Value.int Go.IntKind.i64 0), (Go.Value.int Go.IntKind.i64 0)]⟩), r13.2)) (S.bd (lenL r12.1) fun x22 => S.bd (eqb [1] false false x14 x22) fun x23 => S.cnd x23 (some ((Value.tuple ⟨[(Go.Value.int Go.IntKind.i64 (-1)), (Go.Value.int Go.IntKind.i64 0)]⟩), r13.2)) (S.bd (lenL r13.1) fun x24 => S.bd (eqb [1] false false x14 x24) fun x25 => S.cnd x25 (some ((Value.tuple ⟨[(Go.Value.int Go.IntKind.i64 1), (Go.Value.int Go.IntKind.i64 0)]⟩), r13.2)) (S.bd (idx r13.2 1 r12.1 x14) fun x26 => S.bd (ldc r13.2 x26) fun x27 => S.bd (idx r13.2 1 r13.1 x14) fun x28 => S.bd (ldc r13.2 x28) fun x29 => S.bd (bin .lss x27 x29) fun x30 => S.cnd x30 (some ((Value.tuple ⟨[(Go.Value.int Go.IntKind.i64 (-1)), (Go.Value.int Go.IntKind.i64 0)]⟩), r13.2)) (some ((Value.tuple ⟨[(Go.Value.int Go.IntKind.i64 1), (Go.Value.int Go.IntKind.i64 0)]⟩), r13.2))))))
def leapfrogref01x_Compare.v (a0 a1 : Value) (s : St) : Option (Value × St) := leapfrogref01x_Compare.t std a0 a1 s
def leapfrogref01x_Compare.w : List Value → St → Option (Value × St)
  | [a0, a1], s => leapfrogref01x_Compare.v a0 a1 s
  | _, _ => none
def leapfrogref01x_Compare.an : An := ⟨55, false, [2, 3], [], [], [(3, [(0, 17, [], []), (2, 25, [], []), (1, 4, [], []), (3, 4, [], []), (4, 0, [], []), (5, 0, [], [])]), (11, [(0, 0, [], []), (1, 0, [], []), (2, 2, [], []), (3, 2, [], []), (4, 0, [], []), (5, 0, [], []), (6, 2, [], []), (7, 2, [], []), (8, 0, [], []), (9, 0, [], [])])]⟩
theorem leapfrogref01x_Compare.ok (S : Sig) (a0 a1 : Value) (s : St) : evF S Try.prog leapfrogref01x_Compare.ctx leapfrogref01x_Compare.an Try.f88 [a0, a1] s = leapfrogref01x_Compare.t S a0 a1 s := by kernel_rfl
theorem leapfrogref01x_Compare.cok : CtxOk Try.prog leapfrogref01x_Compare.ctx := .cons leapfrogref01x_Right.sound leapfrogref01x_Right.can <| .cons leapfrogref01x_Bits.sound leapfrogref01x_Bits.can <| .cons leapfrogref01x_common.sound leapfrogref01x_common.can <| .nil
theorem leapfrogref01x_Compare.draws : fnDraws leapfrogref01x_Compare.an Try.f88 = true := by kernel_rfl
theorem leapfrogref01x_Compare.can : callOk Try.prog 88 = true := by kernel_rfl
theorem leapfrogref01x_Compare.sound : FnOk Try.prog 88 (.st leapfrogref01x_Compare.w) := FnOk.st_of (evF_ok leapfrogref01x_Compare.cok mixed (f := 88) (fn := Try.f88) (by kernel_rfl) leapfrogref01x_Compare.draws) fun args s r h => by
  unfold leapfrogref01x_Compare.w at h; split at h
  · rw [leapfrogref01x_Compare.ok std]; exact h
  · simp at h

/-! ### leapfrog/leapfrogref01.Compare: function 88, as a reading -/
def leapfrogref01x_CompareQ.r (a0 a1 : Value) (s : St) : Option Value := frzR (fun s => leapfrogref01x_Compare.v a0 a1 s) s
def leapfrogref01x_CompareQ.w : List Value → St → Option Value := fun args s => frzR (leapfrogref01x_Compare.w args) s
theorem leapfrogref01x_CompareQ.can : callOk Try.prog 88 = true := leapfrogref01x_Compare.can
theorem leapfrogref01x_CompareQ.sound : FnOk Try.prog 88 (.rd leapfrogref01x_CompareQ.w) := FnOk.frozen leapfrogref01x_Compare.sound

/-! ### leapfrog/leapfrogref01.Begins: function 54 -/
def leapfrogref01x_Begins.ctx : Ctx := [(24, .rd leapfrogref01x_Right.w), (28, .st leapfrogref01x_Bits.w), (81, .rd leapfrogref01x_common.w)]
def leapfrogref01x_Begins.t (S : Sig) (a0 a1 : Value) (s : St) : Option (Value × St) :=
  S.bd (bx a0) fun c1 => S.bd (bx a1) fun c2 => S.bd (lal c1 0 2) fun x3 => S.bd (leapfrogref01x_Right.r x3 s) fun x4 => S.bd (S.gd x4 true (lal c2 0 2)) fun x5 => S.bd (S.gd x4 true (leapfrogref01x_Right.r x5 s)) fun x6 => S.bd (pik x4 x6 (Go.Value.bool Bool.false)) fun x7 => S.bd (S.gd x7 true (lal c1 0 2)) fun x8 => S.bd (S.gd x7 true (lal c2 0 2)) fun x9 => S.bd (S.gd x7 true (lcl c2 0)) fun x10 => S.bd (S.gdS x7 true (leapfrogref01x_Bits.v x8 s) s) fun r11 => S.bd (S.gdS x7 true (leapfrogref01x_Bits.v x9 r11.2) r11.2) fun r12 => S.bd (S.gd x7 true (leapfrogref01x_common.r r11.1 r12.1 r12.2)) fun x13 => S.bd (S.gd x7 true (eqb [1] false false x13 x10)) fun x14 => S.bd (pik x7 x14 (Go.Value.bool Bool.false)) fun x15 => some (x15, r12.2)
def leapfrogref01x_Begins.v (a0 a1 : Value) (s : St) : Option (Value × St) := leapfrogref01x_Begins.t std a0 a1 s
def leapfrogref01x_Begins.w : List Value → St → Option (Value × St)
  | [a0, a1], s => leapfrogref01x_Begins.v a0 a1 s
  | _, _ => none
def leapfrogref01x_Begins.an : An := ⟨21, false, [2, 3], [], [], [(1, [(0, 17, [], []), (1, 3, [], []), (2, 0, [], []), (3, 25, [], []), (4, 3, [], []), (5, 0, [], []), (6, 0, [], []), (7, 17, [], []), (9, 25, [], []), (12, 0, [], []), (13, 25, [], []), (8, 4, [], []), (10, 4, [], []), (11, 3, [], []), (14, 0, [], []), (15, 0, [], []), (16, 0, [], [])])]⟩
theorem leapfrogref01x_Begins.ok (S : Sig) (a0 a1 : Value) (s : St) : evF S Try.prog leapfrogref01x_Begins.ctx leapfrogref01x_Begins.an Try.f54 [a0, a1] s = leapfrogref01x_Begins.t S a0 a1 s := by kernel_rfl
theorem leapfrogref01x_Begins.cok : CtxOk Try.prog leapfrogref01x_Begins.ctx := .cons leapfrogref01x_Right.sound leapfrogref01x_Right.can <| .cons leapfrogref01x_Bits.sound leapfrogref01x_Bits.can <| .cons leapfrogref01x_common.sound leapfrogref01x_common.can <| .nil
theorem leapfrogref01x_Begins.draws : fnDraws leapfrogref01x_Begins.an Try.f54 = true := by kernel_rfl
theorem leapfrogref01x_Begins.can : callOk Try.prog 54 = true := by kernel_rfl
theorem leapfrogref01x_Begins.sound : FnOk Try.prog 54 (.st leapfrogref01x_Begins.w) := FnOk.st_of (evF_ok leapfrogref01x_Begins.cok mixed (f := 54) (fn := Try.f54) (by kernel_rfl) leapfrogref01x_Begins.draws) fun args s r h => by
  unfold leapfrogref01x_Begins.w at h; split at h
  · rw [leapfrogref01x_Begins.ok std]; exact h
  · simp at h

/-! ### leapfrog/leapfrogref01.Begins: function 54, as a reading -/
def leapfrogref01x_BeginsQ.r (a0 a1 : Value) (s : St) : Option Value := frzR (fun s => leapfrogref01x_Begins.v a0 a1 s) s
def leapfrogref01x_BeginsQ.w : List Value → St → Option Value := fun args s => frzR (leapfrogref01x_Begins.w args) s
theorem leapfrogref01x_BeginsQ.can : callOk Try.prog 54 = true := leapfrogref01x_Begins.can
theorem leapfrogref01x_BeginsQ.sound : FnOk Try.prog 54 (.rd leapfrogref01x_BeginsQ.w) := FnOk.frozen leapfrogref01x_Begins.sound

/-! ### leapfrog/leapfrogref09.Less: function 12 -/
def leapfrogref09x_Less.ctx : Ctx := []
def leapfrogref09x_Less.t (S : Sig) (a0 a1 : Value) (s : St) : Option Value :=
  S.bd (bx a0) fun c1 => S.bd (bx a1) fun c2 => S.bd (lcl c1 0) fun x3 => S.bd (lcl c2 0) fun x4 => S.bd (bin .lss x3 x4) fun x5 => S.bd (S.gd x5 false (lcl c1 0)) fun x6 => S.bd (S.gd x5 false (lcl c2 0)) fun x7 => S.bd (S.gd x5 false (eqb [1] false false x6 x7)) fun x8 => S.bd (S.gd x5 false (some x8)) fun x9 => S.bd (S.gd x9 true (lcl c1 1)) fun x10 => S.bd (S.gd x9 true (lcl c2 1)) fun x11 => S.bd (S.gd x9 true (bin .lss x10 x11)) fun x12 => S.bd (S.gd x5 false (pik x9 x12 (Go.Value.bool Bool.false))) fun x13 => S.bd (pik x5 (Go.Value.bool Bool.true) x13) fun x14 => some (x14)
def leapfrogref09x_Less.r (a0 a1 : Value) (s : St) : Option Value := leapfrogref09x_Less.t std a0 a1 s
def leapfrogref09x_Less.w : List Value → St → Option Value
  | [a0, a1], s => leapfrogref09x_Less.r a0 a1 s
  | _, _ => none
def leapfrogref09x_Less.an : An := ⟨24, true, [2, 3], [], [], []⟩
theorem leapfrogref09x_Less.ok (S : Sig) (a0 a1 : Value) (s : St) : evG S Try.prog leapfrogref09x_Less.ctx leapfrogref09x_Less.an Try.f12 [a0, a1] s = leapfrogref09x_Less.t S a0 a1 s := by kernel_rfl
theorem leapfrogref09x_Less.cok : CtxOk Try.prog leapfrogref09x_Less.ctx := .nil
theorem leapfrogref09x_Less.draws : fnDraws leapfrogref09x_Less.an Try.f12 = true := by kernel_rfl
theorem leapfrogref09x_Less.can : callOk Try.prog 12 = true := by kernel_rfl
theorem leapfrogref09x_Less.sound : FnOk Try.prog 12 (.rd leapfrogref09x_Less.w) := FnOk.rd_of (evG_ok leapfrogref09x_Less.cok mixed (f := 12) (fn := Try.f12) (by kernel_rfl) leapfrogref09x_Less.draws) fun args s r h => by
  unfold leapfrogref09x_Less.w at h; split at h
  · rw [leapfrogref09x_Less.ok std]; exact h
  · simp at h

/-! ### leapfrog/leapfrogref11.sorted: function 62 -/
def leapfrogref11x_sorted.ctx : Ctx := [(12, .rd leapfrogref09x_Less.w)]
def leapfrogref11x_sorted.l6 (S : Sig) (rec60 : List Value → St → Option Cut) (xs58 : List Value) (s59 : St) : Option Cut :=
  S.bd (lenL (xs58.getD 1 undef)) fun x61 => S.bd (bin .lss (xs58.getD 3 undef) x61) fun x62 => S.bd (S.gd x62 true (some (xs58.getD 1 undef))) fun x63 => S.bd (S.gd x62 true (some (xs58.getD 3 undef))) fun x64 => S.bd (S.gd x62 true (idx s59 5 x63 x64)) fun x65 => S.bd (S.gd x62 true (fld 1 x65)) fun x66 => S.bd (S.gd x62 true (lda s59 2 x66)) fun x67 => S.bd (S.gd x62 true (some (xs58.getD 0 undef))) fun x68 => S.bd (S.gd x62 true (some (xs58.getD 2 undef))) fun x69 => S.bd (S.gd x62 true (idx s59 5 x68 x69)) fun x70 => S.bd (S.gd x62 true (fld 1 x70)) fun x71 => S.bd (S.gd x62 true (lda s59 2 x71)) fun x72 => S.bd (S.gd x62 true (leapfrogref09x_Less.r x67 x72 s59)) fun x73 => S.bd (pik x62 x73 (Go.Value.bool Bool.false)) fun x74 => S.cnd x74 (S.bd (bin .add (xs58.getD 3 undef) (Go.Value.int Go.IntKind.i64 1)) fun x75 => rec60 [(xs58.getD 0 undef), (xs58.getD 1 undef), (xs58.getD 2 undef), x75] s59) (some (0, [(xs58.getD 0 undef), (xs58.getD 1 undef), (xs58.getD 2 undef), (xs58.getD 3 undef), x63, x64, x65, x66, x67, x68, x69, x70, x71, x72, x73], s59))

def leapfrogref11x_sorted.l3.p1 (S : Sig) (xs53 : List Value) (s54 : St) (rec55 : List Value → St → Option Cut) : Option Cut :=
  S.bd (S.it (leapfrogref11x_sorted.l6 S) [(xs53.getD 0 undef), (xs53.getD 1 undef), (xs53.getD 2 undef), (Go.Value.int Go.IntKind.i64 0)] s54) fun r76 => S.bd (slc r76.2.2 5 (r76.2.1.getD 1 undef) none (some (r76.2.1.getD 3 undef)) none) fun x77 => S.bd (idx r76.2.2 5 (r76.2.1.getD 0 undef) (r76.2.1.getD 2 undef)) fun x78 => S.bd (lda r76.2.2 5 x78) fun x79 => S.bd (slc r76.2.2 5 (r76.2.1.getD 1 undef) (some (r76.2.1.getD 3 undef)) none none) fun x80 => S.bd (S.bd (bls 5 (List.replicate 1 [(Go.Value.int Go.IntKind.i64 0), (Go.Value.int Go.IntKind.i64 0), (Go.Value.int Go.IntKind.u64 0), (Go.Value.int Go.IntKind.i64 0), (Go.Value.int Go.IntKind.u64 0)]) [(0, x79)]) fun rows => als r76.2.2 5 1 rows) fun _ => S.bd (S.bd (bls 5 (List.replicate 0 [(Go.Value.int Go.IntKind.i64 0), (Go.Value.int Go.IntKind.i64 0), (Go.Value.int Go.IntKind.u64 0), (Go.Value.int Go.IntKind.i64 0), (Go.Value.int Go.IntKind.u64 0)]) []) fun rows => als r76.2.2 5 0 rows) fun r81 => S.bd (S.bd (bls 5 (List.replicate 1 [(Go.Value.int Go.IntKind.i64 0), (Go.Value.int Go.IntKind.i64 0), (Go.Value.int Go.IntKind.u64 0), (Go.Value.int Go.IntKind.i64 0), (Go.Value.int Go.IntKind.u64 0)]) [(0, x79)]) fun rows => als r81.2 5 1 rows) fun _ => S.bd (app r81.2 5 40 r81.1 x77) fun r82 => S.bd (idx r82.2 5 (r76.2.1.getD 0 undef) (r76.2.1.getD 2 undef)) fun x83 => S.cnd (Value.bool (sameV x83 x78)) (S.bd (lda r82.2 5 x78) fun x84 => S.cnd (Value.bool (sameV x84 x79)) (S.bd (slc r82.2 5 (r76.2.1.getD 1 undef) (some (r76.2.1.getD 3 undef)) none none) fun x85 => S.cnd (Value.bool (sameV x85 x80)) (S.bd (S.bd (bls 5 (List.replicate 1 [(Go.Value.int Go.IntKind.i64 0), (Go.Value.int Go.IntKind.i64 0), (Go.Value.int Go.IntKind.u64 0), (Go.Value.int Go.IntKind.i64 0), (Go.Value.int Go.IntKind.u64 0)]) [(0, x79)]) fun rows => als r82.2 5 1 rows) fun r86 => S.bd (app r86.2 5 40 r82.1 r86.1) fun r87 => S.bd (idx r87.2 5 (r76.2.1.getD 0 undef) (r76.2.1.getD 2 undef)) fun x88 => S.cnd (Value.bool (sameV x88 x78)) (S.bd (slc r87.2 5 (r76.2.1.getD 1 undef) (some (r76.2.1.getD 3 undef)) none none) fun x89 => S.cnd (Value.bool (sameV x89 x80)) (S.bd (app r87.2 5 40 r87.1 x80) fun r90 => S.bd (idx r90.2 5 (r76.2.1.getD 0 undef) (r76.2.1.getD 2 undef)) fun x91 => S.cnd (Value.bool (sameV x91 x78)) (S.bd (bin .add (r76.2.1.getD 2 undef) (Go.Value.int Go.IntKind.i64 1)) fun x92 => rec55 [(r76.2.1.getD 0 undef), r90.1, x92] r90.2) (none)) (none)) (none)) (none)) (none)) (none)

def leapfrogref11x_sorted.l3 (S : Sig) (rec55 : List Value → St → Option Cut) (xs53 : List Value) (s54 : St) : Option Cut :=
  S.bd (lenL (xs53.getD 0 undef)) fun x56 => S.bd (bin .lss (xs53.getD 2 undef) x56) fun x57 => S.cnd x57 (leapfrogref11x_sorted.l3.p1 S xs53 s54 rec55) (some (0, [(xs53.getD 1 undef)], s54))

def leapfrogref11x_sorted.t (S : Sig) (a0 : Value) (s : St) : Option (Value × St) :=
  S.bd (S.it (leapfrogref11x_sorted.l3 S) [a0, (Go.Value.slice Option.none 0 0), (Go.Value.int Go.IntKind.i64 0)] s) fun r93 => some ((r93.2.1.getD 0 undef), r93.2.2)
def leapfrogref11x_sorted.v (a0 : Value) (s : St) : Option (Value × St) := leapfrogref11x_sorted.t std a0 s
def leapfrogref11x_sorted.w : List Value → St → Option (Value × St)
  | [a0], s => leapfrogref11x_sorted.v a0 s
  | _, _ => none
def leapfrogref11x_sorted.an : An := ⟨47, false, [], [(6, ⟨[.v 0, .v 3, .v 4, .v 5], [(.exit 2, [.v 0, .v 3, .v 4, .v 5, .v 17, .v 18, .v 19, .v 20, .v 21, .v 22, .v 23, .v 24, .v 25, .v 26, .v 27])]⟩), (3, ⟨[.v 0, .v 3, .v 4], [(.exit 0, [.v 3])]⟩)], [], [(6, [(0, 0, [], []), (1, 0, [], []), (2, 2, [], []), (3, 0, [], []), (4, 0, [], []), (5, 0, [], []), (6, 0, [], []), (7, 2, [], []), (8, 0, [], []), (9, 2, [], []), (10, 0, [], []), (11, 0, [], []), (12, 2, [], []), (13, 0, [], []), (14, 2, [], []), (15, 3, [], []), (16, 0, [], [])]), (8, [(1, 0, [], []), (2, 0, [], []), (3, 2, [], []), (5, 0, [], []), (6, 0, [], []), (7, 2, [], []), (8, 2, [], []), (11, 0, [], []), (12, 0, [], []), (13, 2, [], []), (0, 3, [], [9]), (4, 4, [7, 8, 13], [9]), (9, 3, [], []), (10, 4, [7, 13], []), (14, 4, [7], []), (15, 3, [], [])])]⟩
theorem leapfrogref11x_sorted.ok (S : Sig) (a0 : Value) (s : St) : evF S Try.prog leapfrogref11x_sorted.ctx leapfrogref11x_sorted.an Try.f62 [a0] s = leapfrogref11x_sorted.t S a0 s := by kernel_rfl
theorem leapfrogref11x_sorted.cok : CtxOk Try.prog leapfrogref11x_sorted.ctx := .cons leapfrogref09x_Less.sound leapfrogref09x_Less.can <| .nil
theorem leapfrogref11x_sorted.draws : fnDraws leapfrogref11x_sorted.an Try.f62 = true := by kernel_rfl
theorem leapfrogref11x_sorted.can : callOk Try.prog 62 = true := by kernel_rfl
theorem leapfrogref11x_sorted.sound : FnOk Try.prog 62 (.st leapfrogref11x_sorted.w) := FnOk.st_of (evF_ok leapfrogref11x_sorted.cok mixed (f := 62) (fn := Try.f62) (by kernel_rfl) leapfrogref11x_sorted.draws) fun args s r h => by
  unfold leapfrogref11x_sorted.w at h; split at h
  · rw [leapfrogref11x_sorted.ok std]; exact h
  · simp at h

/-! ### leapfrog/leapfrogref11.members: function 31 -/
def leapfrogref11x_members.ctx : Ctx := [(54, .rd leapfrogref01x_BeginsQ.w), (62, .st leapfrogref11x_sorted.w)]
def leapfrogref11x_members.l3 (S : Sig) (rec17 : List Value → St → Option Cut) (xs15 : List Value) (s16 : St) : Option Cut :=
  S.bd (lenL (xs15.getD 0 undef)) fun x18 => S.bd (bin .lss (xs15.getD 2 undef) x18) fun x19 => S.cnd x19 (S.bd (idx s16 5 (xs15.getD 0 undef) (xs15.getD 2 undef)) fun x20 => S.bd (fld 3 x20) fun x21 => S.bd (lda s16 2 x21) fun x22 => S.bd (lal (cellsA (xs15.getD 3 undef)) 0 2) fun x23 => S.bd (leapfrogref01x_BeginsQ.r x22 x23 s16) fun x24 => S.cnd x24 (S.bd (idx s16 5 (xs15.getD 0 undef) (xs15.getD 2 undef)) fun x25 => S.bd (lda s16 5 x25) fun x26 => S.bd (S.bd (bls 5 (List.replicate 1 [(Go.Value.int Go.IntKind.i64 0), (Go.Value.int Go.IntKind.i64 0), (Go.Value.int Go.IntKind.u64 0), (Go.Value.int Go.IntKind.i64 0), (Go.Value.int Go.IntKind.u64 0)]) [(0, x26)]) fun rows => als s16 5 1 rows) fun r27 => S.bd (app r27.2 5 40 (xs15.getD 1 undef) r27.1) fun r28 => S.bd (bin .add (xs15.getD 2 undef) (Go.Value.int Go.IntKind.i64 1)) fun x29 => rec17 [(xs15.getD 0 undef), r28.1, x29, (Value.agg ⟨(cellsA (xs15.getD 3 undef))⟩)] r28.2) (S.bd (bin .add (xs15.getD 2 undef) (Go.Value.int Go.IntKind.i64 1)) fun x30 => rec17 [(xs15.getD 0 undef), (xs15.getD 1 undef), x30, (Value.agg ⟨(cellsA (xs15.getD 3 undef))⟩)] s16)) (some (0, [(xs15.getD 1 undef)], s16))

def leapfrogref11x_members.t (S : Sig) (a0 a1 : Value) (s : St) : Option (Value × St) :=
  S.bd (bx a0) fun c1 => S.bd (S.it (leapfrogref11x_members.l3 S) [a1, (Go.Value.slice Option.none 0 0), (Go.Value.int Go.IntKind.i64 0), (Value.agg ⟨c1⟩)] s) fun r31 => S.bd (leapfrogref11x_sorted.v (r31.2.1.getD 0 undef) r31.2.2) fun r32 => some (r32.1, r32.2)
def leapfrogref11x_members.v (a0 a1 : Value) (s : St) : Option (Value × St) := leapfrogref11x_members.t std a0 a1 s
def leapfrogref11x_members.w : List Value → St → Option (Value × St)
  | [a0, a1], s => leapfrogref11x_members.v a0 a1 s
  | _, _ => none
def leapfrogref11x_members.an : An := ⟨29, false, [2], [(3, ⟨[.v 1, .p 2 2 0, .v 5, .v 6, .l 2], [(.exit 0, [.v 5])]⟩)], [], [(5, [(0, 0, [], []), (1, 0, [], []), (2, 2, [], []), (3, 0, [], []), (4, 2, [], []), (5, 17, [], []), (6, 3, [], [])])]⟩
theorem leapfrogref11x_members.ok (S : Sig) (a0 a1 : Value) (s : St) : evF S Try.prog leapfrogref11x_members.ctx leapfrogref11x_members.an Try.f31 [a0, a1] s = leapfrogref11x_members.t S a0 a1 s := by kernel_rfl
theorem leapfrogref11x_members.cok : CtxOk Try.prog leapfrogref11x_members.ctx := .cons leapfrogref01x_BeginsQ.sound leapfrogref01x_BeginsQ.can <| .cons leapfrogref11x_sorted.sound leapfrogref11x_sorted.can <| .nil
theorem leapfrogref11x_members.draws : fnDraws leapfrogref11x_members.an Try.f31 = true := by kernel_rfl
theorem leapfrogref11x_members.can : callOk Try.prog 31 = true := by kernel_rfl
theorem leapfrogref11x_members.sound : FnOk Try.prog 31 (.st leapfrogref11x_members.w) := FnOk.st_of (evF_ok leapfrogref11x_members.cok mixed (f := 31) (fn := Try.f31) (by kernel_rfl) leapfrogref11x_members.draws) fun args s r h => by
  unfold leapfrogref11x_members.w at h; split at h
  · rw [leapfrogref11x_members.ok std]; exact h
  · simp at h

/-! ### leapfrog/leapfrogref11.with: function 84 -/
def leapfrogref11x_with.ctx : Ctx := [(88, .rd leapfrogref01x_CompareQ.w), (31, .st leapfrogref11x_members.w)]
def leapfrogref11x_with.l2 (S : Sig) (rec16 : List Value → St → Option Cut) (xs14 : List Value) (s15 : St) : Option Cut :=
  S.bd (lenL (xs14.getD 0 undef)) fun x17 => S.bd (bin .lss (xs14.getD 2 undef) x17) fun x18 => S.cnd x18 (S.bd (idx s15 3 (xs14.getD 0 undef) (xs14.getD 2 undef)) fun x19 => S.bd (fld 0 x19) fun x20 => S.bd (lda s15 2 x20) fun x21 => S.bd (lal (cellsA (xs14.getD 3 undef)) 0 2) fun x22 => S.bd (leapfrogref01x_CompareQ.r x21 x22 s15) fun x23 => S.bd (xtr 0 x23) fun x24 => S.bd (xtr 1 x23) fun x25 => S.bd (eqb [1] false false x24 (Go.Value.int Go.IntKind.i64 0)) fun x26 => S.cnd x26 (some (1, [(xs14.getD 0 undef)], s15)) (S.bd (bin .gtr x24 (Go.Value.int Go.IntKind.i64 0)) fun x27 => S.cnd x27 (some (0, [(xs14.getD 0 undef), (xs14.getD 1 undef), (xs14.getD 2 undef), (Value.agg ⟨(cellsA (xs14.getD 3 undef))⟩)], s15)) (S.bd (bin .add (xs14.getD 2 undef) (Go.Value.int Go.IntKind.i64 1)) fun x28 => rec16 [(xs14.getD 0 undef), (xs14.getD 1 undef), x28, (Value.agg ⟨(cellsA (xs14.getD 3 undef))⟩)] s15))) (some (0, [(xs14.getD 0 undef), (xs14.getD 1 undef), (xs14.getD 2 undef), (Value.agg ⟨(cellsA (xs14.getD 3 undef))⟩)], s15))

def leapfrogref11x_with.t (S : Sig) (a0 a1 a2 : Value) (s : St) : Option (Value × St) :=
  S.bd (bx a1) fun c1 => S.bd (S.it (leapfrogref11x_with.l2 S) [a0, a2, (Go.Value.int Go.IntKind.i64 0), (Value.agg ⟨c1⟩)] s) fun r29 => if r29.1 = 0 then (S.bd (slc r29.2.2 3 (r29.2.1.getD 0 undef) none (some (r29.2.1.getD 2 undef)) none) fun x30 => S.bd (lal (cellsA (r29.2.1.getD 3 undef)) 0 2) fun x31 => S.bd (lal (cellsA (r29.2.1.getD 3 undef)) 0 2) fun x32 => S.bd (slc r29.2.2 3 (r29.2.1.getD 0 undef) (some (r29.2.1.getD 2 undef)) none none) fun x33 => S.bd (S.bd (bls 3 (List.replicate 0 [(Go.Value.int Go.IntKind.i64 0), (Go.Value.int Go.IntKind.u64 0), (Go.Value.slice Option.none 0 0)]) []) fun rows => als r29.2.2 3 0 rows) fun r34 => S.bd (app r34.2 3 40 r34.1 x30) fun r35 => S.bd (slc r35.2 3 (r29.2.1.getD 0 undef) (some (r29.2.1.getD 2 undef)) none none) fun x36 => S.cnd (Value.bool (sameV x36 x33)) (S.bd (leapfrogref11x_members.v x32 (r29.2.1.getD 1 undef) r35.2) fun r37 => S.bd (slc r37.2 3 (r29.2.1.getD 0 undef) (some (r29.2.1.getD 2 undef)) none none) fun x38 => S.cnd (Value.bool (sameV x38 x33)) (S.bd (bld [(Go.Value.int Go.IntKind.i64 0), (Go.Value.int Go.IntKind.u64 0), (Go.Value.slice Option.none 0 0)] [(0, 2, x31), (2, 1, r37.1)]) fun x39 => S.bd (S.bd (bls 3 (List.replicate 1 [(Go.Value.int Go.IntKind.i64 0), (Go.Value.int Go.IntKind.u64 0), (Go.Value.slice Option.none 0 0)]) [(0, x39)]) fun rows => als r37.2 3 1 rows) fun r40 => S.bd (app r40.2 3 40 r35.1 r40.1) fun r41 => S.bd (slc r41.2 3 (r29.2.1.getD 0 undef) (some (r29.2.1.getD 2 undef)) none none) fun x42 => S.cnd (Value.bool (sameV x42 x33)) (S.bd (app r41.2 3 40 r41.1 x33) fun r43 => some (r43.1, r43.2)) (none)) (none)) (none)) else (some ((r29.2.1.getD 0 undef), r29.2.2))
def leapfrogref11x_with.v (a0 a1 a2 : Value) (s : St) : Option (Value × St) := leapfrogref11x_with.t std a0 a1 a2 s
def leapfrogref11x_with.w : List Value → St → Option (Value × St)
  | [a0, a1, a2], s => leapfrogref11x_with.v a0 a1 a2 s
  | _, _ => none
def leapfrogref11x_with.an : An := ⟨47, false, [4], [(2, ⟨[.v 0, .v 2, .p 4 4 0, .v 7, .l 4], [(.exit 0, [.v 0, .v 2, .p 4 4 0, .v 7, .l 4]), (.ret, [.v 6])]⟩)], [], [(3, [(0, 0, [], []), (1, 0, [], []), (2, 2, [], []), (3, 0, [], []), (4, 2, [], []), (5, 33, [], []), (6, 3, [], []), (7, 0, [], []), (8, 0, [], []), (9, 0, [], []), (10, 0, [], []), (11, 0, [], [])]), (8, [(1, 0, [], []), (2, 0, [], []), (3, 2, [], []), (5, 33, [], []), (6, 33, [], []), (7, 0, [], []), (12, 0, [], []), (13, 0, [], []), (14, 2, [], []), (0, 3, [], []), (4, 4, [14], []), (8, 4, [14], []), (9, 0, [], []), (10, 3, [], []), (11, 4, [14], []), (15, 4, [], []), (16, 0, [], [])])]⟩
theorem leapfrogref11x_with.ok (S : Sig) (a0 a1 a2 : Value) (s : St) : evF S Try.prog leapfrogref11x_with.ctx leapfrogref11x_with.an Try.f84 [a0, a1, a2] s = leapfrogref11x_with.t S a0 a1 a2 s := by kernel_rfl
theorem leapfrogref11x_with.cok : CtxOk Try.prog leapfrogref11x_with.ctx := .cons leapfrogref01x_CompareQ.sound leapfrogref01x_CompareQ.can <| .cons leapfrogref11x_members.sound leapfrogref11x_members.can <| .nil
theorem leapfrogref11x_with.draws : fnDraws leapfrogref11x_with.an Try.f84 = true := by kernel_rfl
theorem leapfrogref11x_with.can : callOk Try.prog 84 = true := by kernel_rfl
theorem leapfrogref11x_with.sound : FnOk Try.prog 84 (.st leapfrogref11x_with.w) := FnOk.st_of (evF_ok leapfrogref11x_with.cok mixed (f := 84) (fn := Try.f84) (by kernel_rfl) leapfrogref11x_with.draws) fun args s r h => by
  unfold leapfrogref11x_with.w at h; split at h
  · rw [leapfrogref11x_with.ok std]; exact h
  · simp at h

/-! ### leapfrog/leapfrogref11.Lists: function 63 -/
def leapfrogref11x_Lists.ctx : Ctx := [(6, .rd leapfrogref11x_Check.w), (83, .st leapfrogref01x_Prefixes.w), (84, .st leapfrogref11x_with.w)]
def leapfrogref11x_Lists.l9 (S : Sig) (rec37 : List Value → St → Option Cut) (xs35 : List Value) (s36 : St) : Option Cut :=
  S.bd (lenL (xs35.getD 3 undef)) fun x38 => S.bd (bin .lss (xs35.getD 4 undef) x38) fun x39 => S.cnd x39 (S.bd (idx s36 2 (xs35.getD 3 undef) (xs35.getD 4 undef)) fun x40 => S.bd (lda s36 2 x40) fun x41 => S.bd (leapfrogref11x_with.v (xs35.getD 1 undef) x41 (xs35.getD 0 undef) s36) fun r42 => S.bd (bin .add (xs35.getD 4 undef) (Go.Value.int Go.IntKind.i64 1)) fun x43 => rec37 [(xs35.getD 0 undef), r42.1, (xs35.getD 2 undef), (xs35.getD 3 undef), x43] r42.2) (some (0, [(xs35.getD 0 undef), (xs35.getD 1 undef), (xs35.getD 2 undef)], s36))

def leapfrogref11x_Lists.l5 (S : Sig) (rec28 : List Value → St → Option Cut) (xs26 : List Value) (s27 : St) : Option Cut :=
  S.bd (lenL (xs26.getD 0 undef)) fun x29 => S.bd (bin .lss (xs26.getD 2 undef) x29) fun x30 => S.cnd x30 (S.bd (idx s27 5 (xs26.getD 0 undef) (xs26.getD 2 undef)) fun x31 => S.bd (fld 3 x31) fun x32 => S.bd (lda s27 2 x32) fun x33 => S.bd (leapfrogref01x_Prefixes.v x33 s27) fun r34 => S.bd (S.it (leapfrogref11x_Lists.l9 S) [(xs26.getD 0 undef), (xs26.getD 1 undef), (xs26.getD 2 undef), r34.1, (Go.Value.int Go.IntKind.i64 0)] r34.2) fun r44 => S.bd (bin .add (r44.2.1.getD 2 undef) (Go.Value.int Go.IntKind.i64 1)) fun x45 => rec28 [(r44.2.1.getD 0 undef), (r44.2.1.getD 1 undef), x45] r44.2.2) (some (0, [(xs26.getD 1 undef)], s27))

def leapfrogref11x_Lists.t (S : Sig) (a0 a1 : Value) (s : St) : Option (Value × St) :=
  S.bd (leapfrogref11x_Check.r a0 a1 s) fun x1 => S.bd (eqb [1] false true x1 (Go.Value.int Go.IntKind.i64 0)) fun x2 => S.cnd x2 (some ((Value.tuple ⟨[(Go.Value.slice Option.none 0 0), (Go.Value.int Go.IntKind.i64 110)]⟩), s)) (S.bd (S.it (leapfrogref11x_Lists.l5 S) [a1, (Go.Value.slice Option.none 0 0), (Go.Value.int Go.IntKind.i64 0)] s) fun r46 => some ((Value.tuple ⟨[(r46.2.1.getD 0 undef), (Go.Value.int Go.IntKind.i64 0)]⟩), r46.2.2))
def leapfrogref11x_Lists.v (a0 a1 : Value) (s : St) : Option (Value × St) := leapfrogref11x_Lists.t std a0 a1 s
def leapfrogref11x_Lists.w : List Value → St → Option (Value × St)
  | [a0, a1], s => leapfrogref11x_Lists.v a0 a1 s
  | _, _ => none
def leapfrogref11x_Lists.an : An := ⟨40, false, [], [(9, ⟨[.v 1, .v 6, .v 7, .v 8, .v 9], [(.exit 2, [.v 1, .v 6, .v 7])]⟩), (5, ⟨[.v 1, .v 6, .v 7], [(.exit 0, [.v 6])]⟩)], [], []⟩
theorem leapfrogref11x_Lists.ok (S : Sig) (a0 a1 : Value) (s : St) : evF S Try.prog leapfrogref11x_Lists.ctx leapfrogref11x_Lists.an Try.f63 [a0, a1] s = leapfrogref11x_Lists.t S a0 a1 s := by kernel_rfl
theorem leapfrogref11x_Lists.cok : CtxOk Try.prog leapfrogref11x_Lists.ctx := .cons leapfrogref11x_Check.sound leapfrogref11x_Check.can <| .cons leapfrogref01x_Prefixes.sound leapfrogref01x_Prefixes.can <| .cons leapfrogref11x_with.sound leapfrogref11x_with.can <| .nil
theorem leapfrogref11x_Lists.draws : fnDraws leapfrogref11x_Lists.an Try.f63 = true := by kernel_rfl
theorem leapfrogref11x_Lists.can : callOk Try.prog 63 = true := by kernel_rfl
theorem leapfrogref11x_Lists.sound : FnOk Try.prog 63 (.st leapfrogref11x_Lists.w) := FnOk.st_of (evF_ok leapfrogref11x_Lists.cok mixed (f := 63) (fn := Try.f63) (by kernel_rfl) leapfrogref11x_Lists.draws) fun args s r h => by
  unfold leapfrogref11x_Lists.w at h; split at h
  · rw [leapfrogref11x_Lists.ok std]; exact h
  · simp at h

/-! ### leapfrog/leapfrogref09.Head: function 29 -/
def leapfrogref09x_Head.ctx : Ctx := []
def leapfrogref09x_Head.t (S : Sig) (a0 : Value) (s : St) : Option Value :=
  S.bd (bx (Go.Value.agg #[(Go.Value.int Go.IntKind.i64 0), (Go.Value.int Go.IntKind.i64 0), (Go.Value.int Go.IntKind.u64 0), (Go.Value.int Go.IntKind.i64 0), (Go.Value.int Go.IntKind.u64 0)])) fun c1 => S.bd (bin .lss a0 (Go.Value.int Go.IntKind.i64 0)) fun x2 => S.bd (S.gd x2 false (some a0)) fun x3 => S.bd (S.gd x2 false (bin .gtr x3 (Go.Value.int Go.IntKind.i64 32))) fun x4 => S.bd (pik x2 (Go.Value.bool Bool.true) x4) fun x5 => S.cnd x5 (S.bd (bld [(Go.Value.int Go.IntKind.i64 0), (Go.Value.int Go.IntKind.i64 0), (Go.Value.int Go.IntKind.u64 0), (Go.Value.int Go.IntKind.i64 0), (Go.Value.int Go.IntKind.u64 0)] []) fun x6 => S.bd (stl c1 0 5 x6) fun c7 => S.bd (lal c7 0 5) fun x8 => some ((Value.tuple ⟨[x8, (Go.Value.int Go.IntKind.i64 90)]⟩))) (S.bd (bld [(Go.Value.int Go.IntKind.i64 0), (Go.Value.int Go.IntKind.u64 0)] [(0, 1, (Go.Value.int Go.IntKind.i64 1))]) fun x9 => S.bd (bld [(Go.Value.int Go.IntKind.i64 0), (Go.Value.int Go.IntKind.u64 0)] [(0, 1, a0)]) fun x10 => S.bd (bld [(Go.Value.int Go.IntKind.i64 0), (Go.Value.int Go.IntKind.i64 0), (Go.Value.int Go.IntKind.u64 0), (Go.Value.int Go.IntKind.i64 0), (Go.Value.int Go.IntKind.u64 0)] [(0, 1, (Go.Value.int Go.IntKind.i64 0)), (1, 2, x9), (3, 2, x10)]) fun x11 => S.bd (stl c1 0 5 x11) fun c12 => S.bd (lal c12 0 5) fun x13 => some ((Value.tuple ⟨[x13, (Go.Value.int Go.IntKind.i64 0)]⟩)))
def leapfrogref09x_Head.r (a0 : Value) (s : St) : Option Value := leapfrogref09x_Head.t std a0 s
def leapfrogref09x_Head.w : List Value → St → Option Value
  | [a0], s => leapfrogref09x_Head.r a0 s
  | _, _ => none
def leapfrogref09x_Head.an : An := ⟨15, true, [2], [], [], []⟩
theorem leapfrogref09x_Head.ok (S : Sig) (a0 : Value) (s : St) : evG S Try.prog leapfrogref09x_Head.ctx leapfrogref09x_Head.an Try.f29 [a0] s = leapfrogref09x_Head.t S a0 s := by kernel_rfl
theorem leapfrogref09x_Head.cok : CtxOk Try.prog leapfrogref09x_Head.ctx := .nil
theorem leapfrogref09x_Head.draws : fnDraws leapfrogref09x_Head.an Try.f29 = true := by kernel_rfl
theorem leapfrogref09x_Head.can : callOk Try.prog 29 = true := by kernel_rfl
theorem leapfrogref09x_Head.sound : FnOk Try.prog 29 (.rd leapfrogref09x_Head.w) := FnOk.rd_of (evG_ok leapfrogref09x_Head.cok mixed (f := 29) (fn := Try.f29) (by kernel_rfl) leapfrogref09x_Head.draws) fun args s r h => by
  unfold leapfrogref09x_Head.w at h; split at h
  · rw [leapfrogref09x_Head.ok std]; exact h
  · simp at h

/-! ### leapfrog/leapfrogref09.Tail: function 30 -/
def leapfrogref09x_Tail.ctx : Ctx := []
def leapfrogref09x_Tail.t (S : Sig) (a0 : Value) (s : St) : Option Value :=
  S.bd (bx (Go.Value.agg #[(Go.Value.int Go.IntKind.i64 0), (Go.Value.int Go.IntKind.i64 0), (Go.Value.int Go.IntKind.u64 0), (Go.Value.int Go.IntKind.i64 0), (Go.Value.int Go.IntKind.u64 0)])) fun c1 => S.bd (bin .lss a0 (Go.Value.int Go.IntKind.i64 0)) fun x2 => S.bd (S.gd x2 false (some a0)) fun x3 => S.bd (S.gd x2 false (bin .gtr x3 (Go.Value.int Go.IntKind.i64 32))) fun x4 => S.bd (pik x2 (Go.Value.bool Bool.true) x4) fun x5 => S.cnd x5 (S.bd (bld [(Go.Value.int Go.IntKind.i64 0), (Go.Value.int Go.IntKind.i64 0), (Go.Value.int Go.IntKind.u64 0), (Go.Value.int Go.IntKind.i64 0), (Go.Value.int Go.IntKind.u64 0)] []) fun x6 => S.bd (stl c1 0 5 x6) fun c7 => S.bd (lal c7 0 5) fun x8 => some ((Value.tuple ⟨[x8, (Go.Value.int Go.IntKind.i64 90)]⟩))) (S.bd (bld [(Go.Value.int Go.IntKind.i64 0), (Go.Value.int Go.IntKind.u64 0)] [(0, 1, (Go.Value.int Go.IntKind.i64 3))]) fun x9 => S.bd (bld [(Go.Value.int Go.IntKind.i64 0), (Go.Value.int Go.IntKind.u64 0)] [(0, 1, a0)]) fun x10 => S.bd (bld [(Go.Value.int Go.IntKind.i64 0), (Go.Value.int Go.IntKind.i64 0), (Go.Value.int Go.IntKind.u64 0), (Go.Value.int Go.IntKind.i64 0), (Go.Value.int Go.IntKind.u64 0)] [(0, 1, (Go.Value.int Go.IntKind.i64 1)), (1, 2, x9), (3, 2, x10)]) fun x11 => S.bd (stl c1 0 5 x11) fun c12 => S.bd (lal c12 0 5) fun x13 => some ((Value.tuple ⟨[x13, (Go.Value.int Go.IntKind.i64 0)]⟩)))
def leapfrogref09x_Tail.r (a0 : Value) (s : St) : Option Value := leapfrogref09x_Tail.t std a0 s
def leapfrogref09x_Tail.w : List Value → St → Option Value
  | [a0], s => leapfrogref09x_Tail.r a0 s
  | _, _ => none
def leapfrogref09x_Tail.an : An := ⟨15, true, [2], [], [], []⟩
theorem leapfrogref09x_Tail.ok (S : Sig) (a0 : Value) (s : St) : evG S Try.prog leapfrogref09x_Tail.ctx leapfrogref09x_Tail.an Try.f30 [a0] s = leapfrogref09x_Tail.t S a0 s := by kernel_rfl
theorem leapfrogref09x_Tail.cok : CtxOk Try.prog leapfrogref09x_Tail.ctx := .nil
theorem leapfrogref09x_Tail.draws : fnDraws leapfrogref09x_Tail.an Try.f30 = true := by kernel_rfl
theorem leapfrogref09x_Tail.can : callOk Try.prog 30 = true := by kernel_rfl
theorem leapfrogref09x_Tail.sound : FnOk Try.prog 30 (.rd leapfrogref09x_Tail.w) := FnOk.rd_of (evG_ok leapfrogref09x_Tail.cok mixed (f := 30) (fn := Try.f30) (by kernel_rfl) leapfrogref09x_Tail.draws) fun args s r h => by
  unfold leapfrogref09x_Tail.w at h; split at h
  · rw [leapfrogref09x_Tail.ok std]; exact h
  · simp at h

/-! ### leapfrog/leapfrogref11.Row: function 11 -/
def leapfrogref11x_Row.ctx : Ctx := [(29, .rd leapfrogref09x_Head.w), (30, .rd leapfrogref09x_Tail.w), (31, .st leapfrogref11x_members.w)]
def leapfrogref11x_Row.t.p1 (S : Sig) (x8 : Value) (c6 : List Value) (c1 : List Value) (s : St) (a2 : Value) : Option (Value × St) :=
  S.bd (bx (Go.Value.agg #[(Go.Value.int Go.IntKind.i64 0), (Go.Value.int Go.IntKind.i64 0), (Go.Value.int Go.IntKind.u64 0), (Go.Value.int Go.IntKind.i64 0), (Go.Value.int Go.IntKind.u64 0)])) fun c10 => S.bd (stl c10 0 5 x8) fun c11 => S.bd (lal c6 0 5) fun x12 => S.bd (lal c1 0 2) fun x13 => S.bd (lal c11 0 5) fun x14 => S.bd (S.bd (bls 5 (List.replicate 1 [(Go.Value.int Go.IntKind.i64 0), (Go.Value.int Go.IntKind.i64 0), (Go.Value.int Go.IntKind.u64 0), (Go.Value.int Go.IntKind.i64 0), (Go.Value.int Go.IntKind.u64 0)]) [(0, x12)]) fun rows => als s 5 1 rows) fun _ => S.bd (S.bd (bls 5 (List.replicate 1 [(Go.Value.int Go.IntKind.i64 0), (Go.Value.int Go.IntKind.i64 0), (Go.Value.int Go.IntKind.u64 0), (Go.Value.int Go.IntKind.i64 0), (Go.Value.int Go.IntKind.u64 0)]) [(0, x14)]) fun rows => als s 5 1 rows) fun _ => S.bd (leapfrogref11x_members.v x13 a2 s) fun r15 => S.bd (S.bd (bls 5 (List.replicate 1 [(Go.Value.int Go.IntKind.i64 0), (Go.Value.int Go.IntKind.i64 0), (Go.Value.int Go.IntKind.u64 0), (Go.Value.int Go.IntKind.i64 0), (Go.Value.int Go.IntKind.u64 0)]) [(0, x14)]) fun rows => als r15.2 5 1 rows) fun _ => S.bd (S.bd (bls 5 (List.replicate 1 [(Go.Value.int Go.IntKind.i64 0), (Go.Value.int Go.IntKind.i64 0), (Go.Value.int Go.IntKind.u64 0), (Go.Value.int Go.IntKind.i64 0), (Go.Value.int Go.IntKind.u64 0)]) [(0, x12)]) fun rows => als r15.2 5 1 rows) fun r16 => S.bd (S.bd (bls 5 (List.replicate 1 [(Go.Value.int Go.IntKind.i64 0), (Go.Value.int Go.IntKind.i64 0), (Go.Value.int Go.IntKind.u64 0), (Go.Value.int Go.IntKind.i64 0), (Go.Value.int Go.IntKind.u64 0)]) [(0, x14)]) fun rows => als r16.2 5 1 rows) fun _ => S.bd (app r16.2 5 40 r16.1 r15.1) fun r17 => S.bd (S.bd (bls 5 (List.replicate 1 [(Go.Value.int Go.IntKind.i64 0), (Go.Value.int Go.IntKind.i64 0), (Go.Value.int Go.IntKind.u64 0), (Go.Value.int Go.IntKind.i64 0), (Go.Value.int Go.IntKind.u64 0)]) [(0, x14)]) fun rows => als r17.2 5 1 rows) fun r18 => S.bd (app r18.2 5 40 r17.1 r18.1) fun r19 => some (r19.1, r19.2)

def leapfrogref11x_Row.t (S : Sig) (a0 a1 a2 : Value) (s : St) : Option (Value × St) :=
  S.bd (bx a1) fun c1 => S.bd (leapfrogref09x_Head.r a0 s) fun x2 => S.bd (xtr 0 x2) fun x3 => S.bd (xtr 1 x2) fun x4 => S.bd (bx (Go.Value.agg #[(Go.Value.int Go.IntKind.i64 0), (Go.Value.int Go.IntKind.i64 0), (Go.Value.int Go.IntKind.u64 0), (Go.Value.int Go.IntKind.i64 0), (Go.Value.int Go.IntKind.u64 0)])) fun c5 => S.bd (stl c5 0 5 x3) fun c6 => S.bd (leapfrogref09x_Tail.r a0 s) fun x7 => S.bd (xtr 0 x7) fun x8 => S.bd (xtr 1 x7) fun x9 => leapfrogref11x_Row.t.p1 S x8 c6 c1 s a2
def leapfrogref11x_Row.v (a0 a1 a2 : Value) (s : St) : Option (Value × St) := leapfrogref11x_Row.t std a0 a1 a2 s
def leapfrogref11x_Row.w : List Value → St → Option (Value × St)
  | [a0, a1, a2], s => leapfrogref11x_Row.v a0 a1 a2 s
  | _, _ => none
def leapfrogref11x_Row.an : An := ⟨30, false, [4, 7, 9], [], [], [(3, [(0, 57, [], []), (2, 33, [], []), (3, 0, [], []), (6, 73, [], []), (4, 4, [], [1, 7]), (1, 3, [], [7]), (5, 4, [], [7]), (7, 3, [], []), (8, 4, [], []), (9, 0, [], [])])]⟩
theorem leapfrogref11x_Row.ok (S : Sig) (a0 a1 a2 : Value) (s : St) : evF S Try.prog leapfrogref11x_Row.ctx leapfrogref11x_Row.an Try.f11 [a0, a1, a2] s = leapfrogref11x_Row.t S a0 a1 a2 s := by kernel_rfl
theorem leapfrogref11x_Row.cok : CtxOk Try.prog leapfrogref11x_Row.ctx := .cons leapfrogref09x_Head.sound leapfrogref09x_Head.can <| .cons leapfrogref09x_Tail.sound leapfrogref09x_Tail.can <| .cons leapfrogref11x_members.sound leapfrogref11x_members.can <| .nil
theorem leapfrogref11x_Row.draws : fnDraws leapfrogref11x_Row.an Try.f11 = true := by kernel_rfl
theorem leapfrogref11x_Row.can : callOk Try.prog 11 = true := by kernel_rfl
theorem leapfrogref11x_Row.sound : FnOk Try.prog 11 (.st leapfrogref11x_Row.w) := FnOk.st_of (evF_ok leapfrogref11x_Row.cok mixed (f := 11) (fn := Try.f11) (by kernel_rfl) leapfrogref11x_Row.draws) fun args s r h => by
  unfold leapfrogref11x_Row.w at h; split at h
  · rw [leapfrogref11x_Row.ok std]; exact h
  · simp at h

/-! ### leapfrog/leapfrogref11.beside: function 85 -/
def leapfrogref11x_beside.ctx : Ctx := []
def leapfrogref11x_beside.l2.p1 (S : Sig) (xs42 : List Value) (s43 : St) : Option Cut :=
  S.bd (bx (Go.Value.agg #[(Go.Value.int Go.IntKind.i64 0), (Go.Value.int Go.IntKind.i64 0), (Go.Value.int Go.IntKind.u64 0), (Go.Value.int Go.IntKind.i64 0), (Go.Value.int Go.IntKind.u64 0)])) fun c52 => S.bd (bx (Go.Value.agg #[(Go.Value.int Go.IntKind.i64 0), (Go.Value.int Go.IntKind.i64 0), (Go.Value.int Go.IntKind.u64 0), (Go.Value.int Go.IntKind.i64 0), (Go.Value.int Go.IntKind.u64 0)])) fun c53 => S.bd (show Option Cut from S.bd (bin .gtr (xs42.getD 2 undef) (Go.Value.int Go.IntKind.i64 0)) fun x54 => S.cnd x54 (S.bd (bin .sub (xs42.getD 2 undef) (Go.Value.int Go.IntKind.i64 1)) fun x55 => S.bd (idx s43 5 (xs42.getD 0 undef) x55) fun x56 => S.bd (lda s43 5 x56) fun x57 => S.bd (stl c52 0 5 x57) fun c58 => some (0, [(xs42.getD 0 undef), (xs42.getD 2 undef), (Value.agg ⟨(cellsA (xs42.getD 3 undef))⟩), (Value.agg ⟨(cellsA (xs42.getD 4 undef))⟩), (Value.agg ⟨c58⟩), (Value.agg ⟨c53⟩)], s43)) (some (0, [(xs42.getD 0 undef), (xs42.getD 2 undef), (Value.agg ⟨(cellsA (xs42.getD 3 undef))⟩), (Value.agg ⟨(cellsA (xs42.getD 4 undef))⟩), (Value.agg ⟨c52⟩), (Value.agg ⟨c53⟩)], s43))) fun r59 => S.bd (show Option Cut from S.bd (bin .add (r59.2.1.getD 1 undef) (Go.Value.int Go.IntKind.i64 1)) fun x60 => S.bd (lenL (r59.2.1.getD 0 undef)) fun x61 => S.bd (bin .lss x60 x61) fun x62 => S.cnd x62 (S.bd (bin .add (r59.2.1.getD 1 undef) (Go.Value.int Go.IntKind.i64 1)) fun x63 => S.bd (idx r59.2.2 5 (r59.2.1.getD 0 undef) x63) fun x64 => S.bd (lda r59.2.2 5 x64) fun x65 => S.bd (stl (cellsA (r59.2.1.getD 5 undef)) 0 5 x65) fun c66 => some (0, [(Value.agg ⟨(cellsA (r59.2.1.getD 2 undef))⟩), (Value.agg ⟨(cellsA (r59.2.1.getD 3 undef))⟩), (Value.agg ⟨(cellsA (r59.2.1.getD 4 undef))⟩), (Value.agg ⟨c66⟩)], r59.2.2)) (some (0, [(Value.agg ⟨(cellsA (r59.2.1.getD 2 undef))⟩), (Value.agg ⟨(cellsA (r59.2.1.getD 3 undef))⟩), (Value.agg ⟨(cellsA (r59.2.1.getD 4 undef))⟩), (Value.agg ⟨(cellsA (r59.2.1.getD 5 undef))⟩)], r59.2.2))) fun r67 => S.bd (lal (cellsA (r67.2.1.getD 2 undef)) 0 5) fun x68 => S.bd (lal (cellsA (r67.2.1.getD 3 undef)) 0 5) fun x69 => S.bd (stl (cellsA (r67.2.1.getD 0 undef)) 0 5 x68) fun c70 => S.bd (stl (cellsA (r67.2.1.getD 1 undef)) 0 5 x69) fun c71 => some (1, [(Go.Value.bool Bool.true), (Value.agg ⟨c70⟩), (Value.agg ⟨c71⟩)], r67.2.2)

def leapfrogref11x_beside.l2 (S : Sig) (rec44 : List Value → St → Option Cut) (xs42 : List Value) (s43 : St) : Option Cut :=
  S.bd (lenL (xs42.getD 0 undef)) fun x45 => S.bd (bin .lss (xs42.getD 2 undef) x45) fun x46 => S.cnd x46 (S.bd (idx s43 5 (xs42.getD 0 undef) (xs42.getD 2 undef)) fun x47 => S.bd (fld 0 x47) fun x48 => S.bd (ldc s43 x48) fun x49 => S.bd (eqb [1] false true x49 (xs42.getD 1 undef)) fun x50 => S.cnd x50 (S.bd (bin .add (xs42.getD 2 undef) (Go.Value.int Go.IntKind.i64 1)) fun x51 => rec44 [(xs42.getD 0 undef), (xs42.getD 1 undef), x51, (Value.agg ⟨(cellsA (xs42.getD 3 undef))⟩), (Value.agg ⟨(cellsA (xs42.getD 4 undef))⟩)] s43) (leapfrogref11x_beside.l2.p1 S xs42 s43)) (some (0, [(Value.agg ⟨(cellsA (xs42.getD 3 undef))⟩), (Value.agg ⟨(cellsA (xs42.getD 4 undef))⟩)], s43))

def leapfrogref11x_beside.t (S : Sig) (a0 a1 : Value) (s : St) : Option Value :=
  S.bd (bx (Go.Value.agg #[(Go.Value.int Go.IntKind.i64 0), (Go.Value.int Go.IntKind.i64 0), (Go.Value.int Go.IntKind.u64 0), (Go.Value.int Go.IntKind.i64 0), (Go.Value.int Go.IntKind.u64 0)])) fun c1 => S.bd (bx (Go.Value.agg #[(Go.Value.int Go.IntKind.i64 0), (Go.Value.int Go.IntKind.i64 0), (Go.Value.int Go.IntKind.u64 0), (Go.Value.int Go.IntKind.i64 0), (Go.Value.int Go.IntKind.u64 0)])) fun c2 => S.bd (S.it (leapfrogref11x_beside.l2 S) [a0, a1, (Go.Value.int Go.IntKind.i64 0), (Value.agg ⟨c1⟩), (Value.agg ⟨c2⟩)] s) fun r72 => if r72.1 = 0 then (S.bd (bld [(Go.Value.int Go.IntKind.i64 0), (Go.Value.int Go.IntKind.i64 0), (Go.Value.int Go.IntKind.u64 0), (Go.Value.int Go.IntKind.i64 0), (Go.Value.int Go.IntKind.u64 0)] []) fun x75 => S.bd (bld [(Go.Value.int Go.IntKind.i64 0), (Go.Value.int Go.IntKind.i64 0), (Go.Value.int Go.IntKind.u64 0), (Go.Value.int Go.IntKind.i64 0), (Go.Value.int Go.IntKind.u64 0)] []) fun x76 => S.bd (stl (cellsA (r72.2.1.getD 0 undef)) 0 5 x75) fun c77 => S.bd (stl (cellsA (r72.2.1.getD 1 undef)) 0 5 x76) fun c78 => S.bd (lal c77 0 5) fun x79 => S.bd (lal c78 0 5) fun x80 => some ((Value.tuple ⟨[x79, x80, (Go.Value.bool Bool.false)]⟩))) else (S.bd (lal (cellsA (r72.2.1.getD 1 undef)) 0 5) fun x73 => S.bd (lal (cellsA (r72.2.1.getD 2 undef)) 0 5) fun x74 => some ((Value.tuple ⟨[x73, x74, (r72.2.1.getD 0 undef)]⟩)))
def leapfrogref11x_beside.r (a0 a1 : Value) (s : St) : Option Value := leapfrogref11x_beside.t std a0 a1 s
def leapfrogref11x_beside.w : List Value → St → Option Value
  | [a0, a1], s => leapfrogref11x_beside.r a0 a1 s
  | _, _ => none
def leapfrogref11x_beside.an : An := ⟨44, true, [4, 5, 8, 9], [(2, ⟨[.v 0, .v 1, .p 4 4 0, .p 5 5 0, .v 7, .l 4, .l 5], [(.exit 0, [.p 4 4 0, .p 5 5 0, .l 4, .l 5]), (.ret, [.p 4 4 0, .p 5 5 0, .v 6, .l 4, .l 5])]⟩)], [(8, ⟨[], [(.normal, [.v 0, .p 4 4 0, .p 5 5 0, .v 7, .p 8 8 0, .p 9 9 0, .l 4, .l 5, .l 8, .l 9])]⟩), (10, ⟨[], [(.normal, [.p 4 4 0, .p 5 5 0, .p 8 8 0, .p 9 9 0, .l 4, .l 5, .l 8, .l 9])]⟩)], [(10, [(0, 65, [], []), (1, 73, [], []), (2, 37, [], []), (3, 45, [], []), (4, 0, [], [])])]⟩
theorem leapfrogref11x_beside.ok (S : Sig) (a0 a1 : Value) (s : St) : evG S Try.prog leapfrogref11x_beside.ctx leapfrogref11x_beside.an Try.f85 [a0, a1] s = leapfrogref11x_beside.t S a0 a1 s := by kernel_rfl
theorem leapfrogref11x_beside.cok : CtxOk Try.prog leapfrogref11x_beside.ctx := .nil
theorem leapfrogref11x_beside.draws : fnDraws leapfrogref11x_beside.an Try.f85 = true := by kernel_rfl
theorem leapfrogref11x_beside.can : callOk Try.prog 85 = true := by kernel_rfl
theorem leapfrogref11x_beside.sound : FnOk Try.prog 85 (.rd leapfrogref11x_beside.w) := FnOk.rd_of (evG_ok leapfrogref11x_beside.cok mixed (f := 85) (fn := Try.f85) (by kernel_rfl) leapfrogref11x_beside.draws) fun args s r h => by
  unfold leapfrogref11x_beside.w at h; split at h
  · rw [leapfrogref11x_beside.ok std]; exact h
  · simp at h

/-! ### leapfrog/leapfrogref11.one: function 64 -/
def leapfrogref11x_one.ctx : Ctx := [(11, .st leapfrogref11x_Row.w), (85, .rd leapfrogref11x_beside.w)]
def leapfrogref11x_one.l8.p1 (S : Sig) (xs93 : List Value) (r101 : Value × St) (c108 : List Value) (c109 : List Value) (rec95 : List Value → St → Option Cut) : Option Cut :=
  S.bd (lcl (cellsA (xs93.getD 6 undef)) 8) fun x110 => S.bd (idx r101.2 3 (xs93.getD 3 undef) (xs93.getD 4 undef)) fun x111 => S.bd (fld 0 x111) fun x112 => S.bd (lda r101.2 2 x112) fun x113 => S.bd (lal c108 0 5) fun x114 => S.bd (lal c109 0 5) fun x115 => S.bd (bld [(Go.Value.int Go.IntKind.i64 0), (Go.Value.int Go.IntKind.u64 0), (Go.Value.int Go.IntKind.i64 0), (Go.Value.int Go.IntKind.i64 0), (Go.Value.int Go.IntKind.u64 0), (Go.Value.int Go.IntKind.i64 0), (Go.Value.int Go.IntKind.u64 0), (Go.Value.int Go.IntKind.i64 0), (Go.Value.int Go.IntKind.i64 0), (Go.Value.int Go.IntKind.u64 0), (Go.Value.int Go.IntKind.i64 0), (Go.Value.int Go.IntKind.u64 0), (Go.Value.bool Bool.false), (Go.Value.int Go.IntKind.i64 0), (Go.Value.int Go.IntKind.i64 0), (Go.Value.slice Option.none 0 0)] [(0, 2, x113), (2, 5, x114), (7, 5, x115)]) fun x116 => S.bd (S.bd (bls 16 (List.replicate 1 [(Go.Value.int Go.IntKind.i64 0), (Go.Value.int Go.IntKind.u64 0), (Go.Value.int Go.IntKind.i64 0), (Go.Value.int Go.IntKind.i64 0), (Go.Value.int Go.IntKind.u64 0), (Go.Value.int Go.IntKind.i64 0), (Go.Value.int Go.IntKind.u64 0), (Go.Value.int Go.IntKind.i64 0), (Go.Value.int Go.IntKind.i64 0), (Go.Value.int Go.IntKind.u64 0), (Go.Value.int Go.IntKind.i64 0), (Go.Value.int Go.IntKind.u64 0), (Go.Value.bool Bool.false), (Go.Value.int Go.IntKind.i64 0), (Go.Value.int Go.IntKind.i64 0), (Go.Value.slice Option.none 0 0)]) [(0, x116)]) fun rows => als r101.2 16 1 rows) fun r117 => S.bd (app r117.2 16 144 x110 r117.1) fun r118 => S.bd (idx r118.2 3 (xs93.getD 3 undef) (xs93.getD 4 undef)) fun x119 => S.cnd (Value.bool (sameV x119 x111)) (S.bd (lda r118.2 2 x112) fun x120 => S.cnd (Value.bool (sameV x120 x113)) (S.bd (stl (cellsA (xs93.getD 6 undef)) 8 1 r118.1) fun c121 => S.bd (bin .add (xs93.getD 4 undef) (Go.Value.int Go.IntKind.i64 1)) fun x122 => rec95 [(xs93.getD 0 undef), (xs93.getD 1 undef), (xs93.getD 2 undef), (xs93.getD 3 undef), x122, (Value.agg ⟨(cellsA (xs93.getD 5 undef))⟩), (Value.agg ⟨c121⟩)] r118.2) (none)) (none)

def leapfrogref11x_one.l8 (S : Sig) (rec95 : List Value → St → Option Cut) (xs93 : List Value) (s94 : St) : Option Cut :=
  S.bd (lenL (xs93.getD 3 undef)) fun x96 => S.bd (bin .lss (xs93.getD 4 undef) x96) fun x97 => S.cnd x97 (S.bd (idx s94 3 (xs93.getD 3 undef) (xs93.getD 4 undef)) fun x98 => S.bd (fld 0 x98) fun x99 => S.bd (lda s94 2 x99) fun x100 => S.bd (leapfrogref11x_Row.v (xs93.getD 0 undef) x100 (xs93.getD 2 undef) s94) fun r101 => S.bd (leapfrogref11x_beside.r r101.1 (xs93.getD 1 undef) r101.2) fun x102 => S.bd (xtr 0 x102) fun x103 => S.bd (xtr 1 x102) fun x104 => S.bd (xtr 2 x102) fun x105 => S.bd (bx (Go.Value.agg #[(Go.Value.int Go.IntKind.i64 0), (Go.Value.int Go.IntKind.i64 0), (Go.Value.int Go.IntKind.u64 0), (Go.Value.int Go.IntKind.i64 0), (Go.Value.int Go.IntKind.u64 0)])) fun c106 => S.bd (bx (Go.Value.agg #[(Go.Value.int Go.IntKind.i64 0), (Go.Value.int Go.IntKind.i64 0), (Go.Value.int Go.IntKind.u64 0), (Go.Value.int Go.IntKind.i64 0), (Go.Value.int Go.IntKind.u64 0)])) fun c107 => S.bd (stl c106 0 5 x103) fun c108 => S.bd (stl c107 0 5 x104) fun c109 => S.cnd x105 (leapfrogref11x_one.l8.p1 S xs93 r101 c108 c109 rec95) (S.bd (bin .add (xs93.getD 4 undef) (Go.Value.int Go.IntKind.i64 1)) fun x123 => rec95 [(xs93.getD 0 undef), (xs93.getD 1 undef), (xs93.getD 2 undef), (xs93.getD 3 undef), x123, (Value.agg ⟨(cellsA (xs93.getD 5 undef))⟩), (Value.agg ⟨(cellsA (xs93.getD 6 undef))⟩)] r101.2)) (some (0, [(Value.agg ⟨(cellsA (xs93.getD 5 undef))⟩), (Value.agg ⟨(cellsA (xs93.getD 6 undef))⟩)], s94))

def leapfrogref11x_one.l3 (S : Sig) (rec80 : List Value → St → Option Cut) (xs78 : List Value) (s79 : St) : Option Cut :=
  S.bd (lenL (xs78.getD 4 undef)) fun x81 => S.bd (bin .lss (xs78.getD 5 undef) x81) fun x82 => S.cnd x82 (S.bd (idx s79 5 (xs78.getD 4 undef) (xs78.getD 5 undef)) fun x83 => S.bd (fld 0 x83) fun x84 => S.bd (ldc s79 x84) fun x85 => S.bd (eqb [1] false true x85 (xs78.getD 1 undef)) fun x86 => S.cnd x86 (S.bd (bin .add (xs78.getD 5 undef) (Go.Value.int Go.IntKind.i64 1)) fun x87 => rec80 [(xs78.getD 0 undef), (xs78.getD 1 undef), (xs78.getD 2 undef), (xs78.getD 3 undef), (xs78.getD 4 undef), x87, (Value.agg ⟨(cellsA (xs78.getD 6 undef))⟩)] s79) (S.bd (idx s79 5 (xs78.getD 4 undef) (xs78.getD 5 undef)) fun x88 => S.bd (lda s79 5 x88) fun x89 => S.bd (bld [(Go.Value.int Go.IntKind.i64 0), (Go.Value.int Go.IntKind.i64 0), (Go.Value.int Go.IntKind.u64 0), (Go.Value.int Go.IntKind.i64 0), (Go.Value.int Go.IntKind.u64 0), (Go.Value.slice Option.none 0 0), (Go.Value.bool Bool.false), (Go.Value.bool Bool.false), (Go.Value.slice Option.none 0 0)] [(0, 5, x89), (6, 1, (Go.Value.bool Bool.true))]) fun x90 => S.bd (bx (Go.Value.agg #[(Go.Value.int Go.IntKind.i64 0), (Go.Value.int Go.IntKind.i64 0), (Go.Value.int Go.IntKind.u64 0), (Go.Value.int Go.IntKind.i64 0), (Go.Value.int Go.IntKind.u64 0), (Go.Value.slice Option.none 0 0), (Go.Value.bool Bool.false), (Go.Value.bool Bool.false), (Go.Value.slice Option.none 0 0)])) fun c91 => S.bd (stl c91 0 9 x90) fun c92 => S.bd (S.it (leapfrogref11x_one.l8 S) [(xs78.getD 0 undef), (xs78.getD 1 undef), (xs78.getD 2 undef), (xs78.getD 3 undef), (Go.Value.int Go.IntKind.i64 0), (Value.agg ⟨(cellsA (xs78.getD 6 undef))⟩), (Value.agg ⟨c92⟩)] s79) fun r124 => S.bd (lal (cellsA (r124.2.1.getD 1 undef)) 0 9) fun x125 => S.bd (stl (cellsA (r124.2.1.getD 0 undef)) 0 9 x125) fun c126 => some (1, [(Go.Value.bool Bool.true), (Value.agg ⟨c126⟩)], r124.2.2))) (some (0, [(Value.agg ⟨(cellsA (xs78.getD 6 undef))⟩)], s79))

def leapfrogref11x_one.t (S : Sig) (a0 a1 a2 a3 : Value) (s : St) : Option (Value × St) :=
  S.bd (bx (Go.Value.agg #[(Go.Value.int Go.IntKind.i64 0), (Go.Value.int Go.IntKind.i64 0), (Go.Value.int Go.IntKind.u64 0), (Go.Value.int Go.IntKind.i64 0), (Go.Value.int Go.IntKind.u64 0), (Go.Value.slice Option.none 0 0), (Go.Value.bool Bool.false), (Go.Value.bool Bool.false), (Go.Value.slice Option.none 0 0)])) fun c1 => S.bd (bld [(Go.Value.int Go.IntKind.i64 0), (Go.Value.int Go.IntKind.u64 0)] []) fun x2 => S.bd (leapfrogref11x_Row.v a0 x2 a2 s) fun r3 => S.bd (S.it (leapfrogref11x_one.l3 S) [a0, a1, a2, a3, r3.1, (Go.Value.int Go.IntKind.i64 0), (Value.agg ⟨c1⟩)] r3.2) fun r127 => if r127.1 = 0 then (S.bd (bld [(Go.Value.int Go.IntKind.i64 0), (Go.Value.int Go.IntKind.i64 0), (Go.Value.int Go.IntKind.u64 0), (Go.Value.int Go.IntKind.i64 0), (Go.Value.int Go.IntKind.u64 0), (Go.Value.slice Option.none 0 0), (Go.Value.bool Bool.false), (Go.Value.bool Bool.false), (Go.Value.slice Option.none 0 0)] []) fun x129 => S.bd (stl (cellsA (r127.2.1.getD 0 undef)) 0 9 x129) fun c130 => S.bd (lal c130 0 9) fun x131 => some ((Value.tuple ⟨[x131, (Go.Value.bool Bool.false)]⟩), r127.2.2)) else (S.bd (lal (cellsA (r127.2.1.getD 1 undef)) 0 9) fun x128 => some ((Value.tuple ⟨[x128, (r127.2.1.getD 0 undef)]⟩), r127.2.2))
def leapfrogref11x_one.v (a0 a1 a2 a3 : Value) (s : St) : Option (Value × St) := leapfrogref11x_one.t std a0 a1 a2 a3 s
def leapfrogref11x_one.w : List Value → St → Option (Value × St)
  | [a0, a1, a2, a3], s => leapfrogref11x_one.v a0 a1 a2 a3 s
  | _, _ => none
def leapfrogref11x_one.an : An := ⟨75, false, [8, 12, 14, 15], [(8, ⟨[.v 0, .v 1, .v 2, .v 3, .p 8 8 0, .p 12 12 0, .v 13, .l 8, .l 12], [(.exit 2, [.p 8 8 0, .p 12 12 0, .l 8, .l 12])]⟩), (3, ⟨[.v 0, .v 1, .v 2, .v 3, .p 8 8 0, .v 10, .v 11, .l 8], [(.exit 0, [.p 8 8 0, .l 8]), (.ret, [.p 8 8 0, .v 9, .l 8])]⟩)], [], [(12, [(0, 0, [], []), (1, 97, [], []), (2, 0, [], []), (3, 0, [], []), (4, 2, [], []), (5, 0, [], []), (6, 2, [], []), (7, 113, [], []), (8, 121, [], []), (9, 0, [], []), (10, 3, [], []), (11, 4, [4, 6], []), (12, 0, [], []), (13, 101, [], [])])]⟩
theorem leapfrogref11x_one.ok (S : Sig) (a0 a1 a2 a3 : Value) (s : St) : evF S Try.prog leapfrogref11x_one.ctx leapfrogref11x_one.an Try.f64 [a0, a1, a2, a3] s = leapfrogref11x_one.t S a0 a1 a2 a3 s := by kernel_rfl
theorem leapfrogref11x_one.cok : CtxOk Try.prog leapfrogref11x_one.ctx := .cons leapfrogref11x_Row.sound leapfrogref11x_Row.can <| .cons leapfrogref11x_beside.sound leapfrogref11x_beside.can <| .nil
theorem leapfrogref11x_one.draws : fnDraws leapfrogref11x_one.an Try.f64 = true := by kernel_rfl
theorem leapfrogref11x_one.can : callOk Try.prog 64 = true := by kernel_rfl
theorem leapfrogref11x_one.sound : FnOk Try.prog 64 (.st leapfrogref11x_one.w) := FnOk.st_of (evF_ok leapfrogref11x_one.cok mixed (f := 64) (fn := Try.f64) (by kernel_rfl) leapfrogref11x_one.draws) fun args s r h => by
  unfold leapfrogref11x_one.w at h; split at h
  · rw [leapfrogref11x_one.ok std]; exact h
  · simp at h

/-! ### leapfrog/leapfrogref11.one: function 64, its garbage dropped -/
def leapfrogref11x_oneD.v (a0 a1 a2 a3 : Value) (s : St) : Option (Value × St) := dropR (fun s => leapfrogref11x_one.v a0 a1 a2 a3 s) s
def leapfrogref11x_oneD.w : List Value → St → Option (Value × St) := fun args s => dropR (leapfrogref11x_one.w args) s
theorem leapfrogref11x_oneD.can : callOk Try.prog 64 = true := leapfrogref11x_one.can
theorem leapfrogref11x_oneD.sound : FnOk Try.prog 64 (.st leapfrogref11x_oneD.w) := FnOk.dropped leapfrogref11x_one.sound

/-! ### leapfrog/leapfrogref11.Records: function 32 -/
def leapfrogref11x_Records.ctx : Ctx := [(6, .rd leapfrogref11x_Check.w), (63, .st leapfrogref11x_Lists.w), (64, .st leapfrogref11x_oneD.w)]
def leapfrogref11x_Records.l6 (S : Sig) (rec19 : List Value → St → Option Cut) (xs17 : List Value) (s18 : St) : Option Cut :=
  S.bd (bin .lss (xs17.getD 4 undef) (Go.Value.int Go.IntKind.i64 1024)) fun x20 => S.cnd x20 (S.bd (leapfrogref11x_oneD.v (xs17.getD 0 undef) (xs17.getD 4 undef) (xs17.getD 1 undef) (xs17.getD 2 undef) s18) fun r21 => S.bd (xtr 0 r21.1) fun x22 => S.bd (xtr 1 r21.1) fun x23 => S.bd (bx (Go.Value.agg #[(Go.Value.int Go.IntKind.i64 0), (Go.Value.int Go.IntKind.i64 0), (Go.Value.int Go.IntKind.u64 0), (Go.Value.int Go.IntKind.i64 0), (Go.Value.int Go.IntKind.u64 0), (Go.Value.slice Option.none 0 0), (Go.Value.bool Bool.false), (Go.Value.bool Bool.false), (Go.Value.slice Option.none 0 0)])) fun c24 => S.bd (stl c24 0 9 x22) fun c25 => S.cnd x23 (S.bd (lal c25 0 9) fun x26 => S.bd (S.bd (bls 9 (List.replicate 1 [(Go.Value.int Go.IntKind.i64 0), (Go.Value.int Go.IntKind.i64 0), (Go.Value.int Go.IntKind.u64 0), (Go.Value.int Go.IntKind.i64 0), (Go.Value.int Go.IntKind.u64 0), (Go.Value.slice Option.none 0 0), (Go.Value.bool Bool.false), (Go.Value.bool Bool.false), (Go.Value.slice Option.none 0 0)]) [(0, x26)]) fun rows => als r21.2 9 1 rows) fun r27 => S.bd (app r27.2 9 96 (xs17.getD 3 undef) r27.1) fun r28 => S.bd (bin .add (xs17.getD 4 undef) (Go.Value.int Go.IntKind.i64 1)) fun x29 => rec19 [(xs17.getD 0 undef), (xs17.getD 1 undef), (xs17.getD 2 undef), r28.1, x29] r28.2) (S.bd (bin .add (xs17.getD 4 undef) (Go.Value.int Go.IntKind.i64 1)) fun x30 => rec19 [(xs17.getD 0 undef), (xs17.getD 1 undef), (xs17.getD 2 undef), (xs17.getD 3 undef), x30] r21.2)) (some (0, [(xs17.getD 3 undef)], s18))

def leapfrogref11x_Records.t (S : Sig) (a0 a1 : Value) (s : St) : Option (Value × St) :=
  S.bd (leapfrogref11x_Check.r a0 a1 s) fun x1 => S.bd (eqb [1] false true x1 (Go.Value.int Go.IntKind.i64 0)) fun x2 => S.cnd x2 (some ((Value.tuple ⟨[(Go.Value.slice Option.none 0 0), (Go.Value.int Go.IntKind.i64 110)]⟩), s)) (S.bd (leapfrogref11x_Lists.v a0 a1 s) fun r3 => S.bd (xtr 0 r3.1) fun x4 => S.bd (xtr 1 r3.1) fun x5 => S.bd (S.it (leapfrogref11x_Records.l6 S) [a0, a1, x4, (Go.Value.slice Option.none 0 0), (Go.Value.int Go.IntKind.i64 0)] r3.2) fun r31 => some ((Value.tuple ⟨[(r31.2.1.getD 0 undef), (Go.Value.int Go.IntKind.i64 0)]⟩), r31.2.2))
def leapfrogref11x_Records.v (a0 a1 : Value) (s : St) : Option (Value × St) := leapfrogref11x_Records.t std a0 a1 s
def leapfrogref11x_Records.w : List Value → St → Option (Value × St)
  | [a0, a1], s => leapfrogref11x_Records.v a0 a1 s
  | _, _ => none
def leapfrogref11x_Records.an : An := ⟨40, false, [10], [(6, ⟨[.v 0, .v 1, .v 6, .v 8, .v 9], [(.exit 0, [.v 8])]⟩)], [], []⟩
theorem leapfrogref11x_Records.ok (S : Sig) (a0 a1 : Value) (s : St) : evF S Try.prog leapfrogref11x_Records.ctx leapfrogref11x_Records.an Try.f32 [a0, a1] s = leapfrogref11x_Records.t S a0 a1 s := by kernel_rfl
theorem leapfrogref11x_Records.cok : CtxOk Try.prog leapfrogref11x_Records.ctx := .cons leapfrogref11x_Check.sound leapfrogref11x_Check.can <| .cons leapfrogref11x_Lists.sound leapfrogref11x_Lists.can <| .cons leapfrogref11x_oneD.sound leapfrogref11x_oneD.can <| .nil
theorem leapfrogref11x_Records.draws : fnDraws leapfrogref11x_Records.an Try.f32 = true := by kernel_rfl
theorem leapfrogref11x_Records.can : callOk Try.prog 32 = true := by kernel_rfl
theorem leapfrogref11x_Records.sound : FnOk Try.prog 32 (.st leapfrogref11x_Records.w) := FnOk.st_of (evF_ok leapfrogref11x_Records.cok mixed (f := 32) (fn := Try.f32) (by kernel_rfl) leapfrogref11x_Records.draws) fun args s r h => by
  unfold leapfrogref11x_Records.w at h; split at h
  · rw [leapfrogref11x_Records.ok std]; exact h
  · simp at h

/-! ### leapfrog/leapfrogref11.Records: function 32, at one input -/
def leapfrogref11x_RecordsX.S0 : St := ⟨[(0, .row 5 [[.int .i64 2, .int .i64 2, .int .u64 5, .int .i64 0, .int .u64 0]] false)], 1⟩
def leapfrogref11x_RecordsX.A : List Value := [(.int .i64 0), (.slice (some ⟨0, 0, some 0⟩) 1 2)]
def leapfrogref11x_RecordsX.l6 (S : Sig) (rec19 : List Value → St → Option Cut) (xs17 : List Value) (s18 : St) : Option Cut :=
  S.bd (bin .lss (xs17.getD 4 undef) (Go.Value.int Go.IntKind.i64 8)) fun x20 => S.cnd x20 (S.bd (leapfrogref11x_oneD.v (xs17.getD 0 undef) (xs17.getD 4 undef) (xs17.getD 1 undef) (xs17.getD 2 undef) s18) fun r21 => S.bd (xtr 0 r21.1) fun x22 => S.bd (xtr 1 r21.1) fun x23 => S.bd (bx (Go.Value.agg #[(Go.Value.int Go.IntKind.i64 0), (Go.Value.int Go.IntKind.i64 0), (Go.Value.int Go.IntKind.u64 0), (Go.Value.int Go.IntKind.i64 0), (Go.Value.int Go.IntKind.u64 0), (Go.Value.slice Option.none 0 0), (Go.Value.bool Bool.false), (Go.Value.bool Bool.false), (Go.Value.slice Option.none 0 0)])) fun c24 => S.bd (stl c24 0 9 x22) fun c25 => S.cnd x23 (S.bd (lal c25 0 9) fun x26 => S.bd (S.bd (bls 9 (List.replicate 1 [(Go.Value.int Go.IntKind.i64 0), (Go.Value.int Go.IntKind.i64 0), (Go.Value.int Go.IntKind.u64 0), (Go.Value.int Go.IntKind.i64 0), (Go.Value.int Go.IntKind.u64 0), (Go.Value.slice Option.none 0 0), (Go.Value.bool Bool.false), (Go.Value.bool Bool.false), (Go.Value.slice Option.none 0 0)]) [(0, x26)]) fun rows => als r21.2 9 1 rows) fun r27 => S.bd (app r27.2 9 96 (xs17.getD 3 undef) r27.1) fun r28 => S.bd (bin .add (xs17.getD 4 undef) (Go.Value.int Go.IntKind.i64 1)) fun x29 => rec19 [(xs17.getD 0 undef), (xs17.getD 1 undef), (xs17.getD 2 undef), r28.1, x29] r28.2) (S.bd (bin .add (xs17.getD 4 undef) (Go.Value.int Go.IntKind.i64 1)) fun x30 => rec19 [(xs17.getD 0 undef), (xs17.getD 1 undef), (xs17.getD 2 undef), (xs17.getD 3 undef), x30] r21.2)) (some (0, [(xs17.getD 3 undef)], s18))
def leapfrogref11x_RecordsX.t (S : Sig) (a0 a1 : Value) (s : St) : Option (Value × St) :=
  S.bd (leapfrogref11x_Check.r a0 a1 s) fun x1 => S.bd (eqb [1] false true x1 (Go.Value.int Go.IntKind.i64 0)) fun x2 => S.cnd x2 (some ((Value.tuple ⟨[(Go.Value.slice Option.none 0 0), (Go.Value.int Go.IntKind.i64 110)]⟩), s)) (S.bd (leapfrogref11x_Lists.v a0 a1 s) fun r3 => S.bd (xtr 0 r3.1) fun x4 => S.bd (xtr 1 r3.1) fun x5 => S.bd (S.it (leapfrogref11x_RecordsX.l6 S) [a0, a1, x4, (Go.Value.slice Option.none 0 0), (Go.Value.int Go.IntKind.i64 0)] r3.2) fun r31 => some ((Value.tuple ⟨[(r31.2.1.getD 0 undef), (Go.Value.int Go.IntKind.i64 0)]⟩), r31.2.2))
def leapfrogref11x_RecordsX.k (args : List Value) (s : St) : Option (Value × St) := leapfrogref11x_RecordsX.t std (args.getD 0 undef) (args.getD 1 undef) s
def leapfrogref11x_RecordsX.r3 : Option (Value × St) := leapfrogref11x_Lists.v (.int .i64 0) (.slice (some ⟨0, 0, some 0⟩) 1 2) leapfrogref11x_RecordsX.S0
def leapfrogref11x_RecordsX.x4 : Value := (leapfrogref11x_RecordsX.r3.bind fun r => xtr 0 r.1).getD undef
def leapfrogref11x_RecordsX.s1 : St := (leapfrogref11x_RecordsX.r3.map (·.2)).getD ⟨[], 0⟩
def leapfrogref11x_RecordsX.xs0 : List Value := [(.int .i64 0), (.slice (some ⟨0, 0, some 0⟩) 1 2), leapfrogref11x_RecordsX.x4, (.slice none 0 0), (.int .i64 0)]
def leapfrogref11x_RecordsX.cap : List Value → St → Option Cut := fun xs s => some (0, xs, s)
def leapfrogref11x_RecordsX.c : Nat → Cut
  | 0 => (0, leapfrogref11x_RecordsX.xs0, leapfrogref11x_RecordsX.s1)
  | k + 1 => (leapfrogref11x_Records.l6 std leapfrogref11x_RecordsX.cap (leapfrogref11x_RecordsX.c k).2.1 (leapfrogref11x_RecordsX.c k).2.2).getD (0, [], ⟨[], 0⟩)
def leapfrogref11x_RecordsX.out : Value := (leapfrogref11x_RecordsX.c 8).2.1.getD 3 undef
def leapfrogref11x_RecordsX.sK : St := (leapfrogref11x_RecordsX.c 8).2.2
def leapfrogref11x_RecordsX.xs (j : Nat) : List Value := [(.int .i64 0), (.slice (some ⟨0, 0, some 0⟩) 1 2), leapfrogref11x_RecordsX.x4, leapfrogref11x_RecordsX.out, (.int .i64 (Int.ofNat (j + 8)))]
theorem leapfrogref11x_RecordsX.first (rec : List Value → St → Option Cut) : leapfrogref11x_Records.l6 std (leapfrogref11x_Records.l6 std (leapfrogref11x_Records.l6 std (leapfrogref11x_Records.l6 std (leapfrogref11x_Records.l6 std (leapfrogref11x_Records.l6 std (leapfrogref11x_Records.l6 std (leapfrogref11x_Records.l6 std rec))))))) leapfrogref11x_RecordsX.xs0 leapfrogref11x_RecordsX.s1 = rec (leapfrogref11x_RecordsX.xs 0) leapfrogref11x_RecordsX.sK := by kernel_rfl
theorem leapfrogref11x_RecordsX.short : iter (leapfrogref11x_RecordsX.l6 std) BIG leapfrogref11x_RecordsX.xs0 leapfrogref11x_RecordsX.s1 = some (0, [leapfrogref11x_RecordsX.out], leapfrogref11x_RecordsX.sK) := by kernel_rfl
theorem leapfrogref11x_RecordsX.one (rec : List Value → St → Option Cut) (j : Nat) : leapfrogref11x_Records.l6 std rec (leapfrogref11x_RecordsX.xs j) leapfrogref11x_RecordsX.sK =
    (bin .lss (.int .i64 (Int.ofNat (j + 8))) (.int .i64 1024)).bind fun x => cnd x ((bin .add (.int .i64 (Int.ofNat (j + 8))) (.int .i64 1)).bind fun y => rec [(.int .i64 0), (.slice (some ⟨0, 0, some 0⟩) 1 2), leapfrogref11x_RecordsX.x4, leapfrogref11x_RecordsX.out, y] leapfrogref11x_RecordsX.sK) (some (0, [leapfrogref11x_RecordsX.out], leapfrogref11x_RecordsX.sK)) := by kernel_rfl
theorem leapfrogref11x_RecordsX.step (rec : List Value → St → Option Cut) (j : Nat) (h : j < 1016) : leapfrogref11x_Records.l6 std rec (leapfrogref11x_RecordsX.xs j) leapfrogref11x_RecordsX.sK = rec (leapfrogref11x_RecordsX.xs (j + 1)) leapfrogref11x_RecordsX.sK := by
  rw [leapfrogref11x_RecordsX.one, lss_i64 (by simp; omega), add_i64 (by simp; omega) (by simp; omega)]
  simp only [Option.bind_some, cnd, leapfrogref11x_RecordsX.xs, show (Int.ofNat (j + 8) + 1 : Int) = Int.ofNat (j + 1 + 8) by simp; omega]
theorem leapfrogref11x_RecordsX.last (rec : List Value → St → Option Cut) : leapfrogref11x_Records.l6 std rec (leapfrogref11x_RecordsX.xs 1016) leapfrogref11x_RecordsX.sK = some (0, [leapfrogref11x_RecordsX.out], leapfrogref11x_RecordsX.sK) := by kernel_rfl
theorem leapfrogref11x_RecordsX.long : iter (leapfrogref11x_Records.l6 std) BIG leapfrogref11x_RecordsX.xs0 leapfrogref11x_RecordsX.s1 = some (0, [leapfrogref11x_RecordsX.out], leapfrogref11x_RecordsX.sK) := by
  have h := iter_count (f := leapfrogref11x_Records.l6 std) (xs := leapfrogref11x_RecordsX.xs) (s := leapfrogref11x_RecordsX.sK) leapfrogref11x_RecordsX.step leapfrogref11x_RecordsX.last 1016 0 4611686018427386879 rfl
  rw [show BIG = (4611686018427386879 + 1016 + 1) + 8 by decide, iter8]
  exact (leapfrogref11x_RecordsX.first _).trans h
theorem leapfrogref11x_RecordsX.way (it : {R : Type} → ((List Value → St → Option R) → List Value → St → Option R) → List Value → St → Option R) : leapfrogref11x_Records.t (stdIt it) (.int .i64 0) (.slice (some ⟨0, 0, some 0⟩) 1 2) leapfrogref11x_RecordsX.S0 =
    (it (leapfrogref11x_Records.l6 (stdIt it)) leapfrogref11x_RecordsX.xs0 leapfrogref11x_RecordsX.s1).bind fun r => some ((Value.tuple ⟨[(r.2.1.getD 0 undef), (Go.Value.int Go.IntKind.i64 0)]⟩), r.2.2) := by kernel_rfl
theorem leapfrogref11x_RecordsX.way2 (it : {R : Type} → ((List Value → St → Option R) → List Value → St → Option R) → List Value → St → Option R) : leapfrogref11x_RecordsX.t (stdIt it) (.int .i64 0) (.slice (some ⟨0, 0, some 0⟩) 1 2) leapfrogref11x_RecordsX.S0 =
    (it (leapfrogref11x_RecordsX.l6 (stdIt it)) leapfrogref11x_RecordsX.xs0 leapfrogref11x_RecordsX.s1).bind fun r => some ((Value.tuple ⟨[(r.2.1.getD 0 undef), (Go.Value.int Go.IntKind.i64 0)]⟩), r.2.2) := by kernel_rfl
theorem leapfrogref11x_RecordsX.lit : leapfrogref11x_Records.w leapfrogref11x_RecordsX.A leapfrogref11x_RecordsX.S0 = leapfrogref11x_RecordsX.k leapfrogref11x_RecordsX.A leapfrogref11x_RecordsX.S0 := by
  have h1 := leapfrogref11x_RecordsX.way fun f xs s => iter f BIG xs s
  have h2 := leapfrogref11x_RecordsX.way2 fun f xs s => iter f BIG xs s
  rw [show iter (leapfrogref11x_Records.l6 (stdIt fun f xs s => iter f BIG xs s)) BIG leapfrogref11x_RecordsX.xs0 leapfrogref11x_RecordsX.s1 = _ from leapfrogref11x_RecordsX.long] at h1
  rw [show iter (leapfrogref11x_RecordsX.l6 (stdIt fun f xs s => iter f BIG xs s)) BIG leapfrogref11x_RecordsX.xs0 leapfrogref11x_RecordsX.s1 = _ from leapfrogref11x_RecordsX.short] at h2
  exact h1.trans h2.symm
def leapfrogref11x_RecordsX.w : List Value → St → Option (Value × St) := atOne leapfrogref11x_RecordsX.A leapfrogref11x_RecordsX.S0 leapfrogref11x_Records.w leapfrogref11x_RecordsX.k
def leapfrogref11x_RecordsX.v (a0 a1 : Value) (s : St) : Option (Value × St) := leapfrogref11x_RecordsX.w [a0, a1] s
theorem leapfrogref11x_RecordsX.can : callOk Try.prog 32 = true := leapfrogref11x_Records.can
theorem leapfrogref11x_RecordsX.sound : FnOk Try.prog 32 (.st leapfrogref11x_RecordsX.w) := FnOk.atOne leapfrogref11x_Records.sound leapfrogref11x_RecordsX.lit


end Go.Proofs.Ytpjobebheebncaa
