/-
  What the functions answer that MendAlone reaches (part 0): for each function of the program a plain function over abstract values, and that the model answers as it does.
-/
import Derived.Test.YtpjobebheebncaaSimZ
import Derived.Test.YtpjobebheebncaaProg
import Derived.KernelRfl
set_option linter.unusedVariables false
set_option maxRecDepth 100000
namespace Go.Proofs.Ytpjobebheebncaa
open Go.Sim
noncomputable section
theorem mixed : Try.prog.follows .mixedOrders = true := by kernel_rfl
/-! ### leapfrog/mend.New$1: function 37 -/
def mend_New_fn1.ctx : Ctx := []
def mend_New_fn1.t (S : Sig) (a0 a1 a2 : Value) (s : St) : Option Value :=
  S.bd (bx a0) fun c1 => S.bd (bx a1) fun c2 => S.bd (bx (Go.Value.agg #[(Go.Value.int Go.IntKind.i64 0), (Go.Value.int Go.IntKind.i64 0), (Go.Value.int Go.IntKind.i64 0), (Go.Value.int Go.IntKind.u64 0), (Go.Value.int Go.IntKind.i64 0), (Go.Value.int Go.IntKind.u64 0), (Go.Value.int Go.IntKind.i64 0), (Go.Value.int Go.IntKind.i64 0), (Go.Value.int Go.IntKind.u64 0), (Go.Value.int Go.IntKind.i64 0), (Go.Value.int Go.IntKind.i64 0), (Go.Value.int Go.IntKind.u64 0), (Go.Value.int Go.IntKind.i64 0), (Go.Value.int Go.IntKind.u64 0), (Go.Value.int Go.IntKind.i64 0), (Go.Value.int Go.IntKind.i64 0), (Go.Value.int Go.IntKind.u64 0), (Go.Value.int Go.IntKind.i64 0), (Go.Value.int Go.IntKind.u64 0), (Go.Value.int Go.IntKind.i64 0), (Go.Value.int Go.IntKind.i64 0), (Go.Value.int Go.IntKind.i64 0), (Go.Value.int Go.IntKind.u64 0), (Go.Value.slice Option.none 0 0), (Go.Value.slice Option.none 0 0), (Go.Value.int Go.IntKind.i64 0), (Go.Value.int Go.IntKind.i64 0), (Go.Value.int Go.IntKind.u64 0), (Go.Value.int Go.IntKind.i64 0), (Go.Value.int Go.IntKind.u64 0), (Go.Value.int Go.IntKind.i64 0), (Go.Value.int Go.IntKind.i64 0), (Go.Value.int Go.IntKind.u64 0), (Go.Value.int Go.IntKind.i64 0), (Go.Value.int Go.IntKind.u64 0), (Go.Value.bool Bool.false)])) fun c3 => S.bd (fld 0 a2) fun x4 => S.bd (lda s 2 x4) fun x5 => S.bd (stl c2 1 2 x5) fun c6 => S.bd (lal c1 0 5) fun x7 => S.bd (lal c6 0 15) fun x8 => S.bd (bld [(Go.Value.int Go.IntKind.i64 0), (Go.Value.int Go.IntKind.i64 0), (Go.Value.int Go.IntKind.i64 0), (Go.Value.int Go.IntKind.u64 0), (Go.Value.int Go.IntKind.i64 0), (Go.Value.int Go.IntKind.u64 0), (Go.Value.int Go.IntKind.i64 0), (Go.Value.int Go.IntKind.i64 0), (Go.Value.int Go.IntKind.u64 0), (Go.Value.int Go.IntKind.i64 0), (Go.Value.int Go.IntKind.i64 0), (Go.Value.int Go.IntKind.u64 0), (Go.Value.int Go.IntKind.i64 0), (Go.Value.int Go.IntKind.u64 0), (Go.Value.int Go.IntKind.i64 0), (Go.Value.int Go.IntKind.i64 0), (Go.Value.int Go.IntKind.u64 0), (Go.Value.int Go.IntKind.i64 0), (Go.Value.int Go.IntKind.u64 0), (Go.Value.int Go.IntKind.i64 0), (Go.Value.int Go.IntKind.i64 0), (Go.Value.int Go.IntKind.i64 0), (Go.Value.int Go.IntKind.u64 0), (Go.Value.slice Option.none 0 0), (Go.Value.slice Option.none 0 0), (Go.Value.int Go.IntKind.i64 0), (Go.Value.int Go.IntKind.i64 0), (Go.Value.int Go.IntKind.u64 0), (Go.Value.int Go.IntKind.i64 0), (Go.Value.int Go.IntKind.u64 0), (Go.Value.int Go.IntKind.i64 0), (Go.Value.int Go.IntKind.i64 0), (Go.Value.int Go.IntKind.u64 0), (Go.Value.int Go.IntKind.i64 0), (Go.Value.int Go.IntKind.u64 0), (Go.Value.bool Bool.false)] [(0, 1, (Go.Value.int Go.IntKind.i64 1)), (1, 5, x7), (6, 15, x8)]) fun x9 => S.bd (stl c3 0 36 x9) fun c10 => S.bd (lal c10 0 36) fun x11 => some (x11)
def mend_New_fn1.r (a0 a1 a2 : Value) (s : St) : Option Value := mend_New_fn1.t std a0 a1 a2 s
def mend_New_fn1.w : List Value → St → Option Value
  | [a0, a1, a2], s => mend_New_fn1.r a0 a1 a2 s
  | _, _ => none
def mend_New_fn1.an : An := ⟨12, true, [3, 4, 5], [], [], []⟩
theorem mend_New_fn1.ok (S : Sig) (a0 a1 a2 : Value) (s : St) : evG S Try.prog mend_New_fn1.ctx mend_New_fn1.an Try.f37 [a0, a1, a2] s = mend_New_fn1.t S a0 a1 a2 s := by kernel_rfl
theorem mend_New_fn1.cok : CtxOk Try.prog mend_New_fn1.ctx := .nil
theorem mend_New_fn1.draws : fnDraws mend_New_fn1.an Try.f37 = true := by kernel_rfl
theorem mend_New_fn1.can : callOk Try.prog 37 = true := by kernel_rfl
theorem mend_New_fn1.sound : FnOk Try.prog 37 (.rd mend_New_fn1.w) := FnOk.rd_of (evG_ok mend_New_fn1.cok mixed (f := 37) (fn := Try.f37) (by kernel_rfl) mend_New_fn1.draws) fun args s r h => by
  unfold mend_New_fn1.w at h; split at h
  · rw [mend_New_fn1.ok std]; exact h
  · simp at h

/-! ### leapfrog/vec.low: function 65 -/
def vec_low.ctx : Ctx := []
def vec_low.t (S : Sig) (a0 : Value) (s : St) : Option Value :=
  S.bd (cvi .u64 a0) fun x1 => S.bd (bin .shl (Go.Value.int Go.IntKind.u64 1) x1) fun x2 => S.bd (bin .sub x2 (Go.Value.int Go.IntKind.u64 1)) fun x3 => some (x3)
def vec_low.r (a0 : Value) (s : St) : Option Value := vec_low.t std a0 s
def vec_low.w : List Value → St → Option Value
  | [a0], s => vec_low.r a0 s
  | _, _ => none
def vec_low.an : An := ⟨7, true, [], [], [], []⟩
theorem vec_low.ok (S : Sig) (a0 : Value) (s : St) : evG S Try.prog vec_low.ctx vec_low.an Try.f65 [a0] s = vec_low.t S a0 s := by kernel_rfl
theorem vec_low.cok : CtxOk Try.prog vec_low.ctx := .nil
theorem vec_low.draws : fnDraws vec_low.an Try.f65 = true := by kernel_rfl
theorem vec_low.can : callOk Try.prog 65 = true := by kernel_rfl
theorem vec_low.sound : FnOk Try.prog 65 (.rd vec_low.w) := FnOk.rd_of (evG_ok vec_low.cok mixed (f := 65) (fn := Try.f65) (by kernel_rfl) vec_low.draws) fun args s r h => by
  unfold vec_low.w at h; split at h
  · rw [vec_low.ok std]; exact h
  · simp at h

/-! ### leapfrog/vec.Right: function 33 -/
def vec_Right.ctx : Ctx := [(65, .rd vec_low.w)]
def vec_Right.t (S : Sig) (a0 : Value) (s : St) : Option Value :=
  S.bd (bx a0) fun c1 => S.bd (lcl c1 0) fun x2 => S.bd (bin .lss x2 (Go.Value.int Go.IntKind.i64 0)) fun x3 => S.bd (S.gd x3 false (lcl c1 0)) fun x4 => S.bd (S.gd x3 false (bin .gtr x4 (Go.Value.int Go.IntKind.i64 32))) fun x5 => S.bd (pik x3 (Go.Value.bool Bool.true) x5) fun x6 => S.bd (S.gd x6 false (lcl c1 1)) fun x7 => S.bd (S.gd x6 false (lcl c1 0)) fun x8 => S.bd (S.gd x6 false (vec_low.r x8 s)) fun x9 => S.bd (S.gd x6 false (bin .gtr x7 x9)) fun x10 => S.bd (pik x6 (Go.Value.bool Bool.true) x10) fun x11 => S.cnd x11 (some ((Go.Value.int Go.IntKind.i64 10))) (some ((Go.Value.int Go.IntKind.i64 0)))
def vec_Right.r (a0 : Value) (s : St) : Option Value := vec_Right.t std a0 s
def vec_Right.w : List Value → St → Option Value
  | [a0], s => vec_Right.r a0 s
  | _, _ => none
def vec_Right.an : An := ⟨19, true, [1], [], [], [(1, [(0, 0, [], []), (1, 9, [], []), (2, 0, [], []), (3, 0, [], []), (4, 0, [], []), (5, 9, [], []), (6, 0, [], []), (7, 0, [], []), (8, 0, [], []), (9, 0, [], []), (10, 9, [], []), (11, 0, [], []), (12, 9, [], []), (13, 3, [], []), (14, 0, [], []), (15, 0, [], [])])]⟩
theorem vec_Right.ok (S : Sig) (a0 : Value) (s : St) : evG S Try.prog vec_Right.ctx vec_Right.an Try.f33 [a0] s = vec_Right.t S a0 s := by kernel_rfl
theorem vec_Right.cok : CtxOk Try.prog vec_Right.ctx := .cons vec_low.sound vec_low.can <| .nil
theorem vec_Right.draws : fnDraws vec_Right.an Try.f33 = true := by kernel_rfl
theorem vec_Right.can : callOk Try.prog 33 = true := by kernel_rfl
theorem vec_Right.sound : FnOk Try.prog 33 (.rd vec_Right.w) := FnOk.rd_of (evG_ok vec_Right.cok mixed (f := 33) (fn := Try.f33) (by kernel_rfl) vec_Right.draws) fun args s r h => by
  unfold vec_Right.w at h; split at h
  · rw [vec_Right.ok std]; exact h
  · simp at h

/-! ### leapfrog/vec.prefix: function 66 -/
def vec_prefix.ctx : Ctx := []
def vec_prefix.t (S : Sig) (a0 a1 : Value) (s : St) : Option Value :=
  S.bd (bx a0) fun c1 => S.bd (bx (Go.Value.agg #[(Go.Value.int Go.IntKind.i64 0), (Go.Value.int Go.IntKind.u64 0)])) fun c2 => S.bd (lcl c1 1) fun x3 => S.bd (lcl c1 0) fun x4 => S.bd (bin .sub x4 a1) fun x5 => S.bd (cvi .u64 x5) fun x6 => S.bd (bin .shr x3 x6) fun x7 => S.bd (bld [(Go.Value.int Go.IntKind.i64 0), (Go.Value.int Go.IntKind.u64 0)] [(0, 1, a1), (1, 1, x7)]) fun x8 => S.bd (stl c2 0 2 x8) fun c9 => S.bd (lal c9 0 2) fun x10 => some (x10)
def vec_prefix.r (a0 a1 : Value) (s : St) : Option Value := vec_prefix.t std a0 a1 s
def vec_prefix.w : List Value → St → Option Value
  | [a0, a1], s => vec_prefix.r a0 a1 s
  | _, _ => none
def vec_prefix.an : An := ⟨15, true, [2, 4], [], [], []⟩
theorem vec_prefix.ok (S : Sig) (a0 a1 : Value) (s : St) : evG S Try.prog vec_prefix.ctx vec_prefix.an Try.f66 [a0, a1] s = vec_prefix.t S a0 a1 s := by kernel_rfl
theorem vec_prefix.cok : CtxOk Try.prog vec_prefix.ctx := .nil
theorem vec_prefix.draws : fnDraws vec_prefix.an Try.f66 = true := by kernel_rfl
theorem vec_prefix.can : callOk Try.prog 66 = true := by kernel_rfl
theorem vec_prefix.sound : FnOk Try.prog 66 (.rd vec_prefix.w) := FnOk.rd_of (evG_ok vec_prefix.cok mixed (f := 66) (fn := Try.f66) (by kernel_rfl) vec_prefix.draws) fun args s r h => by
  unfold vec_prefix.w at h; split at h
  · rw [vec_prefix.ok std]; exact h
  · simp at h

/-! ### leapfrog/vec.Begins: function 34 -/
def vec_Begins.ctx : Ctx := [(33, .rd vec_Right.w), (66, .rd vec_prefix.w)]
def vec_Begins.t (S : Sig) (a0 a1 : Value) (s : St) : Option Value :=
  S.bd (bx a0) fun c1 => S.bd (bx a1) fun c2 => S.bd (lal c1 0 2) fun x3 => S.bd (vec_Right.r x3 s) fun x4 => S.bd (eqb [1] false false x4 (Go.Value.int Go.IntKind.i64 0)) fun x5 => S.bd (S.gd x5 true (lal c2 0 2)) fun x6 => S.bd (S.gd x5 true (vec_Right.r x6 s)) fun x7 => S.bd (S.gd x5 true (eqb [1] false false x7 (Go.Value.int Go.IntKind.i64 0))) fun x8 => S.bd (pik x5 x8 (Go.Value.bool Bool.false)) fun x9 => S.bd (S.gd x9 true (lcl c2 0)) fun x10 => S.bd (S.gd x9 true (lcl c1 0)) fun x11 => S.bd (S.gd x9 true (bin .leq x10 x11)) fun x12 => S.bd (pik x9 x12 (Go.Value.bool Bool.false)) fun x13 => S.bd (S.gd x13 true (lal c1 0 2)) fun x14 => S.bd (S.gd x13 true (lcl c2 0)) fun x15 => S.bd (S.gd x13 true (lal c2 0 2)) fun x16 => S.bd (S.gd x13 true (vec_prefix.r x14 x15 s)) fun x17 => S.bd (S.gd x13 true (eqb [1, 1] true false x17 x16)) fun x18 => S.bd (pik x13 x18 (Go.Value.bool Bool.false)) fun x19 => some (x19)
def vec_Begins.r (a0 a1 : Value) (s : St) : Option Value := vec_Begins.t std a0 a1 s
def vec_Begins.w : List Value → St → Option Value
  | [a0, a1], s => vec_Begins.r a0 a1 s
  | _, _ => none
def vec_Begins.an : An := ⟨28, true, [2, 3], [], [], [(1, [(0, 17, [], []), (1, 3, [], []), (2, 0, [], []), (3, 0, [], []), (4, 25, [], []), (5, 3, [], []), (6, 0, [], []), (7, 0, [], []), (8, 0, [], []), (9, 0, [], []), (10, 25, [], []), (11, 0, [], []), (12, 17, [], []), (13, 0, [], []), (14, 0, [], []), (15, 0, [], []), (16, 17, [], []), (17, 0, [], []), (18, 25, [], []), (20, 25, [], []), (19, 3, [], []), (21, 0, [], []), (22, 0, [], []), (23, 0, [], [])])]⟩
theorem vec_Begins.ok (S : Sig) (a0 a1 : Value) (s : St) : evG S Try.prog vec_Begins.ctx vec_Begins.an Try.f34 [a0, a1] s = vec_Begins.t S a0 a1 s := by kernel_rfl
theorem vec_Begins.cok : CtxOk Try.prog vec_Begins.ctx := .cons vec_Right.sound vec_Right.can <| .cons vec_prefix.sound vec_prefix.can <| .nil
theorem vec_Begins.draws : fnDraws vec_Begins.an Try.f34 = true := by kernel_rfl
theorem vec_Begins.can : callOk Try.prog 34 = true := by kernel_rfl
theorem vec_Begins.sound : FnOk Try.prog 34 (.rd vec_Begins.w) := FnOk.rd_of (evG_ok vec_Begins.cok mixed (f := 34) (fn := Try.f34) (by kernel_rfl) vec_Begins.draws) fun args s r h => by
  unfold vec_Begins.w at h; split at h
  · rw [vec_Begins.ok std]; exact h
  · simp at h

/-! ### leapfrog/key.Check: function 35 -/
def key_Check.ctx : Ctx := []
def key_Check.t (S : Sig) (a0 : Value) (s : St) : Option Value :=
  S.bd (bx a0) fun c1 => S.bd (lcl c1 0) fun x2 => S.bd (eqb [1] false false x2 (Go.Value.int Go.IntKind.i64 2)) fun x3 => S.bd (S.gd x3 false (lcl c1 0)) fun x4 => S.bd (S.gd x3 false (eqb [1] false false x4 (Go.Value.int Go.IntKind.i64 1))) fun x5 => S.bd (S.gd x3 false (some x5)) fun x6 => S.bd (S.gd x6 false (lcl c1 0)) fun x7 => S.bd (S.gd x6 false (eqb [1] false false x7 (Go.Value.int Go.IntKind.i64 3))) fun x8 => S.bd (S.gd x3 false (pik x6 (Go.Value.bool Bool.true) x8)) fun x9 => S.bd (S.gd x3 false (some x9)) fun x10 => S.bd (S.gd x10 true (lcl c1 1)) fun x11 => S.bd (S.gd x10 true (eqb [1] false false x11 (Go.Value.int Go.IntKind.u64 0))) fun x12 => S.bd (S.gd x3 false (pik x10 x12 (Go.Value.bool Bool.false))) fun x13 => S.bd (pik x3 (Go.Value.bool Bool.true) x13) fun x14 => S.cnd x14 (some ((Go.Value.int Go.IntKind.i64 0))) (some ((Go.Value.int Go.IntKind.i64 20)))
def key_Check.r (a0 : Value) (s : St) : Option Value := key_Check.t std a0 s
def key_Check.w : List Value → St → Option Value
  | [a0], s => key_Check.r a0 s
  | _, _ => none
def key_Check.an : An := ⟨21, true, [1], [], [], []⟩
theorem key_Check.ok (S : Sig) (a0 : Value) (s : St) : evG S Try.prog key_Check.ctx key_Check.an Try.f35 [a0] s = key_Check.t S a0 s := by kernel_rfl
theorem key_Check.cok : CtxOk Try.prog key_Check.ctx := .nil
theorem key_Check.draws : fnDraws key_Check.an Try.f35 = true := by kernel_rfl
theorem key_Check.can : callOk Try.prog 35 = true := by kernel_rfl
theorem key_Check.sound : FnOk Try.prog 35 (.rd key_Check.w) := FnOk.rd_of (evG_ok key_Check.cok mixed (f := 35) (fn := Try.f35) (by kernel_rfl) key_Check.draws) fun args s r h => by
  unfold key_Check.w at h; split at h
  · rw [key_Check.ok std]; exact h
  · simp at h

/-! ### leapfrog/lock.Check: function 36 -/
def lock_Check.ctx : Ctx := []
def lock_Check.t (S : Sig) (a0 : Value) (s : St) : Option Value :=
  S.bd (bx a0) fun c1 => S.bd (lcl c1 0) fun x2 => S.bd (bin .lss x2 (Go.Value.int Go.IntKind.i64 0)) fun x3 => S.bd (S.gd x3 false (lcl c1 0)) fun x4 => S.bd (S.gd x3 false (bin .geq x4 (Go.Value.int Go.IntKind.i64 1024))) fun x5 => S.bd (pik x3 (Go.Value.bool Bool.true) x5) fun x6 => S.bd (S.gd x6 false (lcl c1 1)) fun x7 => S.bd (S.gd x6 false (bin .lss x7 (Go.Value.int Go.IntKind.i64 1))) fun x8 => S.bd (pik x6 (Go.Value.bool Bool.true) x8) fun x9 => S.bd (S.gd x9 false (lcl c1 1)) fun x10 => S.bd (S.gd x9 false (bin .gtr x10 (Go.Value.int Go.IntKind.i64 1073741824))) fun x11 => S.bd (pik x9 (Go.Value.bool Bool.true) x11) fun x12 => S.cnd x12 (some ((Go.Value.int Go.IntKind.i64 70))) (some ((Go.Value.int Go.IntKind.i64 0)))
def lock_Check.r (a0 : Value) (s : St) : Option Value := lock_Check.t std a0 s
def lock_Check.w : List Value → St → Option Value
  | [a0], s => lock_Check.r a0 s
  | _, _ => none
def lock_Check.an : An := ⟨21, true, [1], [], [], []⟩
theorem lock_Check.ok (S : Sig) (a0 : Value) (s : St) : evG S Try.prog lock_Check.ctx lock_Check.an Try.f36 [a0] s = lock_Check.t S a0 s := by kernel_rfl
theorem lock_Check.cok : CtxOk Try.prog lock_Check.ctx := .nil
theorem lock_Check.draws : fnDraws lock_Check.an Try.f36 = true := by kernel_rfl
theorem lock_Check.can : callOk Try.prog 36 = true := by kernel_rfl
theorem lock_Check.sound : FnOk Try.prog 36 (.rd lock_Check.w) := FnOk.rd_of (evG_ok lock_Check.cok mixed (f := 36) (fn := Try.f36) (by kernel_rfl) lock_Check.draws) fun args s r h => by
  unfold lock_Check.w at h; split at h
  · rw [lock_Check.ok std]; exact h
  · simp at h

/-! ### leapfrog/mend.New: function 14 -/
def mend_New.ctx : Ctx := [(33, .rd vec_Right.w), (34, .rd vec_Begins.w), (35, .rd key_Check.w), (36, .rd lock_Check.w)]
def mend_New.t.p1 (S : Sig) (x45 : Value) (x28 : Value) (r1 : Value × St) : Option (Value × St) :=
  S.bd (S.gd x45 false (some x28)) fun x46 => S.bd (S.gd x45 false (un .not x46)) fun x47 => S.bd (pik x45 (Go.Value.bool Bool.true) x47) fun x48 => S.bd (S.gd x48 false (fld 7 r1.1)) fun x49 => S.bd (S.gd x48 false (lda r1.2 2 x49)) fun x50 => S.bd (S.gd x48 false (lock_Check.r x50 r1.2)) fun x51 => S.bd (S.gd x48 false (eqb [1] false true x51 (Go.Value.int Go.IntKind.i64 0))) fun x52 => S.bd (pik x48 (Go.Value.bool Bool.true) x52) fun x53 => S.cnd x53 (some ((Value.tuple ⟨[(Go.Value.pointer Option.none), (Go.Value.int Go.IntKind.i64 200)]⟩), r1.2)) (S.bd (lda r1.2 9 r1.1) fun x54 => S.bd (bld [(Go.Value.int Go.IntKind.i64 0), (Go.Value.int Go.IntKind.u64 0), (Go.Value.int Go.IntKind.i64 0), (Go.Value.int Go.IntKind.i64 0), (Go.Value.int Go.IntKind.u64 0), (Go.Value.int Go.IntKind.i64 0), (Go.Value.int Go.IntKind.u64 0), (Go.Value.int Go.IntKind.i64 0), (Go.Value.int Go.IntKind.i64 0), (Go.Value.int Go.IntKind.i64 0), (Go.Value.int Go.IntKind.i64 0), (Go.Value.int Go.IntKind.i64 0), (Go.Value.int Go.IntKind.u64 0), (Go.Value.int Go.IntKind.i64 0), (Go.Value.int Go.IntKind.u64 0), (Go.Value.int Go.IntKind.i64 0), (Go.Value.int Go.IntKind.u64 0), (Go.Value.bool Bool.false), Go.Value.nilFunc, (Go.Value.int Go.IntKind.i64 0), (Go.Value.int Go.IntKind.u64 0), (Go.Value.slice Option.none 0 0), (Go.Value.slice Option.none 0 0), (Go.Value.int Go.IntKind.i64 0), (Go.Value.int Go.IntKind.i64 0), (Go.Value.int Go.IntKind.u64 0), (Go.Value.int Go.IntKind.i64 0), (Go.Value.int Go.IntKind.u64 0), (Go.Value.int Go.IntKind.i64 0), (Go.Value.int Go.IntKind.i64 0), (Go.Value.int Go.IntKind.u64 0), (Go.Value.int Go.IntKind.i64 0), (Go.Value.int Go.IntKind.u64 0), (Go.Value.bool Bool.false)] [(0, 9, x54), (9, 1, (Go.Value.int Go.IntKind.i64 1))]) fun x55 => S.bd (alv r1.2 x55) fun r56 => S.bd (nck r56.1) fun x57 => S.bd (fld 18 x57) fun x58 => S.bd (stv r56.2 1 x58 (Value.func (.func 37) ⟨[]⟩ ⟨[r1.1]⟩)) fun s59 => some ((Value.tuple ⟨[r56.1, (Go.Value.int Go.IntKind.i64 0)]⟩), s59))

def mend_New.t.p2 (S : Sig) (x6 : Value) (x9 : Value) (r1 : Value × St) : Option (Value × St) :=
  S.bd (S.gd x6 true (vec_Right.r x9 r1.2)) fun x10 => S.bd (S.gd x6 true (eqb [1] false false x10 (Go.Value.int Go.IntKind.i64 0))) fun x11 => S.bd (pik x6 x11 (Go.Value.bool Bool.false)) fun x12 => S.bd (S.gd x12 true (fld 0 r1.1)) fun x13 => S.bd (S.gd x12 true (fld 0 x13)) fun x14 => S.bd (S.gd x12 true (ldc r1.2 x14)) fun x15 => S.bd (S.gd x12 true (fld 2 r1.1)) fun x16 => S.bd (S.gd x12 true (fld 3 x16)) fun x17 => S.bd (S.gd x12 true (fld 0 x17)) fun x18 => S.bd (S.gd x12 true (ldc r1.2 x18)) fun x19 => S.bd (S.gd x12 true (bin .leq x15 x19)) fun x20 => S.bd (pik x12 x20 (Go.Value.bool Bool.false)) fun x21 => S.bd (S.gd x21 false (fld 2 r1.1)) fun x22 => S.bd (S.gd x21 false (fld 3 x22)) fun x23 => S.bd (S.gd x21 false (lda r1.2 2 x23)) fun x24 => S.bd (S.gd x21 false (fld 0 r1.1)) fun x25 => S.bd (S.gd x21 false (lda r1.2 2 x25)) fun x26 => S.bd (S.gd x21 false (vec_Begins.r x24 x26 r1.2)) fun x27 => S.bd (pik x21 (Go.Value.bool Bool.true) x27) fun x28 => S.bd (fld 2 r1.1) fun x29 => S.bd (fld 1 x29) fun x30 => S.bd (lda r1.2 2 x30) fun x31 => S.bd (key_Check.r x31 r1.2) fun x32 => S.bd (eqb [1] false true x32 (Go.Value.int Go.IntKind.i64 0)) fun x33 => S.bd (S.gd x33 false (fld 2 r1.1)) fun x34 => S.bd (S.gd x33 false (fld 1 x34)) fun x35 => S.bd (S.gd x33 false (fld 0 x35)) fun x36 => S.bd (S.gd x33 false (ldc r1.2 x36)) fun x37 => S.bd (S.gd x33 false (eqb [1] false false x37 (Go.Value.int Go.IntKind.i64 3))) fun x38 => S.bd (pik x33 (Go.Value.bool Bool.true) x38) fun x39 => S.bd (fld 0 r1.1) fun x40 => S.bd (lda r1.2 2 x40) fun x41 => S.bd (vec_Right.r x41 r1.2) fun x42 => S.bd (eqb [1] false true x42 (Go.Value.int Go.IntKind.i64 0)) fun x43 => S.bd (S.gd x43 false (some x39)) fun x44 => S.bd (pik x43 (Go.Value.bool Bool.true) x44) fun x45 => mend_New.t.p1 S x45 x28 r1

def mend_New.t (S : Sig) (a0 : Value) (s : St) : Option (Value × St) :=
  S.bd (alv s a0) fun r1 => S.bd (fld 2 r1.1) fun x2 => S.bd (fld 1 x2) fun x3 => S.bd (fld 0 x3) fun x4 => S.bd (ldc r1.2 x4) fun x5 => S.bd (eqb [1] false false x5 (Go.Value.int Go.IntKind.i64 1)) fun x6 => S.bd (S.gd x6 true (fld 2 r1.1)) fun x7 => S.bd (S.gd x6 true (fld 3 x7)) fun x8 => S.bd (S.gd x6 true (lda r1.2 2 x8)) fun x9 => mend_New.t.p2 S x6 x9 r1
def mend_New.v (a0 : Value) (s : St) : Option (Value × St) := mend_New.t std a0 s
def mend_New.w : List Value → St → Option (Value × St)
  | [a0], s => mend_New.v a0 s
  | _, _ => none
def mend_New.an : An := ⟨76, false, [], [], [], []⟩
theorem mend_New.ok (S : Sig) (a0 : Value) (s : St) : evF S Try.prog mend_New.ctx mend_New.an Try.f14 [a0] s = mend_New.t S a0 s := by kernel_rfl
theorem mend_New.cok : CtxOk Try.prog mend_New.ctx := .cons vec_Right.sound vec_Right.can <| .cons vec_Begins.sound vec_Begins.can <| .cons key_Check.sound key_Check.can <| .cons lock_Check.sound lock_Check.can <| .nil
theorem mend_New.draws : fnDraws mend_New.an Try.f14 = true := by kernel_rfl
theorem mend_New.can : callOk Try.prog 14 = true := by kernel_rfl
theorem mend_New.sound : FnOk Try.prog 14 (.st mend_New.w) := FnOk.st_of (evF_ok mend_New.cok mixed (f := 14) (fn := Try.f14) (by kernel_rfl) mend_New.draws) fun args s r h => by
  unfold mend_New.w at h; split at h
  · rw [mend_New.ok std]; exact h
  · simp at h

/-! ### leapfrog/leapfrogref01.Power: function 61 -/
def leapfrogref01x_Power.ctx : Ctx := []
def leapfrogref01x_Power.l2 (S : Sig) (rec6 : List Value → St → Option Cut) (xs4 : List Value) (s5 : St) : Option Cut :=
  S.bd (bin .gtr (xs4.getD 0 undef) (Go.Value.int Go.IntKind.i64 0)) fun x7 => S.cnd x7 (S.bd (bin .mul (xs4.getD 1 undef) (Go.Value.int Go.IntKind.u64 2)) fun x8 => S.bd (bin .sub (xs4.getD 0 undef) (Go.Value.int Go.IntKind.i64 1)) fun x9 => rec6 [x9, x8] s5) (some (0, [(xs4.getD 1 undef)], s5))

def leapfrogref01x_Power.t (S : Sig) (a0 : Value) (s : St) : Option Value :=
  S.bd (S.it (leapfrogref01x_Power.l2 S) [a0, (Go.Value.int Go.IntKind.u64 1)] s) fun r10 => some ((r10.2.1.getD 0 undef))
def leapfrogref01x_Power.r (a0 : Value) (s : St) : Option Value := leapfrogref01x_Power.t std a0 s
def leapfrogref01x_Power.w : List Value → St → Option Value
  | [a0], s => leapfrogref01x_Power.r a0 s
  | _, _ => none
def leapfrogref01x_Power.an : An := ⟨11, true, [], [(2, ⟨[.v 0, .v 3], [(.exit 0, [.v 3])]⟩)], [], []⟩
theorem leapfrogref01x_Power.ok (S : Sig) (a0 : Value) (s : St) : evG S Try.prog leapfrogref01x_Power.ctx leapfrogref01x_Power.an Try.f61 [a0] s = leapfrogref01x_Power.t S a0 s := by kernel_rfl
theorem leapfrogref01x_Power.cok : CtxOk Try.prog leapfrogref01x_Power.ctx := .nil
theorem leapfrogref01x_Power.draws : fnDraws leapfrogref01x_Power.an Try.f61 = true := by kernel_rfl
theorem leapfrogref01x_Power.can : callOk Try.prog 61 = true := by kernel_rfl
theorem leapfrogref01x_Power.sound : FnOk Try.prog 61 (.rd leapfrogref01x_Power.w) := FnOk.rd_of (evG_ok leapfrogref01x_Power.cok mixed (f := 61) (fn := Try.f61) (by kernel_rfl) leapfrogref01x_Power.draws) fun args s r h => by
  unfold leapfrogref01x_Power.w at h; split at h
  · rw [leapfrogref01x_Power.ok std]; exact h
  · simp at h

/-! ### leapfrog/leapfrogref01.Right: function 24 -/
def leapfrogref01x_Right.ctx : Ctx := [(61, .rd leapfrogref01x_Power.w)]
def leapfrogref01x_Right.t (S : Sig) (a0 : Value) (s : St) : Option Value :=
  S.bd (bx a0) fun c1 => S.bd (lcl c1 0) fun x2 => S.bd (bin .geq x2 (Go.Value.int Go.IntKind.i64 0)) fun x3 => S.bd (S.gd x3 true (lcl c1 0)) fun x4 => S.bd (S.gd x3 true (bin .leq x4 (Go.Value.int Go.IntKind.i64 32))) fun x5 => S.bd (pik x3 x5 (Go.Value.bool Bool.false)) fun x6 => S.bd (S.gd x6 true (lcl c1 1)) fun x7 => S.bd (S.gd x6 true (lcl c1 0)) fun x8 => S.bd (S.gd x6 true (leapfrogref01x_Power.r x8 s)) fun x9 => S.bd (S.gd x6 true (bin .lss x7 x9)) fun x10 => S.bd (pik x6 x10 (Go.Value.bool Bool.false)) fun x11 => some (x11)
def leapfrogref01x_Right.r (a0 : Value) (s : St) : Option Value := leapfrogref01x_Right.t std a0 s
def leapfrogref01x_Right.w : List Value → St → Option Value
  | [a0], s => leapfrogref01x_Right.r a0 s
  | _, _ => none
def leapfrogref01x_Right.an : An := ⟨19, true, [1], [], [], [(1, [(0, 0, [], []), (1, 9, [], []), (2, 0, [], []), (3, 0, [], []), (4, 0, [], []), (5, 9, [], []), (6, 0, [], []), (7, 0, [], []), (8, 0, [], []), (9, 0, [], []), (10, 9, [], []), (11, 0, [], []), (12, 9, [], []), (13, 3, [], []), (14, 0, [], []), (15, 0, [], []), (16, 0, [], [])])]⟩
theorem leapfrogref01x_Right.ok (S : Sig) (a0 : Value) (s : St) : evG S Try.prog leapfrogref01x_Right.ctx leapfrogref01x_Right.an Try.f24 [a0] s = leapfrogref01x_Right.t S a0 s := by kernel_rfl
theorem leapfrogref01x_Right.cok : CtxOk Try.prog leapfrogref01x_Right.ctx := .cons leapfrogref01x_Power.sound leapfrogref01x_Power.can <| .nil
theorem leapfrogref01x_Right.draws : fnDraws leapfrogref01x_Right.an Try.f24 = true := by kernel_rfl
theorem leapfrogref01x_Right.can : callOk Try.prog 24 = true := by kernel_rfl
theorem leapfrogref01x_Right.sound : FnOk Try.prog 24 (.rd leapfrogref01x_Right.w) := FnOk.rd_of (evG_ok leapfrogref01x_Right.cok mixed (f := 24) (fn := Try.f24) (by kernel_rfl) leapfrogref01x_Right.draws) fun args s r h => by
  unfold leapfrogref01x_Right.w at h; split at h
  · rw [leapfrogref01x_Right.ok std]; exact h
  · simp at h

/-! ### leapfrog/leapfrogref03.IsKey: function 52 -/
def leapfrogref03x_IsKey.ctx : Ctx := []
def leapfrogref03x_IsKey.t (S : Sig) (a0 : Value) (s : St) : Option Value :=
  S.bd (bx a0) fun c1 => S.bd (lcl c1 0) fun x2 => S.bd (eqb [1] false false x2 (Go.Value.int Go.IntKind.i64 2)) fun x3 => S.bd (S.gd x3 false (lcl c1 1)) fun x4 => S.bd (S.gd x3 false (eqb [1] false false x4 (Go.Value.int Go.IntKind.u64 0))) fun x5 => S.bd (S.gd x3 false (some x5)) fun x6 => S.bd (S.gd x6 true (lcl c1 0)) fun x7 => S.bd (S.gd x6 true (eqb [1] false false x7 (Go.Value.int Go.IntKind.i64 1))) fun x8 => S.bd (S.gd x6 true (some x8)) fun x9 => S.bd (S.gd x9 false (lcl c1 0)) fun x10 => S.bd (S.gd x9 false (eqb [1] false false x10 (Go.Value.int Go.IntKind.i64 3))) fun x11 => S.bd (S.gd x6 true (pik x9 (Go.Value.bool Bool.true) x11)) fun x12 => S.bd (S.gd x3 false (pik x6 x12 (Go.Value.bool Bool.false))) fun x13 => S.bd (pik x3 (Go.Value.bool Bool.true) x13) fun x14 => some (x14)
def leapfrogref03x_IsKey.r (a0 : Value) (s : St) : Option Value := leapfrogref03x_IsKey.t std a0 s
def leapfrogref03x_IsKey.w : List Value → St → Option Value
  | [a0], s => leapfrogref03x_IsKey.r a0 s
  | _, _ => none
def leapfrogref03x_IsKey.an : An := ⟨21, true, [1], [], [], []⟩
theorem leapfrogref03x_IsKey.ok (S : Sig) (a0 : Value) (s : St) : evG S Try.prog leapfrogref03x_IsKey.ctx leapfrogref03x_IsKey.an Try.f52 [a0] s = leapfrogref03x_IsKey.t S a0 s := by kernel_rfl
theorem leapfrogref03x_IsKey.cok : CtxOk Try.prog leapfrogref03x_IsKey.ctx := .nil
theorem leapfrogref03x_IsKey.draws : fnDraws leapfrogref03x_IsKey.an Try.f52 = true := by kernel_rfl
theorem leapfrogref03x_IsKey.can : callOk Try.prog 52 = true := by kernel_rfl
theorem leapfrogref03x_IsKey.sound : FnOk Try.prog 52 (.rd leapfrogref03x_IsKey.w) := FnOk.rd_of (evG_ok leapfrogref03x_IsKey.cok mixed (f := 52) (fn := Try.f52) (by kernel_rfl) leapfrogref03x_IsKey.draws) fun args s r h => by
  unfold leapfrogref03x_IsKey.w at h; split at h
  · rw [leapfrogref03x_IsKey.ok std]; exact h
  · simp at h

/-! ### leapfrog/leapfrogref07.IsOwner: function 53 -/
def leapfrogref07x_IsOwner.ctx : Ctx := []
def leapfrogref07x_IsOwner.t (S : Sig) (a0 : Value) (s : St) : Option Value :=
  S.bd (bx a0) fun c1 => S.bd (lcl c1 0) fun x2 => S.bd (bin .geq x2 (Go.Value.int Go.IntKind.i64 0)) fun x3 => S.bd (S.gd x3 true (lcl c1 0)) fun x4 => S.bd (S.gd x3 true (bin .lss x4 (Go.Value.int Go.IntKind.i64 1024))) fun x5 => S.bd (pik x3 x5 (Go.Value.bool Bool.false)) fun x6 => S.bd (S.gd x6 true (lcl c1 1)) fun x7 => S.bd (S.gd x6 true (bin .geq x7 (Go.Value.int Go.IntKind.i64 1))) fun x8 => S.bd (pik x6 x8 (Go.Value.bool Bool.false)) fun x9 => S.bd (S.gd x9 true (lcl c1 1)) fun x10 => S.bd (S.gd x9 true (bin .leq x10 (Go.Value.int Go.IntKind.i64 1073741824))) fun x11 => S.bd (pik x9 x11 (Go.Value.bool Bool.false)) fun x12 => some (x12)
def leapfrogref07x_IsOwner.r (a0 : Value) (s : St) : Option Value := leapfrogref07x_IsOwner.t std a0 s
def leapfrogref07x_IsOwner.w : List Value → St → Option Value
  | [a0], s => leapfrogref07x_IsOwner.r a0 s
  | _, _ => none
def leapfrogref07x_IsOwner.an : An := ⟨21, true, [1], [], [], []⟩
theorem leapfrogref07x_IsOwner.ok (S : Sig) (a0 : Value) (s : St) : evG S Try.prog leapfrogref07x_IsOwner.ctx leapfrogref07x_IsOwner.an Try.f53 [a0] s = leapfrogref07x_IsOwner.t S a0 s := by kernel_rfl
theorem leapfrogref07x_IsOwner.cok : CtxOk Try.prog leapfrogref07x_IsOwner.ctx := .nil
theorem leapfrogref07x_IsOwner.draws : fnDraws leapfrogref07x_IsOwner.an Try.f53 = true := by kernel_rfl
theorem leapfrogref07x_IsOwner.can : callOk Try.prog 53 = true := by kernel_rfl
theorem leapfrogref07x_IsOwner.sound : FnOk Try.prog 53 (.rd leapfrogref07x_IsOwner.w) := FnOk.rd_of (evG_ok leapfrogref07x_IsOwner.cok mixed (f := 53) (fn := Try.f53) (by kernel_rfl) leapfrogref07x_IsOwner.draws) fun args s r h => by
  unfold leapfrogref07x_IsOwner.w at h; split at h
  · rw [leapfrogref07x_IsOwner.ok std]; exact h
  · simp at h

/-! ### leapfrog/leapfrogref01.Bits: function 28 -/
def leapfrogref01x_Bits.ctx : Ctx := []
def leapfrogref01x_Bits.l4 (S : Sig) (rec16 : List Value → St → Option Cut) (xs14 : List Value) (s15 : St) : Option Cut :=
  S.bd (bin .geq (xs14.getD 2 undef) (Go.Value.int Go.IntKind.i64 0)) fun x17 => S.cnd x17 (S.bd (bin .rem (xs14.getD 1 undef) (Go.Value.int Go.IntKind.u64 2)) fun x18 => S.bd (cvi .i64 x18) fun x19 => S.bd (idx s15 1 (xs14.getD 0 undef) (xs14.getD 2 undef)) fun x20 => S.bd (stv s15 1 x20 x19) fun s21 => S.bd (bin .quo (xs14.getD 1 undef) (Go.Value.int Go.IntKind.u64 2)) fun x22 => S.bd (bin .sub (xs14.getD 2 undef) (Go.Value.int Go.IntKind.i64 1)) fun x23 => rec16 [(xs14.getD 0 undef), x22, x23] s21) (some (0, [(xs14.getD 0 undef)], s15))

def leapfrogref01x_Bits.t (S : Sig) (a0 : Value) (s : St) : Option (Value × St) :=
  S.bd (bx a0) fun c1 => S.bd (lcl c1 0) fun x2 => S.bd (mks s 1 8 [(Go.Value.int Go.IntKind.i64 0)] x2 x2) fun r3 => S.bd (lcl c1 1) fun x4 => S.bd (lcl c1 0) fun x5 => S.bd (bin .sub x5 (Go.Value.int Go.IntKind.i64 1)) fun x6 => S.bd (S.it (leapfrogref01x_Bits.l4 S) [r3.1, x4, x6] r3.2) fun r24 => some ((r24.2.1.getD 0 undef), r24.2.2)
def leapfrogref01x_Bits.v (a0 : Value) (s : St) : Option (Value × St) := leapfrogref01x_Bits.t std a0 s
def leapfrogref01x_Bits.w : List Value → St → Option (Value × St)
  | [a0], s => leapfrogref01x_Bits.v a0 s
  | _, _ => none
def leapfrogref01x_Bits.an : An := ⟨27, false, [1], [(4, ⟨[.v 3, .v 4, .v 5], [(.exit 0, [.v 3])]⟩)], [], []⟩
theorem leapfrogref01x_Bits.ok (S : Sig) (a0 : Value) (s : St) : evF S Try.prog leapfrogref01x_Bits.ctx leapfrogref01x_Bits.an Try.f28 [a0] s = leapfrogref01x_Bits.t S a0 s := by kernel_rfl
theorem leapfrogref01x_Bits.cok : CtxOk Try.prog leapfrogref01x_Bits.ctx := .nil
theorem leapfrogref01x_Bits.draws : fnDraws leapfrogref01x_Bits.an Try.f28 = true := by kernel_rfl
theorem leapfrogref01x_Bits.can : callOk Try.prog 28 = true := by kernel_rfl
theorem leapfrogref01x_Bits.sound : FnOk Try.prog 28 (.st leapfrogref01x_Bits.w) := FnOk.st_of (evF_ok leapfrogref01x_Bits.cok mixed (f := 28) (fn := Try.f28) (by kernel_rfl) leapfrogref01x_Bits.draws) fun args s r h => by
  unfold leapfrogref01x_Bits.w at h; split at h
  · rw [leapfrogref01x_Bits.ok std]; exact h
  · simp at h

/-! ### leapfrog/leapfrogref01.common: function 81 -/
def leapfrogref01x_common.ctx : Ctx := []
def leapfrogref01x_common.l2 (S : Sig) (rec21 : List Value → St → Option Cut) (xs19 : List Value) (s20 : St) : Option Cut :=
  S.bd (lenL (xs19.getD 0 undef)) fun x22 => S.bd (bin .lss (xs19.getD 2 undef) x22) fun x23 => S.bd (S.gd x23 true (some (xs19.getD 2 undef))) fun x24 => S.bd (S.gd x23 true (some (xs19.getD 1 undef))) fun x25 => S.bd (S.gd x23 true (lenL x25)) fun x26 => S.bd (S.gd x23 true (bin .lss x24 x26)) fun x27 => S.bd (pik x23 x27 (Go.Value.bool Bool.false)) fun x28 => S.bd (S.gd x28 true (some (xs19.getD 0 undef))) fun x29 => S.bd (S.gd x28 true (some (xs19.getD 2 undef))) fun x30 => S.bd (S.gd x28 true (idx s20 1 x29 x30)) fun x31 => S.bd (S.gd x28 true (ldc s20 x31)) fun x32 => S.bd (S.gd x28 true (some (xs19.getD 1 undef))) fun x33 => S.bd (S.gd x28 true (some (xs19.getD 2 undef))) fun x34 => S.bd (S.gd x28 true (idx s20 1 x33 x34)) fun x35 => S.bd (S.gd x28 true (ldc s20 x35)) fun x36 => S.bd (S.gd x28 true (eqb [1] false false x32 x36)) fun x37 => S.bd (pik x28 x37 (Go.Value.bool Bool.false)) fun x38 => S.cnd x38 (S.bd (bin .add (xs19.getD 2 undef) (Go.Value.int Go.IntKind.i64 1)) fun x39 => rec21 [(xs19.getD 0 undef), (xs19.getD 1 undef), x39] s20) (some (0, [(xs19.getD 2 undef)], s20))

def leapfrogref01x_common.t (S : Sig) (a0 a1 : Value) (s : St) : Option Value :=
  S.bd (S.it (leapfrogref01x_common.l2 S) [a0, a1, (Go.Value.int Go.IntKind.i64 0)] s) fun r40 => some ((r40.2.1.getD 0 undef))
def leapfrogref01x_common.r (a0 a1 : Value) (s : St) : Option Value := leapfrogref01x_common.t std a0 a1 s
def leapfrogref01x_common.w : List Value → St → Option Value
  | [a0, a1], s => leapfrogref01x_common.r a0 a1 s
  | _, _ => none
def leapfrogref01x_common.an : An := ⟨30, true, [], [(2, ⟨[.v 0, .v 1, .v 5], [(.exit 0, [.v 5])]⟩)], [], [(2, [(0, 0, [], []), (1, 0, [], []), (2, 2, [], []), (3, 0, [], []), (4, 0, [], []), (5, 0, [], []), (6, 0, [], []), (7, 2, [], []), (8, 0, [], []), (9, 0, [], []), (10, 0, [], []), (11, 0, [], []), (12, 0, [], []), (13, 2, [], []), (14, 2, [], []), (15, 0, [], []), (16, 0, [], []), (17, 2, [], []), (18, 2, [], []), (19, 0, [], []), (20, 0, [], [])])]⟩
theorem leapfrogref01x_common.ok (S : Sig) (a0 a1 : Value) (s : St) : evG S Try.prog leapfrogref01x_common.ctx leapfrogref01x_common.an Try.f81 [a0, a1] s = leapfrogref01x_common.t S a0 a1 s := by kernel_rfl
theorem leapfrogref01x_common.cok : CtxOk Try.prog leapfrogref01x_common.ctx := .nil
theorem leapfrogref01x_common.draws : fnDraws leapfrogref01x_common.an Try.f81 = true := by kernel_rfl
theorem leapfrogref01x_common.can : callOk Try.prog 81 = true := by kernel_rfl
theorem leapfrogref01x_common.sound : FnOk Try.prog 81 (.rd leapfrogref01x_common.w) := FnOk.rd_of (evG_ok leapfrogref01x_common.cok mixed (f := 81) (fn := Try.f81) (by kernel_rfl) leapfrogref01x_common.draws) fun args s r h => by
  unfold leapfrogref01x_common.w at h; split at h
  · rw [leapfrogref01x_common.ok std]; exact h
  · simp at h

/-! ### leapfrog/leapfrogref01.Begins: function 54 -/
def leapfrogref01x_Begins.ctx : Ctx := [(24, .rd leapfrogref01x_Right.w), (28, .st leapfrogref01x_Bits.w), (81, .rd leapfrogref01x_common.w)]
def leapfrogref01x_Begins.t (S : Sig) (a0 a1 : Value) (s : St) : Option (Value × St) :=
  S.bd (bx a0) fun c1 => S.bd (bx a1) fun c2 => S.bd (lal c1 0 2) fun x3 => S.bd (leapfrogref01x_Right.r x3 s) fun x4 => S.bd (S.gd x4 true (lal c2 0 2)) fun x5 => S.bd (S.gd x4 true (leapfrogref01x_Right.r x5 s)) fun x6 => S.bd (pik x4 x6 (Go.Value.bool Bool.false)) fun x7 => S.bd (S.gd x7 true (lal c1 0 2)) fun x8 => S.bd (S.gd x7 true (lal c2 0 2)) fun x9 => S.bd (S.gd x7 true (lcl c2 0)) fun x10 => S.bd (S.gdS x7 true (leapfrogref01x_Bits.v x8 s) s) fun r11 => S.bd (S.gdS x7 true (leapfrogref01x_Bits.v x9 r11.2) r11.2) fun r12 => S.bd (S.gd x7 true (leapfrogref01x_common.r r11.1 r12.1 r12.2)) fun x13 => S.bd (S.gd x7 true (eqb [1] false false x13 x10)) fun x14 => S.bd (pik x7 x14 (Go.Value.bool Bool.false)) fun x15 => some (x15, r12.2)
def leapfrogref01x_Begins.v (a0 a1 : Value) (s : St) : Option (Value × St) := leapfrogref01x_Begins.t std a0 a1 s
def leapfrogref01x_Begins.w : List Value → St → Option (Value × St)
  | [a0, a1], s => leapfrogref01x_Begins.v a0 a1 s
  | _, _ => none
def leapfrogref01x_Begins.an : An := ⟨21, false, [2, 3], [], [], [(1, [(0, 17, [], []), (1, 3, [], []), (2, 0, [], []), (3, 25, [], []), (4, 3, [], []), (5, 0, [], []), (6, 0, [], []), (7, 17, [], []), (9, 25, [], []), (12, 0, [], []), (13, 25, [], []), (8, 4, [], []), (10, 4, [], []), (11, 3, [], []), (14, 0, [], []), (15, 0, [], []), (16, 0, [], [])])]⟩
theorem leapfrogref01x_Begins.ok (S : Sig) (a0 a1 : Value) (s : St) : evF S Try.prog leapfrogref01x_Begins.ctx leapfrogref01x_Begins.an Try.f54 [a0, a1] s = leapfrogref01x_Begins.t S a0 a1 s := by kernel_rfl
theorem leapfrogref01x_Begins.cok : CtxOk Try.prog leapfrogref01x_Begins.ctx := .cons leapfrogref01x_Right.sound leapfrogref01x_Right.can <| .cons leapfrogref01x_Bits.sound leapfrogref01x_Bits.can <| .cons leapfrogref01x_common.sound leapfrogref01x_common.can <| .nil
theorem leapfrogref01x_Begins.draws : fnDraws leapfrogref01x_Begins.an Try.f54 = true := by kernel_rfl
theorem leapfrogref01x_Begins.can : callOk Try.prog 54 = true := by kernel_rfl
theorem leapfrogref01x_Begins.sound : FnOk Try.prog 54 (.st leapfrogref01x_Begins.w) := FnOk.st_of (evF_ok leapfrogref01x_Begins.cok mixed (f := 54) (fn := Try.f54) (by kernel_rfl) leapfrogref01x_Begins.draws) fun args s r h => by
  unfold leapfrogref01x_Begins.w at h; split at h
  · rw [leapfrogref01x_Begins.ok std]; exact h
  · simp at h

/-! ### leapfrog/leapfrogref01.Begins: function 54, as a reading -/
def leapfrogref01x_BeginsQ.r (a0 a1 : Value) (s : St) : Option Value := frzR (fun s => leapfrogref01x_Begins.v a0 a1 s) s
def leapfrogref01x_BeginsQ.w : List Value → St → Option Value := fun args s => frzR (leapfrogref01x_Begins.w args) s
theorem leapfrogref01x_BeginsQ.can : callOk Try.prog 54 = true := leapfrogref01x_Begins.can
theorem leapfrogref01x_BeginsQ.sound : FnOk Try.prog 54 (.rd leapfrogref01x_BeginsQ.w) := FnOk.frozen leapfrogref01x_Begins.sound

/-! ### leapfrog/leapfrogref20.New: function 19 -/
def leapfrogref20x_New.ctx : Ctx := [(24, .rd leapfrogref01x_Right.w), (52, .rd leapfrogref03x_IsKey.w), (53, .rd leapfrogref07x_IsOwner.w), (54, .rd leapfrogref01x_BeginsQ.w)]
def leapfrogref20x_New.t.p1 (S : Sig) (c1 : List Value) (s : St) : Option (Value × St) :=
  S.bd (lal c1 5 2) fun x20 => S.bd (lal c1 0 2) fun x21 => S.bd (leapfrogref01x_BeginsQ.r x20 x21 s) fun x22 => S.bd (un .not x22) fun x23 => S.bd (S.gd x23 true (lcl c1 3)) fun x24 => S.bd (S.gd x23 true (eqb [1] false true x24 (Go.Value.int Go.IntKind.i64 1))) fun x25 => S.bd (S.gd x23 true (some x25)) fun x26 => S.bd (S.gd x26 false (lcl c1 0)) fun x27 => S.bd (S.gd x26 false (lcl c1 5)) fun x28 => S.bd (S.gd x26 false (bin .gtr x27 x28)) fun x29 => S.bd (S.gd x23 true (pik x26 (Go.Value.bool Bool.true) x29)) fun x30 => S.bd (pik x23 x30 (Go.Value.bool Bool.false)) fun x31 => S.cnd x31 (some ((Value.tuple ⟨[(Go.Value.pointer Option.none), (Go.Value.int Go.IntKind.i64 200)]⟩), s)) (S.bd (lal c1 0 9) fun x32 => S.bd (bld [(Go.Value.int Go.IntKind.i64 0), (Go.Value.int Go.IntKind.u64 0), (Go.Value.int Go.IntKind.i64 0), (Go.Value.int Go.IntKind.i64 0), (Go.Value.int Go.IntKind.u64 0), (Go.Value.int Go.IntKind.i64 0), (Go.Value.int Go.IntKind.u64 0), (Go.Value.int Go.IntKind.i64 0), (Go.Value.int Go.IntKind.i64 0), (Go.Value.int Go.IntKind.i64 0), (Go.Value.int Go.IntKind.i64 0), (Go.Value.int Go.IntKind.i64 0), (Go.Value.int Go.IntKind.u64 0), (Go.Value.int Go.IntKind.i64 0), (Go.Value.int Go.IntKind.u64 0), (Go.Value.int Go.IntKind.i64 0), (Go.Value.int Go.IntKind.u64 0), (Go.Value.bool Bool.false), (Go.Value.int Go.IntKind.i64 0), (Go.Value.int Go.IntKind.u64 0), (Go.Value.slice Option.none 0 0), (Go.Value.slice Option.none 0 0), (Go.Value.int Go.IntKind.i64 0), (Go.Value.int Go.IntKind.i64 0), (Go.Value.int Go.IntKind.u64 0), (Go.Value.int Go.IntKind.i64 0), (Go.Value.int Go.IntKind.u64 0), (Go.Value.int Go.IntKind.i64 0), (Go.Value.int Go.IntKind.i64 0), (Go.Value.int Go.IntKind.u64 0), (Go.Value.int Go.IntKind.i64 0), (Go.Value.int Go.IntKind.u64 0), (Go.Value.bool Bool.false)] [(0, 9, x32), (9, 1, (Go.Value.int Go.IntKind.i64 1))]) fun x33 => S.bd (alv s x33) fun r34 => some ((Value.tuple ⟨[r34.1, (Go.Value.int Go.IntKind.i64 0)]⟩), r34.2))

def leapfrogref20x_New.t (S : Sig) (a0 : Value) (s : St) : Option (Value × St) :=
  S.bd (bx a0) fun c1 => S.bd (lal c1 0 2) fun x2 => S.bd (leapfrogref01x_Right.r x2 s) fun x3 => S.bd (un .not x3) fun x4 => S.bd (S.gd x4 false (lal c1 5 2)) fun x5 => S.bd (S.gd x4 false (leapfrogref01x_Right.r x5 s)) fun x6 => S.bd (S.gd x4 false (un .not x6)) fun x7 => S.bd (pik x4 (Go.Value.bool Bool.true) x7) fun x8 => S.bd (S.gd x8 false (lal c1 3 2)) fun x9 => S.bd (S.gd x8 false (leapfrogref03x_IsKey.r x9 s)) fun x10 => S.bd (S.gd x8 false (un .not x10)) fun x11 => S.bd (pik x8 (Go.Value.bool Bool.true) x11) fun x12 => S.bd (S.gd x12 false (lcl c1 3)) fun x13 => S.bd (S.gd x12 false (eqb [1] false false x13 (Go.Value.int Go.IntKind.i64 3))) fun x14 => S.bd (pik x12 (Go.Value.bool Bool.true) x14) fun x15 => S.bd (S.gd x15 false (lal c1 7 2)) fun x16 => S.bd (S.gd x15 false (leapfrogref07x_IsOwner.r x16 s)) fun x17 => S.bd (S.gd x15 false (un .not x17)) fun x18 => S.bd (pik x15 (Go.Value.bool Bool.true) x18) fun x19 => S.cnd x19 (some ((Value.tuple ⟨[(Go.Value.pointer Option.none), (Go.Value.int Go.IntKind.i64 200)]⟩), s)) (leapfrogref20x_New.t.p1 S c1 s)
def leapfrogref20x_New.v (a0 : Value) (s : St) : Option (Value × St) := leapfrogref20x_New.t std a0 s
def leapfrogref20x_New.w : List Value → St → Option (Value × St)
  | [a0], s => leapfrogref20x_New.v a0 s
  | _, _ => none
def leapfrogref20x_New.an : An := ⟨62, false, [1], [], [], []⟩
theorem leapfrogref20x_New.ok (S : Sig) (a0 : Value) (s : St) : evF S Try.prog leapfrogref20x_New.ctx leapfrogref20x_New.an Try.f19 [a0] s = leapfrogref20x_New.t S a0 s := by kernel_rfl
theorem leapfrogref20x_New.cok : CtxOk Try.prog leapfrogref20x_New.ctx := .cons leapfrogref01x_Right.sound leapfrogref01x_Right.can <| .cons leapfrogref03x_IsKey.sound leapfrogref03x_IsKey.can <| .cons leapfrogref07x_IsOwner.sound leapfrogref07x_IsOwner.can <| .cons leapfrogref01x_BeginsQ.sound leapfrogref01x_BeginsQ.can <| .nil
theorem leapfrogref20x_New.draws : fnDraws leapfrogref20x_New.an Try.f19 = true := by kernel_rfl
theorem leapfrogref20x_New.can : callOk Try.prog 19 = true := by kernel_rfl
theorem leapfrogref20x_New.sound : FnOk Try.prog 19 (.st leapfrogref20x_New.w) := FnOk.st_of (evF_ok leapfrogref20x_New.cok mixed (f := 19) (fn := Try.f19) (by kernel_rfl) leapfrogref20x_New.draws) fun args s r h => by
  unfold leapfrogref20x_New.w at h; split at h
  · rw [leapfrogref20x_New.ok std]; exact h
  · simp at h

/-! ### leapfrog/leapfrogref11.Check: function 6 -/
def leapfrogref11x_Check.ctx : Ctx := [(24, .rd leapfrogref01x_Right.w)]
def leapfrogref11x_Check.l10 (S : Sig) (rec93 : List Value → St → Option Cut) (xs91 : List Value) (s92 : St) : Option Cut :=
  S.bd (bin .lss (xs91.getD 3 undef) (xs91.getD 2 undef)) fun x94 => S.cnd x94 (S.bd (idx s92 5 (xs91.getD 1 undef) (xs91.getD 3 undef)) fun x95 => S.bd (fld 0 x95) fun x96 => S.bd (ldc s92 x96) fun x97 => S.bd (lcl (cellsA (xs91.getD 14 undef)) 0) fun x98 => S.bd (eqb [1] false false x97 x98) fun x99 => S.bd (S.gd x99 false (some (xs91.getD 1 undef))) fun x100 => S.bd (S.gd x99 false (some (xs91.getD 3 undef))) fun x101 => S.bd (S.gd x99 false (idx s92 5 x100 x101)) fun x102 => S.bd (S.gd x99 false (fld 1 x102)) fun x103 => S.bd (S.gd x99 false (lda s92 2 x103)) fun x104 => S.bd (S.gd x99 false (lal (cellsA (xs91.getD 14 undef)) 1 2)) fun x105 => S.bd (S.gd x99 false (eqb [1, 1] true false x104 x105)) fun x106 => S.bd (pik x99 (Go.Value.bool Bool.true) x106) fun x107 => S.cnd x107 (some (1, [(Go.Value.int Go.IntKind.i64 110)], s92)) (S.bd (bin .add (xs91.getD 3 undef) (Go.Value.int Go.IntKind.i64 1)) fun x108 => rec93 [(xs91.getD 0 undef), (xs91.getD 1 undef), (xs91.getD 2 undef), x108, (xs91.getD 4 undef), (xs91.getD 5 undef), (xs91.getD 6 undef), (xs91.getD 7 undef), (xs91.getD 8 undef), (xs91.getD 9 undef), (xs91.getD 10 undef), (xs91.getD 11 undef), (xs91.getD 12 undef), (xs91.getD 13 undef), (Value.agg ⟨(cellsA (xs91.getD 14 undef))⟩)] s92)) (some (0, [(xs91.getD 0 undef), (xs91.getD 1 undef), (xs91.getD 2 undef), (xs91.getD 4 undef), (xs91.getD 5 undef), (xs91.getD 6 undef), (xs91.getD 7 undef), (xs91.getD 8 undef), (xs91.getD 9 undef), (xs91.getD 10 undef), (xs91.getD 11 undef), (xs91.getD 12 undef), (xs91.getD 13 undef)], s92))

def leapfrogref11x_Check.l4 (S : Sig) (rec68 : List Value → St → Option Cut) (xs66 : List Value) (s67 : St) : Option Cut :=
  S.bd (lenL (xs66.getD 1 undef)) fun x69 => S.bd (bin .lss (xs66.getD 2 undef) x69) fun x70 => S.cnd x70 (S.bd (idx s67 5 (xs66.getD 1 undef) (xs66.getD 2 undef)) fun x71 => S.bd (lda s67 5 x71) fun x72 => S.bd (bx (Go.Value.agg #[(Go.Value.int Go.IntKind.i64 0), (Go.Value.int Go.IntKind.i64 0), (Go.Value.int Go.IntKind.u64 0), (Go.Value.int Go.IntKind.i64 0), (Go.Value.int Go.IntKind.u64 0)])) fun c73 => S.bd (stl c73 0 5 x72) fun c74 => S.bd (lcl c74 0) fun x75 => S.bd (bin .lss x75 (Go.Value.int Go.IntKind.i64 2)) fun x76 => S.bd (S.gd x76 false (lcl c74 0)) fun x77 => S.bd (S.gd x76 false (bin .geq x77 (Go.Value.int Go.IntKind.i64 1024))) fun x78 => S.bd (pik x76 (Go.Value.bool Bool.true) x78) fun x79 => S.bd (S.gd x79 false (lcl c74 1)) fun x80 => S.bd (S.gd x79 false (eqb [1] false true x80 (Go.Value.int Go.IntKind.i64 2))) fun x81 => S.bd (pik x79 (Go.Value.bool Bool.true) x81) fun x82 => S.bd (S.gd x82 false (lal c74 3 2)) fun x83 => S.bd (S.gd x82 false (leapfrogref01x_Right.r x83 s67)) fun x84 => S.bd (S.gd x82 false (un .not x84)) fun x85 => S.bd (pik x82 (Go.Value.bool Bool.true) x85) fun x86 => S.bd (S.gd x86 false (lcl c74 3)) fun x87 => S.bd (S.gd x86 false (some (xs66.getD 0 undef))) fun x88 => S.bd (S.gd x86 false (eqb [1] false true x87 x88)) fun x89 => S.bd (pik x86 (Go.Value.bool Bool.true) x89) fun x90 => S.cnd x90 (some (1, [(Go.Value.int Go.IntKind.i64 110)], s67)) (S.bd (S.it (leapfrogref11x_Check.l10 S) [(xs66.getD 0 undef), (xs66.getD 1 undef), (xs66.getD 2 undef), (Go.Value.int Go.IntKind.i64 0), x77, x78, x80, x81, x83, x84, x85, x87, x88, x89, (Value.agg ⟨c74⟩)] s67) fun r109 => if r109.1 = 0 then (S.bd (bin .add (r109.2.1.getD 2 undef) (Go.Value.int Go.IntKind.i64 1)) fun x110 => rec68 [(r109.2.1.getD 0 undef), (r109.2.1.getD 1 undef), x110] r109.2.2) else (some (1, [(r109.2.1.getD 0 undef)], r109.2.2)))) (some (0, [], s67))

def leapfrogref11x_Check.t (S : Sig) (a0 a1 : Value) (s : St) : Option Value :=
  S.bd (bin .lss a0 (Go.Value.int Go.IntKind.i64 0)) fun x1 => S.bd (S.gd x1 false (some a0)) fun x2 => S.bd (S.gd x1 false (bin .gtr x2 (Go.Value.int Go.IntKind.i64 32))) fun x3 => S.bd (pik x1 (Go.Value.bool Bool.true) x3) fun x4 => S.bd (S.gd x4 false (some a1)) fun x5 => S.bd (S.gd x4 false (lenL x5)) fun x6 => S.bd (S.gd x4 false (bin .gtr x6 (Go.Value.int Go.IntKind.i64 1022))) fun x7 => S.bd (pik x4 (Go.Value.bool Bool.true) x7) fun x8 => S.cnd x8 (some ((Go.Value.int Go.IntKind.i64 110))) (S.bd (S.it (leapfrogref11x_Check.l4 S) [a0, a1, (Go.Value.int Go.IntKind.i64 0)] s) fun r111 => if r111.1 = 0 then (some ((Go.Value.int Go.IntKind.i64 0))) else (some ((r111.2.1.getD 0 undef))))
def leapfrogref11x_Check.r (a0 a1 : Value) (s : St) : Option Value := leapfrogref11x_Check.t std a0 a1 s
def leapfrogref11x_Check.w : List Value → St → Option Value
  | [a0, a1], s => leapfrogref11x_Check.r a0 a1 s
  | _, _ => none
def leapfrogref11x_Check.an : An := ⟨79, true, [6], [(10, ⟨[.v 0, .v 1, .v 5, .p 6 6 0, .v 7, .v 34, .v 35, .v 40, .v 41, .v 45, .v 46, .v 47, .v 52, .v 53, .v 54, .l 6], [(.exit 2, [.v 0, .v 1, .v 5, .v 34, .v 35, .v 40, .v 41, .v 45, .v 46, .v 47, .v 52, .v 53, .v 54]), (.ret, [.v 4])]⟩), (4, ⟨[.v 0, .v 1, .v 5], [(.exit 0, []), (.ret, [.v 4])]⟩)], [], [(12, [(0, 0, [], []), (1, 0, [], []), (2, 2, [], []), (3, 0, [], []), (4, 2, [], []), (5, 0, [], []), (6, 49, [], []), (7, 0, [], []), (8, 0, [], []), (9, 0, [], []), (10, 0, [], []), (11, 2, [], []), (12, 0, [], []), (13, 2, [], []), (14, 0, [], []), (15, 49, [], []), (16, 0, [], []), (17, 0, [], [])])]⟩
theorem leapfrogref11x_Check.ok (S : Sig) (a0 a1 : Value) (s : St) : evG S Try.prog leapfrogref11x_Check.ctx leapfrogref11x_Check.an Try.f6 [a0, a1] s = leapfrogref11x_Check.t S a0 a1 s := by kernel_rfl
theorem leapfrogref11x_Check.cok : CtxOk Try.prog leapfrogref11x_Check.ctx := .cons leapfrogref01x_Right.sound leapfrogref01x_Right.can <| .nil
theorem leapfrogref11x_Check.draws : fnDraws leapfrogref11x_Check.an Try.f6 = true := by kernel_rfl
theorem leapfrogref11x_Check.can : callOk Try.prog 6 = true := by kernel_rfl
theorem leapfrogref11x_Check.sound : FnOk Try.prog 6 (.rd leapfrogref11x_Check.w) := FnOk.rd_of (evG_ok leapfrogref11x_Check.cok mixed (f := 6) (fn := Try.f6) (by kernel_rfl) leapfrogref11x_Check.draws) fun args s r h => by
  unfold leapfrogref11x_Check.w at h; split at h
  · rw [leapfrogref11x_Check.ok std]; exact h
  · simp at h

/-! ### leapfrog/leapfrogref01.Of: function 27 -/
def leapfrogref01x_Of.ctx : Ctx := []
def leapfrogref01x_Of.l3 (S : Sig) (rec18 : List Value → St → Option Cut) (xs16 : List Value) (s17 : St) : Option Cut :=
  S.bd (lenL (xs16.getD 0 undef)) fun x19 => S.bd (bin .lss (xs16.getD 1 undef) x19) fun x20 => S.cnd x20 (S.bd (lcl (cellsA (xs16.getD 3 undef)) 1) fun x21 => S.bd (bin .mul x21 (Go.Value.int Go.IntKind.u64 2)) fun x22 => S.bd (idx s17 1 (xs16.getD 0 undef) (xs16.getD 1 undef)) fun x23 => S.bd (ldc s17 x23) fun x24 => S.bd (cvi .u64 x24) fun x25 => S.bd (bin .add x22 x25) fun x26 => S.bd (stl (cellsA (xs16.getD 3 undef)) 1 1 x26) fun c27 => S.bd (bin .add (xs16.getD 1 undef) (Go.Value.int Go.IntKind.i64 1)) fun x28 => rec18 [(xs16.getD 0 undef), x28, (Value.agg ⟨(cellsA (xs16.getD 2 undef))⟩), (Value.agg ⟨c27⟩)] s17) (some (0, [(Value.agg ⟨(cellsA (xs16.getD 2 undef))⟩), (Value.agg ⟨(cellsA (xs16.getD 3 undef))⟩)], s17))

def leapfrogref01x_Of.t (S : Sig) (a0 : Value) (s : St) : Option Value :=
  S.bd (bx (Go.Value.agg #[(Go.Value.int Go.IntKind.i64 0), (Go.Value.int Go.IntKind.u64 0)])) fun c1 => S.bd (lenL a0) fun x2 => S.bd (bld [(Go.Value.int Go.IntKind.i64 0), (Go.Value.int Go.IntKind.u64 0)] [(0, 1, x2)]) fun x3 => S.bd (bx (Go.Value.agg #[(Go.Value.int Go.IntKind.i64 0), (Go.Value.int Go.IntKind.u64 0)])) fun c4 => S.bd (stl c4 0 2 x3) fun c5 => S.bd (S.it (leapfrogref01x_Of.l3 S) [a0, (Go.Value.int Go.IntKind.i64 0), (Value.agg ⟨c1⟩), (Value.agg ⟨c5⟩)] s) fun r29 => S.bd (lal (cellsA (r29.2.1.getD 1 undef)) 0 2) fun x30 => S.bd (stl (cellsA (r29.2.1.getD 0 undef)) 0 2 x30) fun c31 => S.bd (lal c31 0 2) fun x32 => some (x32)
def leapfrogref01x_Of.r (a0 : Value) (s : St) : Option Value := leapfrogref01x_Of.t std a0 s
def leapfrogref01x_Of.w : List Value → St → Option Value
  | [a0], s => leapfrogref01x_Of.r a0 s
  | _, _ => none
def leapfrogref01x_Of.an : An := ⟨25, true, [2, 3], [(3, ⟨[.v 0, .p 2 2 0, .p 3 3 0, .v 4, .l 2, .l 3], [(.exit 0, [.p 2 2 0, .p 3 3 0, .l 2, .l 3])]⟩)], [], [(5, [(0, 0, [], []), (1, 25, [], []), (2, 0, [], []), (3, 0, [], []), (4, 0, [], []), (5, 2, [], []), (6, 2, [], []), (7, 0, [], []), (8, 0, [], []), (9, 0, [], []), (10, 29, [], [])])]⟩
theorem leapfrogref01x_Of.ok (S : Sig) (a0 : Value) (s : St) : evG S Try.prog leapfrogref01x_Of.ctx leapfrogref01x_Of.an Try.f27 [a0] s = leapfrogref01x_Of.t S a0 s := by kernel_rfl
theorem leapfrogref01x_Of.cok : CtxOk Try.prog leapfrogref01x_Of.ctx := .nil
theorem leapfrogref01x_Of.draws : fnDraws leapfrogref01x_Of.an Try.f27 = true := by kernel_rfl
theorem leapfrogref01x_Of.can : callOk Try.prog 27 = true := by kernel_rfl
theorem leapfrogref01x_Of.sound : FnOk Try.prog 27 (.rd leapfrogref01x_Of.w) := FnOk.rd_of (evG_ok leapfrogref01x_Of.cok mixed (f := 27) (fn := Try.f27) (by kernel_rfl) leapfrogref01x_Of.draws) fun args s r h => by
  unfold leapfrogref01x_Of.w at h; split at h
  · rw [leapfrogref01x_Of.ok std]; exact h
  · simp at h

/-! ### leapfrog/leapfrogref01.Prefixes: function 83 -/
def leapfrogref01x_Prefixes.ctx : Ctx := [(24, .rd leapfrogref01x_Right.w), (28, .st leapfrogref01x_Bits.w), (27, .rd leapfrogref01x_Of.w)]
def leapfrogref01x_Prefixes.l6 (S : Sig) (rec16 : List Value → St → Option Cut) (xs14 : List Value) (s15 : St) : Option Cut :=
  S.bd (lenL (xs14.getD 1 undef)) fun x17 => S.bd (bin .leq (xs14.getD 2 undef) x17) fun x18 => S.cnd x18 (S.bd (slc s15 1 (xs14.getD 1 undef) none (some (xs14.getD 2 undef)) none) fun x19 => S.bd (leapfrogref01x_Of.r x19 s15) fun x20 => S.bd (S.bd (bls 2 (List.replicate 1 [(Go.Value.int Go.IntKind.i64 0), (Go.Value.int Go.IntKind.u64 0)]) [(0, x20)]) fun rows => als s15 2 1 rows) fun r21 => S.bd (app r21.2 2 16 (xs14.getD 0 undef) r21.1) fun r22 => S.bd (bin .add (xs14.getD 2 undef) (Go.Value.int Go.IntKind.i64 1)) fun x23 => rec16 [r22.1, (xs14.getD 1 undef), x23] r22.2) (some (0, [(xs14.getD 0 undef)], s15))

def leapfrogref01x_Prefixes.t (S : Sig) (a0 : Value) (s : St) : Option (Value × St) :=
  S.bd (bx a0) fun c1 => S.bd (lal c1 0 2) fun x2 => S.bd (leapfrogref01x_Right.r x2 s) fun x3 => S.bd (un .not x3) fun x4 => S.cnd x4 (some ((Go.Value.slice Option.none 0 0), s)) (S.bd (lal c1 0 2) fun x5 => S.bd (leapfrogref01x_Bits.v x5 s) fun r6 => S.bd (S.it (leapfrogref01x_Prefixes.l6 S) [(Go.Value.slice Option.none 0 0), r6.1, (Go.Value.int Go.IntKind.i64 0)] r6.2) fun r24 => some ((r24.2.1.getD 0 undef), r24.2.2))
def leapfrogref01x_Prefixes.v (a0 : Value) (s : St) : Option (Value × St) := leapfrogref01x_Prefixes.t std a0 s
def leapfrogref01x_Prefixes.w : List Value → St → Option (Value × St)
  | [a0], s => leapfrogref01x_Prefixes.v a0 s
  | _, _ => none
def leapfrogref01x_Prefixes.an : An := ⟨25, false, [1], [(6, ⟨[.v 3, .v 4, .v 5], [(.exit 0, [.v 3])]⟩)], [], []⟩
theorem leapfrogref01x_Prefixes.ok (S : Sig) (a0 : Value) (s : St) : evF S Try.prog leapfrogref01x_Prefixes.ctx leapfrogref01x_Prefixes.an Try.f83 [a0] s = leapfrogref01x_Prefixes.t S a0 s := by kernel_rfl
theorem leapfrogref01x_Prefixes.cok : CtxOk Try.prog leapfrogref01x_Prefixes.ctx := .cons leapfrogref01x_Right.sound leapfrogref01x_Right.can <| .cons leapfrogref01x_Bits.sound leapfrogref01x_Bits.can <| .cons leapfrogref01x_Of.sound leapfrogref01x_Of.can <| .nil
theorem leapfrogref01x_Prefixes.draws : fnDraws leapfrogref01x_Prefixes.an Try.f83 = true := by kernel_rfl
theorem leapfrogref01x_Prefixes.can : callOk Try.prog 83 = true := by kernel_rfl
theorem leapfrogref01x_Prefixes.sound : FnOk Try.prog 83 (.st leapfrogref01x_Prefixes.w) := FnOk.st_of (evF_ok leapfrogref01x_Prefixes.cok mixed (f := 83) (fn := Try.f83) (by kernel_rfl) leapfrogref01x_Prefixes.draws) fun args s r h => by
  unfold leapfrogref01x_Prefixes.w at h; split at h
  · rw [leapfrogref01x_Prefixes.ok std]; exact h
  · simp at h

/-! ### leapfrog/leapfrogref01.Compare: function 88 -/
def leapfrogref01x_Compare.ctx : Ctx := [(24, .rd leapfrogref01x_Right.w), (28, .st leapfrogref01x_Bits.w), (81, .rd leapfrogref01x_common.w)]
def leapfrogref01x_Compare.t (S : Sig) (a0 a1 : Value) (s : St) : Option (Value × St) :=
  S.bd (bx a0) fun c1 => S.bd (bx a1) fun c2 => S.bd (lal c1 0 2) fun x3 => S.bd (leapfrogref01x_Right.r x3 s) fun x4 => S.bd (un .not x4) fun x5 => S.bd (S.gd x5 false (lal c2 0 2)) fun x6 => S.bd (S.gd x5 false (leapfrogref01x_Right.r x6 s)) fun x7 => S.bd (S.gd x5 false (un .not x7)) fun x8 => S.bd (pik x5 (Go.Value.bool Bool.true) x8) fun x9 => S.cnd x9 (some ((Value.tuple ⟨[(Go.Value.int Go.IntKind.i64 0), (Go.Value.int Go.IntKind.i64 10)]⟩), s)) (S.bd (lal c1 0 2) fun x10 => S.bd (lal c2 0 2) fun x11 => S.bd (leapfrogref01x_Bits.v x10 s) fun r12 => S.bd (leapfrogref01x_Bits.v x11 r12.2) fun r13 => S.bd (leapfrogref01x_common.r r12.1 r13.1 r13.2) fun x14 => S.bd (lenL r12.1) fun x15 => S.bd (eqb [1] false false x14 x15) fun x16 => S.bd (S.gd x16 true (some x14)) fun x17 => S.bd (S.gd x16 true (some r13.1)) fun x18 => S.bd (S.gd x16 true (lenL x18)) fun x19 => S.bd (S.gd x16 true (eqb [1] false false x17 x19)) fun x20 => S.bd (pik x16 x20 (Go.Value.bool Bool.false)) fun x21 => S.cnd x21 (some ((Value.tuple ⟨[(Go.Value.int Go.IntKind.i64 0), (Go.Value.int Go.IntKind.i64 0)]⟩), r13.2)) (S.bd (lenL r12.1) fun x22 => S.bd (eqb [1] false false x14 x22) fun x23 => S.cnd x23 (some ((Value.tuple ⟨[(Go.Value.int Go.IntKind.i64 (-1)), (Go.Value.int Go.IntKind.i64 0)]⟩), r13.2)) (S.bd (lenL r13.1) fun x24 => S.bd (eqb [1] false false x14 x24) fun x25 => S.cnd x25 (some ((Value.tuple ⟨[(Go.Value.int Go.IntKind.i64 1), (Go.Value.int Go.IntKind.i64 0)]⟩), r13.2)) (S.bd (idx r13.2 1 r12.1 x14) fun x26 => S.bd (ldc r13.2 x26) fun x27 => S.bd (idx r13.2 1 r13.1 x14) fun x28 => S.bd (ldc r13.2 x28) fun x29 => S.bd (bin .lss x27 x29) fun x30 => S.cnd x30 (some ((Value.tuple ⟨[(Go.Value.int Go.IntKind.i64 (-1)), (Go.Value.int Go.IntKind.i64 0)]⟩), r13.2)) (some ((Value.tuple ⟨[(Go.Value.int Go.IntKind.i64 1), (Go.Value.int Go.IntKind.i64 0)]⟩), r13.2))))))
def leapfrogref01x_Compare.v (a0 a1 : Value) (s : St) : Option (Value × St) := leapfrogref01x_Compare.t std a0 a1 s
def leapfrogref01x_Compare.w : List Value → St → Option (Value × St)
  | [a0, a1], s => leapfrogref01x_Compare.v a0 a1 s
  | _, _ => none
def leapfrogref01x_Compare.an : An := ⟨55, false, [2, 3], [], [], [(3, [(0, 17, [], []), (2, 25, [], []), (1, 4, [], []), (3, 4, [], []), (4, 0, [], []), (5, 0, [], [])]), (11, [(0, 0, [], []), (1, 0, [], []), (2, 2, [], []), (3, 2, [], []), (4, 0, [], []), (5, 0, [], []), (6, 2, [], []), (7, 2, [], []), (8, 0, [], []), (9, 0, [], [])])]⟩
theorem leapfrogref01x_Compare.ok (S : Sig) (a0 a1 : Value) (s : St) : evF S Try.prog leapfrogref01x_Compare.ctx leapfrogref01x_Compare.an Try.f88 [a0, a1] s = leapfrogref01x_Compare.t S a0 a1 s := by kernel_rfl
theorem leapfrogref01x_Compare.cok : CtxOk Try.prog leapfrogref01x_Compare.ctx := .cons leapfrogref01x_Right.sound leapfrogref01x_Right.can <| .cons leapfrogref01x_Bits.sound leapfrogref01x_Bits.can <| .cons leapfrogref01x_common.sound leapfrogref01x_common.can <| .nil
theorem leapfrogref01x_Compare.draws : fnDraws leapfrogref01x_Compare.an Try.f88 = true := by kernel_rfl
theorem leapfrogref01x_Compare.can : callOk Try.prog 88 = true := by kernel_rfl
theorem leapfrogref01x_Compare.sound : FnOk Try.prog 88 (.st leapfrogref01x_Compare.w) := FnOk.st_of (evF_ok leapfrogref01x_Compare.cok mixed (f := 88) (fn := Try.f88) (by kernel_rfl) leapfrogref01x_Compare.draws) fun args s r h => by
  unfold leapfrogref01x_Compare.w at h; split at h
  · rw [leapfrogref01x_Compare.ok std]; exact h
  · simp at h

/-! ### leapfrog/leapfrogref01.Compare: function 88, as a reading -/
def leapfrogref01x_CompareQ.r (a0 a1 : Value) (s : St) : Option Value := frzR (fun s => leapfrogref01x_Compare.v a0 a1 s) s
def leapfrogref01x_CompareQ.w : List Value → St → Option Value := fun args s => frzR (leapfrogref01x_Compare.w args) s
theorem leapfrogref01x_CompareQ.can : callOk Try.prog 88 = true := leapfrogref01x_Compare.can
theorem leapfrogref01x_CompareQ.sound : FnOk Try.prog 88 (.rd leapfrogref01x_CompareQ.w) := FnOk.frozen leapfrogref01x_Compare.sound

/-! ### leapfrog/leapfrogref09.Less: function 12 -/
def leapfrogref09x_Less.ctx : Ctx := []
def leapfrogref09x_Less.t (S : Sig) (a0 a1 : Value) (s : St) : Option Value :=
  S.bd (bx a0) fun c1 => S.bd (bx a1) fun c2 => S.bd (lcl c1 0) fun x3 => S.bd (lcl c2 0) fun x4 => S.bd (bin .lss x3 x4) fun x5 => S.bd (S.gd x5 false (lcl c1 0)) fun x6 => S.bd (S.gd x5 false (lcl c2 0)) fun x7 => S.bd (S.gd x5 false (eqb [1] false false x6 x7)) fun x8 => S.bd (S.gd x5 false (some x8)) fun x9 => S.bd (S.gd x9 true (lcl c1 1)) fun x10 => S.bd (S.gd x9 true (lcl c2 1)) fun x11 => S.bd (S.gd x9 true (bin .lss x10 x11)) fun x12 => S.bd (S.gd x5 false (pik x9 x12 (Go.Value.bool Bool.false))) fun x13 => S.bd (pik x5 (Go.Value.bool Bool.true) x13) fun x14 => some (x14)
def leapfrogref09x_Less.r (a0 a1 : Value) (s : St) : Option Value := leapfrogref09x_Less.t std a0 a1 s
def leapfrogref09x_Less.w : List Value → St → Option Value
  | [a0, a1], s => leapfrogref09x_Less.r a0 a1 s
  | _, _ => none
def leapfrogref09x_Less.an : An := ⟨24, true, [2, 3], [], [], []⟩
theorem leapfrogref09x_Less.ok (S : Sig) (a0 a1 : Value) (s : St) : evG S Try.prog leapfrogref09x_Less.ctx leapfrogref09x_Less.an Try.f12 [a0, a1] s = leapfrogref09x_Less.t S a0 a1 s := by kernel_rfl
theorem leapfrogref09x_Less.cok : CtxOk Try.prog leapfrogref09x_Less.ctx := .nil
theorem leapfrogref09x_Less.draws : fnDraws leapfrogref09x_Less.an Try.f12 = true := by kernel_rfl
theorem leapfrogref09x_Less.can : callOk Try.prog 12 = true := by kernel_rfl
theorem leapfrogref09x_Less.sound : FnOk Try.prog 12 (.rd leapfrogref09x_Less.w) := FnOk.rd_of (evG_ok leapfrogref09x_Less.cok mixed (f := 12) (fn := Try.f12) (by kernel_rfl) leapfrogref09x_Less.draws) fun args s r h => by
  unfold leapfrogref09x_Less.w at h; split at h
  · rw [leapfrogref09x_Less.ok std]; exact h
  · simp at h

/-! ### leapfrog/leapfrogref11.sorted: function 62 -/
def leapfrogref11x_sorted.ctx : Ctx := [(12, .rd leapfrogref09x_Less.w)]
def leapfrogref11x_sorted.l6 (S : Sig) (rec60 : List Value → St → Option Cut) (xs58 : List Value) (s59 : St) : Option Cut :=
  S.bd (lenL (xs58.getD 1 undef)) fun x61 => S.bd (bin .lss (xs58.getD 3 undef) x61) fun x62 => S.bd (S.gd x62 true (some (xs58.getD 1 undef))) fun x63 => S.bd (S.gd x62 true (some (xs58.getD 3 undef))) fun x64 => S.bd (S.gd x62 true (idx s59 5 x63 x64)) fun x65 => S.bd (S.gd x62 true (fld 1 x65)) fun x66 => S.bd (S.gd x62 true (lda s59 2 x66)) fun x67 => S.bd (S.gd x62 true (some (xs58.getD 0 undef))) fun x68 => S.bd (S.gd x62 true (some (xs58.getD 2 undef))) fun x69 => S.bd (S.gd x62 true (idx s59 5 x68 x69)) fun x70 => S.bd (S.gd x62 true (fld 1 x70)) fun x71 => S.bd (S.gd x62 true (lda s59 2 x71)) fun x72 => S.bd (S.gd x62 true (leapfrogref09x_Less.r x67 x72 s59)) fun x73 => S.bd (pik x62 x73 (Go.Value.bool Bool.false)) fun x74 => S.cnd x74 (S.bd (bin .add (xs58.getD 3 undef) (Go.Value.int Go.IntKind.i64 1)) fun x75 => rec60 [(xs58.getD 0 undef), (xs58.getD 1 undef), (xs58.getD 2 undef), x75] s59) (some (0, [(xs58.getD 0 undef), (xs58.getD 1 undef), (xs58.getD 2 undef), (xs58.getD 3 undef), x63, x64, x65, x66, x67, x68, x69, x70, x71, x72, x73], s59))

def leapfrogref11x_sorted.l3.p1 (S : Sig) (xs53 : List Value) (s54 : St) (rec55 : List Value → St → Option Cut) : Option Cut :=
  S.bd (S.it (leapfrogref11x_sorted.l6 S) [(xs53.getD 0 undef), (xs53.getD 1 undef), (xs53.getD 2 undef), (Go.Value.int Go.IntKind.i64 0)] s54) fun r76 => S.bd (slc r76.2.2 5 (r76.2.1.getD 1 undef) none (some (r76.2.1.getD 3 undef)) none) fun x77 => S.bd (idx r76.2.2 5 (r76.2.1.getD 0 undef) (r76.2.1.getD 2 undef)) fun x78 => S.bd (lda r76.2.2 5 x78) fun x79 => S.bd (slc r76.2.2 5 (r76.2.1.getD 1 undef) (some (r76.2.1.getD 3 undef)) none none) fun x80 => S.bd (S.bd (bls 5 (List.replicate 1 [(Go.Value.int Go.IntKind.i64 0), (Go.Value.int Go.IntKind.i64 0), (Go.Value.int Go.IntKind.u64 0), (Go.Value.int Go.IntKind.i64 0), (Go.Value.int Go.IntKind.u64 0)]) [(0, x79)]) fun rows => als r76.2.2 5 1 rows) fun _ => S.bd (S.bd (bls 5 (List.replicate 0 [(Go.Value.int Go.IntKind.i64 0), (Go.Value.int Go.IntKind.i64 0), (Go.Value.int Go.IntKind.u64 0), (Go.Value.int Go.IntKind.i64 0), (Go.Value.int Go.IntKind.u64 0)]) []) fun rows => als r76.2.2 5 0 rows) fun r81 => S.bd (S.bd (bls 5 (List.replicate 1 [(Go.Value.int Go.IntKind.i64 0), (Go.Value.int Go.IntKind.i64 0), (Go.Value.int Go.IntKind.u64 0), (Go.Value.int Go.IntKind.i64 0), (Go.Value.int Go.IntKind.u64 0)]) [(0, x79)]) fun rows => als r81.2 5 1 rows) fun _ => S.bd (app r81.2 5 40 r81.1 x77) fun r82 => S.bd (idx r82.2 5 (r76.2.1.getD 0 undef) (r76.2.1.getD 2 undef)) fun x83 => S.cnd (Value.bool (sameV x83 x78)) (S.bd (lda r82.2 5 x78) fun x84 => S.cnd (Value.bool (sameV x84 x79)) (S.bd (slc r82.2 5 (r76.2.1.getD 1 undef) (some (r76.2.1.getD 3 undef)) none none) fun x85 => S.cnd (Value.bool (sameV x85 x80)) (S.bd (S.bd (bls 5 (List.replicate 1 [(Go.Value.int Go.IntKind.i64 0), (Go.Value.int Go.IntKind.i64 0), (Go.Value.int Go.IntKind.u64 0), (Go.Value.int Go.IntKind.i64 0), (Go.Value.int Go.IntKind.u64 0)]) [(0, x79)]) fun rows => als r82.2 5 1 rows) fun r86 => S.bd (app r86.2 5 40 r82.1 r86.1) fun r87 => S.bd (idx r87.2 5 (r76.2.1.getD 0 undef) (r76.2.1.getD 2 undef)) fun x88 => S.cnd (Value.bool (sameV x88 x78)) (S.bd (slc r87.2 5 (r76.2.1.getD 1 undef) (some (r76.2.1.getD 3 undef)) none none) fun x89 => S.cnd (Value.bool (sameV x89 x80)) (S.bd (app r87.2 5 40 r87.1 x80) fun r90 => S.bd (idx r90.2 5 (r76.2.1.getD 0 undef) (r76.2.1.getD 2 undef)) fun x91 => S.cnd (Value.bool (sameV x91 x78)) (S.bd (bin .add (r76.2.1.getD 2 undef) (Go.Value.int Go.IntKind.i64 1)) fun x92 => rec55 [(r76.2.1.getD 0 undef), r90.1, x92] r90.2) (none)) (none)) (none)) (none)) (none)) (none)

def leapfrogref11x_sorted.l3 (S : Sig) (rec55 : List Value → St → Option Cut) (xs53 : List Value) (s54 : St) : Option Cut :=
  S.bd (lenL (xs53.getD 0 undef)) fun x56 => S.bd (bin .lss (xs53.getD 2 undef) x56) fun x57 => S.cnd x57 (leapfrogref11x_sorted.l3.p1 S xs53 s54 rec55) (some (0, [(xs53.getD 1 undef)], s54))

def leapfrogref11x_sorted.t (S : Sig) (a0 : Value) (s : St) : Option (Value × St) :=
  S.bd (S.it (leapfrogref11x_sorted.l3 S) [a0, (Go.Value.slice Option.none 0 0), (Go.Value.int Go.IntKind.i64 0)] s) fun r93 => some ((r93.2.1.getD 0 undef), r93.2.2)
def leapfrogref11x_sorted.v (a0 : Value) (s : St) : Option (Value × St) := leapfrogref11x_sorted.t std a0 s
def leapfrogref11x_sorted.w : List Value → St → Option (Value × St)
  | [a0], s => leapfrogref11x_sorted.v a0 s
  | _, _ => none
def leapfrogref11x_sorted.an : An := ⟨47, false, [], [(6, ⟨[.v 0, .v 3, .v 4, .v 5], [(.exit 2, [.v 0, .v 3, .v 4, .v 5, .v 17, .v 18, .v 19, .v 20, .v 21, .v 22, .v 23, .v 24, .v 25, .v 26, .v 27])]⟩), (3, ⟨[.v 0, .v 3, .v 4], [(.exit 0, [.v 3])]⟩)], [], [(6, [(0, 0, [], []), (1, 0, [], []), (2, 2, [], []), (3, 0, [], []), (4, 0, [], []), (5, 0, [], []), (6, 0, [], []), (7, 2, [], []), (8, 0, [], []), (9, 2, [], []), (10, 0, [], []), (11, 0, [], []), (12, 2, [], []), (13, 0, [], []), (14, 2, [], []), (15, 3, [], []), (16, 0, [], [])]), (8, [(1, 0, [], []), (2, 0, [], []), (3, 2, [], []), (5, 0, [], []), (6, 0, [], []), (7, 2, [], []), (8, 2, [], []), (11, 0, [], []), (12, 0, [], []), (13, 2, [], []), (0, 3, [], [9]), (4, 4, [7, 8, 13], [9]), (9, 3, [], []), (10, 4, [7, 13], []), (14, 4, [7], []), (15, 3, [], [])])]⟩
theorem leapfrogref11x_sorted.ok (S : Sig) (a0 : Value) (s : St) : evF S Try.prog leapfrogref11x_sorted.ctx leapfrogref11x_sorted.an Try.f62 [a0] s = leapfrogref11x_sorted.t S a0 s := by kernel_rfl
theorem leapfrogref11x_sorted.cok : CtxOk Try.prog leapfrogref11x_sorted.ctx := .cons leapfrogref09x_Less.sound leapfrogref09x_Less.can <| .nil
theorem leapfrogref11x_sorted.draws : fnDraws leapfrogref11x_sorted.an Try.f62 = true := by kernel_rfl
theorem leapfrogref11x_sorted.can : callOk Try.prog 62 = true := by kernel_rfl
theorem leapfrogref11x_sorted.sound : FnOk Try.prog 62 (.st leapfrogref11x_sorted.w) := FnOk.st_of (evF_ok leapfrogref11x_sorted.cok mixed (f := 62) (fn := Try.f62) (by kernel_rfl) leapfrogref11x_sorted.draws) fun args s r h => by
  unfold leapfrogref11x_sorted.w at h; split at h
  · rw [leapfrogref11x_sorted.ok std]; exact h
  · simp at h

/-! ### leapfrog/leapfrogref11.members: function 31 -/
def leapfrogref11x_members.ctx : Ctx := [(54, .rd leapfrogref01x_BeginsQ.w), (62, .st leapfrogref11x_sorted.w)]
def leapfrogref11x_members.l3 (S : Sig) (rec17 : List Value → St → Option Cut) (xs15 : List Value) (s16 : St) : Option Cut :=
  S.bd (lenL (xs15.getD 0 undef)) fun x18 => S.bd (bin .lss (xs15.getD 2 undef) x18) fun x19 => S.cnd x19 (S.bd (idx s16 5 (xs15.getD 0 undef) (xs15.getD 2 undef)) fun x20 => S.bd (fld 3 x20) fun x21 => S.bd (lda s16 2 x21) fun x22 => S.bd (lal (cellsA (xs15.getD 3 undef)) 0 2) fun x23 => S.bd (leapfrogref01x_BeginsQ.r x22 x23 s16) fun x24 => S.cnd x24 (S.bd (idx s16 5 (xs15.getD 0 undef) (xs15.getD 2 undef)) fun x25 => S.bd (lda s16 5 x25) fun x26 => S.bd (S.bd (bls 5 (List.replicate 1 [(Go.Value.int Go.IntKind.i64 0), (Go.Value.int Go.IntKind.i64 0), (Go.Value.int Go.IntKind.u64 0), (Go.Value.int Go.IntKind.i64 0), (Go.Value.int Go.IntKind.u64 0)]) [(0, x26)]) fun rows => als s16 5 1 rows) fun r27 => S.bd (app r27.2 5 40 (xs15.getD 1 undef) r27.1) fun r28 => S.bd (bin .add (xs15.getD 2 undef) (Go.Value.int Go.IntKind.i64 1)) fun x29 => rec17 [(xs15.getD 0 undef), r28.1, x29, (Value.agg ⟨(cellsA (xs15.getD 3 undef))⟩)] r28.2) (S.bd (bin .add (xs15.getD 2 undef) (Go.Value.int Go.IntKind.i64 1)) fun x30 => rec17 [(xs15.getD 0 undef), (xs15.getD 1 undef), x30, (Value.agg ⟨(cellsA (xs15.getD 3 undef))⟩)] s16)) (some (0, [(xs15.getD 1 undef)], s16))

def leapfrogref11x_members.t (S : Sig) (a0 a1 : Value) (s : St) : Option (Value × St) :=
  S.bd (bx a0) fun c1 => S.bd (S.it (leapfrogref11x_members.l3 S) [a1, (Go.Value.slice Option.none 0 0), (Go.Value.int Go.IntKind.i64 0), (Value.agg ⟨c1⟩)] s) fun r31 => S.bd (leapfrogref11x_sorted.v (r31.2.1.getD 0 undef) r31.2.2) fun r32 => some (r32.1, r32.2)
def leapfrogref11x_members.v (a0 a1 : Value) (s : St) : Option (Value × St) := leapfrogref11x_members.t std a0 a1 s
def leapfrogref11x_members.w : List Value → St → Option (Value × St)
  | [a0, a1], s => leapfrogref11x_members.v a0 a1 s
  | _, _ => none
def leapfrogref11x_members.an : An := ⟨29, false, [2], [(3, ⟨[.v 1, .p 2 2 0, .v 5, .v 6, .l 2], [(.exit 0, [.v 5])]⟩)], [], [(5, [(0, 0, [], []), (1, 0, [], []), (2, 2, [], []), (3, 0, [], []), (4, 2, [], []), (5, 17, [], []), (6, 3, [], [])])]⟩
theorem leapfrogref11x_members.ok (S : Sig) (a0 a1 : Value) (s : St) : evF S Try.prog leapfrogref11x_members.ctx leapfrogref11x_members.an Try.f31 [a0, a1] s = leapfrogref11x_members.t S a0 a1 s := by kernel_rfl
theorem leapfrogref11x_members.cok : CtxOk Try.prog leapfrogref11x_members.ctx := .cons leapfrogref01x_BeginsQ.sound leapfrogref01x_BeginsQ.can <| .cons leapfrogref11x_sorted.sound leapfrogref11x_sorted.can <| .nil
theorem leapfrogref11x_members.draws : fnDraws leapfrogref11x_members.an Try.f31 = true := by kernel_rfl
theorem leapfrogref11x_members.can : callOk Try.prog 31 = true := by kernel_rfl
theorem leapfrogref11x_members.sound : FnOk Try.prog 31 (.st leapfrogref11x_members.w) := FnOk.st_of (evF_ok leapfrogref11x_members.cok mixed (f := 31) (fn := Try.f31) (by kernel_rfl) leapfrogref11x_members.draws) fun args s r h => by
  unfold leapfrogref11x_members.w at h; split at h
  · rw [leapfrogref11x_members.ok std]; exact h
  · simp at h

/-! ### leapfrog/leapfrogref11.with: function 84 -/
def leapfrogref11x_with.ctx : Ctx := [(88, .rd leapfrogref01x_CompareQ.w), (31, .st leapfrogref11x_members.w)]
def leapfrogref11x_with.l2 (S : Sig) (rec16 : List Value → St → Option Cut) (xs14 : List Value) (s15 : St) : Option Cut :=
  S.bd (lenL (xs14.getD 0 undef)) fun x17 => S.bd (bin .lss (xs14.getD 2 undef) x17) fun x18 => S.cnd x18 (S.bd (idx s15 3 (xs14.getD 0 undef) (xs14.getD 2 undef)) fun x19 => S.bd (fld 0 x19) fun x20 => S.bd (lda s15 2 x20) fun x21 => S.bd (lal (cellsA (xs14.getD 3 undef)) 0 2) fun x22 => S.bd (leapfrogref01x_CompareQ.r x21 x22 s15) fun x23 => S.bd (xtr 0 x23) fun x24 => S.bd (xtr 1 x23) fun x25 => S.bd (eqb [1] false false x24 (Go.Value.int Go.IntKind.i64 0)) fun x26 => S.cnd x26 (some (1, [(xs14.getD 0 undef)], s15)) (S.bd (bin .gtr x24 (Go.Value.int Go.IntKind.i64 0)) fun x27 => S.cnd x27 (some (0, [(xs14.getD 0 undef), (xs14.getD 1 undef), (xs14.getD 2 undef), (Value.agg ⟨(cellsA (xs14.getD 3 undef))⟩)], s15)) (S.bd (bin .add (xs14.getD 2 undef) (Go.Value.int Go.IntKind.i64 1)) fun x28 => rec16 [(xs14.getD 0 undef), (xs14.getD 1 undef), x28, (Value.agg ⟨(cellsA (xs14.getD 3 undef))⟩)] s15))) (some (0, [(xs14.getD 0 undef), (xs14.getD 1 undef), (xs14.getD 2 undef), (Value.agg ⟨(cellsA (xs14.getD 3 undef))⟩)], s15))

def leapfrogref11x_with.t (S : Sig) (a0 a1 a2 : Value) (s : St) : Option (Value × St) :=
  S.bd (bx a1) fun c1 => S.bd (S.it (leapfrogref11x_with.l2 S) [a0, a2, (Go.Value.int Go.IntKind.i64 0), (Value.agg ⟨c1⟩)] s) fun r29 => if r29.1 = 0 then (S.bd (slc r29.2.2 3 (r29.2.1.getD 0 undef) none (some (r29.2.1.getD 2 undef)) none) fun x30 => S.bd (lal (cellsA (r29.2.1.getD 3 undef)) 0 2) fun x31 => S.bd (lal (cellsA (r29.2.1.getD 3 undef)) 0 2) fun x32 => S.bd (slc r29.2.2 3 (r29.2.1.getD 0 undef) (some (r29.2.1.getD 2 undef)) none none) fun x33 => S.bd (S.bd (bls 3 (List.replicate 0 [(Go.Value.int Go.IntKind.i64 0), (Go.Value.int Go.IntKind.u64 0), (Go.Value.slice Option.none 0 0)]) []) fun rows => als r29.2.2 3 0 rows) fun r34 => S.bd (app r34.2 3 40 r34.1 x30) fun r35 => S.bd (slc r35.2 3 (r29.2.1.getD 0 undef) (some (r29.2.1.getD 2 undef)) none none) fun x36 => S.cnd (Value.bool (sameV x36 x33)) (S.bd (leapfrogref11x_members.v x32 (r29.2.1.getD 1 undef) r35.2) fun r37 => S.bd (slc r37.2 3 (r29.2.1.getD 0 undef) (some (r29.2.1.getD 2 undef)) none none) fun x38 => S.cnd (Value.bool (sameV x38 x33)) (S.bd (bld [(Go.Value.int Go.IntKind.i64 0), (Go.Value.int Go.IntKind.u64 0), (Go.Value.slice Option.none 0 0)] [(0, 2, x31), (2, 1, r37.1)]) fun x39 => S.bd (S.bd (bls 3 (List.replicate 1 [(Go.Value.int Go.IntKind.i64 0), (Go.Value.int Go.IntKind.u64 0), (Go.Value.slice Option.none 0 0)]) [(0, x39)]) fun rows => als r37.2 3 1 rows) fun r40 => S.bd (app r40.2 3 40 r35.1 r40.1) fun r41 => S.bd (slc r41.2 3 (r29.2.1.getD 0 undef) (some (r29.2.1.getD 2 undef)) none none) fun x42 => S.cnd (Value.bool (sameV x42 x33)) (S.bd (app r41.2 3 40 r41.1 x33) fun r43 => some (r43.1, r43.2)) (none)) (none)) (none)) else (some ((r29.2.1.getD 0 undef), r29.2.2))
def leapfrogref11x_with.v (a0 a1 a2 : Value) (s : St) : Option (Value × St) := leapfrogref11x_with.t std a0 a1 a2 s
def leapfrogref11x_with.w : List Value → St → Option (Value × St)
  | [a0, a1, a2], s => leapfrogref11x_with.v a0 a1 a2 s
  | _, _ => none
def leapfrogref11x_with.an : An := ⟨47, false, [4], [(2, ⟨[.v 0, .v 2, .p 4 4 0, .v 7, .l 4], [(.exit 0, [.v 0, .v 2, .p 4 4 0, .v 7, .l 4]), (.ret, [.v 6])]⟩)], [], [(3, [(0, 0, [], []), (1, 0, [], []), (2, 2, [], []), (3, 0, [], []), (4, 2, [], []), (5, 33, [], []), (6, 3, [], []), (7, 0, [], []), (8, 0, [], []), (9, 0, [], []), (10, 0, [], []), (11, 0, [], [])]), (8, [(1, 0, [], []), (2, 0, [], []), (3, 2, [], []), (5, 33, [], []), (6, 33, [], []), (7, 0, [], []), (12, 0, [], []), (13, 0, [], []), (14, 2, [], []), (0, 3, [], []), (4, 4, [14], []), (8, 4, [14], []), (9, 0, [], []), (10, 3, [], []), (11, 4, [14], []), (15, 4, [], []), (16, 0, [], [])])]⟩
theorem leapfrogref11x_with.ok (S : Sig) (a0 a1 a2 : Value) (s : St) : evF S Try.prog leapfrogref11x_with.ctx leapfrogref11x_with.an Try.f84 [a0, a1, a2] s = leapfrogref11x_with.t S a0 a1 a2 s := by kernel_rfl
theorem leapfrogref11x_with.cok : CtxOk Try.prog leapfrogref11x_with.ctx := .cons leapfrogref01x_CompareQ.sound leapfrogref01x_CompareQ.can <| .cons leapfrogref11x_members.sound leapfrogref11x_members.can <| .nil
theorem leapfrogref11x_with.draws : fnDraws leapfrogref11x_with.an Try.f84 = true := by kernel_rfl
theorem leapfrogref11x_with.can : callOk Try.prog 84 = true := by kernel_rfl
theorem leapfrogref11x_with.sound : FnOk Try.prog 84 (.st leapfrogref11x_with.w) := FnOk.st_of (evF_ok leapfrogref11x_with.cok mixed (f := 84) (fn := Try.f84) (by kernel_rfl) leapfrogref11x_with.draws) fun args s r h => by
  unfold leapfrogref11x_with.w at h; split at h
  · rw [leapfrogref11x_with.ok std]; exact h
  · simp at h

/-! ### leapfrog/leapfrogref11.Lists: function 63 -/
def leapfrogref11x_Lists.ctx : Ctx := [(6, .rd leapfrogref11x_Check.w), (83, .st leapfrogref01x_Prefixes.w), (84, .st leapfrogref11x_with.w)]
def leapfrogref11x_Lists.l9 (S : Sig) (rec37 : List Value → St → Option Cut) (xs35 : List Value) (s36 : St) : Option Cut :=
  S.bd (lenL (xs35.getD 3 undef)) fun x38 => S.bd (bin .lss (xs35.getD 4 undef) x38) fun x39 => S.cnd x39 (S.bd (idx s36 2 (xs35.getD 3 undef) (xs35.getD 4 undef)) fun x40 => S.bd (lda s36 2 x40) fun x41 => S.bd (leapfrogref11x_with.v (xs35.getD 1 undef) x41 (xs35.getD 0 undef) s36) fun r42 => S.bd (bin .add (xs35.getD 4 undef) (Go.Value.int Go.IntKind.i64 1)) fun x43 => rec37 [(xs35.getD 0 undef), r42.1, (xs35.getD 2 undef), (xs35.getD 3 undef), x43] r42.2) (some (0, [(xs35.getD 0 undef), (xs35.getD 1 undef), (xs35.getD 2 undef)], s36))

def leapfrogref11x_Lists.l5 (S : Sig) (rec28 : List Value → St → Option Cut) (xs26 : List Value) (s27 : St) : Option Cut :=
  S.bd (lenL (xs26.getD 0 undef)) fun x29 => S.bd (bin .lss (xs26.getD 2 undef) x29) fun x30 => S.cnd x30 (S.bd (idx s27 5 (xs26.getD 0 undef) (xs26.getD 2 undef)) fun x31 => S.bd (fld 3 x31) fun x32 => S.bd (lda s27 2 x32) fun x33 => S.bd (leapfrogref01x_Prefixes.v x33 s27) fun r34 => S.bd (S.it (leapfrogref11x_Lists.l9 S) [(xs26.getD 0 undef), (xs26.getD 1 undef), (xs26.getD 2 undef), r34.1, (Go.Value.int Go.IntKind.i64 0)] r34.2) fun r44 => S.bd (bin .add (r44.2.1.getD 2 undef) (Go.Value.int Go.IntKind.i64 1)) fun x45 => rec28 [(r44.2.1.getD 0 undef), (r44.2.1.getD 1 undef), x45] r44.2.2) (some (0, [(xs26.getD 1 undef)], s27))

def leapfrogref11x_Lists.t (S : Sig) (a0 a1 : Value) (s : St) : Option (Value × St) :=
  S.bd (leapfrogref11x_Check.r a0 a1 s) fun x1 => S.bd (eqb [1] false true x1 (Go.Value.int Go.IntKind.i64 0)) fun x2 => S.cnd x2 (some ((Value.tuple ⟨[(Go.Value.slice Option.none 0 0), (Go.Value.int Go.IntKind.i64 110)]⟩), s)) (S.bd (S.it (leapfrogref11x_Lists.l5 S) [a1, (Go.Value.slice Option.none 0 0), (Go.Value.int Go.IntKind.i64 0)] s) fun r46 => some ((Value.tuple ⟨[(r46.2.1.getD 0 undef), (Go.Value.int Go.IntKind.i64 0)]⟩), r46.2.2))
def leapfrogref11x_Lists.v (a0 a1 : Value) (s : St) : Option (Value × St) := leapfrogref11x_Lists.t std a0 a1 s
def leapfrogref11x_Lists.w : List Value → St → Option (Value × St)
  | [a0, a1], s => leapfrogref11x_Lists.v a0 a1 s
  | _, _ => none
def leapfrogref11x_Lists.an : An := ⟨40, false, [], [(9, ⟨[.v 1, .v 6, .v 7, .v 8, .v 9], [(.exit 2, [.v 1, .v 6, .v 7])]⟩), (5, ⟨[.v 1, .v 6, .v 7], [(.exit 0, [.v 6])]⟩)], [], []⟩
theorem leapfrogref11x_Lists.ok (S : Sig) (a0 a1 : Value) (s : St) : evF S Try.prog leapfrogref11x_Lists.ctx leapfrogref11x_Lists.an Try.f63 [a0, a1] s = leapfrogref11x_Lists.t S a0 a1 s := by kernel_rfl
theorem leapfrogref11x_Lists.cok : CtxOk Try.prog leapfrogref11x_Lists.ctx := .cons leapfrogref11x_Check.sound leapfrogref11x_Check.can <| .cons leapfrogref01x_Prefixes.sound leapfrogref01x_Prefixes.can <| .cons leapfrogref11x_with.sound leapfrogref11x_with.can <| .nil
theorem leapfrogref11x_Lists.draws : fnDraws leapfrogref11x_Lists.an Try.f63 = true := by kernel_rfl
theorem leapfrogref11x_Lists.can : callOk Try.prog 63 = true := by kernel_rfl
theorem leapfrogref11x_Lists.sound : FnOk Try.prog 63 (.st leapfrogref11x_Lists.w) := FnOk.st_of (evF_ok leapfrogref11x_Lists.cok mixed (f := 63) (fn := Try.f63) (by kernel_rfl) leapfrogref11x_Lists.draws) fun args s r h => by
  unfold leapfrogref11x_Lists.w at h; split at h
  · rw [leapfrogref11x_Lists.ok std]; exact h
  · simp at h

/-! ### leapfrog/leapfrogref09.Head: function 29 -/
def leapfrogref09x_Head.ctx : Ctx := []
def leapfrogref09x_Head.t (S : Sig) (a0 : Value) (s : St) : Option Value :=
  S.bd (bx (Go.Value.agg #[(Go.Value.int Go.IntKind.i64 0), (Go.Value.int Go.IntKind.i64 0), (Go.Value.int Go.IntKind.u64 0), (Go.Value.int Go.IntKind.i64 0), (Go.Value.int Go.IntKind.u64 0)])) fun c1 => S.bd (bin .lss a0 (Go.Value.int Go.IntKind.i64 0)) fun x2 => S.bd (S.gd x2 false (some a0)) fun x3 => S.bd (S.gd x2 false (bin .gtr x3 (Go.Value.int Go.IntKind.i64 32))) fun x4 => S.bd (pik x2 (Go.Value.bool Bool.true) x4) fun x5 => S.cnd x5 (S.bd (bld [(Go.Value.int Go.IntKind.i64 0), (Go.Value.int Go.IntKind.i64 0), (Go.Value.int Go.IntKind.u64 0), (Go.Value.int Go.IntKind.i64 0), (Go.Value.int Go.IntKind.u64 0)] []) fun x6 => S.bd (stl c1 0 5 x6) fun c7 => S.bd (lal c7 0 5) fun x8 => some ((Value.tuple ⟨[x8, (Go.Value.int Go.IntKind.i64 90)]⟩))) (S.bd (bld [(Go.Value.int Go.IntKind.i64 0), (Go.Value.int Go.IntKind.u64 0)] [(0, 1, (Go.Value.int Go.IntKind.i64 1))]) fun x9 => S.bd (bld [(Go.Value.int Go.IntKind.i64 0), (Go.Value.int Go.IntKind.u64 0)] [(0, 1, a0)]) fun x10 => S.bd (bld [(Go.Value.int Go.IntKind.i64 0), (Go.Value.int Go.IntKind.i64 0), (Go.Value.int Go.IntKind.u64 0), (Go.Value.int Go.IntKind.i64 0), (Go.Value.int Go.IntKind.u64 0)] [(0, 1, (Go.Value.int Go.IntKind.i64 0)), (1, 2, x9), (3, 2, x10)]) fun x11 => S.bd (stl c1 0 5 x11) fun c12 => S.bd (lal c12 0 5) fun x13 => some ((Value.tuple ⟨[x13, (Go.Value.int Go.IntKind.i64 0)]⟩)))
def leapfrogref09x_Head.r (a0 : Value) (s : St) : Option Value := leapfrogref09x_Head.t std a0 s
def leapfrogref09x_Head.w : List Value → St → Option Value
  | [a0], s => leapfrogref09x_Head.r a0 s
  | _, _ => none
def leapfrogref09x_Head.an : An := ⟨15, true, [2], [], [], []⟩
theorem leapfrogref09x_Head.ok (S : Sig) (a0 : Value) (s : St) : evG S Try.prog leapfrogref09x_Head.ctx leapfrogref09x_Head.an Try.f29 [a0] s = leapfrogref09x_Head.t S a0 s := by kernel_rfl
theorem leapfrogref09x_Head.cok : CtxOk Try.prog leapfrogref09x_Head.ctx := .nil
theorem leapfrogref09x_Head.draws : fnDraws leapfrogref09x_Head.an Try.f29 = true := by kernel_rfl
theorem leapfrogref09x_Head.can : callOk Try.prog 29 = true := by kernel_rfl
theorem leapfrogref09x_Head.sound : FnOk Try.prog 29 (.rd leapfrogref09x_Head.w) := FnOk.rd_of (evG_ok leapfrogref09x_Head.cok mixed (f := 29) (fn := Try.f29) (by kernel_rfl) leapfrogref09x_Head.draws) fun args s r h => by
  unfold leapfrogref09x_Head.w at h; split at h
  · rw [leapfrogref09x_Head.ok std]; exact h
  · simp at h

/-! ### leapfrog/leapfrogref09.Tail: function 30 -/
def leapfrogref09x_Tail.ctx : Ctx := []
def leapfrogref09x_Tail.t (S : Sig) (a0 : Value) (s : St) : Option Value :=
  S.bd (bx (Go.Value.agg #[(Go.Value.int Go.IntKind.i64 0), (Go.Value.int Go.IntKind.i64 0), (Go.Value.int Go.IntKind.u64 0), (Go.Value.int Go.IntKind.i64 0), (Go.Value.int Go.IntKind.u64 0)])) fun c1 => S.bd (bin .lss a0 (Go.Value.int Go.IntKind.i64 0)) fun x2 => S.bd (S.gd x2 false (some a0)) fun x3 => S.bd (S.gd x2 false (bin .gtr x3 (Go.Value.int Go.IntKind.i64 32))) fun x4 => S.bd (pik x2 (Go.Value.bool Bool.true) x4) fun x5 => S.cnd x5 (S.bd (bld [(Go.Value.int Go.IntKind.i64 0), (Go.Value.int Go.IntKind.i64 0), (Go.Value.int Go.IntKind.u64 0), (Go.Value.int Go.IntKind.i64 0), (Go.Value.int Go.IntKind.u64 0)] []) fun x6 => S.bd (stl c1 0 5 x6) fun c7 => S.bd (lal c7 0 5) fun x8 => some ((Value.tuple ⟨[x8, (Go.Value.int Go.IntKind.i64 90)]⟩))) (S.bd (bld [(Go.Value.int Go.IntKind.i64 0), (Go.Value.int Go.IntKind.u64 0)] [(0, 1, (Go.Value.int Go.IntKind.i64 3))]) fun x9 => S.bd (bld [(Go.Value.int Go.IntKind.i64 0), (Go.Value.int Go.IntKind.u64 0)] [(0, 1, a0)]) fun x10 => S.bd (bld [(Go.Value.int Go.IntKind.i64 0), (Go.Value.int Go.IntKind.i64 0), (Go.Value.int Go.IntKind.u64 0), (Go.Value.int Go.IntKind.i64 0), (Go.Value.int Go.IntKind.u64 0)] [(0, 1, (Go.Value.int Go.IntKind.i64 1)), (1, 2, x9), (3, 2, x10)]) fun x11 => S.bd (stl c1 0 5 x11) fun c12 => S.bd (lal c12 0 5) fun x13 => some ((Value.tuple ⟨[x13, (Go.Value.int Go.IntKind.i64 0)]⟩)))
def leapfrogref09x_Tail.r (a0 : Value) (s : St) : Option Value := leapfrogref09x_Tail.t std a0 s
def leapfrogref09x_Tail.w : List Value → St → Option Value
  | [a0], s => leapfrogref09x_Tail.r a0 s
  | _, _ => none
def leapfrogref09x_Tail.an : An := ⟨15, true, [2], [], [], []⟩
theorem leapfrogref09x_Tail.ok (S : Sig) (a0 : Value) (s : St) : evG S Try.prog leapfrogref09x_Tail.ctx leapfrogref09x_Tail.an Try.f30 [a0] s = leapfrogref09x_Tail.t S a0 s := by kernel_rfl
theorem leapfrogref09x_Tail.cok : CtxOk Try.prog leapfrogref09x_Tail.ctx := .nil
theorem leapfrogref09x_Tail.draws : fnDraws leapfrogref09x_Tail.an Try.f30 = true := by kernel_rfl
theorem leapfrogref09x_Tail.can : callOk Try.prog 30 = true := by kernel_rfl
theorem leapfrogref09x_Tail.sound : FnOk Try.prog 30 (.rd leapfrogref09x_Tail.w) := FnOk.rd_of (evG_ok leapfrogref09x_Tail.cok mixed (f := 30) (fn := Try.f30) (by kernel_rfl) leapfrogref09x_Tail.draws) fun args s r h => by
  unfold leapfrogref09x_Tail.w at h; split at h
  · rw [leapfrogref09x_Tail.ok std]; exact h
  · simp at h

/-! ### leapfrog/leapfrogref11.Row: function 11 -/
def leapfrogref11x_Row.ctx : Ctx := [(29, .rd leapfrogref09x_Head.w), (30, .rd leapfrogref09x_Tail.w), (31, .st leapfrogref11x_members.w)]
def leapfrogref11x_Row.t.p1 (S : Sig) (x8 : Value) (c6 : List Value) (c1 : List Value) (s : St) (a2 : Value) : Option (Value × St) :=
  S.bd (bx (Go.Value.agg #[(Go.Value.int Go.IntKind.i64 0), (Go.Value.int Go.IntKind.i64 0), (Go.Value.int Go.IntKind.u64 0), (Go.Value.int Go.IntKind.i64 0), (Go.Value.int Go.IntKind.u64 0)])) fun c10 => S.bd (stl c10 0 5 x8) fun c11 => S.bd (lal c6 0 5) fun x12 => S.bd (lal c1 0 2) fun x13 => S.bd (lal c11 0 5) fun x14 => S.bd (S.bd (bls 5 (List.replicate 1 [(Go.Value.int Go.IntKind.i64 0), (Go.Value.int Go.IntKind.i64 0), (Go.Value.int Go.IntKind.u64 0), (Go.Value.int Go.IntKind.i64 0), (Go.Value.int Go.IntKind.u64 0)]) [(0, x12)]) fun rows => als s 5 1 rows) fun _ => S.bd (S.bd (bls 5 (List.replicate 1 [(Go.Value.int Go.IntKind.i64 0), (Go.Value.int Go.IntKind.i64 0), (Go.Value.int Go.IntKind.u64 0), (Go.Value.int Go.IntKind.i64 0), (Go.Value.int Go.IntKind.u64 0)]) [(0, x14)]) fun rows => als s 5 1 rows) fun _ => S.bd (leapfrogref11x_members.v x13 a2 s) fun r15 => S.bd (S.bd (bls 5 (List.replicate 1 [(Go.Value.int Go.IntKind.i64 0), (Go.Value.int Go.IntKind.i64 0), (Go.Value.int Go.IntKind.u64 0), (Go.Value.int Go.IntKind.i64 0), (Go.Value.int Go.IntKind.u64 0)]) [(0, x14)]) fun rows => als r15.2 5 1 rows) fun _ => S.bd (S.bd (bls 5 (List.replicate 1 [(Go.Value.int Go.IntKind.i64 0), (Go.Value.int Go.IntKind.i64 0), (Go.Value.int Go.IntKind.u64 0), (Go.Value.int Go.IntKind.i64 0), (Go.Value.int Go.IntKind.u64 0)]) [(0, x12)]) fun rows => als r15.2 5 1 rows) fun r16 => S.bd (S.bd (bls 5 (List.replicate 1 [(Go.Value.int Go.IntKind.i64 0), (Go.Value.int Go.IntKind.i64 0), (Go.Value.int Go.IntKind.u64 0), (Go.Value.int Go.IntKind.i64 0), (Go.Value.int Go.IntKind.u64 0)]) [(0, x14)]) fun rows => als r16.2 5 1 rows) fun _ => S.bd (app r16.2 5 40 r16.1 r15.1) fun r17 => S.bd (S.bd (bls 5 (List.replicate 1 [(Go.Value.int Go.IntKind.i64 0), (Go.Value.int Go.IntKind.i64 0), (Go.Value.int Go.IntKind.u64 0), (Go.Value.int Go.IntKind.i64 0), (Go.Value.int Go.IntKind.u64 0)]) [(0, x14)]) fun rows => als r17.2 5 1 rows) fun r18 => S.bd (app r18.2 5 40 r17.1 r18.1) fun r19 => some (r19.1, r19.2)

def leapfrogref11x_Row.t (S : Sig) (a0 a1 a2 : Value) (s : St) : Option (Value × St) :=
  S.bd (bx a1) fun c1 => S.bd (leapfrogref09x_Head.r a0 s) fun x2 => S.bd (xtr 0 x2) fun x3 => S.bd (xtr 1 x2) fun x4 => S.bd (bx (Go.Value.agg #[(Go.Value.int Go.IntKind.i64 0), (Go.Value.int Go.IntKind.i64 0), (Go.Value.int Go.IntKind.u64 0), (Go.Value.int Go.IntKind.i64 0), (Go.Value.int Go.IntKind.u64 0)])) fun c5 => S.bd (stl c5 0 5 x3) fun c6 => S.bd (leapfrogref09x_Tail.r a0 s) fun x7 => S.bd (xtr 0 x7) fun x8 => S.bd (xtr 1 x7) fun x9 => leapfrogref11x_Row.t.p1 S x8 c6 c1 s a2
def leapfrogref11x_Row.v (a0 a1 a2 : Value) (s : St) : Option (Value × St) := leapfrogref11x_Row.t std a0 a1 a2 s
def leapfrogref11x_Row.w : List Value → St → Option (Value × St)
  | [a0, a1, a2], s => leapfrogref11x_Row.v a0 a1 a2 s
  | _, _ => none
def leapfrogref11x_Row.an : An := ⟨30, false, [4, 7, 9], [], [], [(3, [(0, 57, [], []), (2, 33, [], []), (3, 0, [], []), (6, 73, [], []), (4, 4, [], [1, 7]), (1, 3, [], [7]), (5, 4, [], [7]), (7, 3, [], []), (8, 4, [], []), (9, 0, [], [])])]⟩
theorem leapfrogref11x_Row.ok (S : Sig) (a0 a1 a2 : Value) (s : St) : evF S Try.prog leapfrogref11x_Row.ctx leapfrogref11x_Row.an Try.f11 [a0, a1, a2] s = leapfrogref11x_Row.t S a0 a1 a2 s := by kernel_rfl
theorem leapfrogref11x_Row.cok : CtxOk Try.prog leapfrogref11x_Row.ctx := .cons leapfrogref09x_Head.sound leapfrogref09x_Head.can <| .cons leapfrogref09x_Tail.sound leapfrogref09x_Tail.can <| .cons leapfrogref11x_members.sound leapfrogref11x_members.can <| .nil
theorem leapfrogref11x_Row.draws : fnDraws leapfrogref11x_Row.an Try.f11 = true := by kernel_rfl
theorem leapfrogref11x_Row.can : callOk Try.prog 11 = true := by kernel_rfl
theorem leapfrogref11x_Row.sound : FnOk Try.prog 11 (.st leapfrogref11x_Row.w) := FnOk.st_of (evF_ok leapfrogref11x_Row.cok mixed (f := 11) (fn := Try.f11) (by kernel_rfl) leapfrogref11x_Row.draws) fun args s r h => by
  unfold leapfrogref11x_Row.w at h; split at h
  · rw [leapfrogref11x_Row.ok std]; exact h
  · simp at h

/-! ### leapfrog/leapfrogref11.beside: function 85 -/
def leapfrogref11x_beside.ctx : Ctx := []
def leapfrogref11x_beside.l2.p1 (S : Sig) (xs42 : List Value) (s43 : St) : Option Cut :=
  S.bd (bx (Go.Value.agg #[(Go.Value.int Go.IntKind.i64 0), (Go.Value.int Go.IntKind.i64 0), (Go.Value.int Go.IntKind.u64 0), (Go.Value.int Go.IntKind.i64 0), (Go.Value.int Go.IntKind.u64 0)])) fun c52 => S.bd (bx (Go.Value.agg #[(Go.Value.int Go.IntKind.i64 0), (Go.Value.int Go.IntKind.i64 0), (Go.Value.int Go.IntKind.u64 0), (Go.Value.int Go.IntKind.i64 0), (Go.Value.int Go.IntKind.u64 0)])) fun c53 => S.bd (show Option Cut from S.bd (bin .gtr (xs42.getD 2 undef) (Go.Value.int Go.IntKind.i64 0)) fun x54 => S.cnd x54 (S.bd (bin .sub (xs42.getD 2 undef) (Go.Value.int Go.IntKind.i64 1)) fun x55 => S.bd (idx s43 5 (xs42.getD 0 undef) x55) fun x56 => S.bd (lda s43 5 x56) fun x57 => S.bd (stl c52 0 5 x57) fun c58 => some (0, [(xs42.getD 0 undef), (xs42.getD 2 undef), (Value.agg ⟨(cellsA (xs42.getD 3 undef))⟩), (Value.agg ⟨(cellsA (xs42.getD 4 undef))⟩), (Value.agg ⟨c58⟩), (Value.agg ⟨c53⟩)], s43)) (some (0, [(xs42.getD 0 undef), (xs42.getD 2 undef), (Value.agg ⟨(cellsA (xs42.getD 3 undef))⟩), (Value.agg ⟨(cellsA (xs42.getD 4 undef))⟩), (Value.agg ⟨c52⟩), (Value.agg ⟨c53⟩)], s43))) fun r59 => S.bd (show Option Cut from S.bd (bin .add (r59.2.1.getD 1 undef) (Go.Value.int Go.IntKind.i64 1)) fun x60 => S.bd (lenL (r59.2.1.getD 0 undef)) fun x61 => S.bd (bin .lss x60 x61) fun x62 => S.cnd x62 (S.bd (bin .add (r59.2.1.getD 1 undef) (Go.Value.int Go.IntKind.i64 1)) fun x63 => S.bd (idx r59.2.2 5 (r59.2.1.getD 0 undef) x63) fun x64 => S.bd (lda r59.2.2 5 x64) fun x65 => S.bd (stl (cellsA (r59.2.1.getD 5 undef)) 0 5 x65) fun c66 => some (0, [(Value.agg ⟨(cellsA (r59.2.1.getD 2 undef))⟩), (Value.agg ⟨(cellsA (r59.2.1.getD 3 undef))⟩), (Value.agg ⟨(cellsA (r59.2.1.getD 4 undef))⟩), (Value.agg ⟨c66⟩)], r59.2.2)) (some (0, [(Value.agg ⟨(cellsA (r59.2.1.getD 2 undef))⟩), (Value.agg ⟨(cellsA (r59.2.1.getD 3 undef))⟩), (Value.agg ⟨(cellsA (r59.2.1.getD 4 undef))⟩), (Value.agg ⟨(cellsA (r59.2.1.getD 5 undef))⟩)], r59.2.2))) fun r67 => S.bd (lal (cellsA (r67.2.1.getD 2 undef)) 0 5) fun x68 => S.bd (lal (cellsA (r67.2.1.getD 3 undef)) 0 5) fun x69 => S.bd (stl (cellsA (r67.2.1.getD 0 undef)) 0 5 x68) fun c70 => S.bd (stl (cellsA (r67.2.1.getD 1 undef)) 0 5 x69) fun c71 => some (1, [(Go.Value.bool Bool.true), (Value.agg ⟨c70⟩), (Value.agg ⟨c71⟩)], r67.2.2)

def leapfrogref11x_beside.l2 (S : Sig) (rec44 : List Value → St → Option Cut) (xs42 : List Value) (s43 : St) : Option Cut :=
  S.bd (lenL (xs42.getD 0 undef)) fun x45 => S.bd (bin .lss (xs42.getD 2 undef) x45) fun x46 => S.cnd x46 (S.bd (idx s43 5 (xs42.getD 0 undef) (xs42.getD 2 undef)) fun x47 => S.bd (fld 0 x47) fun x48 => S.bd (ldc s43 x48) fun x49 => S.bd (eqb [1] false true x49 (xs42.getD 1 undef)) fun x50 => S.cnd x50 (S.bd (bin .add (xs42.getD 2 undef) (Go.Value.int Go.IntKind.i64 1)) fun x51 => rec44 [(xs42.getD 0 undef), (xs42.getD 1 undef), x51, (Value.agg ⟨(cellsA (xs42.getD 3 undef))⟩), (Value.agg ⟨(cellsA (xs42.getD 4 undef))⟩)] s43) (leapfrogref11x_beside.l2.p1 S xs42 s43)) (some (0, [(Value.agg ⟨(cellsA (xs42.getD 3 undef))⟩), (Value.agg ⟨(cellsA (xs42.getD 4 undef))⟩)], s43))

def leapfrogref11x_beside.t (S : Sig) (a0 a1 : Value) (s : St) : Option Value :=
  S.bd (bx (Go.Value.agg #[(Go.Value.int Go.IntKind.i64 0), (Go.Value.int Go.IntKind.i64 0), (Go.Value.int Go.IntKind.u64 0), (Go.Value.int Go.IntKind.i64 0), (Go.Value.int Go.IntKind.u64 0)])) fun c1 => S.bd (bx (Go.Value.agg #[(Go.Value.int Go.IntKind.i64 0), (Go.Value.int Go.IntKind.i64 0), (Go.Value.int Go.IntKind.u64 0), (Go.Value.int Go.IntKind.i64 0), (Go.Value.int Go.IntKind.u64 0)])) fun c2 => S.bd (S.it (leapfrogref11x_beside.l2 S) [a0, a1, (Go.Value.int Go.IntKind.i64 0), (Value.agg ⟨c1⟩), (Value.agg ⟨c2⟩)] s) fun r72 => if r72.1 = 0 then (S.bd (bld [(Go.Value.int Go.IntKind.i64 0), (Go.Value.int Go.IntKind.i64 0), (Go.Value.int Go.IntKind.u64 0), (Go.Value.int Go.IntKind.i64 0), (Go.Value.int Go.IntKind.u64 0)] []) fun x75 => S.bd (bld [(Go.Value.int Go.IntKind.i64 0), (Go.Value.int Go.IntKind.i64 0), (Go.Value.int Go.IntKind.u64 0), (Go.Value.int Go.IntKind.i64 0), (Go.Value.int Go.IntKind.u64 0)] []) fun x76 => S.bd (stl (cellsA (r72.2.1.getD 0 undef)) 0 5 x75) fun c77 => S.bd (stl (cellsA (r72.2.1.getD 1 undef)) 0 5 x76) fun c78 => S.bd (lal c77 0 5) fun x79 => S.bd (lal c78 0 5) fun x80 => some ((Value.tuple ⟨[x79, x80, (Go.Value.bool Bool.false)]⟩))) else (S.bd (lal (cellsA (r72.2.1.getD 1 undef)) 0 5) fun x73 => S.bd (lal (cellsA (r72.2.1.getD 2 undef)) 0 5) fun x74 => some ((Value.tuple ⟨[x73, x74, (r72.2.1.getD 0 undef)]⟩)))
def leapfrogref11x_beside.r (a0 a1 : Value) (s : St) : Option Value := leapfrogref11x_beside.t std a0 a1 s
def leapfrogref11x_beside.w : List Value → St → Option Value
  | [a0, a1], s => leapfrogref11x_beside.r a0 a1 s
  | _, _ => none
def leapfrogref11x_beside.an : An := ⟨44, true, [4, 5, 8, 9], [(2, ⟨[.v 0, .v 1, .p 4 4 0, .p 5 5 0, .v 7, .l 4, .l 5], [(.exit 0, [.p 4 4 0, .p 5 5 0, .l 4, .l 5]), (.ret, [.p 4 4 0, .p 5 5 0, .v 6, .l 4, .l 5])]⟩)], [(8, ⟨[], [(.normal, [.v 0, .p 4 4 0, .p 5 5 0, .v 7, .p 8 8 0, .p 9 9 0, .l 4, .l 5, .l 8, .l 9])]⟩), (10, ⟨[], [(.normal, [.p 4 4 0, .p 5 5 0, .p 8 8 0, .p 9 9 0, .l 4, .l 5, .l 8, .l 9])]⟩)], [(10, [(0, 65, [], []), (1, 73, [], []), (2, 37, [], []), (3, 45, [], []), (4, 0, [], [])])]⟩
theorem leapfrogref11x_beside.ok (S : Sig) (a0 a1 : Value) (s : St) : evG S Try.prog leapfrogref11x_beside.ctx leapfrogref11x_beside.an Try.f85 [a0, a1] s = leapfrogref11x_beside.t S a0 a1 s := by kernel_rfl
theorem leapfrogref11x_beside.cok : CtxOk Try.prog leapfrogref11x_beside.ctx := .nil
theorem leapfrogref11x_beside.draws : fnDraws leapfrogref11x_beside.an Try.f85 = true := by kernel_rfl
theorem leapfrogref11x_beside.can : callOk Try.prog 85 = true := by kernel_rfl
theorem leapfrogref11x_beside.sound : FnOk Try.prog 85 (.rd leapfrogref11x_beside.w) := FnOk.rd_of (evG_ok leapfrogref11x_beside.cok mixed (f := 85) (fn := Try.f85) (by kernel_rfl) leapfrogref11x_beside.draws) fun args s r h => by
  unfold leapfrogref11x_beside.w at h; split at h
  · rw [leapfrogref11x_beside.ok std]; exact h
  · simp at h

/-! ### leapfrog/leapfrogref11.one: function 64 -/
def leapfrogref11x_one.ctx : Ctx := [(11, .st leapfrogref11x_Row.w), (85, .rd leapfrogref11x_beside.w)]
def leapfrogref11x_one.l8.p1 (S : Sig) (xs93 : List Value) (r101 : Value × St) (c108 : List Value) (c109 : List Value) (rec95 : List Value → St → Option Cut) : Option Cut :=
  S.bd (lcl (cellsA (xs93.getD 6 undef)) 8) fun x110 => S.bd (idx r101.2 3 (xs93.getD 3 undef) (xs93.getD 4 undef)) fun x111 => S.bd (fld 0 x111) fun x112 => S.bd (lda r101.2 2 x112) fun x113 => S.bd (lal c108 0 5) fun x114 => S.bd (lal c109 0 5) fun x115 => S.bd (bld [(Go.Value.int Go.IntKind.i64 0), (Go.Value.int Go.IntKind.u64 0), (Go.Value.int Go.IntKind.i64 0), (Go.Value.int Go.IntKind.i64 0), (Go.Value.int Go.IntKind.u64 0), (Go.Value.int Go.IntKind.i64 0), (Go.Value.int Go.IntKind.u64 0), (Go.Value.int Go.IntKind.i64 0), (Go.Value.int Go.IntKind.i64 0), (Go.Value.int Go.IntKind.u64 0), (Go.Value.int Go.IntKind.i64 0), (Go.Value.int Go.IntKind.u64 0), (Go.Value.bool Bool.false), (Go.Value.int Go.IntKind.i64 0), (Go.Value.int Go.IntKind.i64 0), (Go.Value.slice Option.none 0 0)] [(0, 2, x113), (2, 5, x114), (7, 5, x115)]) fun x116 => S.bd (S.bd (bls 16 (List.replicate 1 [(Go.Value.int Go.IntKind.i64 0), (Go.Value.int Go.IntKind.u64 0), (Go.Value.int Go.IntKind.i64 0), (Go.Value.int Go.IntKind.i64 0), (Go.Value.int Go.IntKind.u64 0), (Go.Value.int Go.IntKind.i64 0), (Go.Value.int Go.IntKind.u64 0), (Go.Value.int Go.IntKind.i64 0), (Go.Value.int Go.IntKind.i64 0), (Go.Value.int Go.IntKind.u64 0), (Go.Value.int Go.IntKind.i64 0), (Go.Value.int Go.IntKind.u64 0), (Go.Value.bool Bool.false), (Go.Value.int Go.IntKind.i64 0), (Go.Value.int Go.IntKind.i64 0), (Go.Value.slice Option.none 0 0)]) [(0, x116)]) fun rows => als r101.2 16 1 rows) fun r117 => S.bd (app r117.2 16 144 x110 r117.1) fun r118 => S.bd (idx r118.2 3 (xs93.getD 3 undef) (xs93.getD 4 undef)) fun x119 => S.cnd (Value.bool (sameV x119 x111)) (S.bd (lda r118.2 2 x112) fun x120 => S.cnd (Value.bool (sameV x120 x113)) (S.bd (stl (cellsA (xs93.getD 6 undef)) 8 1 r118.1) fun c121 => S.bd (bin .add (xs93.getD 4 undef) (Go.Value.int Go.IntKind.i64 1)) fun x122 => rec95 [(xs93.getD 0 undef), (xs93.getD 1 undef), (xs93.getD 2 undef), (xs93.getD 3 undef), x122, (Value.agg ⟨(cellsA (xs93.getD 5 undef))⟩), (Value.agg ⟨c121⟩)] r118.2) (none)) (none)

def leapfrogref11x_one.l8 (S : Sig) (rec95 : List Value → St → Option Cut) (xs93 : List Value) (s94 : St) : Option Cut :=
  S.bd (lenL (xs93.getD 3 undef)) fun x96 => S.bd (bin .lss (xs93.getD 4 undef) x96) fun x97 => S.cnd x97 (S.bd (idx s94 3 (xs93.getD 3 undef) (xs93.getD 4 undef)) fun x98 => S.bd (fld 0 x98) fun x99 => S.bd (lda s94 2 x99) fun x100 => S.bd (leapfrogref11x_Row.v (xs93.getD 0 undef) x100 (xs93.getD 2 undef) s94) fun r101 => S.bd (leapfrogref11x_beside.r r101.1 (xs93.getD 1 undef) r101.2) fun x102 => S.bd (xtr 0 x102) fun x103 => S.bd (xtr 1 x102) fun x104 => S.bd (xtr 2 x102) fun x105 => S.bd (bx (Go.Value.agg #[(Go.Value.int Go.IntKind.i64 0), (Go.Value.int Go.IntKind.i64 0), (Go.Value.int Go.IntKind.u64 0), (Go.Value.int Go.IntKind.i64 0), (Go.Value.int Go.IntKind.u64 0)])) fun c106 => S.bd (bx (Go.Value.agg #[(Go.Value.int Go.IntKind.i64 0), (Go.Value.int Go.IntKind.i64 0), (Go.Value.int Go.IntKind.u64 0), (Go.Value.int Go.IntKind.i64 0), (Go.Value.int Go.IntKind.u64 0)])) fun c107 => S.bd (stl c106 0 5 x103) fun c108 => S.bd (stl c107 0 5 x104) fun c109 => S.cnd x105 (leapfrogref11x_one.l8.p1 S xs93 r101 c108 c109 rec95) (S.bd (bin .add (xs93.getD 4 undef) (Go.Value.int Go.IntKind.i64 1)) fun x123 => rec95 [(xs93.getD 0 undef), (xs93.getD 1 undef), (xs93.getD 2 undef), (xs93.getD 3 undef), x123, (Value.agg ⟨(cellsA (xs93.getD 5 undef))⟩), (Value.agg ⟨(cellsA (xs93.getD 6 undef))⟩)] r101.2)) (some (0, [(Value.agg ⟨(cellsA (xs93.getD 5 undef))⟩), (Value.agg ⟨(cellsA (xs93.getD 6 undef))⟩)], s94))

def leapfrogref11x_one.l3 (S : Sig) (rec80 : List Value → St → Option Cut) (xs78 : List Value) (s79 : St) : Option Cut :=
  S.bd (lenL (xs78.getD 4 undef)) fun x81 => S.bd (bin .lss (xs78.getD 5 undef) x81) fun x82 => S.cnd x82 (S.bd (idx s79 5 (xs78.getD 4 undef) (xs78.getD 5 undef)) fun x83 => S.bd (fld 0 x83) fun x84 => S.bd (ldc s79 x84) fun x85 => S.bd (eqb [1] false true x85 (xs78.getD 1 undef)) fun x86 => S.cnd x86 (S.bd (bin .add (xs78.getD 5 undef) (Go.Value.int Go.IntKind.i64 1)) fun x87 => rec80 [(xs78.getD 0 undef), (xs78.getD 1 undef), (xs78.getD 2 undef), (xs78.getD 3 undef), (xs78.getD 4 undef), x87, (Value.agg ⟨(cellsA (xs78.getD 6 undef))⟩)] s79) (S.bd (idx s79 5 (xs78.getD 4 undef) (xs78.getD 5 undef)) fun x88 => S.bd (lda s79 5 x88) fun x89 => S.bd (bld [(Go.Value.int Go.IntKind.i64 0), (Go.Value.int Go.IntKind.i64 0), (Go.Value.int Go.IntKind.u64 0), (Go.Value.int Go.IntKind.i64 0), (Go.Value.int Go.IntKind.u64 0), (Go.Value.slice Option.none 0 0), (Go.Value.bool Bool.false), (Go.Value.bool Bool.false), (Go.Value.slice Option.none 0 0)] [(0, 5, x89), (6, 1, (Go.Value.bool Bool.true))]) fun x90 => S.bd (bx (Go.Value.agg #[(Go.Value.int Go.IntKind.i64 0), (Go.Value.int Go.IntKind.i64 0), (Go.Value.int Go.IntKind.u64 0), (Go.Value.int Go.IntKind.i64 0), (Go.Value.int Go.IntKind.u64 0), (Go.Value.slice Option.none 0 0), (Go.Value.bool Bool.false), (Go.Value.bool Bool.false), (Go.Value.slice Option.none 0 0)])) fun c91 => S.bd (stl c91 0 9 x90) fun c92 => S.bd (S.it (leapfrogref11x_one.l8 S) [(xs78.getD 0 undef), (xs78.getD 1 undef), (xs78.getD 2 undef), (xs78.getD 3 undef), (Go.Value.int Go.IntKind.i64 0), (Value.agg ⟨(cellsA (xs78.getD 6 undef))⟩), (Value.agg ⟨c92⟩)] s79) fun r124 => S.bd (lal (cellsA (r124.2.1.getD 1 undef)) 0 9) fun x125 => S.bd (stl (cellsA (r124.2.1.getD 0 undef)) 0 9 x125) fun c126 => some (1, [(Go.Value.bool Bool.true), (Value.agg ⟨c126⟩)], r124.2.2))) (some (0, [(Value.agg ⟨(cellsA (xs78.getD 6 undef))⟩)], s79))

def leapfrogref11x_one.t (S : Sig) (a0 a1 a2 a3 : Value) (s : St) : Option (Value × St) :=
  S.bd (bx (Go.Value.agg #[(Go.Value.int Go.IntKind.i64 0), (Go.Value.int Go.IntKind.i64 0), (Go.Value.int Go.IntKind.u64 0), (Go.Value.int Go.IntKind.i64 0), (Go.Value.int Go.IntKind.u64 0), (Go.Value.slice Option.none 0 0), (Go.Value.bool Bool.false), (Go.Value.bool Bool.false), (Go.Value.slice Option.none 0 0)])) fun c1 => S.bd (bld [(Go.Value.int Go.IntKind.i64 0), (Go.Value.int Go.IntKind.u64 0)] []) fun x2 => S.bd (leapfrogref11x_Row.v a0 x2 a2 s) fun r3 => S.bd (S.it (leapfrogref11x_one.l3 S) [a0, a1, a2, a3, r3.1, (Go.Value.int Go.IntKind.i64 0), (Value.agg ⟨c1⟩)] r3.2) fun r127 => if r127.1 = 0 then (S.bd (bld [(Go.Value.int Go.IntKind.i64 0), (Go.Value.int Go.IntKind.i64 0), (Go.Value.int Go.IntKind.u64 0), (Go.Value.int Go.IntKind.i64 0), (Go.Value.int Go.IntKind.u64 0), (Go.Value.slice Option.none 0 0), (Go.Value.bool Bool.false), (Go.Value.bool Bool.false), (Go.Value.slice Option.none 0 0)] []) fun x129 => S.bd (stl (cellsA (r127.2.1.getD 0 undef)) 0 9 x129) fun c130 => S.bd (lal c130 0 9) fun x131 => some ((Value.tuple ⟨[x131, (Go.Value.bool Bool.false)]⟩), r127.2.2)) else (S.bd (lal (cellsA (r127.2.1.getD 1 undef)) 0 9) fun x128 => some ((Value.tuple ⟨[x128, (r127.2.1.getD 0 undef)]⟩), r127.2.2))
def leapfrogref11x_one.v (a0 a1 a2 a3 : Value) (s : St) : Option (Value × St) := leapfrogref11x_one.t std a0 a1 a2 a3 s
def leapfrogref11x_one.w : List Value → St → Option (Value × St)
  | [a0, a1, a2, a3], s => leapfrogref11x_one.v a0 a1 a2 a3 s
  | _, _ => none
def leapfrogref11x_one.an : An := ⟨75, false, [8, 12, 14, 15], [(8, ⟨[.v 0, .v 1, .v 2, .v 3, .p 8 8 0, .p 12 12 0, .v 13, .l 8, .l 12], [(.exit 2, [.p 8 8 0, .p 12 12 0, .l 8, .l 12])]⟩), (3, ⟨[.v 0, .v 1, .v 2, .v 3, .p 8 8 0, .v 10, .v 11, .l 8], [(.exit 0, [.p 8 8 0, .l 8]), (.ret, [.p 8 8 0, .v 9, .l 8])]⟩)], [], [(12, [(0, 0, [], []), (1, 97, [], []), (2, 0, [], []), (3, 0, [], []), (4, 2, [], []), (5, 0, [], []), (6, 2, [], []), (7, 113, [], []), (8, 121, [], []), (9, 0, [], []), (10, 3, [], []), (11, 4, [4, 6], []), (12, 0, [], []), (13, 101, [], [])])]⟩
theorem leapfrogref11x_one.ok (S : Sig) (a0 a1 a2 a3 : Value) (s : St) : evF S Try.prog leapfrogref11x_one.ctx leapfrogref11x_one.an Try.f64 [a0, a1, a2, a3] s = leapfrogref11x_one.t S a0 a1 a2 a3 s := by kernel_rfl
theorem leapfrogref11x_one.cok : CtxOk Try.prog leapfrogref11x_one.ctx := .cons leapfrogref11x_Row.sound leapfrogref11x_Row.can <| .cons leapfrogref11x_beside.sound leapfrogref11x_beside.can <| .nil
theorem leapfrogref11x_one.draws : fnDraws leapfrogref11x_one.an Try.f64 = true := by kernel_rfl
theorem leapfrogref11x_one.can : callOk Try.prog 64 = true := by kernel_rfl
theorem leapfrogref11x_one.sound : FnOk Try.prog 64 (.st leapfrogref11x_one.w) := FnOk.st_of (evF_ok leapfrogref11x_one.cok mixed (f := 64) (fn := Try.f64) (by kernel_rfl) leapfrogref11x_one.draws) fun args s r h => by
  unfold leapfrogref11x_one.w at h; split at h
  · rw [leapfrogref11x_one.ok std]; exact h
  · simp at h

/-! ### leapfrog/leapfrogref11.one: function 64, its garbage dropped -/
def leapfrogref11x_oneD.v (a0 a1 a2 a3 : Value) (s : St) : Option (Value × St) := dropR (fun s => leapfrogref11x_one.v a0 a1 a2 a3 s) s
def leapfrogref11x_oneD.w : List Value → St → Option (Value × St) := fun args s => dropR (leapfrogref11x_one.w args) s
theorem leapfrogref11x_oneD.can : callOk Try.prog 64 = true := leapfrogref11x_one.can
theorem leapfrogref11x_oneD.sound : FnOk Try.prog 64 (.st leapfrogref11x_oneD.w) := FnOk.dropped leapfrogref11x_one.sound

/-! ### leapfrog/leapfrogref11.Records: function 32 -/
def leapfrogref11x_Records.ctx : Ctx := [(6, .rd leapfrogref11x_Check.w), (63, .st leapfrogref11x_Lists.w), (64, .st leapfrogref11x_oneD.w)]
def leapfrogref11x_Records.l6 (S : Sig) (rec19 : List Value → St → Option Cut) (xs17 : List Value) (s18 : St) : Option Cut :=
  S.bd (bin .lss (xs17.getD 4 undef) (Go.Value.int Go.IntKind.i64 1024)) fun x20 => S.cnd x20 (S.bd (leapfrogref11x_oneD.v (xs17.getD 0 undef) (xs17.getD 4 undef) (xs17.getD 1 undef) (xs17.getD 2 undef) s18) fun r21 => S.bd (xtr 0 r21.1) fun x22 => S.bd (xtr 1 r21.1) fun x23 => S.bd (bx (Go.Value.agg #[(Go.Value.int Go.IntKind.i64 0), (Go.Value.int Go.IntKind.i64 0), (Go.Value.int Go.IntKind.u64 0), (Go.Value.int Go.IntKind.i64 0), (Go.Value.int Go.IntKind.u64 0), (Go.Value.slice Option.none 0 0), (Go.Value.bool Bool.false), (Go.Value.bool Bool.false), (Go.Value.slice Option.none 0 0)])) fun c24 => S.bd (stl c24 0 9 x22) fun c25 => S.cnd x23 (S.bd (lal c25 0 9) fun x26 => S.bd (S.bd (bls 9 (List.replicate 1 [(Go.Value.int Go.IntKind.i64 0), (Go.Value.int Go.IntKind.i64 0), (Go.Value.int Go.IntKind.u64 0), (Go.Value.int Go.IntKind.i64 0), (Go.Value.int Go.IntKind.u64 0), (Go.Value.slice Option.none 0 0), (Go.Value.bool Bool.false), (Go.Value.bool Bool.false), (Go.Value.slice Option.none 0 0)]) [(0, x26)]) fun rows => als r21.2 9 1 rows) fun r27 => S.bd (app r27.2 9 96 (xs17.getD 3 undef) r27.1) fun r28 => S.bd (bin .add (xs17.getD 4 undef) (Go.Value.int Go.IntKind.i64 1)) fun x29 => rec19 [(xs17.getD 0 undef), (xs17.getD 1 undef), (xs17.getD 2 undef), r28.1, x29] r28.2) (S.bd (bin .add (xs17.getD 4 undef) (Go.Value.int Go.IntKind.i64 1)) fun x30 => rec19 [(xs17.getD 0 undef), (xs17.getD 1 undef), (xs17.getD 2 undef), (xs17.getD 3 undef), x30] r21.2)) (some (0, [(xs17.getD 3 undef)], s18))

def leapfrogref11x_Records.t (S : Sig) (a0 a1 : Value) (s : St) : Option (Value × St) :=
  S.bd (leapfrogref11x_Check.r a0 a1 s) fun x1 => S.bd (eqb [1] false true x1 (Go.Value.int Go.IntKind.i64 0)) fun x2 => S.cnd x2 (some ((Value.tuple ⟨[(Go.Value.slice Option.none 0 0), (Go.Value.int Go.IntKind.i64 110)]⟩), s)) (S.bd (leapfrogref11x_Lists.v a0 a1 s) fun r3 => S.bd (xtr 0 r3.1) fun x4 => S.bd (xtr 1 r3.1) fun x5 => S.bd (S.it (leapfrogref11x_Records.l6 S) [a0, a1, x4, (Go.Value.slice Option.none 0 0), (Go.Value.int Go.IntKind.i64 0)] r3.2) fun r31 => some ((Value.tuple ⟨[(r31.2.1.getD 0 undef), (Go.Value.int Go.IntKind.i64 0)]⟩), r31.2.2))
def leapfrogref11x_Records.v (a0 a1 : Value) (s : St) : Option (Value × St) := leapfrogref11x_Records.t std a0 a1 s
def leapfrogref11x_Records.w : List Value → St → Option (Value × St)
  | [a0, a1], s => leapfrogref11x_Records.v a0 a1 s
  | _, _ => none
def leapfrogref11x_Records.an : An := ⟨40, false, [10], [(6, ⟨[.v 0, .v 1, .v 6, .v 8, .v 9], [(.exit 0, [.v 8])]⟩)], [], []⟩
theorem leapfrogref11x_Records.ok (S : Sig) (a0 a1 : Value) (s : St) : evF S Try.prog leapfrogref11x_Records.ctx leapfrogref11x_Records.an Try.f32 [a0, a1] s = leapfrogref11x_Records.t S a0 a1 s := by kernel_rfl
theorem leapfrogref11x_Records.cok : CtxOk Try.prog leapfrogref11x_Records.ctx := .cons leapfrogref11x_Check.sound leapfrogref11x_Check.can <| .cons leapfrogref11x_Lists.sound leapfrogref11x_Lists.can <| .cons leapfrogref11x_oneD.sound leapfrogref11x_oneD.can <| .nil
theorem leapfrogref11x_Records.draws : fnDraws leapfrogref11x_Records.an Try.f32 = true := by kernel_rfl
theorem leapfrogref11x_Records.can : callOk Try.prog 32 = true := by kernel_rfl
theorem leapfrogref11x_Records.sound : FnOk Try.prog 32 (.st leapfrogref11x_Records.w) := FnOk.st_of (evF_ok leapfrogref11x_Records.cok mixed (f := 32) (fn := Try.f32) (by kernel_rfl) leapfrogref11x_Records.draws) fun args s r h => by
  unfold leapfrogref11x_Records.w at h; split at h
  · rw [leapfrogref11x_Records.ok std]; exact h
  · simp at h

/-! ### leapfrog/leapfrogref15.Quiet: function 13 -/
def leapfrogref15x_Quiet.ctx : Ctx := [(32, .st leapfrogref11x_Records.w)]
def leapfrogref15x_Quiet.l10.p1 (S : Sig) (s142 : St) (xs141 : List Value) (rec143 : List Value → St → Option Cut) : Option Cut :=
  S.bd (idx s142 9 (xs141.getD 2 undef) (xs141.getD 4 undef)) fun x149 => S.bd (fld 8 x149) fun x150 => S.bd (ldc s142 x150) fun x151 => S.bd (idx s142 16 x151 (xs141.getD 6 undef)) fun x152 => S.bd (lda s142 16 x152) fun x153 => S.bd (bx (Go.Value.agg #[(Go.Value.int Go.IntKind.i64 0), (Go.Value.int Go.IntKind.u64 0), (Go.Value.int Go.IntKind.i64 0), (Go.Value.int Go.IntKind.i64 0), (Go.Value.int Go.IntKind.u64 0), (Go.Value.int Go.IntKind.i64 0), (Go.Value.int Go.IntKind.u64 0), (Go.Value.int Go.IntKind.i64 0), (Go.Value.int Go.IntKind.i64 0), (Go.Value.int Go.IntKind.u64 0), (Go.Value.int Go.IntKind.i64 0), (Go.Value.int Go.IntKind.u64 0), (Go.Value.bool Bool.false), (Go.Value.int Go.IntKind.i64 0), (Go.Value.int Go.IntKind.i64 0), (Go.Value.slice Option.none 0 0)])) fun c154 => S.bd (stl c154 0 16 x153) fun c155 => S.bd (nck (xs141.getD 5 undef)) fun x156 => S.bd (fld 9 x156) fun x157 => S.bd (ldc s142 x157) fun x158 => S.bd (lal c155 0 2) fun x159 => S.bd (lal c155 2 5) fun x160 => S.bd (lal c155 7 5) fun x161 => S.bd (bld [(Go.Value.int Go.IntKind.i64 0), (Go.Value.int Go.IntKind.u64 0), (Go.Value.int Go.IntKind.i64 0), (Go.Value.int Go.IntKind.i64 0), (Go.Value.int Go.IntKind.u64 0), (Go.Value.int Go.IntKind.i64 0), (Go.Value.int Go.IntKind.u64 0), (Go.Value.int Go.IntKind.i64 0), (Go.Value.int Go.IntKind.i64 0), (Go.Value.int Go.IntKind.u64 0), (Go.Value.int Go.IntKind.i64 0), (Go.Value.int Go.IntKind.u64 0), (Go.Value.bool Bool.false), (Go.Value.int Go.IntKind.i64 0), (Go.Value.int Go.IntKind.i64 0), (Go.Value.slice Option.none 0 0)] [(0, 2, x159), (2, 5, x160), (7, 5, x161)]) fun x162 => S.bd (S.bd (bls 16 (List.replicate 1 [(Go.Value.int Go.IntKind.i64 0), (Go.Value.int Go.IntKind.u64 0), (Go.Value.int Go.IntKind.i64 0), (Go.Value.int Go.IntKind.i64 0), (Go.Value.int Go.IntKind.u64 0), (Go.Value.int Go.IntKind.i64 0), (Go.Value.int Go.IntKind.u64 0), (Go.Value.int Go.IntKind.i64 0), (Go.Value.int Go.IntKind.i64 0), (Go.Value.int Go.IntKind.u64 0), (Go.Value.int Go.IntKind.i64 0), (Go.Value.int Go.IntKind.u64 0), (Go.Value.bool Bool.false), (Go.Value.int Go.IntKind.i64 0), (Go.Value.int Go.IntKind.i64 0), (Go.Value.slice Option.none 0 0)]) [(0, x162)]) fun rows => als s142 16 1 rows) fun r163 => S.bd (app r163.2 16 144 x158 r163.1) fun r164 => S.bd (nck (xs141.getD 5 undef)) fun x165 => S.bd (fld 9 x165) fun x166 => S.bd (stv r164.2 1 x166 r164.1) fun s167 => S.bd (bin .add (xs141.getD 6 undef) (Go.Value.int Go.IntKind.i64 1)) fun x168 => rec143 [(xs141.getD 0 undef), (xs141.getD 1 undef), (xs141.getD 2 undef), (xs141.getD 3 undef), (xs141.getD 4 undef), (xs141.getD 5 undef), x168] s167

def leapfrogref15x_Quiet.l10 (S : Sig) (rec143 : List Value → St → Option Cut) (xs141 : List Value) (s142 : St) : Option Cut :=
  S.bd (idx s142 9 (xs141.getD 2 undef) (xs141.getD 4 undef)) fun x144 => S.bd (fld 8 x144) fun x145 => S.bd (ldc s142 x145) fun x146 => S.bd (lenL x146) fun x147 => S.bd (bin .lss (xs141.getD 6 undef) x147) fun x148 => S.cnd x148 (leapfrogref15x_Quiet.l10.p1 S s142 xs141 rec143) (some (0, [(xs141.getD 0 undef), (xs141.getD 1 undef), (xs141.getD 2 undef), (xs141.getD 3 undef), (xs141.getD 4 undef), (xs141.getD 5 undef)], s142))

def leapfrogref15x_Quiet.l15 (S : Sig) (rec172 : List Value → St → Option Cut) (xs170 : List Value) (s171 : St) : Option Cut :=
  S.bd (lenL (xs170.getD 0 undef)) fun x173 => S.bd (bin .lss (xs170.getD 6 undef) x173) fun x174 => S.bd (S.gd x174 true (some (xs170.getD 6 undef))) fun x175 => S.bd (S.gd x174 true (some (xs170.getD 1 undef))) fun x176 => S.bd (S.gd x174 true (lenL x176)) fun x177 => S.bd (S.gd x174 true (bin .lss x175 x177)) fun x178 => S.bd (pik x174 x178 (Go.Value.bool Bool.false)) fun x179 => S.cnd x179 (S.bd (idx s171 5 (xs170.getD 0 undef) (xs170.getD 6 undef)) fun x180 => S.bd (fld 0 x180) fun x181 => S.bd (ldc s171 x181) fun x182 => S.bd (nck (xs170.getD 5 undef)) fun x183 => S.bd (fld 0 x183) fun x184 => S.bd (fld 0 x184) fun x185 => S.bd (ldc s171 x185) fun x186 => S.bd (eqb [1] false false x182 x186) fun x187 => S.cnd x187 (S.bd (S.bd (bls 1 (List.replicate 0 [(Go.Value.int Go.IntKind.u8 0)]) []) fun rows => als s171 1 0 rows) fun r188 => S.bd (idx r188.2 1 (xs170.getD 1 undef) (xs170.getD 6 undef)) fun x189 => S.bd (ldc r188.2 x189) fun x190 => S.bd (app r188.2 1 1 r188.1 x190) fun r191 => S.bd (nck (xs170.getD 5 undef)) fun x192 => S.bd (fld 5 x192) fun x193 => S.bd (stv r191.2 1 x193 r191.1) fun s194 => S.bd (bin .add (xs170.getD 6 undef) (Go.Value.int Go.IntKind.i64 1)) fun x195 => rec172 [(xs170.getD 0 undef), (xs170.getD 1 undef), (xs170.getD 2 undef), (xs170.getD 3 undef), (xs170.getD 4 undef), (xs170.getD 5 undef), x195] s194) (S.bd (bin .add (xs170.getD 6 undef) (Go.Value.int Go.IntKind.i64 1)) fun x196 => rec172 [(xs170.getD 0 undef), (xs170.getD 1 undef), (xs170.getD 2 undef), (xs170.getD 3 undef), (xs170.getD 4 undef), (xs170.getD 5 undef), x196] s171)) (some (0, [(xs170.getD 0 undef), (xs170.getD 1 undef), (xs170.getD 2 undef), (xs170.getD 3 undef), (xs170.getD 4 undef), (xs170.getD 5 undef), x175, x176, x177, x178], s171))

def leapfrogref15x_Quiet.l6 (S : Sig) (rec128 : List Value → St → Option Cut) (xs126 : List Value) (s127 : St) : Option Cut :=
  S.bd (lenL (xs126.getD 2 undef)) fun x129 => S.bd (bin .lss (xs126.getD 4 undef) x129) fun x130 => S.cnd x130 (S.bd (idx s127 9 (xs126.getD 2 undef) (xs126.getD 4 undef)) fun x131 => S.bd (fld 0 x131) fun x132 => S.bd (lda s127 5 x132) fun x133 => S.bd (idx s127 9 (xs126.getD 2 undef) (xs126.getD 4 undef)) fun x134 => S.bd (fld 0 x134) fun x135 => S.bd (fld 0 x135) fun x136 => S.bd (ldc s127 x136) fun x137 => S.bd (bin .lss x137 (Go.Value.int Go.IntKind.i64 2)) fun x138 => S.bd (bld [(Go.Value.int Go.IntKind.i64 0), (Go.Value.int Go.IntKind.i64 0), (Go.Value.int Go.IntKind.u64 0), (Go.Value.int Go.IntKind.i64 0), (Go.Value.int Go.IntKind.u64 0), (Go.Value.slice Option.none 0 0), (Go.Value.bool Bool.false), (Go.Value.bool Bool.false), (Go.Value.bool Bool.false), (Go.Value.slice Option.none 0 0), (Go.Value.slice Option.none 0 0)] [(0, 5, x133), (7, 1, (Go.Value.bool Bool.true)), (6, 1, x138)]) fun x139 => S.bd (alv s127 x139) fun r140 => S.bd (S.it (leapfrogref15x_Quiet.l10 S) [(xs126.getD 0 undef), (xs126.getD 1 undef), (xs126.getD 2 undef), (xs126.getD 3 undef), (xs126.getD 4 undef), r140.1, (Go.Value.int Go.IntKind.i64 0)] r140.2) fun r169 => S.bd (S.it (leapfrogref15x_Quiet.l15 S) [(r169.2.1.getD 0 undef), (r169.2.1.getD 1 undef), (r169.2.1.getD 2 undef), (r169.2.1.getD 3 undef), (r169.2.1.getD 4 undef), (r169.2.1.getD 5 undef), (Go.Value.int Go.IntKind.i64 0)] r169.2.2) fun r197 => S.bd (S.bd (bls 1 (List.replicate 1 [(Go.Value.pointer Option.none)]) [(0, (r197.2.1.getD 5 undef))]) fun rows => als r197.2.2 1 1 rows) fun r198 => S.bd (app r198.2 1 8 (r197.2.1.getD 3 undef) r198.1) fun r199 => S.bd (bin .add (r197.2.1.getD 4 undef) (Go.Value.int Go.IntKind.i64 1)) fun x200 => rec128 [(r197.2.1.getD 0 undef), (r197.2.1.getD 1 undef), (r197.2.1.getD 2 undef), r199.1, x200] r199.2) (some (0, [(xs126.getD 3 undef)], s127))

def leapfrogref15x_Quiet.t (S : Sig) (a0 a1 a2 : Value) (s : St) : Option (Value × St) :=
  S.bd (leapfrogref11x_Records.v a0 a1 s) fun r1 => S.bd (xtr 0 r1.1) fun x2 => S.bd (xtr 1 r1.1) fun x3 => S.bd (eqb [1] false true x3 (Go.Value.int Go.IntKind.i64 0)) fun x4 => S.cnd x4 (some ((Go.Value.slice Option.none 0 0), r1.2)) (S.bd (S.it (leapfrogref15x_Quiet.l6 S) [a1, a2, x2, (Go.Value.slice Option.none 0 0), (Go.Value.int Go.IntKind.i64 0)] r1.2) fun r201 => some ((r201.2.1.getD 0 undef), r201.2.2))
def leapfrogref15x_Quiet.v (a0 a1 a2 : Value) (s : St) : Option (Value × St) := leapfrogref15x_Quiet.t std a0 a1 a2 s
def leapfrogref15x_Quiet.w : List Value → St → Option (Value × St)
  | [a0, a1, a2], s => leapfrogref15x_Quiet.v a0 a1 a2 s
  | _, _ => none
def leapfrogref15x_Quiet.an : An := ⟨114, false, [13], [(10, ⟨[.v 1, .v 2, .v 7, .v 9, .v 10, .v 11, .v 12], [(.exit 2, [.v 1, .v 2, .v 7, .v 9, .v 10, .v 11])]⟩), (15, ⟨[.v 1, .v 2, .v 7, .v 9, .v 10, .v 11, .v 14], [(.exit 4, [.v 1, .v 2, .v 7, .v 9, .v 10, .v 11, .v 82, .v 83, .v 84, .v 85])]⟩), (6, ⟨[.v 1, .v 2, .v 7, .v 9, .v 10], [(.exit 0, [.v 9])]⟩)], [], [(8, [(0, 0, [], []), (1, 0, [], []), (2, 2, [], []), (3, 0, [], []), (4, 2, [], []), (5, 0, [], []), (6, 0, [], []), (7, 2, [], []), (8, 0, [], []), (9, 0, [], []), (10, 2, [], []), (11, 0, [], []), (12, 0, [], []), (13, 3, [], []), (14, 0, [], [])]), (13, [(0, 0, [], []), (1, 0, [], []), (2, 0, [], []), (3, 0, [], []), (4, 2, [], []), (5, 0, [], []), (6, 105, [], []), (7, 0, [], []), (8, 105, [], []), (9, 0, [], []), (10, 105, [], []), (11, 0, [], []), (12, 3, [], []), (13, 4, [], []), (14, 0, [], []), (15, 0, [], []), (16, 4, [], [])]), (17, [(0, 0, [], []), (1, 0, [], []), (2, 2, [], []), (3, 0, [], []), (4, 2, [], []), (5, 0, [], []), (6, 0, [], []), (7, 0, [], []), (8, 0, [], []), (9, 2, [], []), (10, 0, [], [])])]⟩
theorem leapfrogref15x_Quiet.ok (S : Sig) (a0 a1 a2 : Value) (s : St) : evF S Try.prog leapfrogref15x_Quiet.ctx leapfrogref15x_Quiet.an Try.f13 [a0, a1, a2] s = leapfrogref15x_Quiet.t S a0 a1 a2 s := by kernel_rfl
theorem leapfrogref15x_Quiet.cok : CtxOk Try.prog leapfrogref15x_Quiet.ctx := .cons leapfrogref11x_Records.sound leapfrogref11x_Records.can <| .nil
theorem leapfrogref15x_Quiet.draws : fnDraws leapfrogref15x_Quiet.an Try.f13 = true := by kernel_rfl
theorem leapfrogref15x_Quiet.can : callOk Try.prog 13 = true := by kernel_rfl
theorem leapfrogref15x_Quiet.sound : FnOk Try.prog 13 (.st leapfrogref15x_Quiet.w) := FnOk.st_of (evF_ok leapfrogref15x_Quiet.cok mixed (f := 13) (fn := Try.f13) (by kernel_rfl) leapfrogref15x_Quiet.draws) fun args s r h => by
  unfold leapfrogref15x_Quiet.w at h; split at h
  · rw [leapfrogref15x_Quiet.ok std]; exact h
  · simp at h

/-! ### leapfrog/leapfrogref12.Head: function 9 -/
def leapfrogref12x_Head.ctx : Ctx := []
def leapfrogref12x_Head.t (S : Sig) (a0 : Value) (s : St) : Option Value :=
  S.bd (bx (Go.Value.agg #[(Go.Value.int Go.IntKind.i64 0), (Go.Value.int Go.IntKind.i64 0), (Go.Value.int Go.IntKind.u64 0), (Go.Value.int Go.IntKind.i64 0), (Go.Value.int Go.IntKind.u64 0)])) fun c1 => S.bd (bld [(Go.Value.int Go.IntKind.i64 0), (Go.Value.int Go.IntKind.u64 0)] [(0, 1, (Go.Value.int Go.IntKind.i64 1))]) fun x2 => S.bd (bld [(Go.Value.int Go.IntKind.i64 0), (Go.Value.int Go.IntKind.u64 0)] [(0, 1, a0)]) fun x3 => S.bd (bld [(Go.Value.int Go.IntKind.i64 0), (Go.Value.int Go.IntKind.i64 0), (Go.Value.int Go.IntKind.u64 0), (Go.Value.int Go.IntKind.i64 0), (Go.Value.int Go.IntKind.u64 0)] [(1, 2, x2), (3, 2, x3)]) fun x4 => S.bd (stl c1 0 5 x4) fun c5 => S.bd (lal c5 0 5) fun x6 => some (x6)
def leapfrogref12x_Head.r (a0 : Value) (s : St) : Option Value := leapfrogref12x_Head.t std a0 s
def leapfrogref12x_Head.w : List Value → St → Option Value
  | [a0], s => leapfrogref12x_Head.r a0 s
  | _, _ => none
def leapfrogref12x_Head.an : An := ⟨7, true, [2], [], [], []⟩
theorem leapfrogref12x_Head.ok (S : Sig) (a0 : Value) (s : St) : evG S Try.prog leapfrogref12x_Head.ctx leapfrogref12x_Head.an Try.f9 [a0] s = leapfrogref12x_Head.t S a0 s := by kernel_rfl
theorem leapfrogref12x_Head.cok : CtxOk Try.prog leapfrogref12x_Head.ctx := .nil
theorem leapfrogref12x_Head.draws : fnDraws leapfrogref12x_Head.an Try.f9 = true := by kernel_rfl
theorem leapfrogref12x_Head.can : callOk Try.prog 9 = true := by kernel_rfl
theorem leapfrogref12x_Head.sound : FnOk Try.prog 9 (.rd leapfrogref12x_Head.w) := FnOk.rd_of (evG_ok leapfrogref12x_Head.cok mixed (f := 9) (fn := Try.f9) (by kernel_rfl) leapfrogref12x_Head.draws) fun args s r h => by
  unfold leapfrogref12x_Head.w at h; split at h
  · rw [leapfrogref12x_Head.ok std]; exact h
  · simp at h

/-! ### (*leapfrog/mend.Mend).Next: function 20 -/
def mend_Mend_Next.ctx : Ctx := [(37, .rd mend_New_fn1.w)]
def mend_Mend_Next.t.p1 (S : Sig) (x20 : Value) (a0 : Value) (s17 : St) (c1 : List Value) : Option (Value × St) :=
  S.bd (eqb [1] false false x20 (Go.Value.int Go.IntKind.i64 6)) fun x81 => S.cnd x81 (S.bd (nck a0) fun x82 => S.bd (fld 19 x82) fun x83 => S.bd (lda s17 15 x83) fun x84 => S.bd (bld [(Go.Value.int Go.IntKind.i64 0), (Go.Value.int Go.IntKind.i64 0), (Go.Value.int Go.IntKind.i64 0), (Go.Value.int Go.IntKind.u64 0), (Go.Value.int Go.IntKind.i64 0), (Go.Value.int Go.IntKind.u64 0), (Go.Value.int Go.IntKind.i64 0), (Go.Value.int Go.IntKind.i64 0), (Go.Value.int Go.IntKind.u64 0), (Go.Value.int Go.IntKind.i64 0), (Go.Value.int Go.IntKind.i64 0), (Go.Value.int Go.IntKind.u64 0), (Go.Value.int Go.IntKind.i64 0), (Go.Value.int Go.IntKind.u64 0), (Go.Value.int Go.IntKind.i64 0), (Go.Value.int Go.IntKind.i64 0), (Go.Value.int Go.IntKind.u64 0), (Go.Value.int Go.IntKind.i64 0), (Go.Value.int Go.IntKind.u64 0), (Go.Value.int Go.IntKind.i64 0), (Go.Value.int Go.IntKind.i64 0), (Go.Value.int Go.IntKind.i64 0), (Go.Value.int Go.IntKind.u64 0), (Go.Value.slice Option.none 0 0), (Go.Value.slice Option.none 0 0), (Go.Value.int Go.IntKind.i64 0), (Go.Value.int Go.IntKind.i64 0), (Go.Value.int Go.IntKind.u64 0), (Go.Value.int Go.IntKind.i64 0), (Go.Value.int Go.IntKind.u64 0), (Go.Value.int Go.IntKind.i64 0), (Go.Value.int Go.IntKind.i64 0), (Go.Value.int Go.IntKind.u64 0), (Go.Value.int Go.IntKind.i64 0), (Go.Value.int Go.IntKind.u64 0), (Go.Value.bool Bool.false)] [(0, 1, (Go.Value.int Go.IntKind.i64 3)), (21, 15, x84)]) fun x85 => S.bd (stl c1 0 36 x85) fun c86 => S.bd (lal c86 0 36) fun x87 => some (x87, s17)) (S.bd (bld [(Go.Value.int Go.IntKind.i64 0), (Go.Value.int Go.IntKind.i64 0), (Go.Value.int Go.IntKind.i64 0), (Go.Value.int Go.IntKind.u64 0), (Go.Value.int Go.IntKind.i64 0), (Go.Value.int Go.IntKind.u64 0), (Go.Value.int Go.IntKind.i64 0), (Go.Value.int Go.IntKind.i64 0), (Go.Value.int Go.IntKind.u64 0), (Go.Value.int Go.IntKind.i64 0), (Go.Value.int Go.IntKind.i64 0), (Go.Value.int Go.IntKind.u64 0), (Go.Value.int Go.IntKind.i64 0), (Go.Value.int Go.IntKind.u64 0), (Go.Value.int Go.IntKind.i64 0), (Go.Value.int Go.IntKind.i64 0), (Go.Value.int Go.IntKind.u64 0), (Go.Value.int Go.IntKind.i64 0), (Go.Value.int Go.IntKind.u64 0), (Go.Value.int Go.IntKind.i64 0), (Go.Value.int Go.IntKind.i64 0), (Go.Value.int Go.IntKind.i64 0), (Go.Value.int Go.IntKind.u64 0), (Go.Value.slice Option.none 0 0), (Go.Value.slice Option.none 0 0), (Go.Value.int Go.IntKind.i64 0), (Go.Value.int Go.IntKind.i64 0), (Go.Value.int Go.IntKind.u64 0), (Go.Value.int Go.IntKind.i64 0), (Go.Value.int Go.IntKind.u64 0), (Go.Value.int Go.IntKind.i64 0), (Go.Value.int Go.IntKind.i64 0), (Go.Value.int Go.IntKind.u64 0), (Go.Value.int Go.IntKind.i64 0), (Go.Value.int Go.IntKind.u64 0), (Go.Value.bool Bool.false)] []) fun x88 => S.bd (stl c1 0 36 x88) fun c89 => S.bd (lal c89 0 36) fun x90 => some (x90, s17))

def mend_Mend_Next.t.p2 (S : Sig) (x20 : Value) (a0 : Value) (s17 : St) (c16 : List Value) (c1 : List Value) (r15 : Value × St) : Option (Value × St) :=
  S.bd (eqb [1] false false x20 (Go.Value.int Go.IntKind.i64 4)) fun x58 => S.cnd x58 (S.bd (nck a0) fun x59 => S.bd (fld 18 x59) fun x60 => S.bd (ldc s17 x60) fun x61 => S.bd (nck a0) fun x62 => S.bd (fld 10 x62) fun x63 => S.bd (lda s17 5 x63) fun x64 => S.bd (lal c16 0 5) fun x65 => S.bd (bld [(Go.Value.int Go.IntKind.i64 0), (Go.Value.int Go.IntKind.i64 0), (Go.Value.int Go.IntKind.u64 0), (Go.Value.int Go.IntKind.i64 0), (Go.Value.int Go.IntKind.i64 0), (Go.Value.int Go.IntKind.u64 0), (Go.Value.int Go.IntKind.i64 0), (Go.Value.int Go.IntKind.u64 0), (Go.Value.int Go.IntKind.i64 0), (Go.Value.int Go.IntKind.i64 0), (Go.Value.int Go.IntKind.u64 0), (Go.Value.int Go.IntKind.i64 0), (Go.Value.int Go.IntKind.u64 0), (Go.Value.int Go.IntKind.i64 0), (Go.Value.int Go.IntKind.i64 0)] [(0, 1, (Go.Value.int Go.IntKind.i64 6)), (3, 5, x65)]) fun x66 => S.bd (callV (mend_Mend_Next.ctx) x61 [x64, x66] s17) fun r67 => S.bd (stl c1 0 36 r67.1) fun c68 => S.bd (lal c68 0 36) fun x69 => some (x69, r67.2)) (S.bd (eqb [1] false false x20 (Go.Value.int Go.IntKind.i64 5)) fun x70 => S.cnd x70 (S.bd (nck a0) fun x71 => S.bd (fld 18 x71) fun x72 => S.bd (ldc s17 x72) fun x73 => S.bd (lal c16 0 5) fun x74 => S.bd (lda s17 2 r15.1) fun x75 => S.bd (bld [(Go.Value.int Go.IntKind.i64 0), (Go.Value.int Go.IntKind.i64 0), (Go.Value.int Go.IntKind.u64 0), (Go.Value.int Go.IntKind.i64 0), (Go.Value.int Go.IntKind.i64 0), (Go.Value.int Go.IntKind.u64 0), (Go.Value.int Go.IntKind.i64 0), (Go.Value.int Go.IntKind.u64 0), (Go.Value.int Go.IntKind.i64 0), (Go.Value.int Go.IntKind.i64 0), (Go.Value.int Go.IntKind.u64 0), (Go.Value.int Go.IntKind.i64 0), (Go.Value.int Go.IntKind.u64 0), (Go.Value.int Go.IntKind.i64 0), (Go.Value.int Go.IntKind.i64 0)] [(0, 1, (Go.Value.int Go.IntKind.i64 4)), (13, 2, x75)]) fun x76 => S.bd (callV (mend_Mend_Next.ctx) x73 [x74, x76] s17) fun r77 => S.bd (lda r77.2 2 r15.1) fun x78 => S.cnd (Value.bool (sameV x78 x75)) (S.bd (stl c1 0 36 r77.1) fun c79 => S.bd (lal c79 0 36) fun x80 => some (x80, r77.2)) (none)) (mend_Mend_Next.t.p1 S x20 a0 s17 c1))

def mend_Mend_Next.t.p3 (S : Sig) (x20 : Value) (a0 : Value) (s17 : St) (c1 : List Value) (c16 : List Value) (r15 : Value × St) : Option (Value × St) :=
  S.bd (eqb [1] false false x20 (Go.Value.int Go.IntKind.i64 2)) fun x32 => S.cnd x32 (S.bd (nck a0) fun x33 => S.bd (fld 18 x33) fun x34 => S.bd (ldc s17 x34) fun x35 => S.bd (nck a0) fun x36 => S.bd (fld 10 x36) fun x37 => S.bd (lda s17 5 x37) fun x38 => S.bd (bld [(Go.Value.int Go.IntKind.i64 0), (Go.Value.int Go.IntKind.i64 0), (Go.Value.int Go.IntKind.u64 0), (Go.Value.int Go.IntKind.i64 0), (Go.Value.int Go.IntKind.i64 0), (Go.Value.int Go.IntKind.u64 0), (Go.Value.int Go.IntKind.i64 0), (Go.Value.int Go.IntKind.u64 0), (Go.Value.int Go.IntKind.i64 0), (Go.Value.int Go.IntKind.i64 0), (Go.Value.int Go.IntKind.u64 0), (Go.Value.int Go.IntKind.i64 0), (Go.Value.int Go.IntKind.u64 0), (Go.Value.int Go.IntKind.i64 0), (Go.Value.int Go.IntKind.i64 0)] [(0, 1, (Go.Value.int Go.IntKind.i64 1))]) fun x39 => S.bd (callV (mend_Mend_Next.ctx) x35 [x38, x39] s17) fun r40 => S.bd (stl c1 0 36 r40.1) fun c41 => S.bd (lal c41 0 36) fun x42 => some (x42, r40.2)) (S.bd (eqb [1] false false x20 (Go.Value.int Go.IntKind.i64 3)) fun x43 => S.cnd x43 (S.bd (nck a0) fun x44 => S.bd (fld 18 x44) fun x45 => S.bd (ldc s17 x45) fun x46 => S.bd (lal c16 0 5) fun x47 => S.bd (nck a0) fun x48 => S.bd (fld 10 x48) fun x49 => S.bd (lda s17 5 x49) fun x50 => S.bd (lda s17 2 r15.1) fun x51 => S.bd (bld [(Go.Value.int Go.IntKind.i64 0), (Go.Value.int Go.IntKind.i64 0), (Go.Value.int Go.IntKind.u64 0), (Go.Value.int Go.IntKind.i64 0), (Go.Value.int Go.IntKind.i64 0), (Go.Value.int Go.IntKind.u64 0), (Go.Value.int Go.IntKind.i64 0), (Go.Value.int Go.IntKind.u64 0), (Go.Value.int Go.IntKind.i64 0), (Go.Value.int Go.IntKind.i64 0), (Go.Value.int Go.IntKind.u64 0), (Go.Value.int Go.IntKind.i64 0), (Go.Value.int Go.IntKind.u64 0), (Go.Value.int Go.IntKind.i64 0), (Go.Value.int Go.IntKind.i64 0)] [(0, 1, (Go.Value.int Go.IntKind.i64 5)), (3, 5, x50), (13, 2, x51)]) fun x52 => S.bd (callV (mend_Mend_Next.ctx) x46 [x47, x52] s17) fun r53 => S.bd (lda r53.2 5 x49) fun x54 => S.cnd (Value.bool (sameV x54 x50)) (S.bd (lda r53.2 2 r15.1) fun x55 => S.cnd (Value.bool (sameV x55 x51)) (S.bd (stl c1 0 36 r53.1) fun c56 => S.bd (lal c56 0 36) fun x57 => some (x57, r53.2)) (none)) (none)) (mend_Mend_Next.t.p2 S x20 a0 s17 c16 c1 r15))

def mend_Mend_Next.t.p4 (S : Sig) (a0 : Value) (s : St) (c1 : List Value) : Option (Value × St) :=
  S.bd (nck a0) fun x6 => S.bd (fld 0 x6) fun x7 => S.bd (fld 2 x7) fun x8 => S.bd (lda s 5 x8) fun x9 => S.bd (nck a0) fun x10 => S.bd (fld 0 x10) fun x11 => S.bd (fld 7 x11) fun x12 => S.bd (lda s 2 x12) fun x13 => S.bd (alv s (Go.Value.agg #[(Go.Value.int Go.IntKind.i64 0), (Go.Value.int Go.IntKind.i64 0)])) fun _ => S.bd (bx (Go.Value.agg #[(Go.Value.int Go.IntKind.i64 0), (Go.Value.int Go.IntKind.i64 0), (Go.Value.int Go.IntKind.u64 0), (Go.Value.int Go.IntKind.i64 0), (Go.Value.int Go.IntKind.u64 0)])) fun c14 => S.bd (alv s (Go.Value.agg #[(Go.Value.int Go.IntKind.i64 0), (Go.Value.int Go.IntKind.i64 0)])) fun r15 => S.bd (stl c14 0 5 x9) fun c16 => S.bd (stv r15.2 2 r15.1 x13) fun s17 => S.bd (nck a0) fun x18 => S.bd (fld 9 x18) fun x19 => S.bd (ldc s17 x19) fun x20 => S.bd (eqb [1] false false x20 (Go.Value.int Go.IntKind.i64 1)) fun x21 => S.cnd x21 (S.bd (nck a0) fun x22 => S.bd (fld 18 x22) fun x23 => S.bd (ldc s17 x23) fun x24 => S.bd (lal c16 0 5) fun x25 => S.bd (lda s17 2 r15.1) fun x26 => S.bd (bld [(Go.Value.int Go.IntKind.i64 0), (Go.Value.int Go.IntKind.i64 0), (Go.Value.int Go.IntKind.u64 0), (Go.Value.int Go.IntKind.i64 0), (Go.Value.int Go.IntKind.i64 0), (Go.Value.int Go.IntKind.u64 0), (Go.Value.int Go.IntKind.i64 0), (Go.Value.int Go.IntKind.u64 0), (Go.Value.int Go.IntKind.i64 0), (Go.Value.int Go.IntKind.i64 0), (Go.Value.int Go.IntKind.u64 0), (Go.Value.int Go.IntKind.i64 0), (Go.Value.int Go.IntKind.u64 0), (Go.Value.int Go.IntKind.i64 0), (Go.Value.int Go.IntKind.i64 0)] [(0, 1, (Go.Value.int Go.IntKind.i64 3)), (13, 2, x26)]) fun x27 => S.bd (callV (mend_Mend_Next.ctx) x24 [x25, x27] s17) fun r28 => S.bd (lda r28.2 2 r15.1) fun x29 => S.cnd (Value.bool (sameV x29 x26)) (S.bd (stl c1 0 36 r28.1) fun c30 => S.bd (lal c30 0 36) fun x31 => some (x31, r28.2)) (none)) (mend_Mend_Next.t.p3 S x20 a0 s17 c1 c16 r15)

def mend_Mend_Next.t (S : Sig) (a0 : Value) (s : St) : Option (Value × St) :=
  S.bd (bx (Go.Value.agg #[(Go.Value.int Go.IntKind.i64 0), (Go.Value.int Go.IntKind.i64 0), (Go.Value.int Go.IntKind.i64 0), (Go.Value.int Go.IntKind.u64 0), (Go.Value.int Go.IntKind.i64 0), (Go.Value.int Go.IntKind.u64 0), (Go.Value.int Go.IntKind.i64 0), (Go.Value.int Go.IntKind.i64 0), (Go.Value.int Go.IntKind.u64 0), (Go.Value.int Go.IntKind.i64 0), (Go.Value.int Go.IntKind.i64 0), (Go.Value.int Go.IntKind.u64 0), (Go.Value.int Go.IntKind.i64 0), (Go.Value.int Go.IntKind.u64 0), (Go.Value.int Go.IntKind.i64 0), (Go.Value.int Go.IntKind.i64 0), (Go.Value.int Go.IntKind.u64 0), (Go.Value.int Go.IntKind.i64 0), (Go.Value.int Go.IntKind.u64 0), (Go.Value.int Go.IntKind.i64 0), (Go.Value.int Go.IntKind.i64 0), (Go.Value.int Go.IntKind.i64 0), (Go.Value.int Go.IntKind.u64 0), (Go.Value.slice Option.none 0 0), (Go.Value.slice Option.none 0 0), (Go.Value.int Go.IntKind.i64 0), (Go.Value.int Go.IntKind.i64 0), (Go.Value.int Go.IntKind.u64 0), (Go.Value.int Go.IntKind.i64 0), (Go.Value.int Go.IntKind.u64 0), (Go.Value.int Go.IntKind.i64 0), (Go.Value.int Go.IntKind.i64 0), (Go.Value.int Go.IntKind.u64 0), (Go.Value.int Go.IntKind.i64 0), (Go.Value.int Go.IntKind.u64 0), (Go.Value.bool Bool.false)])) fun c1 => S.bd (eqb [3] false false a0 (Go.Value.pointer Option.none)) fun x2 => S.cnd x2 (S.bd (bld [(Go.Value.int Go.IntKind.i64 0), (Go.Value.int Go.IntKind.i64 0), (Go.Value.int Go.IntKind.i64 0), (Go.Value.int Go.IntKind.u64 0), (Go.Value.int Go.IntKind.i64 0), (Go.Value.int Go.IntKind.u64 0), (Go.Value.int Go.IntKind.i64 0), (Go.Value.int Go.IntKind.i64 0), (Go.Value.int Go.IntKind.u64 0), (Go.Value.int Go.IntKind.i64 0), (Go.Value.int Go.IntKind.i64 0), (Go.Value.int Go.IntKind.u64 0), (Go.Value.int Go.IntKind.i64 0), (Go.Value.int Go.IntKind.u64 0), (Go.Value.int Go.IntKind.i64 0), (Go.Value.int Go.IntKind.i64 0), (Go.Value.int Go.IntKind.u64 0), (Go.Value.int Go.IntKind.i64 0), (Go.Value.int Go.IntKind.u64 0), (Go.Value.int Go.IntKind.i64 0), (Go.Value.int Go.IntKind.i64 0), (Go.Value.int Go.IntKind.i64 0), (Go.Value.int Go.IntKind.u64 0), (Go.Value.slice Option.none 0 0), (Go.Value.slice Option.none 0 0), (Go.Value.int Go.IntKind.i64 0), (Go.Value.int Go.IntKind.i64 0), (Go.Value.int Go.IntKind.u64 0), (Go.Value.int Go.IntKind.i64 0), (Go.Value.int Go.IntKind.u64 0), (Go.Value.int Go.IntKind.i64 0), (Go.Value.int Go.IntKind.i64 0), (Go.Value.int Go.IntKind.u64 0), (Go.Value.int Go.IntKind.i64 0), (Go.Value.int Go.IntKind.u64 0), (Go.Value.bool Bool.false)] []) fun x3 => S.bd (stl c1 0 36 x3) fun c4 => S.bd (lal c4 0 36) fun x5 => some (x5, s)) (mend_Mend_Next.t.p4 S a0 s c1)
def mend_Mend_Next.v (a0 : Value) (s : St) : Option (Value × St) := mend_Mend_Next.t std a0 s
def mend_Mend_Next.w : List Value → St → Option (Value × St)
  | [a0], s => mend_Mend_Next.v a0 s
  | _, _ => none
def mend_Mend_Next.an : An := ⟨89, false, [2, 3], [], [], [(3, [(0, 0, [], []), (1, 0, [], []), (2, 0, [], []), (3, 0, [], []), (4, 2, [], []), (5, 0, [], []), (6, 0, [], []), (7, 0, [], []), (8, 0, [], []), (9, 2, [], []), (10, 6, [], [11]), (11, 3, [], []), (12, 29, [], []), (13, 4, [], [])]), (6, [(0, 0, [], []), (1, 0, [], []), (2, 0, [], []), (3, 2, [], []), (4, 25, [], []), (5, 2, [], []), (6, 0, [], []), (7, 4, [5], []), (8, 21, [], [])]), (8, [(0, 0, [], []), (1, 0, [], []), (2, 0, [], []), (3, 2, [], []), (4, 0, [], []), (5, 0, [], []), (6, 0, [], []), (7, 2, [], []), (8, 0, [], []), (9, 4, [], []), (10, 21, [], [])]), (10, [(0, 0, [], []), (1, 0, [], []), (2, 0, [], []), (3, 2, [], []), (4, 25, [], []), (5, 0, [], []), (6, 0, [], []), (7, 0, [], []), (8, 2, [], []), (9, 2, [], []), (10, 0, [], []), (11, 4, [8, 9], []), (12, 21, [], [])]), (12, [(0, 0, [], []), (1, 0, [], []), (2, 0, [], []), (3, 2, [], []), (4, 0, [], []), (5, 0, [], []), (6, 0, [], []), (7, 2, [], []), (8, 25, [], []), (9, 0, [], []), (10, 4, [], []), (11, 21, [], [])]), (14, [(0, 0, [], []), (1, 0, [], []), (2, 0, [], []), (3, 2, [], []), (4, 25, [], []), (5, 2, [], []), (6, 0, [], []), (7, 4, [5], []), (8, 21, [], [])])]⟩
theorem mend_Mend_Next.ok (S : Sig) (a0 : Value) (s : St) : evF S Try.prog mend_Mend_Next.ctx mend_Mend_Next.an Try.f20 [a0] s = mend_Mend_Next.t S a0 s := by kernel_rfl
theorem mend_Mend_Next.cok : CtxOk Try.prog mend_Mend_Next.ctx := .cons mend_New_fn1.sound mend_New_fn1.can <| .nil
theorem mend_Mend_Next.draws : fnDraws mend_Mend_Next.an Try.f20 = true := by kernel_rfl
theorem mend_Mend_Next.can : callOk Try.prog 20 = true := by kernel_rfl
theorem mend_Mend_Next.sound : FnOk Try.prog 20 (.st mend_Mend_Next.w) := FnOk.st_of (evF_ok mend_Mend_Next.cok mixed (f := 20) (fn := Try.f20) (by kernel_rfl) mend_Mend_Next.draws) fun args s r h => by
  unfold mend_Mend_Next.w at h; split at h
  · rw [mend_Mend_Next.ok std]; exact h
  · simp at h

/-! ### leapfrog/leapfroglaw20.dead: function 7 -/
def leapfroglaw20x_dead.ctx : Ctx := []
def leapfroglaw20x_dead.l2 (S : Sig) (rec9 : List Value → St → Option Cut) (xs7 : List Value) (s8 : St) : Option Cut :=
  S.bd (lenL (xs7.getD 0 undef)) fun x10 => S.bd (bin .lss (xs7.getD 2 undef) x10) fun x11 => S.cnd x11 (S.bd (idx s8 1 (xs7.getD 0 undef) (xs7.getD 2 undef)) fun x12 => S.bd (ldc s8 x12) fun x13 => S.bd (eqb [1] false false x13 (xs7.getD 1 undef)) fun x14 => S.cnd x14 (some (1, [(Go.Value.bool Bool.true)], s8)) (S.bd (bin .add (xs7.getD 2 undef) (Go.Value.int Go.IntKind.i64 1)) fun x15 => rec9 [(xs7.getD 0 undef), (xs7.getD 1 undef), x15] s8)) (some (0, [], s8))

def leapfroglaw20x_dead.t (S : Sig) (a0 a1 : Value) (s : St) : Option Value :=
  S.bd (S.it (leapfroglaw20x_dead.l2 S) [a0, a1, (Go.Value.int Go.IntKind.i64 0)] s) fun r16 => if r16.1 = 0 then (some ((Go.Value.bool Bool.false))) else (some ((r16.2.1.getD 0 undef)))
def leapfroglaw20x_dead.r (a0 a1 : Value) (s : St) : Option Value := leapfroglaw20x_dead.t std a0 a1 s
def leapfroglaw20x_dead.w : List Value → St → Option Value
  | [a0, a1], s => leapfroglaw20x_dead.r a0 a1 s
  | _, _ => none
def leapfroglaw20x_dead.an : An := ⟨18, true, [], [(2, ⟨[.v 0, .v 1, .v 5], [(.exit 0, []), (.ret, [.v 4])]⟩)], [], []⟩
theorem leapfroglaw20x_dead.ok (S : Sig) (a0 a1 : Value) (s : St) : evG S Try.prog leapfroglaw20x_dead.ctx leapfroglaw20x_dead.an Try.f7 [a0, a1] s = leapfroglaw20x_dead.t S a0 a1 s := by kernel_rfl
theorem leapfroglaw20x_dead.cok : CtxOk Try.prog leapfroglaw20x_dead.ctx := .nil
theorem leapfroglaw20x_dead.draws : fnDraws leapfroglaw20x_dead.an Try.f7 = true := by kernel_rfl
theorem leapfroglaw20x_dead.can : callOk Try.prog 7 = true := by kernel_rfl
theorem leapfroglaw20x_dead.sound : FnOk Try.prog 7 (.rd leapfroglaw20x_dead.w) := FnOk.rd_of (evG_ok leapfroglaw20x_dead.cok mixed (f := 7) (fn := Try.f7) (by kernel_rfl) leapfroglaw20x_dead.draws) fun args s r h => by
  unfold leapfroglaw20x_dead.w at h; split at h
  · rw [leapfroglaw20x_dead.ok std]; exact h
  · simp at h

/-! ### (*leapfrog/leapfrogref09.Peer).list: function 71 -/
def leapfrogref09x_Peer_list.ctx : Ctx := [(24, .rd leapfrogref01x_Right.w), (54, .rd leapfrogref01x_BeginsQ.w)]
def leapfrogref09x_Peer_list.t (S : Sig) (a0 a1 : Value) (s : St) : Option Value :=
  S.bd (bx a1) fun c1 => S.bd (nck a0) fun x2 => S.bd (fld 6 x2) fun x3 => S.bd (ldc s x3) fun x4 => S.cnd x4 (S.bd (lal c1 0 2) fun x5 => S.bd (leapfrogref01x_Right.r x5 s) fun x6 => S.bd (S.gd x6 true (lcl c1 0)) fun x7 => S.bd (S.gd x6 true (some a0)) fun x8 => S.bd (S.gd x6 true (nck x8)) fun x9 => S.bd (S.gd x6 true (fld 0 x9)) fun x10 => S.bd (S.gd x6 true (fld 3 x10)) fun x11 => S.bd (S.gd x6 true (fld 0 x11)) fun x12 => S.bd (S.gd x6 true (ldc s x12)) fun x13 => S.bd (S.gd x6 true (bin .leq x7 x13)) fun x14 => S.bd (pik x6 x14 (Go.Value.bool Bool.false)) fun x15 => some (x15)) (S.bd (nck a0) fun x16 => S.bd (fld 0 x16) fun x17 => S.bd (fld 3 x17) fun x18 => S.bd (lda s 2 x18) fun x19 => S.bd (lal c1 0 2) fun x20 => S.bd (leapfrogref01x_BeginsQ.r x19 x20 s) fun x21 => some (x21))
def leapfrogref09x_Peer_list.r (a0 a1 : Value) (s : St) : Option Value := leapfrogref09x_Peer_list.t std a0 a1 s
def leapfrogref09x_Peer_list.w : List Value → St → Option Value
  | [a0, a1], s => leapfrogref09x_Peer_list.r a0 a1 s
  | _, _ => none
def leapfrogref09x_Peer_list.an : An := ⟨29, true, [3], [], [], [(2, [(0, 25, [], []), (1, 3, [], []), (2, 0, [], []), (3, 0, [], []), (4, 25, [], []), (5, 0, [], []), (6, 0, [], []), (7, 0, [], []), (8, 0, [], []), (9, 0, [], []), (10, 2, [], []), (11, 0, [], []), (12, 0, [], []), (13, 0, [], [])]), (3, [(0, 0, [], []), (1, 0, [], []), (2, 0, [], []), (3, 0, [], []), (4, 2, [], []), (5, 25, [], []), (6, 3, [], []), (7, 0, [], [])])]⟩
theorem leapfrogref09x_Peer_list.ok (S : Sig) (a0 a1 : Value) (s : St) : evG S Try.prog leapfrogref09x_Peer_list.ctx leapfrogref09x_Peer_list.an Try.f71 [a0, a1] s = leapfrogref09x_Peer_list.t S a0 a1 s := by kernel_rfl
theorem leapfrogref09x_Peer_list.cok : CtxOk Try.prog leapfrogref09x_Peer_list.ctx := .cons leapfrogref01x_Right.sound leapfrogref01x_Right.can <| .cons leapfrogref01x_BeginsQ.sound leapfrogref01x_BeginsQ.can <| .nil
theorem leapfrogref09x_Peer_list.draws : fnDraws leapfrogref09x_Peer_list.an Try.f71 = true := by kernel_rfl
theorem leapfrogref09x_Peer_list.can : callOk Try.prog 71 = true := by kernel_rfl
theorem leapfrogref09x_Peer_list.sound : FnOk Try.prog 71 (.rd leapfrogref09x_Peer_list.w) := FnOk.rd_of (evG_ok leapfrogref09x_Peer_list.cok mixed (f := 71) (fn := Try.f71) (by kernel_rfl) leapfrogref09x_Peer_list.draws) fun args s r h => by
  unfold leapfrogref09x_Peer_list.w at h; split at h
  · rw [leapfrogref09x_Peer_list.ok std]; exact h
  · simp at h

/-! ### (*leapfrog/leapfrogref09.Peer).first: function 72 -/
def leapfrogref09x_Peer_first.ctx : Ctx := [(30, .rd leapfrogref09x_Tail.w), (29, .rd leapfrogref09x_Head.w)]
def leapfrogref09x_Peer_first.t (S : Sig) (a0 a1 : Value) (s : St) : Option Value :=
  S.bd (bx a1) fun c1 => S.bd (bx (Go.Value.agg #[(Go.Value.int Go.IntKind.i64 0), (Go.Value.int Go.IntKind.u64 0), (Go.Value.int Go.IntKind.i64 0), (Go.Value.int Go.IntKind.i64 0), (Go.Value.int Go.IntKind.u64 0), (Go.Value.int Go.IntKind.i64 0), (Go.Value.int Go.IntKind.u64 0), (Go.Value.int Go.IntKind.i64 0), (Go.Value.int Go.IntKind.i64 0), (Go.Value.int Go.IntKind.u64 0), (Go.Value.int Go.IntKind.i64 0), (Go.Value.int Go.IntKind.u64 0), (Go.Value.bool Bool.false), (Go.Value.int Go.IntKind.i64 0), (Go.Value.int Go.IntKind.i64 0), (Go.Value.slice Option.none 0 0)])) fun c2 => S.bd (lal c1 0 2) fun x3 => S.bd (bld [(Go.Value.int Go.IntKind.i64 0), (Go.Value.int Go.IntKind.u64 0), (Go.Value.int Go.IntKind.i64 0), (Go.Value.int Go.IntKind.i64 0), (Go.Value.int Go.IntKind.u64 0), (Go.Value.int Go.IntKind.i64 0), (Go.Value.int Go.IntKind.u64 0), (Go.Value.int Go.IntKind.i64 0), (Go.Value.int Go.IntKind.i64 0), (Go.Value.int Go.IntKind.u64 0), (Go.Value.int Go.IntKind.i64 0), (Go.Value.int Go.IntKind.u64 0), (Go.Value.bool Bool.false), (Go.Value.int Go.IntKind.i64 0), (Go.Value.int Go.IntKind.i64 0), (Go.Value.slice Option.none 0 0)] [(0, 2, x3)]) fun x4 => S.bd (bx (Go.Value.agg #[(Go.Value.int Go.IntKind.i64 0), (Go.Value.int Go.IntKind.u64 0), (Go.Value.int Go.IntKind.i64 0), (Go.Value.int Go.IntKind.i64 0), (Go.Value.int Go.IntKind.u64 0), (Go.Value.int Go.IntKind.i64 0), (Go.Value.int Go.IntKind.u64 0), (Go.Value.int Go.IntKind.i64 0), (Go.Value.int Go.IntKind.i64 0), (Go.Value.int Go.IntKind.u64 0), (Go.Value.int Go.IntKind.i64 0), (Go.Value.int Go.IntKind.u64 0), (Go.Value.bool Bool.false), (Go.Value.int Go.IntKind.i64 0), (Go.Value.int Go.IntKind.i64 0), (Go.Value.slice Option.none 0 0)])) fun c5 => S.bd (stl c5 0 16 x4) fun c6 => S.bd (nck a0) fun x7 => S.bd (fld 0 x7) fun x8 => S.bd (fld 1 x8) fun x9 => S.bd (fld 0 x9) fun x10 => S.bd (ldc s x10) fun x11 => S.bd (eqb [1] false false x11 (Go.Value.int Go.IntKind.i64 1)) fun x12 => S.cnd x12 (S.bd (nck a0) fun x13 => S.bd (fld 0 x13) fun x14 => S.bd (fld 3 x14) fun x15 => S.bd (fld 0 x15) fun x16 => S.bd (ldc s x16) fun x17 => S.bd (leapfrogref09x_Tail.r x17 s) fun x18 => S.bd (xtr 0 x18) fun x19 => S.bd (xtr 1 x18) fun x20 => S.bd (stl c6 7 5 x19) fun c21 => S.bd (lal c21 0 16) fun x22 => S.bd (stl c2 0 16 x22) fun c23 => S.bd (lal c23 0 16) fun x24 => some (x24)) (S.bd (nck a0) fun x25 => S.bd (fld 0 x25) fun x26 => S.bd (fld 3 x26) fun x27 => S.bd (fld 0 x27) fun x28 => S.bd (ldc s x28) fun x29 => S.bd (leapfrogref09x_Head.r x29 s) fun x30 => S.bd (xtr 0 x30) fun x31 => S.bd (xtr 1 x30) fun x32 => S.bd (stl c6 2 5 x31) fun c33 => S.bd (lal c33 0 16) fun x34 => S.bd (stl c2 0 16 x34) fun c35 => S.bd (lal c35 0 16) fun x36 => some (x36))
def leapfrogref09x_Peer_first.r (a0 a1 : Value) (s : St) : Option Value := leapfrogref09x_Peer_first.t std a0 a1 s
def leapfrogref09x_Peer_first.w : List Value → St → Option Value
  | [a0, a1], s => leapfrogref09x_Peer_first.r a0 a1 s
  | _, _ => none
def leapfrogref09x_Peer_first.an : An := ⟨38, true, [3, 4, 5], [], [], []⟩
theorem leapfrogref09x_Peer_first.ok (S : Sig) (a0 a1 : Value) (s : St) : evG S Try.prog leapfrogref09x_Peer_first.ctx leapfrogref09x_Peer_first.an Try.f72 [a0, a1] s = leapfrogref09x_Peer_first.t S a0 a1 s := by kernel_rfl
theorem leapfrogref09x_Peer_first.cok : CtxOk Try.prog leapfrogref09x_Peer_first.ctx := .cons leapfrogref09x_Tail.sound leapfrogref09x_Tail.can <| .cons leapfrogref09x_Head.sound leapfrogref09x_Head.can <| .nil
theorem leapfrogref09x_Peer_first.draws : fnDraws leapfrogref09x_Peer_first.an Try.f72 = true := by kernel_rfl
theorem leapfrogref09x_Peer_first.can : callOk Try.prog 72 = true := by kernel_rfl
theorem leapfrogref09x_Peer_first.sound : FnOk Try.prog 72 (.rd leapfrogref09x_Peer_first.w) := FnOk.rd_of (evG_ok leapfrogref09x_Peer_first.cok mixed (f := 72) (fn := Try.f72) (by kernel_rfl) leapfrogref09x_Peer_first.draws) fun args s r h => by
  unfold leapfrogref09x_Peer_first.w at h; split at h
  · rw [leapfrogref09x_Peer_first.ok std]; exact h
  · simp at h

/-! ### (*leapfrog/leapfrogref09.Peer).rec: function 40 -/
def leapfrogref09x_Peer_rec.ctx : Ctx := [(71, .rd leapfrogref09x_Peer_list.w), (72, .rd leapfrogref09x_Peer_first.w)]
def leapfrogref09x_Peer_rec.l2 (S : Sig) (rec25 : List Value → St → Option Cut) (xs23 : List Value) (s24 : St) : Option Cut :=
  S.bd (nck (xs23.getD 0 undef)) fun x26 => S.bd (fld 9 x26) fun x27 => S.bd (ldc s24 x27) fun x28 => S.bd (lenL x28) fun x29 => S.bd (bin .lss (xs23.getD 1 undef) x29) fun x30 => S.cnd x30 (S.bd (nck (xs23.getD 0 undef)) fun x31 => S.bd (fld 9 x31) fun x32 => S.bd (ldc s24 x32) fun x33 => S.bd (idx s24 16 x33 (xs23.getD 1 undef)) fun x34 => S.bd (fld 0 x34) fun x35 => S.bd (lda s24 2 x35) fun x36 => S.bd (lal (cellsA (xs23.getD 2 undef)) 0 2) fun x37 => S.bd (eqb [1, 1] true false x36 x37) fun x38 => S.cnd x38 (S.bd (nck (xs23.getD 0 undef)) fun x39 => S.bd (fld 9 x39) fun x40 => S.bd (ldc s24 x40) fun x41 => S.bd (idx s24 16 x41 (xs23.getD 1 undef)) fun x42 => S.bd (lda s24 16 x42) fun x43 => S.bd (stl (cellsA (xs23.getD 3 undef)) 0 16 x43) fun c44 => some (1, [(Go.Value.bool Bool.true), (Value.agg ⟨c44⟩)], s24)) (S.bd (bin .add (xs23.getD 1 undef) (Go.Value.int Go.IntKind.i64 1)) fun x45 => rec25 [(xs23.getD 0 undef), x45, (Value.agg ⟨(cellsA (xs23.getD 2 undef))⟩), (Value.agg ⟨(cellsA (xs23.getD 3 undef))⟩)] s24)) (some (0, [(xs23.getD 0 undef), (Value.agg ⟨(cellsA (xs23.getD 2 undef))⟩), (Value.agg ⟨(cellsA (xs23.getD 3 undef))⟩)], s24))

def leapfrogref09x_Peer_rec.t (S : Sig) (a0 a1 : Value) (s : St) : Option Value :=
  S.bd (bx a1) fun c1 => S.bd (bx (Go.Value.agg #[(Go.Value.int Go.IntKind.i64 0), (Go.Value.int Go.IntKind.u64 0), (Go.Value.int Go.IntKind.i64 0), (Go.Value.int Go.IntKind.i64 0), (Go.Value.int Go.IntKind.u64 0), (Go.Value.int Go.IntKind.i64 0), (Go.Value.int Go.IntKind.u64 0), (Go.Value.int Go.IntKind.i64 0), (Go.Value.int Go.IntKind.i64 0), (Go.Value.int Go.IntKind.u64 0), (Go.Value.int Go.IntKind.i64 0), (Go.Value.int Go.IntKind.u64 0), (Go.Value.bool Bool.false), (Go.Value.int Go.IntKind.i64 0), (Go.Value.int Go.IntKind.i64 0), (Go.Value.slice Option.none 0 0)])) fun c2 => S.bd (S.it (leapfrogref09x_Peer_rec.l2 S) [a0, (Go.Value.int Go.IntKind.i64 0), (Value.agg ⟨c1⟩), (Value.agg ⟨c2⟩)] s) fun r46 => if r46.1 = 0 then (S.bd (nck (r46.2.1.getD 0 undef)) fun x48 => S.bd (fld 6 x48) fun x49 => S.bd (ldc r46.2.2 x49) fun x50 => S.bd (S.gd x50 true (some (r46.2.1.getD 0 undef))) fun x51 => S.bd (S.gd x50 true (lal (cellsA (r46.2.1.getD 1 undef)) 0 2)) fun x52 => S.bd (S.gd x50 true (leapfrogref09x_Peer_list.r x51 x52 r46.2.2)) fun x53 => S.bd (pik x50 x53 (Go.Value.bool Bool.false)) fun x54 => S.cnd x54 (S.bd (lal (cellsA (r46.2.1.getD 1 undef)) 0 2) fun x55 => S.bd (leapfrogref09x_Peer_first.r (r46.2.1.getD 0 undef) x55 r46.2.2) fun x56 => S.bd (stl (cellsA (r46.2.1.getD 2 undef)) 0 16 x56) fun c57 => S.bd (lal c57 0 16) fun x58 => some ((Value.tuple ⟨[x58, (Go.Value.bool Bool.true)]⟩))) (S.bd (bld [(Go.Value.int Go.IntKind.i64 0), (Go.Value.int Go.IntKind.u64 0), (Go.Value.int Go.IntKind.i64 0), (Go.Value.int Go.IntKind.i64 0), (Go.Value.int Go.IntKind.u64 0), (Go.Value.int Go.IntKind.i64 0), (Go.Value.int Go.IntKind.u64 0), (Go.Value.int Go.IntKind.i64 0), (Go.Value.int Go.IntKind.i64 0), (Go.Value.int Go.IntKind.u64 0), (Go.Value.int Go.IntKind.i64 0), (Go.Value.int Go.IntKind.u64 0), (Go.Value.bool Bool.false), (Go.Value.int Go.IntKind.i64 0), (Go.Value.int Go.IntKind.i64 0), (Go.Value.slice Option.none 0 0)] []) fun x59 => S.bd (stl (cellsA (r46.2.1.getD 2 undef)) 0 16 x59) fun c60 => S.bd (lal c60 0 16) fun x61 => some ((Value.tuple ⟨[x61, (Go.Value.bool Bool.false)]⟩)))) else (S.bd (lal (cellsA (r46.2.1.getD 1 undef)) 0 16) fun x47 => some ((Value.tuple ⟨[x47, (r46.2.1.getD 0 undef)]⟩)))
def leapfrogref09x_Peer_rec.r (a0 a1 : Value) (s : St) : Option Value := leapfrogref09x_Peer_rec.t std a0 a1 s
def leapfrogref09x_Peer_rec.w : List Value → St → Option Value
  | [a0, a1], s => leapfrogref09x_Peer_rec.r a0 a1 s
  | _, _ => none
def leapfrogref09x_Peer_rec.an : An := ⟨46, true, [3, 4], [(2, ⟨[.v 0, .p 3 3 0, .p 4 4 0, .v 6, .l 3, .l 4], [(.exit 0, [.v 0, .p 3 3 0, .p 4 4 0, .l 3, .l 4]), (.ret, [.p 4 4 0, .v 5, .l 4])]⟩)], [], [(4, [(0, 0, [], []), (1, 0, [], []), (2, 0, [], []), (3, 2, [], []), (4, 0, [], []), (5, 2, [], []), (6, 0, [], []), (7, 2, [], []), (8, 25, [], []), (9, 0, [], [])])]⟩
theorem leapfrogref09x_Peer_rec.ok (S : Sig) (a0 a1 : Value) (s : St) : evG S Try.prog leapfrogref09x_Peer_rec.ctx leapfrogref09x_Peer_rec.an Try.f40 [a0, a1] s = leapfrogref09x_Peer_rec.t S a0 a1 s := by kernel_rfl
theorem leapfrogref09x_Peer_rec.cok : CtxOk Try.prog leapfrogref09x_Peer_rec.ctx := .cons leapfrogref09x_Peer_list.sound leapfrogref09x_Peer_list.can <| .cons leapfrogref09x_Peer_first.sound leapfrogref09x_Peer_first.can <| .nil
theorem leapfrogref09x_Peer_rec.draws : fnDraws leapfrogref09x_Peer_rec.an Try.f40 = true := by kernel_rfl
theorem leapfrogref09x_Peer_rec.can : callOk Try.prog 40 = true := by kernel_rfl
theorem leapfrogref09x_Peer_rec.sound : FnOk Try.prog 40 (.rd leapfrogref09x_Peer_rec.w) := FnOk.rd_of (evG_ok leapfrogref09x_Peer_rec.cok mixed (f := 40) (fn := Try.f40) (by kernel_rfl) leapfrogref09x_Peer_rec.draws) fun args s r h => by
  unfold leapfrogref09x_Peer_rec.w at h; split at h
  · rw [leapfrogref09x_Peer_rec.ok std]; exact h
  · simp at h

/-! ### (*leapfrog/leapfrogref09.Peer).Will: function 25 -/
def leapfrogref09x_Peer_Will.ctx : Ctx := [(24, .rd leapfrogref01x_Right.w), (40, .rd leapfrogref09x_Peer_rec.w)]
def leapfrogref09x_Peer_Will.t.p1 (S : Sig) (c1 : List Value) (a0 : Value) (s : St) (c2 : List Value) : Option Value :=
  S.bd (lal c1 0 2) fun x9 => S.bd (leapfrogref09x_Peer_rec.r a0 x9 s) fun x10 => S.bd (xtr 0 x10) fun x11 => S.bd (xtr 1 x10) fun x12 => S.bd (bx (Go.Value.agg #[(Go.Value.int Go.IntKind.i64 0), (Go.Value.int Go.IntKind.u64 0), (Go.Value.int Go.IntKind.i64 0), (Go.Value.int Go.IntKind.i64 0), (Go.Value.int Go.IntKind.u64 0), (Go.Value.int Go.IntKind.i64 0), (Go.Value.int Go.IntKind.u64 0), (Go.Value.int Go.IntKind.i64 0), (Go.Value.int Go.IntKind.i64 0), (Go.Value.int Go.IntKind.u64 0), (Go.Value.int Go.IntKind.i64 0), (Go.Value.int Go.IntKind.u64 0), (Go.Value.bool Bool.false), (Go.Value.int Go.IntKind.i64 0), (Go.Value.int Go.IntKind.i64 0), (Go.Value.slice Option.none 0 0)])) fun c13 => S.bd (stl c13 0 16 x11) fun c14 => S.bd (nck a0) fun x15 => S.bd (fld 8 x15) fun x16 => S.bd (ldc s x16) fun x17 => S.bd (bld [(Go.Value.int Go.IntKind.i64 0), (Go.Value.bool Bool.false), (Go.Value.int Go.IntKind.i64 0), (Go.Value.int Go.IntKind.i64 0), (Go.Value.int Go.IntKind.u64 0), (Go.Value.int Go.IntKind.i64 0), (Go.Value.int Go.IntKind.u64 0), (Go.Value.int Go.IntKind.i64 0), (Go.Value.int Go.IntKind.i64 0), (Go.Value.int Go.IntKind.u64 0), (Go.Value.int Go.IntKind.i64 0), (Go.Value.int Go.IntKind.u64 0), (Go.Value.slice Option.none 0 0)] [(0, 1, (Go.Value.int Go.IntKind.i64 3)), (1, 1, x17)]) fun x18 => S.bd (bx (Go.Value.agg #[(Go.Value.int Go.IntKind.i64 0), (Go.Value.bool Bool.false), (Go.Value.int Go.IntKind.i64 0), (Go.Value.int Go.IntKind.i64 0), (Go.Value.int Go.IntKind.u64 0), (Go.Value.int Go.IntKind.i64 0), (Go.Value.int Go.IntKind.u64 0), (Go.Value.int Go.IntKind.i64 0), (Go.Value.int Go.IntKind.i64 0), (Go.Value.int Go.IntKind.u64 0), (Go.Value.int Go.IntKind.i64 0), (Go.Value.int Go.IntKind.u64 0), (Go.Value.slice Option.none 0 0)])) fun c19 => S.bd (stl c19 0 13 x18) fun c20 => S.cnd x12 (S.bd (lal c14 2 5) fun x21 => S.bd (lal c14 7 5) fun x22 => S.bd (stl c20 2 5 x21) fun c23 => S.bd (stl c23 7 5 x22) fun c24 => S.bd (lal c24 0 13) fun x25 => S.bd (stl c2 0 13 x25) fun c26 => S.bd (lal c26 0 13) fun x27 => some ((Value.tuple ⟨[x27, (Go.Value.int Go.IntKind.i64 0)]⟩))) (S.bd (lal c20 0 13) fun x28 => S.bd (stl c2 0 13 x28) fun c29 => S.bd (lal c29 0 13) fun x30 => some ((Value.tuple ⟨[x30, (Go.Value.int Go.IntKind.i64 0)]⟩)))

def leapfrogref09x_Peer_Will.t (S : Sig) (a0 a1 : Value) (s : St) : Option Value :=
  S.bd (bx a1) fun c1 => S.bd (bx (Go.Value.agg #[(Go.Value.int Go.IntKind.i64 0), (Go.Value.bool Bool.false), (Go.Value.int Go.IntKind.i64 0), (Go.Value.int Go.IntKind.i64 0), (Go.Value.int Go.IntKind.u64 0), (Go.Value.int Go.IntKind.i64 0), (Go.Value.int Go.IntKind.u64 0), (Go.Value.int Go.IntKind.i64 0), (Go.Value.int Go.IntKind.i64 0), (Go.Value.int Go.IntKind.u64 0), (Go.Value.int Go.IntKind.i64 0), (Go.Value.int Go.IntKind.u64 0), (Go.Value.slice Option.none 0 0)])) fun c2 => S.bd (lal c1 0 2) fun x3 => S.bd (leapfrogref01x_Right.r x3 s) fun x4 => S.bd (un .not x4) fun x5 => S.cnd x5 (S.bd (bld [(Go.Value.int Go.IntKind.i64 0), (Go.Value.bool Bool.false), (Go.Value.int Go.IntKind.i64 0), (Go.Value.int Go.IntKind.i64 0), (Go.Value.int Go.IntKind.u64 0), (Go.Value.int Go.IntKind.i64 0), (Go.Value.int Go.IntKind.u64 0), (Go.Value.int Go.IntKind.i64 0), (Go.Value.int Go.IntKind.i64 0), (Go.Value.int Go.IntKind.u64 0), (Go.Value.int Go.IntKind.i64 0), (Go.Value.int Go.IntKind.u64 0), (Go.Value.slice Option.none 0 0)] []) fun x6 => S.bd (stl c2 0 13 x6) fun c7 => S.bd (lal c7 0 13) fun x8 => some ((Value.tuple ⟨[x8, (Go.Value.int Go.IntKind.i64 90)]⟩))) (leapfrogref09x_Peer_Will.t.p1 S c1 a0 s c2)
def leapfrogref09x_Peer_Will.r (a0 a1 : Value) (s : St) : Option Value := leapfrogref09x_Peer_Will.t std a0 a1 s
def leapfrogref09x_Peer_Will.w : List Value → St → Option Value
  | [a0, a1], s => leapfrogref09x_Peer_Will.r a0 a1 s
  | _, _ => none
def leapfrogref09x_Peer_Will.an : An := ⟨32, true, [3, 4, 6, 8], [], [], [(6, [(0, 0, [], []), (1, 49, [], []), (2, 0, [], []), (3, 49, [], []), (4, 0, [], []), (5, 69, [], []), (6, 0, [], []), (7, 69, [], [])])]⟩
theorem leapfrogref09x_Peer_Will.ok (S : Sig) (a0 a1 : Value) (s : St) : evG S Try.prog leapfrogref09x_Peer_Will.ctx leapfrogref09x_Peer_Will.an Try.f25 [a0, a1] s = leapfrogref09x_Peer_Will.t S a0 a1 s := by kernel_rfl
theorem leapfrogref09x_Peer_Will.cok : CtxOk Try.prog leapfrogref09x_Peer_Will.ctx := .cons leapfrogref01x_Right.sound leapfrogref01x_Right.can <| .cons leapfrogref09x_Peer_rec.sound leapfrogref09x_Peer_rec.can <| .nil
theorem leapfrogref09x_Peer_Will.draws : fnDraws leapfrogref09x_Peer_Will.an Try.f25 = true := by kernel_rfl
theorem leapfrogref09x_Peer_Will.can : callOk Try.prog 25 = true := by kernel_rfl
theorem leapfrogref09x_Peer_Will.sound : FnOk Try.prog 25 (.rd leapfrogref09x_Peer_Will.w) := FnOk.rd_of (evG_ok leapfrogref09x_Peer_Will.cok mixed (f := 25) (fn := Try.f25) (by kernel_rfl) leapfrogref09x_Peer_Will.draws) fun args s r h => by
  unfold leapfrogref09x_Peer_Will.w at h; split at h
  · rw [leapfrogref09x_Peer_Will.ok std]; exact h
  · simp at h

/-! ### leapfrog/leapfrogref04.has: function 68 -/
def leapfrogref04x_has.ctx : Ctx := []
def leapfrogref04x_has.t (S : Sig) (a0 : Value) (s : St) : Option Value :=
  S.bd (eqb [1] false false a0 (Go.Value.int Go.IntKind.i64 5)) fun x1 => S.bd (S.gd x1 false (some a0)) fun x2 => S.bd (S.gd x1 false (eqb [1] false false x2 (Go.Value.int Go.IntKind.i64 6))) fun x3 => S.bd (pik x1 (Go.Value.bool Bool.true) x3) fun x4 => S.bd (S.gd x4 false (some a0)) fun x5 => S.bd (S.gd x4 false (eqb [1] false false x5 (Go.Value.int Go.IntKind.i64 7))) fun x6 => S.bd (pik x4 (Go.Value.bool Bool.true) x6) fun x7 => S.bd (eqb [1] false false a0 (Go.Value.int Go.IntKind.i64 3)) fun x8 => S.bd (S.gd x8 false (some a0)) fun x9 => S.bd (S.gd x8 false (eqb [1] false false x9 (Go.Value.int Go.IntKind.i64 4))) fun x10 => S.bd (pik x8 (Go.Value.bool Bool.true) x10) fun x11 => S.bd (S.gd x11 false (some a0)) fun x12 => S.bd (S.gd x11 false (eqb [1] false false x12 (Go.Value.int Go.IntKind.i64 8))) fun x13 => S.bd (pik x11 (Go.Value.bool Bool.true) x13) fun x14 => S.bd (S.gd x14 false (some a0)) fun x15 => S.bd (S.gd x14 false (eqb [1] false false x15 (Go.Value.int Go.IntKind.i64 5))) fun x16 => S.bd (pik x14 (Go.Value.bool Bool.true) x16) fun x17 => S.bd (S.gd x17 false (some a0)) fun x18 => S.bd (S.gd x17 false (eqb [1] false false x18 (Go.Value.int Go.IntKind.i64 7))) fun x19 => S.bd (pik x17 (Go.Value.bool Bool.true) x19) fun x20 => S.bd (eqb [1] false false a0 (Go.Value.int Go.IntKind.i64 1)) fun x21 => S.bd (S.gd x21 false (some x7)) fun x22 => S.bd (pik x21 (Go.Value.bool Bool.true) x22) fun x23 => S.bd (S.gd x23 false (some x20)) fun x24 => S.bd (pik x23 (Go.Value.bool Bool.true) x24) fun x25 => S.bd (eqb [1] false false a0 (Go.Value.int Go.IntKind.i64 7)) fun x26 => some ((Value.tuple ⟨[x25, x7, x26, x20]⟩))
def leapfrogref04x_has.r (a0 : Value) (s : St) : Option Value := leapfrogref04x_has.t std a0 s
def leapfrogref04x_has.w : List Value → St → Option Value
  | [a0], s => leapfrogref04x_has.r a0 s
  | _, _ => none
def leapfrogref04x_has.an : An := ⟨48, true, [], [], [], []⟩
theorem leapfrogref04x_has.ok (S : Sig) (a0 : Value) (s : St) : evG S Try.prog leapfrogref04x_has.ctx leapfrogref04x_has.an Try.f68 [a0] s = leapfrogref04x_has.t S a0 s := by kernel_rfl
theorem leapfrogref04x_has.cok : CtxOk Try.prog leapfrogref04x_has.ctx := .nil
theorem leapfrogref04x_has.draws : fnDraws leapfrogref04x_has.an Try.f68 = true := by kernel_rfl
theorem leapfrogref04x_has.can : callOk Try.prog 68 = true := by kernel_rfl
theorem leapfrogref04x_has.sound : FnOk Try.prog 68 (.rd leapfrogref04x_has.w) := FnOk.rd_of (evG_ok leapfrogref04x_has.cok mixed (f := 68) (fn := Try.f68) (by kernel_rfl) leapfrogref04x_has.draws) fun args s r h => by
  unfold leapfrogref04x_has.w at h; split at h
  · rw [leapfrogref04x_has.ok std]; exact h
  · simp at h

/-! ### leapfrog/leapfrogref04.only: function 69 -/
def leapfrogref04x_only.ctx : Ctx := []
def leapfrogref04x_only.t.p1 (S : Sig) (r20 : Cut) : Option Value :=
  S.bd (eqb [1] false false (r20.2.1.getD 0 undef) (Go.Value.int Go.IntKind.i64 5)) fun x28 => S.cnd x28 (S.bd (lal (cellsA (r20.2.1.getD 2 undef)) 1 2) fun x29 => S.bd (lal (cellsA (r20.2.1.getD 2 undef)) 3 5) fun x30 => S.bd (lal (cellsA (r20.2.1.getD 2 undef)) 13 2) fun x31 => S.bd (stl (cellsA (r20.2.1.getD 4 undef)) 1 2 x29) fun c32 => S.bd (stl c32 3 5 x30) fun c33 => S.bd (stl c33 13 2 x31) fun c34 => S.bd (lal c34 0 15) fun x35 => S.bd (stl (cellsA (r20.2.1.getD 3 undef)) 0 15 x35) fun c36 => S.bd (lal c36 0 15) fun x37 => some (x37)) (S.bd (eqb [1] false false (r20.2.1.getD 0 undef) (Go.Value.int Go.IntKind.i64 6)) fun x38 => S.cnd x38 (S.bd (lal (cellsA (r20.2.1.getD 2 undef)) 1 2) fun x39 => S.bd (lal (cellsA (r20.2.1.getD 2 undef)) 3 5) fun x40 => S.bd (stl (cellsA (r20.2.1.getD 4 undef)) 1 2 x39) fun c41 => S.bd (stl c41 3 5 x40) fun c42 => S.bd (lal c42 0 15) fun x43 => S.bd (stl (cellsA (r20.2.1.getD 3 undef)) 0 15 x43) fun c44 => S.bd (lal c44 0 15) fun x45 => some (x45)) (S.bd (eqb [1] false false (r20.2.1.getD 0 undef) (Go.Value.int Go.IntKind.i64 7)) fun x46 => S.cnd x46 (S.bd (lal (cellsA (r20.2.1.getD 2 undef)) 1 2) fun x47 => S.bd (lal (cellsA (r20.2.1.getD 2 undef)) 3 5) fun x48 => S.bd (lal (cellsA (r20.2.1.getD 2 undef)) 8 5) fun x49 => S.bd (lal (cellsA (r20.2.1.getD 2 undef)) 13 2) fun x50 => S.bd (stl (cellsA (r20.2.1.getD 4 undef)) 1 2 x47) fun c51 => S.bd (stl c51 3 5 x48) fun c52 => S.bd (stl c52 8 5 x49) fun c53 => S.bd (stl c53 13 2 x50) fun c54 => S.bd (lal c54 0 15) fun x55 => S.bd (stl (cellsA (r20.2.1.getD 3 undef)) 0 15 x55) fun c56 => S.bd (lal c56 0 15) fun x57 => some (x57)) (S.bd (lal (cellsA (r20.2.1.getD 4 undef)) 0 15) fun x58 => S.bd (stl (cellsA (r20.2.1.getD 3 undef)) 0 15 x58) fun c59 => S.bd (lal c59 0 15) fun x60 => some (x60))))

def leapfrogref04x_only.t (S : Sig) (a0 : Value) (s : St) : Option Value :=
  S.bd (bx a0) fun c1 => S.bd (bx (Go.Value.agg #[(Go.Value.int Go.IntKind.i64 0), (Go.Value.int Go.IntKind.i64 0), (Go.Value.int Go.IntKind.u64 0), (Go.Value.int Go.IntKind.i64 0), (Go.Value.int Go.IntKind.i64 0), (Go.Value.int Go.IntKind.u64 0), (Go.Value.int Go.IntKind.i64 0), (Go.Value.int Go.IntKind.u64 0), (Go.Value.int Go.IntKind.i64 0), (Go.Value.int Go.IntKind.i64 0), (Go.Value.int Go.IntKind.u64 0), (Go.Value.int Go.IntKind.i64 0), (Go.Value.int Go.IntKind.u64 0), (Go.Value.int Go.IntKind.i64 0), (Go.Value.int Go.IntKind.i64 0)])) fun c2 => S.bd (lcl c1 0) fun x3 => S.bd (bld [(Go.Value.int Go.IntKind.i64 0), (Go.Value.int Go.IntKind.i64 0), (Go.Value.int Go.IntKind.u64 0), (Go.Value.int Go.IntKind.i64 0), (Go.Value.int Go.IntKind.i64 0), (Go.Value.int Go.IntKind.u64 0), (Go.Value.int Go.IntKind.i64 0), (Go.Value.int Go.IntKind.u64 0), (Go.Value.int Go.IntKind.i64 0), (Go.Value.int Go.IntKind.i64 0), (Go.Value.int Go.IntKind.u64 0), (Go.Value.int Go.IntKind.i64 0), (Go.Value.int Go.IntKind.u64 0), (Go.Value.int Go.IntKind.i64 0), (Go.Value.int Go.IntKind.i64 0)] [(0, 1, x3)]) fun x4 => S.bd (bx (Go.Value.agg #[(Go.Value.int Go.IntKind.i64 0), (Go.Value.int Go.IntKind.i64 0), (Go.Value.int Go.IntKind.u64 0), (Go.Value.int Go.IntKind.i64 0), (Go.Value.int Go.IntKind.i64 0), (Go.Value.int Go.IntKind.u64 0), (Go.Value.int Go.IntKind.i64 0), (Go.Value.int Go.IntKind.u64 0), (Go.Value.int Go.IntKind.i64 0), (Go.Value.int Go.IntKind.i64 0), (Go.Value.int Go.IntKind.u64 0), (Go.Value.int Go.IntKind.i64 0), (Go.Value.int Go.IntKind.u64 0), (Go.Value.int Go.IntKind.i64 0), (Go.Value.int Go.IntKind.i64 0)])) fun c5 => S.bd (stl c5 0 15 x4) fun c6 => S.bd (lcl c1 0) fun x7 => S.bd (eqb [1] false false x7 (Go.Value.int Go.IntKind.i64 1)) fun x8 => S.cnd x8 (S.bd (lal c1 1 2) fun x9 => S.bd (stl c6 1 2 x9) fun c10 => S.bd (lal c10 0 15) fun x11 => S.bd (stl c2 0 15 x11) fun c12 => S.bd (lal c12 0 15) fun x13 => some (x13)) (S.bd (show Option Cut from S.bd (eqb [1] false false x7 (Go.Value.int Go.IntKind.i64 3)) fun x17 => S.cnd x17 (some (0, [x7, x17, (Value.agg ⟨c1⟩), (Value.agg ⟨c2⟩), (Value.agg ⟨c6⟩)], s)) (S.bd (eqb [1] false false x7 (Go.Value.int Go.IntKind.i64 4)) fun x18 => S.cnd x18 (some (0, [x7, x18, (Value.agg ⟨c1⟩), (Value.agg ⟨c2⟩), (Value.agg ⟨c6⟩)], s)) (S.bd (eqb [1] false false x7 (Go.Value.int Go.IntKind.i64 8)) fun x19 => some (0, [x7, x19, (Value.agg ⟨c1⟩), (Value.agg ⟨c2⟩), (Value.agg ⟨c6⟩)], s)))) fun r20 => S.cnd (r20.2.1.getD 1 undef) (S.bd (lal (cellsA (r20.2.1.getD 2 undef)) 1 2) fun x21 => S.bd (lal (cellsA (r20.2.1.getD 2 undef)) 13 2) fun x22 => S.bd (stl (cellsA (r20.2.1.getD 4 undef)) 1 2 x21) fun c23 => S.bd (stl c23 13 2 x22) fun c24 => S.bd (lal c24 0 15) fun x25 => S.bd (stl (cellsA (r20.2.1.getD 3 undef)) 0 15 x25) fun c26 => S.bd (lal c26 0 15) fun x27 => some (x27)) (leapfrogref04x_only.t.p1 S r20))
def leapfrogref04x_only.r (a0 : Value) (s : St) : Option Value := leapfrogref04x_only.t std a0 s
def leapfrogref04x_only.w : List Value → St → Option Value
  | [a0], s => leapfrogref04x_only.r a0 s
  | _, _ => none
def leapfrogref04x_only.an : An := ⟨59, true, [1, 2, 3], [], [(9, ⟨[], [(.normal, [.p 1 1 0, .p 2 2 0, .p 3 3 0, .v 8, .v 15, .l 1, .l 2, .l 3])]⟩)], [(9, [(0, 0, [], []), (1, 9, [], []), (2, 0, [], []), (3, 9, [], []), (4, 0, [], []), (5, 29, [], []), (6, 0, [], []), (7, 29, [], [])]), (11, [(0, 0, [], []), (1, 9, [], []), (2, 0, [], []), (3, 9, [], []), (4, 0, [], []), (5, 9, [], []), (6, 0, [], []), (7, 29, [], []), (8, 0, [], []), (9, 29, [], []), (10, 0, [], []), (11, 29, [], [])]), (13, [(0, 0, [], []), (1, 9, [], []), (2, 0, [], []), (3, 9, [], []), (4, 0, [], []), (5, 29, [], []), (6, 0, [], []), (7, 29, [], [])]), (15, [(0, 0, [], []), (1, 9, [], []), (2, 0, [], []), (3, 9, [], []), (4, 0, [], []), (5, 9, [], []), (6, 0, [], []), (7, 9, [], []), (8, 0, [], []), (9, 29, [], []), (10, 0, [], []), (11, 29, [], []), (12, 0, [], []), (13, 29, [], []), (14, 0, [], []), (15, 29, [], [])])]⟩
theorem leapfrogref04x_only.ok (S : Sig) (a0 : Value) (s : St) : evG S Try.prog leapfrogref04x_only.ctx leapfrogref04x_only.an Try.f69 [a0] s = leapfrogref04x_only.t S a0 s := by kernel_rfl
theorem leapfrogref04x_only.cok : CtxOk Try.prog leapfrogref04x_only.ctx := .nil
theorem leapfrogref04x_only.draws : fnDraws leapfrogref04x_only.an Try.f69 = true := by kernel_rfl
theorem leapfrogref04x_only.can : callOk Try.prog 69 = true := by kernel_rfl
theorem leapfrogref04x_only.sound : FnOk Try.prog 69 (.rd leapfrogref04x_only.w) := FnOk.rd_of (evG_ok leapfrogref04x_only.cok mixed (f := 69) (fn := Try.f69) (by kernel_rfl) leapfrogref04x_only.draws) fun args s r h => by
  unfold leapfrogref04x_only.w at h; split at h
  · rw [leapfrogref04x_only.ok std]; exact h
  · simp at h

/-! ### leapfrog/leapfrogref04.isRef: function 70 -/
def leapfrogref04x_isRef.ctx : Ctx := [(52, .rd leapfrogref03x_IsKey.w), (24, .rd leapfrogref01x_Right.w)]
def leapfrogref04x_isRef.t (S : Sig) (a0 : Value) (s : St) : Option Value :=
  S.bd (bx a0) fun c1 => S.bd (lal c1 1 2) fun x2 => S.bd (leapfrogref03x_IsKey.r x2 s) fun x3 => S.bd (S.gd x3 true (lal c1 3 2)) fun x4 => S.bd (S.gd x3 true (leapfrogref01x_Right.r x4 s)) fun x5 => S.bd (pik x3 x5 (Go.Value.bool Bool.false)) fun x6 => some (x6)
def leapfrogref04x_isRef.r (a0 : Value) (s : St) : Option Value := leapfrogref04x_isRef.t std a0 s
def leapfrogref04x_isRef.w : List Value → St → Option Value
  | [a0], s => leapfrogref04x_isRef.r a0 s
  | _, _ => none
def leapfrogref04x_isRef.an : An := ⟨11, true, [1], [], [], []⟩
theorem leapfrogref04x_isRef.ok (S : Sig) (a0 : Value) (s : St) : evG S Try.prog leapfrogref04x_isRef.ctx leapfrogref04x_isRef.an Try.f70 [a0] s = leapfrogref04x_isRef.t S a0 s := by kernel_rfl
theorem leapfrogref04x_isRef.cok : CtxOk Try.prog leapfrogref04x_isRef.ctx := .cons leapfrogref03x_IsKey.sound leapfrogref03x_IsKey.can <| .cons leapfrogref01x_Right.sound leapfrogref01x_Right.can <| .nil
theorem leapfrogref04x_isRef.draws : fnDraws leapfrogref04x_isRef.an Try.f70 = true := by kernel_rfl
theorem leapfrogref04x_isRef.can : callOk Try.prog 70 = true := by kernel_rfl
theorem leapfrogref04x_isRef.sound : FnOk Try.prog 70 (.rd leapfrogref04x_isRef.w) := FnOk.rd_of (evG_ok leapfrogref04x_isRef.cok mixed (f := 70) (fn := Try.f70) (by kernel_rfl) leapfrogref04x_isRef.draws) fun args s r h => by
  unfold leapfrogref04x_isRef.w at h; split at h
  · rw [leapfrogref04x_isRef.ok std]; exact h
  · simp at h

/-! ### leapfrog/leapfrogref04.CheckAsk: function 39 -/
def leapfrogref04x_CheckAsk.ctx : Ctx := [(68, .rd leapfrogref04x_has.w), (69, .rd leapfrogref04x_only.w), (24, .rd leapfrogref01x_Right.w), (70, .rd leapfrogref04x_isRef.w)]
def leapfrogref04x_CheckAsk.t (S : Sig) (a0 : Value) (s : St) : Option Value :=
  S.bd (bx a0) fun c1 => S.bd (lcl c1 0) fun x2 => S.bd (leapfrogref04x_has.r x2 s) fun x3 => S.bd (xtr 0 x3) fun x4 => S.bd (xtr 1 x3) fun x5 => S.bd (xtr 2 x3) fun x6 => S.bd (xtr 3 x3) fun x7 => S.bd (lcl c1 0) fun x8 => S.bd (bin .lss x8 (Go.Value.int Go.IntKind.i64 1)) fun x9 => S.bd (S.gd x9 false (lcl c1 0)) fun x10 => S.bd (S.gd x9 false (bin .gtr x10 (Go.Value.int Go.IntKind.i64 10))) fun x11 => S.bd (pik x9 (Go.Value.bool Bool.true) x11) fun x12 => S.bd (S.gd x12 false (lal c1 0 15)) fun x13 => S.bd (S.gd x12 false (lal c1 0 15)) fun x14 => S.bd (S.gd x12 false (leapfrogref04x_only.r x14 s)) fun x15 => S.bd (S.gd x12 false (eqb [1, 1, 1, 1, 1, 1, 1, 1, 1, 1, 1, 1, 1, 1, 1] true true x13 x15)) fun x16 => S.bd (pik x12 (Go.Value.bool Bool.true) x16) fun x17 => S.bd (S.gd x17 false (some x4)) fun x18 => S.bd (S.gd x17 false (some x18)) fun x19 => S.bd (S.gd x19 true (lal c1 1 2)) fun x20 => S.bd (S.gd x19 true (leapfrogref01x_Right.r x20 s)) fun x21 => S.bd (S.gd x19 true (un .not x21)) fun x22 => S.bd (S.gd x17 false (pik x19 x22 (Go.Value.bool Bool.false))) fun x23 => S.bd (pik x17 (Go.Value.bool Bool.true) x23) fun x24 => S.bd (S.gd x24 false (some x5)) fun x25 => S.bd (S.gd x24 false (some x25)) fun x26 => S.bd (S.gd x26 true (lal c1 3 5)) fun x27 => S.bd (S.gd x26 true (leapfrogref04x_isRef.r x27 s)) fun x28 => S.bd (S.gd x26 true (un .not x28)) fun x29 => S.bd (S.gd x24 false (pik x26 x29 (Go.Value.bool Bool.false))) fun x30 => S.bd (pik x24 (Go.Value.bool Bool.true) x30) fun x31 => S.bd (S.gd x31 false (some x6)) fun x32 => S.bd (S.gd x31 false (some x32)) fun x33 => S.bd (S.gd x33 true (lal c1 8 5)) fun x34 => S.bd (S.gd x33 true (leapfrogref04x_isRef.r x34 s)) fun x35 => S.bd (S.gd x33 true (un .not x35)) fun x36 => S.bd (S.gd x31 false (pik x33 x36 (Go.Value.bool Bool.false))) fun x37 => S.bd (pik x31 (Go.Value.bool Bool.true) x37) fun x38 => S.cnd x38 (some ((Go.Value.int Go.IntKind.i64 40))) (some ((Go.Value.int Go.IntKind.i64 0)))
def leapfrogref04x_CheckAsk.r (a0 : Value) (s : St) : Option Value := leapfrogref04x_CheckAsk.t std a0 s
def leapfrogref04x_CheckAsk.w : List Value → St → Option Value
  | [a0], s => leapfrogref04x_CheckAsk.r a0 s
  | _, _ => none
def leapfrogref04x_CheckAsk.an : An := ⟨56, true, [1], [], [], [(2, [(0, 0, [], []), (1, 9, [], []), (2, 0, [], []), (3, 0, [], []), (4, 0, [], []), (5, 9, [], []), (6, 0, [], []), (7, 0, [], []), (8, 0, [], []), (9, 9, [], []), (10, 9, [], []), (11, 3, [], []), (12, 0, [], []), (13, 0, [], []), (14, 0, [], []), (15, 0, [], []), (16, 0, [], []), (17, 0, [], []), (18, 9, [], []), (19, 3, [], []), (20, 0, [], []), (21, 0, [], []), (22, 0, [], []), (23, 0, [], []), (24, 0, [], []), (25, 0, [], []), (26, 0, [], []), (27, 9, [], []), (28, 3, [], []), (29, 0, [], []), (30, 0, [], []), (31, 0, [], []), (32, 0, [], []), (33, 0, [], []), (34, 0, [], []), (35, 0, [], []), (36, 9, [], []), (37, 3, [], []), (38, 0, [], []), (39, 0, [], []), (40, 0, [], [])])]⟩
theorem leapfrogref04x_CheckAsk.ok (S : Sig) (a0 : Value) (s : St) : evG S Try.prog leapfrogref04x_CheckAsk.ctx leapfrogref04x_CheckAsk.an Try.f39 [a0] s = leapfrogref04x_CheckAsk.t S a0 s := by kernel_rfl
theorem leapfrogref04x_CheckAsk.cok : CtxOk Try.prog leapfrogref04x_CheckAsk.ctx := .cons leapfrogref04x_has.sound leapfrogref04x_has.can <| .cons leapfrogref04x_only.sound leapfrogref04x_only.can <| .cons leapfrogref01x_Right.sound leapfrogref01x_Right.can <| .cons leapfrogref04x_isRef.sound leapfrogref04x_isRef.can <| .nil
theorem leapfrogref04x_CheckAsk.draws : fnDraws leapfrogref04x_CheckAsk.an Try.f39 = true := by kernel_rfl
theorem leapfrogref04x_CheckAsk.can : callOk Try.prog 39 = true := by kernel_rfl
theorem leapfrogref04x_CheckAsk.sound : FnOk Try.prog 39 (.rd leapfrogref04x_CheckAsk.w) := FnOk.rd_of (evG_ok leapfrogref04x_CheckAsk.cok mixed (f := 39) (fn := Try.f39) (by kernel_rfl) leapfrogref04x_CheckAsk.draws) fun args s r h => by
  unfold leapfrogref04x_CheckAsk.w at h; split at h
  · rw [leapfrogref04x_CheckAsk.ok std]; exact h
  · simp at h

/-! ### leapfrog/leapfrogref09.gone: function 42 -/
def leapfrogref09x_gone.ctx : Ctx := []
def leapfrogref09x_gone.t (S : Sig) (s : St) : Option Value :=
  S.bd (bx (Go.Value.agg #[(Go.Value.int Go.IntKind.i64 0), (Go.Value.bool Bool.false), (Go.Value.int Go.IntKind.i64 0), (Go.Value.int Go.IntKind.i64 0), (Go.Value.int Go.IntKind.u64 0), (Go.Value.int Go.IntKind.i64 0), (Go.Value.int Go.IntKind.u64 0), (Go.Value.int Go.IntKind.i64 0), (Go.Value.int Go.IntKind.i64 0), (Go.Value.int Go.IntKind.u64 0), (Go.Value.int Go.IntKind.i64 0), (Go.Value.int Go.IntKind.u64 0), (Go.Value.slice Option.none 0 0)])) fun c1 => S.bd (bld [(Go.Value.int Go.IntKind.i64 0), (Go.Value.bool Bool.false), (Go.Value.int Go.IntKind.i64 0), (Go.Value.int Go.IntKind.i64 0), (Go.Value.int Go.IntKind.u64 0), (Go.Value.int Go.IntKind.i64 0), (Go.Value.int Go.IntKind.u64 0), (Go.Value.int Go.IntKind.i64 0), (Go.Value.int Go.IntKind.i64 0), (Go.Value.int Go.IntKind.u64 0), (Go.Value.int Go.IntKind.i64 0), (Go.Value.int Go.IntKind.u64 0), (Go.Value.slice Option.none 0 0)] [(0, 1, (Go.Value.int Go.IntKind.i64 2))]) fun x2 => S.bd (stl c1 0 13 x2) fun c3 => S.bd (lal c3 0 13) fun x4 => some (x4)
def leapfrogref09x_gone.r (s : St) : Option Value := leapfrogref09x_gone.t std  s
def leapfrogref09x_gone.w : List Value → St → Option Value
  | [], s => leapfrogref09x_gone.r  s
  | _, _ => none
def leapfrogref09x_gone.an : An := ⟨2, true, [0], [], [], []⟩
theorem leapfrogref09x_gone.ok (S : Sig) (s : St) : evG S Try.prog leapfrogref09x_gone.ctx leapfrogref09x_gone.an Try.f42 [] s = leapfrogref09x_gone.t S  s := by kernel_rfl
theorem leapfrogref09x_gone.cok : CtxOk Try.prog leapfrogref09x_gone.ctx := .nil
theorem leapfrogref09x_gone.draws : fnDraws leapfrogref09x_gone.an Try.f42 = true := by kernel_rfl
theorem leapfrogref09x_gone.can : callOk Try.prog 42 = true := by kernel_rfl
theorem leapfrogref09x_gone.sound : FnOk Try.prog 42 (.rd leapfrogref09x_gone.w) := FnOk.rd_of (evG_ok leapfrogref09x_gone.cok mixed (f := 42) (fn := Try.f42) (by kernel_rfl) leapfrogref09x_gone.draws) fun args s r h => by
  unfold leapfrogref09x_gone.w at h; split at h
  · rw [leapfrogref09x_gone.ok std]; exact h
  · simp at h

/-! ### leapfrog/leapfrogref09.told: function 41 -/
def leapfrogref09x_told.ctx : Ctx := []
def leapfrogref09x_told.t (S : Sig) (a0 a1 : Value) (s : St) : Option (Value × St) :=
  S.bd (bx a1) fun c1 => S.bd (lal c1 0 13) fun x2 => S.bd (bld [(Go.Value.int Go.IntKind.i64 0), (Go.Value.int Go.IntKind.i64 0), (Go.Value.bool Bool.false), (Go.Value.int Go.IntKind.i64 0), (Go.Value.int Go.IntKind.i64 0), (Go.Value.int Go.IntKind.u64 0), (Go.Value.int Go.IntKind.i64 0), (Go.Value.int Go.IntKind.u64 0), (Go.Value.int Go.IntKind.i64 0), (Go.Value.int Go.IntKind.i64 0), (Go.Value.int Go.IntKind.u64 0), (Go.Value.int Go.IntKind.i64 0), (Go.Value.int Go.IntKind.u64 0), (Go.Value.slice Option.none 0 0)] [(0, 1, a0), (1, 13, x2)]) fun x3 => S.bd (S.bd (bls 14 (List.replicate 1 [(Go.Value.int Go.IntKind.i64 0), (Go.Value.int Go.IntKind.i64 0), (Go.Value.bool Bool.false), (Go.Value.int Go.IntKind.i64 0), (Go.Value.int Go.IntKind.i64 0), (Go.Value.int Go.IntKind.u64 0), (Go.Value.int Go.IntKind.i64 0), (Go.Value.int Go.IntKind.u64 0), (Go.Value.int Go.IntKind.i64 0), (Go.Value.int Go.IntKind.i64 0), (Go.Value.int Go.IntKind.u64 0), (Go.Value.int Go.IntKind.i64 0), (Go.Value.int Go.IntKind.u64 0), (Go.Value.slice Option.none 0 0)]) [(0, x3)]) fun rows => als s 14 1 rows) fun r4 => some (r4.1, r4.2)
def leapfrogref09x_told.v (a0 a1 : Value) (s : St) : Option (Value × St) := leapfrogref09x_told.t std a0 a1 s
def leapfrogref09x_told.w : List Value → St → Option (Value × St)
  | [a0, a1], s => leapfrogref09x_told.v a0 a1 s
  | _, _ => none
def leapfrogref09x_told.an : An := ⟨9, false, [3], [], [], []⟩
theorem leapfrogref09x_told.ok (S : Sig) (a0 a1 : Value) (s : St) : evF S Try.prog leapfrogref09x_told.ctx leapfrogref09x_told.an Try.f41 [a0, a1] s = leapfrogref09x_told.t S a0 a1 s := by kernel_rfl
theorem leapfrogref09x_told.cok : CtxOk Try.prog leapfrogref09x_told.ctx := .nil
theorem leapfrogref09x_told.draws : fnDraws leapfrogref09x_told.an Try.f41 = true := by kernel_rfl
theorem leapfrogref09x_told.can : callOk Try.prog 41 = true := by kernel_rfl
theorem leapfrogref09x_told.sound : FnOk Try.prog 41 (.st leapfrogref09x_told.w) := FnOk.st_of (evF_ok leapfrogref09x_told.cok mixed (f := 41) (fn := Try.f41) (by kernel_rfl) leapfrogref09x_told.draws) fun args s r h => by
  unfold leapfrogref09x_told.w at h; split at h
  · rw [leapfrogref09x_told.ok std]; exact h
  · simp at h

/-! ### (*leapfrog/leapfrogref09.Peer).of: function 43 -/
def leapfrogref09x_Peer_of.ctx : Ctx := []
def leapfrogref09x_Peer_of.t (S : Sig) (a0 a1 : Value) (s : St) : Option Value :=
  S.bd (bx a1) fun c1 => S.bd (bx (Go.Value.agg #[(Go.Value.int Go.IntKind.i64 0), (Go.Value.bool Bool.false), (Go.Value.int Go.IntKind.i64 0), (Go.Value.int Go.IntKind.i64 0), (Go.Value.int Go.IntKind.u64 0), (Go.Value.int Go.IntKind.i64 0), (Go.Value.int Go.IntKind.u64 0), (Go.Value.int Go.IntKind.i64 0), (Go.Value.int Go.IntKind.i64 0), (Go.Value.int Go.IntKind.u64 0), (Go.Value.int Go.IntKind.i64 0), (Go.Value.int Go.IntKind.u64 0), (Go.Value.slice Option.none 0 0)])) fun c2 => S.bd (nck a0) fun x3 => S.bd (fld 8 x3) fun x4 => S.bd (ldc s x4) fun x5 => S.bd (lal c1 2 5) fun x6 => S.bd (lal c1 7 5) fun x7 => S.bd (bld [(Go.Value.int Go.IntKind.i64 0), (Go.Value.bool Bool.false), (Go.Value.int Go.IntKind.i64 0), (Go.Value.int Go.IntKind.i64 0), (Go.Value.int Go.IntKind.u64 0), (Go.Value.int Go.IntKind.i64 0), (Go.Value.int Go.IntKind.u64 0), (Go.Value.int Go.IntKind.i64 0), (Go.Value.int Go.IntKind.i64 0), (Go.Value.int Go.IntKind.u64 0), (Go.Value.int Go.IntKind.i64 0), (Go.Value.int Go.IntKind.u64 0), (Go.Value.slice Option.none 0 0)] [(0, 1, (Go.Value.int Go.IntKind.i64 1)), (1, 1, x5), (2, 5, x6), (7, 5, x7)]) fun x8 => S.bd (stl c2 0 13 x8) fun c9 => S.bd (lal c9 0 13) fun x10 => some (x10)
def leapfrogref09x_Peer_of.r (a0 a1 : Value) (s : St) : Option Value := leapfrogref09x_Peer_of.t std a0 a1 s
def leapfrogref09x_Peer_of.w : List Value → St → Option Value
  | [a0, a1], s => leapfrogref09x_Peer_of.r a0 a1 s
  | _, _ => none
def leapfrogref09x_Peer_of.an : An := ⟨14, true, [3, 4], [], [], [(1, [(0, 0, [], []), (1, 0, [], []), (2, 0, [], []), (3, 2, [], []), (4, 0, [], []), (5, 25, [], []), (6, 0, [], []), (7, 25, [], []), (8, 0, [], []), (9, 37, [], [])])]⟩
theorem leapfrogref09x_Peer_of.ok (S : Sig) (a0 a1 : Value) (s : St) : evG S Try.prog leapfrogref09x_Peer_of.ctx leapfrogref09x_Peer_of.an Try.f43 [a0, a1] s = leapfrogref09x_Peer_of.t S a0 a1 s := by kernel_rfl
theorem leapfrogref09x_Peer_of.cok : CtxOk Try.prog leapfrogref09x_Peer_of.ctx := .nil
theorem leapfrogref09x_Peer_of.draws : fnDraws leapfrogref09x_Peer_of.an Try.f43 = true := by kernel_rfl
theorem leapfrogref09x_Peer_of.can : callOk Try.prog 43 = true := by kernel_rfl
theorem leapfrogref09x_Peer_of.sound : FnOk Try.prog 43 (.rd leapfrogref09x_Peer_of.w) := FnOk.rd_of (evG_ok leapfrogref09x_Peer_of.cok mixed (f := 43) (fn := Try.f43) (by kernel_rfl) leapfrogref09x_Peer_of.draws) fun args s r h => by
  unfold leapfrogref09x_Peer_of.w at h; split at h
  · rw [leapfrogref09x_Peer_of.ok std]; exact h
  · simp at h

/-! ### (*leapfrog/leapfrogref07.Lock).place: function 86 -/
def leapfrogref07x_Lock_place.ctx : Ctx := []
def leapfrogref07x_Lock_place.l2 (S : Sig) (rec17 : List Value → St → Option Cut) (xs15 : List Value) (s16 : St) : Option Cut :=
  S.bd (nck (xs15.getD 0 undef)) fun x18 => S.bd (fld 3 x18) fun x19 => S.bd (ldc s16 x19) fun x20 => S.bd (lenL x20) fun x21 => S.bd (bin .lss (xs15.getD 1 undef) x21) fun x22 => S.cnd x22 (S.bd (nck (xs15.getD 0 undef)) fun x23 => S.bd (fld 3 x23) fun x24 => S.bd (ldc s16 x24) fun x25 => S.bd (idx s16 2 x25 (xs15.getD 1 undef)) fun x26 => S.bd (lda s16 2 x26) fun x27 => S.bd (lal (cellsA (xs15.getD 2 undef)) 0 2) fun x28 => S.bd (eqb [1, 1] true false x27 x28) fun x29 => S.cnd x29 (some (1, [(xs15.getD 1 undef)], s16)) (S.bd (bin .add (xs15.getD 1 undef) (Go.Value.int Go.IntKind.i64 1)) fun x30 => rec17 [(xs15.getD 0 undef), x30, (Value.agg ⟨(cellsA (xs15.getD 2 undef))⟩)] s16)) (some (0, [], s16))

def leapfrogref07x_Lock_place.t (S : Sig) (a0 a1 : Value) (s : St) : Option Value :=
  S.bd (bx a1) fun c1 => S.bd (S.it (leapfrogref07x_Lock_place.l2 S) [a0, (Go.Value.int Go.IntKind.i64 0), (Value.agg ⟨c1⟩)] s) fun r31 => if r31.1 = 0 then (some ((Go.Value.int Go.IntKind.i64 (-1)))) else (some ((r31.2.1.getD 0 undef)))
def leapfrogref07x_Lock_place.r (a0 a1 : Value) (s : St) : Option Value := leapfrogref07x_Lock_place.t std a0 a1 s
def leapfrogref07x_Lock_place.w : List Value → St → Option Value
  | [a0, a1], s => leapfrogref07x_Lock_place.r a0 a1 s
  | _, _ => none
def leapfrogref07x_Lock_place.an : An := ⟨25, true, [3], [(2, ⟨[.v 0, .p 3 3 0, .v 5, .l 3], [(.exit 0, []), (.ret, [.v 4])]⟩)], [], [(4, [(0, 0, [], []), (1, 0, [], []), (2, 0, [], []), (3, 2, [], []), (4, 0, [], []), (5, 2, [], []), (6, 2, [], []), (7, 25, [], []), (8, 0, [], [])])]⟩
theorem leapfrogref07x_Lock_place.ok (S : Sig) (a0 a1 : Value) (s : St) : evG S Try.prog leapfrogref07x_Lock_place.ctx leapfrogref07x_Lock_place.an Try.f86 [a0, a1] s = leapfrogref07x_Lock_place.t S a0 a1 s := by kernel_rfl
theorem leapfrogref07x_Lock_place.cok : CtxOk Try.prog leapfrogref07x_Lock_place.ctx := .nil
theorem leapfrogref07x_Lock_place.draws : fnDraws leapfrogref07x_Lock_place.an Try.f86 = true := by kernel_rfl
theorem leapfrogref07x_Lock_place.can : callOk Try.prog 86 = true := by kernel_rfl
theorem leapfrogref07x_Lock_place.sound : FnOk Try.prog 86 (.rd leapfrogref07x_Lock_place.w) := FnOk.rd_of (evG_ok leapfrogref07x_Lock_place.cok mixed (f := 86) (fn := Try.f86) (by kernel_rfl) leapfrogref07x_Lock_place.draws) fun args s r h => by
  unfold leapfrogref07x_Lock_place.w at h; split at h
  · rw [leapfrogref07x_Lock_place.ok std]; exact h
  · simp at h

/-! ### (*leapfrog/leapfrogref07.Lock).Ask: function 73 -/
def leapfrogref07x_Lock_Ask.ctx : Ctx := [(53, .rd leapfrogref07x_IsOwner.w), (86, .rd leapfrogref07x_Lock_place.w)]
def leapfrogref07x_Lock_Ask.t.p1 (S : Sig) (c1 : List Value) (a0 : Value) (s : St) : Option (Value × St) :=
  S.bd (lal c1 0 2) fun x15 => S.bd (leapfrogref07x_Lock_place.r a0 x15 s) fun x16 => S.bd (bin .geq x16 (Go.Value.int Go.IntKind.i64 0)) fun x17 => S.cnd x17 (some ((Value.tuple ⟨[(Go.Value.bool Bool.false), (Go.Value.int Go.IntKind.i64 0)]⟩), s)) (S.bd (nck a0) fun x18 => S.bd (fld 0 x18) fun x19 => S.bd (ldc s x19) fun x20 => S.bd (un .not x20) fun x21 => S.cnd x21 (S.bd (lal c1 0 2) fun x22 => S.bd (nck a0) fun x23 => S.bd (fld 0 x23) fun x24 => S.bd (stv s 1 x24 (Go.Value.bool Bool.true)) fun s25 => S.bd (nck a0) fun x26 => S.bd (fld 1 x26) fun x27 => S.bd (stv s25 2 x27 x22) fun s28 => some ((Value.tuple ⟨[(Go.Value.bool Bool.true), (Go.Value.int Go.IntKind.i64 0)]⟩), s28)) (S.bd (nck a0) fun x29 => S.bd (fld 3 x29) fun x30 => S.bd (ldc s x30) fun x31 => S.bd (lenL x31) fun x32 => S.bd (bin .geq x32 (Go.Value.int Go.IntKind.i64 64)) fun x33 => S.cnd x33 (some ((Value.tuple ⟨[(Go.Value.bool Bool.false), (Go.Value.int Go.IntKind.i64 3)]⟩), s)) (S.bd (nck a0) fun x34 => S.bd (fld 3 x34) fun x35 => S.bd (ldc s x35) fun x36 => S.bd (lal c1 0 2) fun x37 => S.bd (S.bd (bls 2 (List.replicate 1 [(Go.Value.int Go.IntKind.i64 0), (Go.Value.int Go.IntKind.i64 0)]) [(0, x37)]) fun rows => als s 2 1 rows) fun _ => S.bd (S.bd (bls 2 (List.replicate 0 [(Go.Value.int Go.IntKind.i64 0), (Go.Value.int Go.IntKind.i64 0)]) []) fun rows => als s 2 0 rows) fun r38 => S.bd (S.bd (bls 2 (List.replicate 1 [(Go.Value.int Go.IntKind.i64 0), (Go.Value.int Go.IntKind.i64 0)]) [(0, x37)]) fun rows => als r38.2 2 1 rows) fun _ => S.bd (app r38.2 2 16 r38.1 x36) fun r39 => S.bd (S.bd (bls 2 (List.replicate 1 [(Go.Value.int Go.IntKind.i64 0), (Go.Value.int Go.IntKind.i64 0)]) [(0, x37)]) fun rows => als r39.2 2 1 rows) fun r40 => S.bd (app r40.2 2 16 r39.1 r40.1) fun r41 => S.bd (nck a0) fun x42 => S.bd (fld 3 x42) fun x43 => S.bd (stv r41.2 1 x43 r41.1) fun s44 => some ((Value.tuple ⟨[(Go.Value.bool Bool.false), (Go.Value.int Go.IntKind.i64 0)]⟩), s44))))

def leapfrogref07x_Lock_Ask.t (S : Sig) (a0 a1 : Value) (s : St) : Option (Value × St) :=
  S.bd (bx a1) fun c1 => S.bd (lal c1 0 2) fun x2 => S.bd (leapfrogref07x_IsOwner.r x2 s) fun x3 => S.bd (un .not x3) fun x4 => S.cnd x4 (some ((Value.tuple ⟨[(Go.Value.bool Bool.false), (Go.Value.int Go.IntKind.i64 70)]⟩), s)) (S.bd (nck a0) fun x5 => S.bd (fld 0 x5) fun x6 => S.bd (ldc s x6) fun x7 => S.bd (S.gd x7 true (some a0)) fun x8 => S.bd (S.gd x7 true (nck x8)) fun x9 => S.bd (S.gd x7 true (fld 1 x9)) fun x10 => S.bd (S.gd x7 true (lda s 2 x10)) fun x11 => S.bd (S.gd x7 true (lal c1 0 2)) fun x12 => S.bd (S.gd x7 true (eqb [1, 1] true false x11 x12)) fun x13 => S.bd (pik x7 x13 (Go.Value.bool Bool.false)) fun x14 => S.cnd x14 (some ((Value.tuple ⟨[(Go.Value.bool Bool.true), (Go.Value.int Go.IntKind.i64 0)]⟩), s)) (leapfrogref07x_Lock_Ask.t.p1 S c1 a0 s))
def leapfrogref07x_Lock_Ask.v (a0 a1 : Value) (s : St) : Option (Value × St) := leapfrogref07x_Lock_Ask.t std a0 a1 s
def leapfrogref07x_Lock_Ask.w : List Value → St → Option (Value × St)
  | [a0, a1], s => leapfrogref07x_Lock_Ask.v a0 a1 s
  | _, _ => none
def leapfrogref07x_Lock_Ask.an : An := ⟨60, false, [3], [], [], [(3, [(0, 0, [], []), (1, 0, [], []), (2, 0, [], []), (3, 2, [], []), (4, 0, [], []), (5, 0, [], []), (6, 0, [], []), (7, 0, [], []), (8, 2, [], []), (9, 25, [], []), (10, 0, [], []), (11, 0, [], []), (12, 0, [], [])]), (8, [(0, 0, [], []), (1, 0, [], []), (2, 25, [], []), (3, 0, [], []), (4, 0, [], []), (5, 4, [], []), (6, 0, [], []), (7, 0, [], []), (8, 4, [], [])]), (12, [(0, 0, [], []), (2, 0, [], []), (3, 0, [], []), (4, 0, [], []), (5, 2, [], []), (7, 25, [], []), (1, 3, [], [8]), (6, 4, [], [8]), (8, 3, [], []), (9, 4, [], []), (10, 0, [], []), (11, 0, [], []), (12, 4, [], [])])]⟩
theorem leapfrogref07x_Lock_Ask.ok (S : Sig) (a0 a1 : Value) (s : St) : evF S Try.prog leapfrogref07x_Lock_Ask.ctx leapfrogref07x_Lock_Ask.an Try.f73 [a0, a1] s = leapfrogref07x_Lock_Ask.t S a0 a1 s := by kernel_rfl
theorem leapfrogref07x_Lock_Ask.cok : CtxOk Try.prog leapfrogref07x_Lock_Ask.ctx := .cons leapfrogref07x_IsOwner.sound leapfrogref07x_IsOwner.can <| .cons leapfrogref07x_Lock_place.sound leapfrogref07x_Lock_place.can <| .nil
theorem leapfrogref07x_Lock_Ask.draws : fnDraws leapfrogref07x_Lock_Ask.an Try.f73 = true := by kernel_rfl
theorem leapfrogref07x_Lock_Ask.can : callOk Try.prog 73 = true := by kernel_rfl
theorem leapfrogref07x_Lock_Ask.sound : FnOk Try.prog 73 (.st leapfrogref07x_Lock_Ask.w) := FnOk.st_of (evF_ok leapfrogref07x_Lock_Ask.cok mixed (f := 73) (fn := Try.f73) (by kernel_rfl) leapfrogref07x_Lock_Ask.draws) fun args s r h => by
  unfold leapfrogref07x_Lock_Ask.w at h; split at h
  · rw [leapfrogref07x_Lock_Ask.ok std]; exact h
  · simp at h

/-! ### leapfrog/leapfrogref09.no: function 74 -/
def leapfrogref09x_no.ctx : Ctx := []
def leapfrogref09x_no.t (S : Sig) (s : St) : Option Value :=
  S.bd (bx (Go.Value.agg #[(Go.Value.int Go.IntKind.i64 0), (Go.Value.bool Bool.false), (Go.Value.int Go.IntKind.i64 0), (Go.Value.int Go.IntKind.i64 0), (Go.Value.int Go.IntKind.u64 0), (Go.Value.int Go.IntKind.i64 0), (Go.Value.int Go.IntKind.u64 0), (Go.Value.int Go.IntKind.i64 0), (Go.Value.int Go.IntKind.i64 0), (Go.Value.int Go.IntKind.u64 0), (Go.Value.int Go.IntKind.i64 0), (Go.Value.int Go.IntKind.u64 0), (Go.Value.slice Option.none 0 0)])) fun c1 => S.bd (bld [(Go.Value.int Go.IntKind.i64 0), (Go.Value.bool Bool.false), (Go.Value.int Go.IntKind.i64 0), (Go.Value.int Go.IntKind.i64 0), (Go.Value.int Go.IntKind.u64 0), (Go.Value.int Go.IntKind.i64 0), (Go.Value.int Go.IntKind.u64 0), (Go.Value.int Go.IntKind.i64 0), (Go.Value.int Go.IntKind.i64 0), (Go.Value.int Go.IntKind.u64 0), (Go.Value.int Go.IntKind.i64 0), (Go.Value.int Go.IntKind.u64 0), (Go.Value.slice Option.none 0 0)] [(0, 1, (Go.Value.int Go.IntKind.i64 4))]) fun x2 => S.bd (stl c1 0 13 x2) fun c3 => S.bd (lal c3 0 13) fun x4 => some (x4)
def leapfrogref09x_no.r (s : St) : Option Value := leapfrogref09x_no.t std  s
def leapfrogref09x_no.w : List Value → St → Option Value
  | [], s => leapfrogref09x_no.r  s
  | _, _ => none
def leapfrogref09x_no.an : An := ⟨2, true, [0], [], [], []⟩
theorem leapfrogref09x_no.ok (S : Sig) (s : St) : evG S Try.prog leapfrogref09x_no.ctx leapfrogref09x_no.an Try.f74 [] s = leapfrogref09x_no.t S  s := by kernel_rfl
theorem leapfrogref09x_no.cok : CtxOk Try.prog leapfrogref09x_no.ctx := .nil
theorem leapfrogref09x_no.draws : fnDraws leapfrogref09x_no.an Try.f74 = true := by kernel_rfl
theorem leapfrogref09x_no.can : callOk Try.prog 74 = true := by kernel_rfl
theorem leapfrogref09x_no.sound : FnOk Try.prog 74 (.rd leapfrogref09x_no.w) := FnOk.rd_of (evG_ok leapfrogref09x_no.cok mixed (f := 74) (fn := Try.f74) (by kernel_rfl) leapfrogref09x_no.draws) fun args s r h => by
  unfold leapfrogref09x_no.w at h; split at h
  · rw [leapfrogref09x_no.ok std]; exact h
  · simp at h

/-! ### (*leapfrog/leapfrogref09.Peer).plain: function 87 -/
def leapfrogref09x_Peer_plain.ctx : Ctx := [(72, .rd leapfrogref09x_Peer_first.w)]
def leapfrogref09x_Peer_plain.t (S : Sig) (a0 a1 : Value) (s : St) : Option Value :=
  S.bd (bx a1) fun c1 => S.bd (lal c1 0 2) fun x2 => S.bd (leapfrogref09x_Peer_first.r a0 x2 s) fun x3 => S.bd (bx (Go.Value.agg #[(Go.Value.int Go.IntKind.i64 0), (Go.Value.int Go.IntKind.u64 0), (Go.Value.int Go.IntKind.i64 0), (Go.Value.int Go.IntKind.i64 0), (Go.Value.int Go.IntKind.u64 0), (Go.Value.int Go.IntKind.i64 0), (Go.Value.int Go.IntKind.u64 0), (Go.Value.int Go.IntKind.i64 0), (Go.Value.int Go.IntKind.i64 0), (Go.Value.int Go.IntKind.u64 0), (Go.Value.int Go.IntKind.i64 0), (Go.Value.int Go.IntKind.u64 0), (Go.Value.bool Bool.false), (Go.Value.int Go.IntKind.i64 0), (Go.Value.int Go.IntKind.i64 0), (Go.Value.slice Option.none 0 0)])) fun c4 => S.bd (stl c4 0 16 x3) fun c5 => S.bd (nck a0) fun x6 => S.bd (fld 6 x6) fun x7 => S.bd (ldc s x7) fun x8 => S.bd (S.gd x8 true (lal c1 2 5)) fun x9 => S.bd (S.gd x8 true (lal c5 2 5)) fun x10 => S.bd (S.gd x8 true (eqb [1, 1, 1, 1, 1] true false x9 x10)) fun x11 => S.bd (pik x8 x11 (Go.Value.bool Bool.false)) fun x12 => S.bd (S.gd x12 true (lal c1 7 5)) fun x13 => S.bd (S.gd x12 true (lal c5 7 5)) fun x14 => S.bd (S.gd x12 true (eqb [1, 1, 1, 1, 1] true false x13 x14)) fun x15 => S.bd (pik x12 x15 (Go.Value.bool Bool.false)) fun x16 => S.bd (S.gd x16 true (lcl c1 12)) fun x17 => S.bd (S.gd x16 true (un .not x17)) fun x18 => S.bd (pik x16 x18 (Go.Value.bool Bool.false)) fun x19 => some (x19)
def leapfrogref09x_Peer_plain.r (a0 a1 : Value) (s : St) : Option Value := leapfrogref09x_Peer_plain.t std a0 a1 s
def leapfrogref09x_Peer_plain.w : List Value → St → Option Value
  | [a0, a1], s => leapfrogref09x_Peer_plain.r a0 a1 s
  | _, _ => none
def leapfrogref09x_Peer_plain.an : An := ⟨34, true, [3, 5], [], [], []⟩
theorem leapfrogref09x_Peer_plain.ok (S : Sig) (a0 a1 : Value) (s : St) : evG S Try.prog leapfrogref09x_Peer_plain.ctx leapfrogref09x_Peer_plain.an Try.f87 [a0, a1] s = leapfrogref09x_Peer_plain.t S a0 a1 s := by kernel_rfl
theorem leapfrogref09x_Peer_plain.cok : CtxOk Try.prog leapfrogref09x_Peer_plain.ctx := .cons leapfrogref09x_Peer_first.sound leapfrogref09x_Peer_first.can <| .nil
theorem leapfrogref09x_Peer_plain.draws : fnDraws leapfrogref09x_Peer_plain.an Try.f87 = true := by kernel_rfl
theorem leapfrogref09x_Peer_plain.can : callOk Try.prog 87 = true := by kernel_rfl
theorem leapfrogref09x_Peer_plain.sound : FnOk Try.prog 87 (.rd leapfrogref09x_Peer_plain.w) := FnOk.rd_of (evG_ok leapfrogref09x_Peer_plain.cok mixed (f := 87) (fn := Try.f87) (by kernel_rfl) leapfrogref09x_Peer_plain.draws) fun args s r h => by
  unfold leapfrogref09x_Peer_plain.w at h; split at h
  · rw [leapfrogref09x_Peer_plain.ok std]; exact h
  · simp at h

/-! ### (*leapfrog/leapfrogref09.Peer).set: function 75 -/
def leapfrogref09x_Peer_set.ctx : Ctx := [(87, .rd leapfrogref09x_Peer_plain.w), (88, .rd leapfrogref01x_CompareQ.w)]
def leapfrogref09x_Peer_set.l4.p1 (S : Sig) (x75 : Value) (x76 : Value) (xs60 : List Value) (s61 : St) (rec62 : List Value → St → Option Cut) : Option Cut :=
  S.bd (xtr 1 x75) fun x77 => S.bd (show Option Cut from S.bd (bin .gtr x76 (Go.Value.int Go.IntKind.i64 0)) fun x78 => S.bd (S.gd x78 true (some (xs60.getD 2 undef))) fun x79 => S.bd (S.gd x78 true (un .not x79)) fun x80 => S.bd (pik x78 x80 (Go.Value.bool Bool.false)) fun x81 => S.cnd x81 (S.bd (lal (cellsA (xs60.getD 4 undef)) 0 16) fun x82 => S.bd (S.bd (bls 16 (List.replicate 1 [(Go.Value.int Go.IntKind.i64 0), (Go.Value.int Go.IntKind.u64 0), (Go.Value.int Go.IntKind.i64 0), (Go.Value.int Go.IntKind.i64 0), (Go.Value.int Go.IntKind.u64 0), (Go.Value.int Go.IntKind.i64 0), (Go.Value.int Go.IntKind.u64 0), (Go.Value.int Go.IntKind.i64 0), (Go.Value.int Go.IntKind.i64 0), (Go.Value.int Go.IntKind.u64 0), (Go.Value.int Go.IntKind.i64 0), (Go.Value.int Go.IntKind.u64 0), (Go.Value.bool Bool.false), (Go.Value.int Go.IntKind.i64 0), (Go.Value.int Go.IntKind.i64 0), (Go.Value.slice Option.none 0 0)]) [(0, x82)]) fun rows => als s61 16 1 rows) fun r83 => S.bd (app r83.2 16 144 (xs60.getD 1 undef) r83.1) fun r84 => some (0, [(xs60.getD 0 undef), r84.1, (Go.Value.bool Bool.true), (xs60.getD 3 undef), x76, x79, x80, (Value.agg ⟨(cellsA (xs60.getD 4 undef))⟩)], r84.2)) (some (0, [(xs60.getD 0 undef), (xs60.getD 1 undef), (xs60.getD 2 undef), (xs60.getD 3 undef), x76, x79, x80, (Value.agg ⟨(cellsA (xs60.getD 4 undef))⟩)], s61))) fun r85 => S.bd (show Option Cut from S.bd (eqb [1] false true (r85.2.1.getD 4 undef) (Go.Value.int Go.IntKind.i64 0)) fun x86 => S.cnd x86 (S.bd (nck (r85.2.1.getD 0 undef)) fun x87 => S.bd (fld 9 x87) fun x88 => S.bd (ldc r85.2.2 x88) fun x89 => S.bd (idx r85.2.2 16 x89 (r85.2.1.getD 3 undef)) fun x90 => S.bd (lda r85.2.2 16 x90) fun x91 => S.bd (S.bd (bls 16 (List.replicate 1 [(Go.Value.int Go.IntKind.i64 0), (Go.Value.int Go.IntKind.u64 0), (Go.Value.int Go.IntKind.i64 0), (Go.Value.int Go.IntKind.i64 0), (Go.Value.int Go.IntKind.u64 0), (Go.Value.int Go.IntKind.i64 0), (Go.Value.int Go.IntKind.u64 0), (Go.Value.int Go.IntKind.i64 0), (Go.Value.int Go.IntKind.i64 0), (Go.Value.int Go.IntKind.u64 0), (Go.Value.int Go.IntKind.i64 0), (Go.Value.int Go.IntKind.u64 0), (Go.Value.bool Bool.false), (Go.Value.int Go.IntKind.i64 0), (Go.Value.int Go.IntKind.i64 0), (Go.Value.slice Option.none 0 0)]) [(0, x91)]) fun rows => als r85.2.2 16 1 rows) fun r92 => S.bd (app r92.2 16 144 (r85.2.1.getD 1 undef) r92.1) fun r93 => some (0, [(r85.2.1.getD 0 undef), r93.1, (r85.2.1.getD 2 undef), (r85.2.1.getD 3 undef), (r85.2.1.getD 4 undef), (r85.2.1.getD 5 undef), (r85.2.1.getD 6 undef), (Value.agg ⟨(cellsA (r85.2.1.getD 7 undef))⟩)], r93.2)) (some (0, [(r85.2.1.getD 0 undef), (r85.2.1.getD 1 undef), (r85.2.1.getD 2 undef), (r85.2.1.getD 3 undef), (r85.2.1.getD 4 undef), (r85.2.1.getD 5 undef), (r85.2.1.getD 6 undef), (Value.agg ⟨(cellsA (r85.2.1.getD 7 undef))⟩)], r85.2.2))) fun r94 => S.bd (eqb [1] false false (r94.2.1.getD 4 undef) (Go.Value.int Go.IntKind.i64 0)) fun x95 => S.bd (S.gd x95 true (some (r94.2.1.getD 2 undef))) fun x96 => S.bd (S.gd x95 true (un .not x96)) fun x97 => S.bd (pik x95 x97 (Go.Value.bool Bool.false)) fun x98 => S.cnd x98 (S.bd (lal (cellsA (r94.2.1.getD 7 undef)) 0 16) fun x99 => S.bd (S.bd (bls 16 (List.replicate 1 [(Go.Value.int Go.IntKind.i64 0), (Go.Value.int Go.IntKind.u64 0), (Go.Value.int Go.IntKind.i64 0), (Go.Value.int Go.IntKind.i64 0), (Go.Value.int Go.IntKind.u64 0), (Go.Value.int Go.IntKind.i64 0), (Go.Value.int Go.IntKind.u64 0), (Go.Value.int Go.IntKind.i64 0), (Go.Value.int Go.IntKind.i64 0), (Go.Value.int Go.IntKind.u64 0), (Go.Value.int Go.IntKind.i64 0), (Go.Value.int Go.IntKind.u64 0), (Go.Value.bool Bool.false), (Go.Value.int Go.IntKind.i64 0), (Go.Value.int Go.IntKind.i64 0), (Go.Value.slice Option.none 0 0)]) [(0, x99)]) fun rows => als r94.2.2 16 1 rows) fun r100 => S.bd (app r100.2 16 144 (r94.2.1.getD 1 undef) r100.1) fun r101 => S.bd (bin .add (r94.2.1.getD 3 undef) (Go.Value.int Go.IntKind.i64 1)) fun x102 => rec62 [(r94.2.1.getD 0 undef), r101.1, (Go.Value.bool Bool.true), x102, (Value.agg ⟨(cellsA (r94.2.1.getD 7 undef))⟩)] r101.2) (S.bd (bin .add (r94.2.1.getD 3 undef) (Go.Value.int Go.IntKind.i64 1)) fun x103 => rec62 [(r94.2.1.getD 0 undef), (r94.2.1.getD 1 undef), (r94.2.1.getD 2 undef), x103, (Value.agg ⟨(cellsA (r94.2.1.getD 7 undef))⟩)] r94.2.2)

def leapfrogref09x_Peer_set.l4 (S : Sig) (rec62 : List Value → St → Option Cut) (xs60 : List Value) (s61 : St) : Option Cut :=
  S.bd (nck (xs60.getD 0 undef)) fun x63 => S.bd (fld 9 x63) fun x64 => S.bd (ldc s61 x64) fun x65 => S.bd (lenL x65) fun x66 => S.bd (bin .lss (xs60.getD 3 undef) x66) fun x67 => S.cnd x67 (S.bd (nck (xs60.getD 0 undef)) fun x68 => S.bd (fld 9 x68) fun x69 => S.bd (ldc s61 x69) fun x70 => S.bd (idx s61 16 x70 (xs60.getD 3 undef)) fun x71 => S.bd (fld 0 x71) fun x72 => S.bd (lda s61 2 x72) fun x73 => S.bd (lal (cellsA (xs60.getD 4 undef)) 0 2) fun x74 => S.bd (leapfrogref01x_CompareQ.r x73 x74 s61) fun x75 => S.bd (xtr 0 x75) fun x76 => leapfrogref09x_Peer_set.l4.p1 S x75 x76 xs60 s61 rec62) (some (0, [(xs60.getD 0 undef), (xs60.getD 1 undef), (xs60.getD 2 undef), (Value.agg ⟨(cellsA (xs60.getD 4 undef))⟩)], s61))

def leapfrogref09x_Peer_set.t (S : Sig) (a0 a1 : Value) (s : St) : Option (Value × St) :=
  S.bd (bx a1) fun c1 => S.bd (lal c1 0 16) fun x2 => S.bd (leapfrogref09x_Peer_plain.r a0 x2 s) fun x3 => S.bd (S.it (leapfrogref09x_Peer_set.l4 S) [a0, (Go.Value.slice Option.none 0 0), x3, (Go.Value.int Go.IntKind.i64 0), (Value.agg ⟨c1⟩)] s) fun r104 => S.bd (show Option Cut from S.bd (un .not (r104.2.1.getD 2 undef)) fun x109 => S.cnd x109 (S.bd (lal (cellsA (r104.2.1.getD 3 undef)) 0 16) fun x110 => S.bd (S.bd (bls 16 (List.replicate 1 [(Go.Value.int Go.IntKind.i64 0), (Go.Value.int Go.IntKind.u64 0), (Go.Value.int Go.IntKind.i64 0), (Go.Value.int Go.IntKind.i64 0), (Go.Value.int Go.IntKind.u64 0), (Go.Value.int Go.IntKind.i64 0), (Go.Value.int Go.IntKind.u64 0), (Go.Value.int Go.IntKind.i64 0), (Go.Value.int Go.IntKind.i64 0), (Go.Value.int Go.IntKind.u64 0), (Go.Value.int Go.IntKind.i64 0), (Go.Value.int Go.IntKind.u64 0), (Go.Value.bool Bool.false), (Go.Value.int Go.IntKind.i64 0), (Go.Value.int Go.IntKind.i64 0), (Go.Value.slice Option.none 0 0)]) [(0, x110)]) fun rows => als r104.2.2 16 1 rows) fun r111 => S.bd (app r111.2 16 144 (r104.2.1.getD 1 undef) r111.1) fun r112 => some (0, [(r104.2.1.getD 0 undef), r112.1], r112.2)) (some (0, [(r104.2.1.getD 0 undef), (r104.2.1.getD 1 undef)], r104.2.2))) fun r113 => S.bd (nck (r113.2.1.getD 0 undef)) fun x114 => S.bd (fld 9 x114) fun x115 => S.bd (stv r113.2.2 1 x115 (r113.2.1.getD 1 undef)) fun s116 => some ((Value.tuple ⟨[]⟩), s116)
def leapfrogref09x_Peer_set.v (a0 a1 : Value) (s : St) : Option (Value × St) := leapfrogref09x_Peer_set.t std a0 a1 s
def leapfrogref09x_Peer_set.w : List Value → St → Option (Value × St)
  | [a0, a1], s => leapfrogref09x_Peer_set.v a0 a1 s
  | _, _ => none
def leapfrogref09x_Peer_set.an : An := ⟨77, false, [3], [(4, ⟨[.v 0, .p 3 3 0, .v 4, .v 5, .v 6, .l 3], [(.exit 0, [.v 0, .p 3 3 0, .v 4, .v 5, .l 3])]⟩)], [(10, ⟨[], [(.normal, [.v 0, .p 3 3 0, .v 4, .v 5, .v 6, .v 7, .v 38, .v 39, .l 3])]⟩), (12, ⟨[], [(.normal, [.v 0, .p 3 3 0, .v 4, .v 5, .v 6, .v 7, .v 38, .v 39, .l 3])]⟩), (17, ⟨[], [(.normal, [.v 0, .v 4])]⟩)], [(6, [(0, 0, [], []), (1, 0, [], []), (2, 0, [], []), (3, 2, [], []), (4, 0, [], []), (5, 2, [], []), (6, 0, [], []), (7, 2, [], []), (8, 0, [], []), (9, 25, [], []), (10, 3, [], []), (11, 0, [], []), (12, 0, [], []), (13, 0, [], []), (14, 0, [], []), (15, 0, [], [])])]⟩
theorem leapfrogref09x_Peer_set.ok (S : Sig) (a0 a1 : Value) (s : St) : evF S Try.prog leapfrogref09x_Peer_set.ctx leapfrogref09x_Peer_set.an Try.f75 [a0, a1] s = leapfrogref09x_Peer_set.t S a0 a1 s := by kernel_rfl
theorem leapfrogref09x_Peer_set.cok : CtxOk Try.prog leapfrogref09x_Peer_set.ctx := .cons leapfrogref09x_Peer_plain.sound leapfrogref09x_Peer_plain.can <| .cons leapfrogref01x_CompareQ.sound leapfrogref01x_CompareQ.can <| .nil
theorem leapfrogref09x_Peer_set.draws : fnDraws leapfrogref09x_Peer_set.an Try.f75 = true := by kernel_rfl
theorem leapfrogref09x_Peer_set.can : callOk Try.prog 75 = true := by kernel_rfl
theorem leapfrogref09x_Peer_set.sound : FnOk Try.prog 75 (.st leapfrogref09x_Peer_set.w) := FnOk.st_of (evF_ok leapfrogref09x_Peer_set.cok mixed (f := 75) (fn := Try.f75) (by kernel_rfl) leapfrogref09x_Peer_set.draws) fun args s r h => by
  unfold leapfrogref09x_Peer_set.w at h; split at h
  · rw [leapfrogref09x_Peer_set.ok std]; exact h
  · simp at h

/-! ### (*leapfrog/leapfrogref09.Peer).lock: function 44 -/
def leapfrogref09x_Peer_lock.ctx : Ctx := [(40, .rd leapfrogref09x_Peer_rec.w), (42, .rd leapfrogref09x_gone.w), (41, .st leapfrogref09x_told.w), (73, .st leapfrogref07x_Lock_Ask.w), (74, .rd leapfrogref09x_no.w), (75, .st leapfrogref09x_Peer_set.w), (43, .rd leapfrogref09x_Peer_of.w)]
def leapfrogref09x_Peer_lock.t.p1 (S : Sig) (r17 : Value × St) (r6 : Value × St) (a0 : Value) (x18 : Value) (a1 : Value) (c1 : List Value) : Option (Value × St) :=
  S.bd (lda r17.2 16 r6.1) fun x34 => S.bd (leapfrogref09x_Peer_set.v a0 x34 r17.2) fun r35 => S.cnd x18 (S.bd (lda r35.2 16 r6.1) fun x36 => S.bd (leapfrogref09x_Peer_of.r a0 x36 r35.2) fun x37 => S.bd (leapfrogref09x_told.v a1 x37 r35.2) fun r38 => some (r38.1, r38.2)) (S.bd (nck a0) fun x39 => S.bd (fld 10 x39) fun x40 => S.bd (ldc r35.2 x40) fun x41 => S.bd (lal c1 1 2) fun x42 => S.bd (lal c1 13 2) fun x43 => S.bd (bld [(Go.Value.int Go.IntKind.i64 0), (Go.Value.bool Bool.false), (Go.Value.int Go.IntKind.i64 0), (Go.Value.int Go.IntKind.u64 0), (Go.Value.int Go.IntKind.i64 0), (Go.Value.int Go.IntKind.i64 0)] [(0, 1, a1), (2, 2, x42), (4, 2, x43)]) fun x44 => S.bd (S.bd (bls 6 (List.replicate 1 [(Go.Value.int Go.IntKind.i64 0), (Go.Value.bool Bool.false), (Go.Value.int Go.IntKind.i64 0), (Go.Value.int Go.IntKind.u64 0), (Go.Value.int Go.IntKind.i64 0), (Go.Value.int Go.IntKind.i64 0)]) [(0, x44)]) fun rows => als r35.2 6 1 rows) fun _ => S.bd (S.bd (bls 6 (List.replicate 0 [(Go.Value.int Go.IntKind.i64 0), (Go.Value.bool Bool.false), (Go.Value.int Go.IntKind.i64 0), (Go.Value.int Go.IntKind.u64 0), (Go.Value.int Go.IntKind.i64 0), (Go.Value.int Go.IntKind.i64 0)]) []) fun rows => als r35.2 6 0 rows) fun r45 => S.bd (S.bd (bls 6 (List.replicate 1 [(Go.Value.int Go.IntKind.i64 0), (Go.Value.bool Bool.false), (Go.Value.int Go.IntKind.i64 0), (Go.Value.int Go.IntKind.u64 0), (Go.Value.int Go.IntKind.i64 0), (Go.Value.int Go.IntKind.i64 0)]) [(0, x44)]) fun rows => als r45.2 6 1 rows) fun _ => S.bd (app r45.2 6 48 r45.1 x41) fun r46 => S.bd (S.bd (bls 6 (List.replicate 1 [(Go.Value.int Go.IntKind.i64 0), (Go.Value.bool Bool.false), (Go.Value.int Go.IntKind.i64 0), (Go.Value.int Go.IntKind.u64 0), (Go.Value.int Go.IntKind.i64 0), (Go.Value.int Go.IntKind.i64 0)]) [(0, x44)]) fun rows => als r46.2 6 1 rows) fun r47 => S.bd (app r47.2 6 48 r46.1 r47.1) fun r48 => S.bd (nck a0) fun x49 => S.bd (fld 10 x49) fun x50 => S.bd (stv r48.2 1 x50 r48.1) fun s51 => some ((Go.Value.slice Option.none 0 0), s51))

def leapfrogref09x_Peer_lock.t (S : Sig) (a0 a1 a2 : Value) (s : St) : Option (Value × St) :=
  S.bd (bx a2) fun c1 => S.bd (lal c1 1 2) fun x2 => S.bd (leapfrogref09x_Peer_rec.r a0 x2 s) fun x3 => S.bd (xtr 0 x3) fun x4 => S.bd (xtr 1 x3) fun x5 => S.bd (alv s (Go.Value.agg #[(Go.Value.int Go.IntKind.i64 0), (Go.Value.int Go.IntKind.u64 0), (Go.Value.int Go.IntKind.i64 0), (Go.Value.int Go.IntKind.i64 0), (Go.Value.int Go.IntKind.u64 0), (Go.Value.int Go.IntKind.i64 0), (Go.Value.int Go.IntKind.u64 0), (Go.Value.int Go.IntKind.i64 0), (Go.Value.int Go.IntKind.i64 0), (Go.Value.int Go.IntKind.u64 0), (Go.Value.int Go.IntKind.i64 0), (Go.Value.int Go.IntKind.u64 0), (Go.Value.bool Bool.false), (Go.Value.int Go.IntKind.i64 0), (Go.Value.int Go.IntKind.i64 0), (Go.Value.slice Option.none 0 0)])) fun r6 => S.bd (stv r6.2 16 r6.1 x4) fun s7 => S.bd (un .not x5) fun x8 => S.cnd x8 (S.bd (leapfrogref09x_gone.r  s7) fun x9 => S.bd (leapfrogref09x_told.v a1 x9 s7) fun r10 => some (r10.1, r10.2)) (S.bd (fld 12 r6.1) fun x11 => S.bd (fld 3 x11) fun x12 => S.bd (ldc s7 x12) fun x13 => S.bd (lenL x13) fun x14 => S.bd (fld 12 r6.1) fun x15 => S.bd (lal c1 13 2) fun x16 => S.bd (leapfrogref07x_Lock_Ask.v x15 x16 s7) fun r17 => S.bd (xtr 0 r17.1) fun x18 => S.bd (xtr 1 r17.1) fun x19 => S.bd (eqb [1] false true x19 (Go.Value.int Go.IntKind.i64 0)) fun x20 => S.bd (S.gd x20 false (some x18)) fun x21 => S.bd (S.gd x20 false (un .not x21)) fun x22 => S.bd (S.gd x20 false (some x22)) fun x23 => S.bd (S.gd x23 true (fld 12 r6.1)) fun x24 => S.bd (S.gd x23 true (fld 3 x24)) fun x25 => S.bd (S.gd x23 true (ldc r17.2 x25)) fun x26 => S.bd (S.gd x23 true (lenL x26)) fun x27 => S.bd (S.gd x23 true (some x14)) fun x28 => S.bd (S.gd x23 true (eqb [1] false false x27 x28)) fun x29 => S.bd (S.gd x20 false (pik x23 x29 (Go.Value.bool Bool.false))) fun x30 => S.bd (pik x20 (Go.Value.bool Bool.true) x30) fun x31 => S.cnd x31 (S.bd (leapfrogref09x_no.r  r17.2) fun x32 => S.bd (leapfrogref09x_told.v a1 x32 r17.2) fun r33 => some (r33.1, r33.2)) (leapfrogref09x_Peer_lock.t.p1 S r17 r6 a0 x18 a1 c1))
def leapfrogref09x_Peer_lock.v (a0 a1 a2 : Value) (s : St) : Option (Value × St) := leapfrogref09x_Peer_lock.t std a0 a1 a2 s
def leapfrogref09x_Peer_lock.w : List Value → St → Option (Value × St)
  | [a0, a1, a2], s => leapfrogref09x_Peer_lock.v a0 a1 a2 s
  | _, _ => none
def leapfrogref09x_Peer_lock.an : An := ⟨78, false, [5], [], [], [(11, [(0, 0, [], []), (2, 0, [], []), (3, 0, [], []), (4, 0, [], []), (5, 2, [], []), (7, 0, [], []), (8, 0, [], []), (9, 41, [], []), (10, 0, [], []), (11, 41, [], []), (12, 0, [], []), (1, 3, [], [13]), (6, 4, [], [13]), (13, 3, [], []), (14, 4, [], []), (15, 0, [], []), (16, 0, [], []), (17, 4, [], [])])]⟩
theorem leapfrogref09x_Peer_lock.ok (S : Sig) (a0 a1 a2 : Value) (s : St) : evF S Try.prog leapfrogref09x_Peer_lock.ctx leapfrogref09x_Peer_lock.an Try.f44 [a0, a1, a2] s = leapfrogref09x_Peer_lock.t S a0 a1 a2 s := by kernel_rfl
theorem leapfrogref09x_Peer_lock.cok : CtxOk Try.prog leapfrogref09x_Peer_lock.ctx := .cons leapfrogref09x_Peer_rec.sound leapfrogref09x_Peer_rec.can <| .cons leapfrogref09x_gone.sound leapfrogref09x_gone.can <| .cons leapfrogref09x_told.sound leapfrogref09x_told.can <| .cons leapfrogref07x_Lock_Ask.sound leapfrogref07x_Lock_Ask.can <| .cons leapfrogref09x_no.sound leapfrogref09x_no.can <| .cons leapfrogref09x_Peer_set.sound leapfrogref09x_Peer_set.can <| .cons leapfrogref09x_Peer_of.sound leapfrogref09x_Peer_of.can <| .nil
theorem leapfrogref09x_Peer_lock.draws : fnDraws leapfrogref09x_Peer_lock.an Try.f44 = true := by kernel_rfl
theorem leapfrogref09x_Peer_lock.can : callOk Try.prog 44 = true := by kernel_rfl
theorem leapfrogref09x_Peer_lock.sound : FnOk Try.prog 44 (.st leapfrogref09x_Peer_lock.w) := FnOk.st_of (evF_ok leapfrogref09x_Peer_lock.cok mixed (f := 44) (fn := Try.f44) (by kernel_rfl) leapfrogref09x_Peer_lock.draws) fun args s r h => by
  unfold leapfrogref09x_Peer_lock.w at h; split at h
  · rw [leapfrogref09x_Peer_lock.ok std]; exact h
  · simp at h

/-! ### (*leapfrog/leapfrogref07.Lock).Free: function 76 -/
def leapfrogref07x_Lock_Free.ctx : Ctx := [(53, .rd leapfrogref07x_IsOwner.w)]
def leapfrogref07x_Lock_Free.t.p1 (S : Sig) (x12 : Value) (x16 : Value) (x17 : Value) (c2 : List Value) (s : St) (a0 : Value) : Option (Value × St) :=
  S.bd (S.gd x12 false (eqb [1, 1] true true x16 x17)) fun x18 => S.bd (pik x12 (Go.Value.bool Bool.true) x18) fun x19 => S.cnd x19 (S.bd (bld [(Go.Value.int Go.IntKind.i64 0), (Go.Value.int Go.IntKind.i64 0)] []) fun x20 => S.bd (stl c2 0 2 x20) fun c21 => S.bd (lal c21 0 2) fun x22 => some ((Value.tuple ⟨[x22, (Go.Value.bool Bool.false), (Go.Value.int Go.IntKind.i64 71)]⟩), s)) (S.bd (nck a0) fun x23 => S.bd (fld 3 x23) fun x24 => S.bd (ldc s x24) fun x25 => S.bd (lenL x25) fun x26 => S.bd (eqb [1] false false x26 (Go.Value.int Go.IntKind.i64 0)) fun x27 => S.cnd x27 (S.bd (bld [(Go.Value.int Go.IntKind.i64 0), (Go.Value.int Go.IntKind.i64 0)] []) fun x28 => S.bd (nck a0) fun x29 => S.bd (fld 0 x29) fun x30 => S.bd (stv s 1 x30 (Go.Value.bool Bool.false)) fun s31 => S.bd (nck a0) fun x32 => S.bd (fld 1 x32) fun x33 => S.bd (stv s31 2 x33 x28) fun s34 => S.bd (bld [(Go.Value.int Go.IntKind.i64 0), (Go.Value.int Go.IntKind.i64 0)] []) fun x35 => S.bd (stl c2 0 2 x35) fun c36 => S.bd (lal c36 0 2) fun x37 => some ((Value.tuple ⟨[x37, (Go.Value.bool Bool.false), (Go.Value.int Go.IntKind.i64 0)]⟩), s34)) (S.bd (nck a0) fun x38 => S.bd (fld 3 x38) fun x39 => S.bd (ldc s x39) fun x40 => S.bd (idx s 2 x40 (Go.Value.int Go.IntKind.i64 0)) fun x41 => S.bd (lda s 2 x41) fun x42 => S.bd (nck a0) fun x43 => S.bd (fld 1 x43) fun x44 => S.bd (stv s 2 x44 x42) fun s45 => S.bd (S.bd (bls 2 (List.replicate 0 [(Go.Value.int Go.IntKind.i64 0), (Go.Value.int Go.IntKind.i64 0)]) []) fun rows => als s45 2 0 rows) fun r46 => S.bd (nck a0) fun x47 => S.bd (fld 3 x47) fun x48 => S.bd (ldc r46.2 x48) fun x49 => S.bd (slc r46.2 2 x49 (some (Go.Value.int Go.IntKind.i64 1)) none none) fun x50 => S.bd (app r46.2 2 16 r46.1 x50) fun r51 => S.bd (nck a0) fun x52 => S.bd (fld 3 x52) fun x53 => S.bd (stv r51.2 1 x53 r51.1) fun s54 => S.bd (nck a0) fun x55 => S.bd (fld 1 x55) fun x56 => S.bd (lda s54 2 x56) fun x57 => S.bd (stl c2 0 2 x57) fun c58 => S.bd (lal c58 0 2) fun x59 => some ((Value.tuple ⟨[x59, (Go.Value.bool Bool.true), (Go.Value.int Go.IntKind.i64 0)]⟩), s54)))

def leapfrogref07x_Lock_Free.t (S : Sig) (a0 a1 : Value) (s : St) : Option (Value × St) :=
  S.bd (bx a1) fun c1 => S.bd (bx (Go.Value.agg #[(Go.Value.int Go.IntKind.i64 0), (Go.Value.int Go.IntKind.i64 0)])) fun c2 => S.bd (lal c1 0 2) fun x3 => S.bd (leapfrogref07x_IsOwner.r x3 s) fun x4 => S.bd (un .not x4) fun x5 => S.cnd x5 (S.bd (bld [(Go.Value.int Go.IntKind.i64 0), (Go.Value.int Go.IntKind.i64 0)] []) fun x6 => S.bd (stl c2 0 2 x6) fun c7 => S.bd (lal c7 0 2) fun x8 => some ((Value.tuple ⟨[x8, (Go.Value.bool Bool.false), (Go.Value.int Go.IntKind.i64 70)]⟩), s)) (S.bd (nck a0) fun x9 => S.bd (fld 0 x9) fun x10 => S.bd (ldc s x10) fun x11 => S.bd (un .not x11) fun x12 => S.bd (S.gd x12 false (some a0)) fun x13 => S.bd (S.gd x12 false (nck x13)) fun x14 => S.bd (S.gd x12 false (fld 1 x14)) fun x15 => S.bd (S.gd x12 false (lda s 2 x15)) fun x16 => S.bd (S.gd x12 false (lal c1 0 2)) fun x17 => leapfrogref07x_Lock_Free.t.p1 S x12 x16 x17 c2 s a0)
def leapfrogref07x_Lock_Free.v (a0 a1 : Value) (s : St) : Option (Value × St) := leapfrogref07x_Lock_Free.t std a0 a1 s
def leapfrogref07x_Lock_Free.w : List Value → St → Option (Value × St)
  | [a0, a1], s => leapfrogref07x_Lock_Free.v a0 a1 s
  | _, _ => none
def leapfrogref07x_Lock_Free.an : An := ⟨62, false, [3, 4], [], [], [(3, [(0, 0, [], []), (1, 0, [], []), (2, 0, [], []), (3, 2, [], []), (4, 0, [], []), (5, 0, [], []), (6, 0, [], []), (7, 0, [], []), (8, 0, [], []), (9, 2, [], []), (10, 25, [], []), (11, 0, [], []), (12, 0, [], [])])]⟩
theorem leapfrogref07x_Lock_Free.ok (S : Sig) (a0 a1 : Value) (s : St) : evF S Try.prog leapfrogref07x_Lock_Free.ctx leapfrogref07x_Lock_Free.an Try.f76 [a0, a1] s = leapfrogref07x_Lock_Free.t S a0 a1 s := by kernel_rfl
theorem leapfrogref07x_Lock_Free.cok : CtxOk Try.prog leapfrogref07x_Lock_Free.ctx := .cons leapfrogref07x_IsOwner.sound leapfrogref07x_IsOwner.can <| .nil
theorem leapfrogref07x_Lock_Free.draws : fnDraws leapfrogref07x_Lock_Free.an Try.f76 = true := by kernel_rfl
theorem leapfrogref07x_Lock_Free.can : callOk Try.prog 76 = true := by kernel_rfl
theorem leapfrogref07x_Lock_Free.sound : FnOk Try.prog 76 (.st leapfrogref07x_Lock_Free.w) := FnOk.st_of (evF_ok leapfrogref07x_Lock_Free.cok mixed (f := 76) (fn := Try.f76) (by kernel_rfl) leapfrogref07x_Lock_Free.draws) fun args s r h => by
  unfold leapfrogref07x_Lock_Free.w at h; split at h
  · rw [leapfrogref07x_Lock_Free.ok std]; exact h
  · simp at h

/-! ### leapfrog/leapfrogref09.ok: function 77 -/
def leapfrogref09x_ok.ctx : Ctx := []
def leapfrogref09x_ok.t (S : Sig) (s : St) : Option Value :=
  S.bd (bx (Go.Value.agg #[(Go.Value.int Go.IntKind.i64 0), (Go.Value.bool Bool.false), (Go.Value.int Go.IntKind.i64 0), (Go.Value.int Go.IntKind.i64 0), (Go.Value.int Go.IntKind.u64 0), (Go.Value.int Go.IntKind.i64 0), (Go.Value.int Go.IntKind.u64 0), (Go.Value.int Go.IntKind.i64 0), (Go.Value.int Go.IntKind.i64 0), (Go.Value.int Go.IntKind.u64 0), (Go.Value.int Go.IntKind.i64 0), (Go.Value.int Go.IntKind.u64 0), (Go.Value.slice Option.none 0 0)])) fun c1 => S.bd (bld [(Go.Value.int Go.IntKind.i64 0), (Go.Value.bool Bool.false), (Go.Value.int Go.IntKind.i64 0), (Go.Value.int Go.IntKind.i64 0), (Go.Value.int Go.IntKind.u64 0), (Go.Value.int Go.IntKind.i64 0), (Go.Value.int Go.IntKind.u64 0), (Go.Value.int Go.IntKind.i64 0), (Go.Value.int Go.IntKind.i64 0), (Go.Value.int Go.IntKind.u64 0), (Go.Value.int Go.IntKind.i64 0), (Go.Value.int Go.IntKind.u64 0), (Go.Value.slice Option.none 0 0)] [(0, 1, (Go.Value.int Go.IntKind.i64 1))]) fun x2 => S.bd (stl c1 0 13 x2) fun c3 => S.bd (lal c3 0 13) fun x4 => some (x4)
def leapfrogref09x_ok.r (s : St) : Option Value := leapfrogref09x_ok.t std  s
def leapfrogref09x_ok.w : List Value → St → Option Value
  | [], s => leapfrogref09x_ok.r  s
  | _, _ => none
def leapfrogref09x_ok.an : An := ⟨2, true, [0], [], [], []⟩
theorem leapfrogref09x_ok.ok (S : Sig) (s : St) : evG S Try.prog leapfrogref09x_ok.ctx leapfrogref09x_ok.an Try.f77 [] s = leapfrogref09x_ok.t S  s := by kernel_rfl
theorem leapfrogref09x_ok.cok : CtxOk Try.prog leapfrogref09x_ok.ctx := .nil
theorem leapfrogref09x_ok.draws : fnDraws leapfrogref09x_ok.an Try.f77 = true := by kernel_rfl
theorem leapfrogref09x_ok.can : callOk Try.prog 77 = true := by kernel_rfl
theorem leapfrogref09x_ok.sound : FnOk Try.prog 77 (.rd leapfrogref09x_ok.w) := FnOk.rd_of (evG_ok leapfrogref09x_ok.cok mixed (f := 77) (fn := Try.f77) (by kernel_rfl) leapfrogref09x_ok.draws) fun args s r h => by
  unfold leapfrogref09x_ok.w at h; split at h
  · rw [leapfrogref09x_ok.ok std]; exact h
  · simp at h

/-! ### (*leapfrog/leapfrogref09.Peer).answer: function 78 -/
def leapfrogref09x_Peer_answer.ctx : Ctx := []
def leapfrogref09x_Peer_answer.l4.p1 (S : Sig) (x52 : Value) (c50 : List Value) (xs36 : List Value) (s37 : St) (rec38 : List Value → St → Option Cut) : Option Cut :=
  S.bd (S.gd x52 true (lal c50 2 2)) fun x53 => S.bd (S.gd x52 true (lal (cellsA (xs36.getD 4 undef)) 0 2)) fun x54 => S.bd (S.gd x52 true (eqb [1, 1] true false x53 x54)) fun x55 => S.bd (pik x52 x55 (Go.Value.bool Bool.false)) fun x56 => S.bd (S.gd x56 true (lal c50 4 2)) fun x57 => S.bd (S.gd x56 true (lal (cellsA (xs36.getD 5 undef)) 0 2)) fun x58 => S.bd (S.gd x56 true (eqb [1, 1] true false x57 x58)) fun x59 => S.bd (pik x56 x59 (Go.Value.bool Bool.false)) fun x60 => S.cnd x60 (S.bd (lcl c50 0) fun x61 => S.bd (lal (cellsA (xs36.getD 6 undef)) 0 13) fun x62 => S.bd (bld [(Go.Value.int Go.IntKind.i64 0), (Go.Value.int Go.IntKind.i64 0), (Go.Value.bool Bool.false), (Go.Value.int Go.IntKind.i64 0), (Go.Value.int Go.IntKind.i64 0), (Go.Value.int Go.IntKind.u64 0), (Go.Value.int Go.IntKind.i64 0), (Go.Value.int Go.IntKind.u64 0), (Go.Value.int Go.IntKind.i64 0), (Go.Value.int Go.IntKind.i64 0), (Go.Value.int Go.IntKind.u64 0), (Go.Value.int Go.IntKind.i64 0), (Go.Value.int Go.IntKind.u64 0), (Go.Value.slice Option.none 0 0)] [(0, 1, x61), (1, 13, x62)]) fun x63 => S.bd (S.bd (bls 14 (List.replicate 1 [(Go.Value.int Go.IntKind.i64 0), (Go.Value.int Go.IntKind.i64 0), (Go.Value.bool Bool.false), (Go.Value.int Go.IntKind.i64 0), (Go.Value.int Go.IntKind.i64 0), (Go.Value.int Go.IntKind.u64 0), (Go.Value.int Go.IntKind.i64 0), (Go.Value.int Go.IntKind.u64 0), (Go.Value.int Go.IntKind.i64 0), (Go.Value.int Go.IntKind.i64 0), (Go.Value.int Go.IntKind.u64 0), (Go.Value.int Go.IntKind.i64 0), (Go.Value.int Go.IntKind.u64 0), (Go.Value.slice Option.none 0 0)]) [(0, x63)]) fun rows => als s37 14 1 rows) fun r64 => S.bd (app r64.2 14 128 (xs36.getD 2 undef) r64.1) fun r65 => S.bd (bin .add (xs36.getD 3 undef) (Go.Value.int Go.IntKind.i64 1)) fun x66 => rec38 [(xs36.getD 0 undef), (xs36.getD 1 undef), r65.1, x66, (Value.agg ⟨(cellsA (xs36.getD 4 undef))⟩), (Value.agg ⟨(cellsA (xs36.getD 5 undef))⟩), (Value.agg ⟨(cellsA (xs36.getD 6 undef))⟩)] r65.2) (S.bd (lal c50 0 6) fun x67 => S.bd (S.bd (bls 6 (List.replicate 1 [(Go.Value.int Go.IntKind.i64 0), (Go.Value.bool Bool.false), (Go.Value.int Go.IntKind.i64 0), (Go.Value.int Go.IntKind.u64 0), (Go.Value.int Go.IntKind.i64 0), (Go.Value.int Go.IntKind.i64 0)]) [(0, x67)]) fun rows => als s37 6 1 rows) fun r68 => S.bd (app r68.2 6 48 (xs36.getD 1 undef) r68.1) fun r69 => S.bd (bin .add (xs36.getD 3 undef) (Go.Value.int Go.IntKind.i64 1)) fun x70 => rec38 [(xs36.getD 0 undef), r69.1, (xs36.getD 2 undef), x70, (Value.agg ⟨(cellsA (xs36.getD 4 undef))⟩), (Value.agg ⟨(cellsA (xs36.getD 5 undef))⟩), (Value.agg ⟨(cellsA (xs36.getD 6 undef))⟩)] r69.2)

def leapfrogref09x_Peer_answer.l4 (S : Sig) (rec38 : List Value → St → Option Cut) (xs36 : List Value) (s37 : St) : Option Cut :=
  S.bd (nck (xs36.getD 0 undef)) fun x39 => S.bd (fld 10 x39) fun x40 => S.bd (ldc s37 x40) fun x41 => S.bd (lenL x41) fun x42 => S.bd (bin .lss (xs36.getD 3 undef) x42) fun x43 => S.cnd x43 (S.bd (nck (xs36.getD 0 undef)) fun x44 => S.bd (fld 10 x44) fun x45 => S.bd (ldc s37 x45) fun x46 => S.bd (idx s37 6 x46 (xs36.getD 3 undef)) fun x47 => S.bd (lda s37 6 x47) fun x48 => S.bd (bx (Go.Value.agg #[(Go.Value.int Go.IntKind.i64 0), (Go.Value.bool Bool.false), (Go.Value.int Go.IntKind.i64 0), (Go.Value.int Go.IntKind.u64 0), (Go.Value.int Go.IntKind.i64 0), (Go.Value.int Go.IntKind.i64 0)])) fun c49 => S.bd (stl c49 0 6 x48) fun c50 => S.bd (lcl c50 1) fun x51 => S.bd (un .not x51) fun x52 => leapfrogref09x_Peer_answer.l4.p1 S x52 c50 xs36 s37 rec38) (some (0, [(xs36.getD 0 undef), (xs36.getD 1 undef), (xs36.getD 2 undef)], s37))

def leapfrogref09x_Peer_answer.t (S : Sig) (a0 a1 a2 a3 : Value) (s : St) : Option (Value × St) :=
  S.bd (bx a1) fun c1 => S.bd (bx a2) fun c2 => S.bd (bx a3) fun c3 => S.bd (S.it (leapfrogref09x_Peer_answer.l4 S) [a0, (Go.Value.slice Option.none 0 0), (Go.Value.slice Option.none 0 0), (Go.Value.int Go.IntKind.i64 0), (Value.agg ⟨c1⟩), (Value.agg ⟨c2⟩), (Value.agg ⟨c3⟩)] s) fun r71 => S.bd (nck (r71.2.1.getD 0 undef)) fun x72 => S.bd (fld 10 x72) fun x73 => S.bd (stv r71.2.2 1 x73 (r71.2.1.getD 1 undef)) fun s74 => some ((r71.2.1.getD 2 undef), s74)
def leapfrogref09x_Peer_answer.v (a0 a1 a2 a3 : Value) (s : St) : Option (Value × St) := leapfrogref09x_Peer_answer.t std a0 a1 a2 a3 s
def leapfrogref09x_Peer_answer.w : List Value → St → Option (Value × St)
  | [a0, a1, a2, a3], s => leapfrogref09x_Peer_answer.v a0 a1 a2 a3 s
  | _, _ => none
def leapfrogref09x_Peer_answer.an : An := ⟨60, false, [5, 6, 7, 12], [(4, ⟨[.v 0, .p 5 5 0, .p 6 6 0, .p 7 7 0, .v 9, .v 10, .v 11, .l 5, .l 6, .l 7], [(.exit 0, [.v 0, .v 9, .v 10])]⟩)], [], []⟩
theorem leapfrogref09x_Peer_answer.ok (S : Sig) (a0 a1 a2 a3 : Value) (s : St) : evF S Try.prog leapfrogref09x_Peer_answer.ctx leapfrogref09x_Peer_answer.an Try.f78 [a0, a1, a2, a3] s = leapfrogref09x_Peer_answer.t S a0 a1 a2 a3 s := by kernel_rfl
theorem leapfrogref09x_Peer_answer.cok : CtxOk Try.prog leapfrogref09x_Peer_answer.ctx := .nil
theorem leapfrogref09x_Peer_answer.draws : fnDraws leapfrogref09x_Peer_answer.an Try.f78 = true := by kernel_rfl
theorem leapfrogref09x_Peer_answer.can : callOk Try.prog 78 = true := by kernel_rfl
theorem leapfrogref09x_Peer_answer.sound : FnOk Try.prog 78 (.st leapfrogref09x_Peer_answer.w) := FnOk.st_of (evF_ok leapfrogref09x_Peer_answer.cok mixed (f := 78) (fn := Try.f78) (by kernel_rfl) leapfrogref09x_Peer_answer.draws) fun args s r h => by
  unfold leapfrogref09x_Peer_answer.w at h; split at h
  · rw [leapfrogref09x_Peer_answer.ok std]; exact h
  · simp at h

/-! ### (*leapfrog/leapfrogref09.Peer).free: function 45 -/
def leapfrogref09x_Peer_free.ctx : Ctx := [(40, .rd leapfrogref09x_Peer_rec.w), (74, .rd leapfrogref09x_no.w), (41, .st leapfrogref09x_told.w), (76, .st leapfrogref07x_Lock_Free.w), (75, .st leapfrogref09x_Peer_set.w), (77, .rd leapfrogref09x_ok.w), (43, .rd leapfrogref09x_Peer_of.w), (78, .st leapfrogref09x_Peer_answer.w)]
def leapfrogref09x_Peer_free.t (S : Sig) (a0 a1 a2 : Value) (s : St) : Option (Value × St) :=
  S.bd (bx a2) fun c1 => S.bd (lal c1 1 2) fun x2 => S.bd (leapfrogref09x_Peer_rec.r a0 x2 s) fun x3 => S.bd (xtr 0 x3) fun x4 => S.bd (xtr 1 x3) fun x5 => S.bd (alv s (Go.Value.agg #[(Go.Value.int Go.IntKind.i64 0), (Go.Value.int Go.IntKind.u64 0), (Go.Value.int Go.IntKind.i64 0), (Go.Value.int Go.IntKind.i64 0), (Go.Value.int Go.IntKind.u64 0), (Go.Value.int Go.IntKind.i64 0), (Go.Value.int Go.IntKind.u64 0), (Go.Value.int Go.IntKind.i64 0), (Go.Value.int Go.IntKind.i64 0), (Go.Value.int Go.IntKind.u64 0), (Go.Value.int Go.IntKind.i64 0), (Go.Value.int Go.IntKind.u64 0), (Go.Value.bool Bool.false), (Go.Value.int Go.IntKind.i64 0), (Go.Value.int Go.IntKind.i64 0), (Go.Value.slice Option.none 0 0)])) fun r6 => S.bd (stv r6.2 16 r6.1 x4) fun s7 => S.bd (un .not x5) fun x8 => S.cnd x8 (S.bd (leapfrogref09x_no.r  s7) fun x9 => S.bd (leapfrogref09x_told.v a1 x9 s7) fun r10 => some (r10.1, r10.2)) (S.bd (fld 12 r6.1) fun x11 => S.bd (lal c1 13 2) fun x12 => S.bd (leapfrogref07x_Lock_Free.v x11 x12 s7) fun r13 => S.bd (xtr 0 r13.1) fun x14 => S.bd (xtr 1 r13.1) fun x15 => S.bd (xtr 2 r13.1) fun x16 => S.bd (bx (Go.Value.agg #[(Go.Value.int Go.IntKind.i64 0), (Go.Value.int Go.IntKind.i64 0)])) fun c17 => S.bd (stl c17 0 2 x14) fun c18 => S.bd (eqb [1] false true x16 (Go.Value.int Go.IntKind.i64 0)) fun x19 => S.cnd x19 (S.bd (leapfrogref09x_no.r  r13.2) fun x20 => S.bd (leapfrogref09x_told.v a1 x20 r13.2) fun r21 => some (r21.1, r21.2)) (S.bd (lda r13.2 16 r6.1) fun x22 => S.bd (leapfrogref09x_Peer_set.v a0 x22 r13.2) fun r23 => S.bd (leapfrogref09x_ok.r  r23.2) fun x24 => S.bd (leapfrogref09x_told.v a1 x24 r23.2) fun r25 => S.cnd x15 (S.bd (lal c1 1 2) fun x26 => S.bd (lal c18 0 2) fun x27 => S.bd (lda r25.2 16 r6.1) fun x28 => S.bd (leapfrogref09x_Peer_of.r a0 x28 r25.2) fun x29 => S.bd (leapfrogref09x_Peer_answer.v a0 x26 x27 x29 r25.2) fun r30 => S.bd (app r30.2 14 128 r25.1 r30.1) fun r31 => some (r31.1, r31.2)) (some (r25.1, r25.2))))
def leapfrogref09x_Peer_free.v (a0 a1 a2 : Value) (s : St) : Option (Value × St) := leapfrogref09x_Peer_free.t std a0 a1 a2 s
def leapfrogref09x_Peer_free.w : List Value → St → Option (Value × St)
  | [a0, a1, a2], s => leapfrogref09x_Peer_free.v a0 a1 a2 s
  | _, _ => none
def leapfrogref09x_Peer_free.an : An := ⟨56, false, [5, 9], [], [], [(10, [(0, 0, [], []), (1, 0, [], []), (2, 0, [], []), (3, 41, [], []), (4, 73, [], []), (5, 0, [], []), (6, 2, [], []), (7, 3, [], []), (8, 4, [], []), (9, 4, [], []), (10, 0, [], [])])]⟩
theorem leapfrogref09x_Peer_free.ok (S : Sig) (a0 a1 a2 : Value) (s : St) : evF S Try.prog leapfrogref09x_Peer_free.ctx leapfrogref09x_Peer_free.an Try.f45 [a0, a1, a2] s = leapfrogref09x_Peer_free.t S a0 a1 a2 s := by kernel_rfl
theorem leapfrogref09x_Peer_free.cok : CtxOk Try.prog leapfrogref09x_Peer_free.ctx := .cons leapfrogref09x_Peer_rec.sound leapfrogref09x_Peer_rec.can <| .cons leapfrogref09x_no.sound leapfrogref09x_no.can <| .cons leapfrogref09x_told.sound leapfrogref09x_told.can <| .cons leapfrogref07x_Lock_Free.sound leapfrogref07x_Lock_Free.can <| .cons leapfrogref09x_Peer_set.sound leapfrogref09x_Peer_set.can <| .cons leapfrogref09x_ok.sound leapfrogref09x_ok.can <| .cons leapfrogref09x_Peer_of.sound leapfrogref09x_Peer_of.can <| .cons leapfrogref09x_Peer_answer.sound leapfrogref09x_Peer_answer.can <| .nil
theorem leapfrogref09x_Peer_free.draws : fnDraws leapfrogref09x_Peer_free.an Try.f45 = true := by kernel_rfl
theorem leapfrogref09x_Peer_free.can : callOk Try.prog 45 = true := by kernel_rfl
theorem leapfrogref09x_Peer_free.sound : FnOk Try.prog 45 (.st leapfrogref09x_Peer_free.w) := FnOk.st_of (evF_ok leapfrogref09x_Peer_free.cok mixed (f := 45) (fn := Try.f45) (by kernel_rfl) leapfrogref09x_Peer_free.draws) fun args s r h => by
  unfold leapfrogref09x_Peer_free.w at h; split at h
  · rw [leapfrogref09x_Peer_free.ok std]; exact h
  · simp at h

/-! ### (*leapfrog/leapfrogref09.Peer).beside: function 46 -/
def leapfrogref09x_Peer_beside.ctx : Ctx := [(40, .rd leapfrogref09x_Peer_rec.w), (42, .rd leapfrogref09x_gone.w), (12, .rd leapfrogref09x_Less.w), (74, .rd leapfrogref09x_no.w), (75, .st leapfrogref09x_Peer_set.w), (77, .rd leapfrogref09x_ok.w)]
def leapfrogref09x_Peer_beside.t.p1 (S : Sig) (x9 : Value) (x6 : Value) (s : St) (c2 : List Value) (c1 : List Value) (a0 : Value) (c8 : List Value) : Option (Value × St) :=
  S.bd (eqb [1] false false x9 (Go.Value.int Go.IntKind.i64 6)) fun x10 => S.cnd x10 (S.bd (un .not x6) fun x11 => S.cnd x11 (S.bd (leapfrogref09x_gone.r  s) fun x12 => S.bd (stl c2 0 13 x12) fun c13 => S.bd (lal c13 0 13) fun x14 => some (x14, s)) (S.bd (lal c1 4 2) fun x15 => S.bd (nck a0) fun x16 => S.bd (fld 0 x16) fun x17 => S.bd (fld 1 x17) fun x18 => S.bd (lda s 2 x18) fun x19 => S.bd (leapfrogref09x_Less.r x15 x19 s) fun x20 => S.bd (un .not x20) fun x21 => S.cnd x21 (S.bd (leapfrogref09x_no.r  s) fun x22 => S.bd (stl c2 0 13 x22) fun c23 => S.bd (lal c23 0 13) fun x24 => some (x24, s)) (S.bd (lal c1 3 5) fun x25 => S.bd (stl c8 2 5 x25) fun c26 => S.bd (lal c26 0 16) fun x27 => S.bd (leapfrogref09x_Peer_set.v a0 x27 s) fun r28 => S.bd (leapfrogref09x_ok.r  r28.2) fun x29 => S.bd (stl c2 0 13 x29) fun c30 => S.bd (lal c30 0 13) fun x31 => some (x31, r28.2)))) (S.bd (un .not x6) fun x32 => S.bd (S.gd x32 false (lcl c8 12)) fun x33 => S.bd (S.gd x32 false (un .not x33)) fun x34 => S.bd (pik x32 (Go.Value.bool Bool.true) x34) fun x35 => S.bd (S.gd x35 false (lal c8 13 2)) fun x36 => S.bd (S.gd x35 false (lal c1 13 2)) fun x37 => S.bd (S.gd x35 false (eqb [1, 1] true true x36 x37)) fun x38 => S.bd (pik x35 (Go.Value.bool Bool.true) x38) fun x39 => S.bd (S.gd x39 false (some a0)) fun x40 => S.bd (S.gd x39 false (nck x40)) fun x41 => S.bd (S.gd x39 false (fld 0 x41)) fun x42 => S.bd (S.gd x39 false (fld 1 x42)) fun x43 => S.bd (S.gd x39 false (lda s 2 x43)) fun x44 => S.bd (S.gd x39 false (lal c1 4 2)) fun x45 => S.bd (S.gd x39 false (leapfrogref09x_Less.r x44 x45 s)) fun x46 => S.bd (S.gd x39 false (un .not x46)) fun x47 => S.bd (pik x39 (Go.Value.bool Bool.true) x47) fun x48 => S.cnd x48 (S.bd (leapfrogref09x_no.r  s) fun x49 => S.bd (stl c2 0 13 x49) fun c50 => S.bd (lal c50 0 13) fun x51 => some (x51, s)) (S.bd (lal c1 3 5) fun x52 => S.bd (stl c8 7 5 x52) fun c53 => S.bd (lal c53 0 16) fun x54 => S.bd (leapfrogref09x_Peer_set.v a0 x54 s) fun r55 => S.bd (leapfrogref09x_ok.r  r55.2) fun x56 => S.bd (stl c2 0 13 x56) fun c57 => S.bd (lal c57 0 13) fun x58 => some (x58, r55.2)))

def leapfrogref09x_Peer_beside.t (S : Sig) (a0 a1 : Value) (s : St) : Option (Value × St) :=
  S.bd (bx a1) fun c1 => S.bd (bx (Go.Value.agg #[(Go.Value.int Go.IntKind.i64 0), (Go.Value.bool Bool.false), (Go.Value.int Go.IntKind.i64 0), (Go.Value.int Go.IntKind.i64 0), (Go.Value.int Go.IntKind.u64 0), (Go.Value.int Go.IntKind.i64 0), (Go.Value.int Go.IntKind.u64 0), (Go.Value.int Go.IntKind.i64 0), (Go.Value.int Go.IntKind.i64 0), (Go.Value.int Go.IntKind.u64 0), (Go.Value.int Go.IntKind.i64 0), (Go.Value.int Go.IntKind.u64 0), (Go.Value.slice Option.none 0 0)])) fun c2 => S.bd (lal c1 1 2) fun x3 => S.bd (leapfrogref09x_Peer_rec.r a0 x3 s) fun x4 => S.bd (xtr 0 x4) fun x5 => S.bd (xtr 1 x4) fun x6 => S.bd (bx (Go.Value.agg #[(Go.Value.int Go.IntKind.i64 0), (Go.Value.int Go.IntKind.u64 0), (Go.Value.int Go.IntKind.i64 0), (Go.Value.int Go.IntKind.i64 0), (Go.Value.int Go.IntKind.u64 0), (Go.Value.int Go.IntKind.i64 0), (Go.Value.int Go.IntKind.u64 0), (Go.Value.int Go.IntKind.i64 0), (Go.Value.int Go.IntKind.i64 0), (Go.Value.int Go.IntKind.u64 0), (Go.Value.int Go.IntKind.i64 0), (Go.Value.int Go.IntKind.u64 0), (Go.Value.bool Bool.false), (Go.Value.int Go.IntKind.i64 0), (Go.Value.int Go.IntKind.i64 0), (Go.Value.slice Option.none 0 0)])) fun c7 => S.bd (stl c7 0 16 x5) fun c8 => S.bd (lcl c1 0) fun x9 => leapfrogref09x_Peer_beside.t.p1 S x9 x6 s c2 c1 a0 c8
def leapfrogref09x_Peer_beside.v (a0 a1 : Value) (s : St) : Option (Value × St) := leapfrogref09x_Peer_beside.t std a0 a1 s
def leapfrogref09x_Peer_beside.w : List Value → St → Option (Value × St)
  | [a0, a1], s => leapfrogref09x_Peer_beside.v a0 a1 s
  | _, _ => none
def leapfrogref09x_Peer_beside.an : An := ⟨74, false, [3, 4, 5], [], [], [(5, [(0, 0, [], []), (1, 0, [], []), (2, 25, [], []), (3, 0, [], []), (4, 0, [], []), (5, 0, [], []), (6, 0, [], []), (7, 2, [], []), (8, 3, [], []), (9, 0, [], [])]), (10, [(0, 0, [], []), (1, 0, [], []), (2, 0, [], []), (3, 0, [], []), (4, 0, [], []), (5, 41, [], []), (6, 0, [], []), (7, 0, [], []), (8, 0, [], []), (9, 0, [], []), (10, 0, [], []), (11, 41, [], []), (12, 0, [], []), (13, 25, [], []), (14, 0, [], []), (15, 0, [], []), (16, 0, [], []), (17, 0, [], []), (18, 0, [], []), (19, 0, [], []), (20, 0, [], []), (21, 2, [], []), (22, 0, [], []), (23, 0, [], []), (24, 25, [], []), (25, 3, [], []), (26, 0, [], []), (27, 0, [], [])])]⟩
theorem leapfrogref09x_Peer_beside.ok (S : Sig) (a0 a1 : Value) (s : St) : evF S Try.prog leapfrogref09x_Peer_beside.ctx leapfrogref09x_Peer_beside.an Try.f46 [a0, a1] s = leapfrogref09x_Peer_beside.t S a0 a1 s := by kernel_rfl
theorem leapfrogref09x_Peer_beside.cok : CtxOk Try.prog leapfrogref09x_Peer_beside.ctx := .cons leapfrogref09x_Peer_rec.sound leapfrogref09x_Peer_rec.can <| .cons leapfrogref09x_gone.sound leapfrogref09x_gone.can <| .cons leapfrogref09x_Less.sound leapfrogref09x_Less.can <| .cons leapfrogref09x_no.sound leapfrogref09x_no.can <| .cons leapfrogref09x_Peer_set.sound leapfrogref09x_Peer_set.can <| .cons leapfrogref09x_ok.sound leapfrogref09x_ok.can <| .nil
theorem leapfrogref09x_Peer_beside.draws : fnDraws leapfrogref09x_Peer_beside.an Try.f46 = true := by kernel_rfl
theorem leapfrogref09x_Peer_beside.can : callOk Try.prog 46 = true := by kernel_rfl
theorem leapfrogref09x_Peer_beside.sound : FnOk Try.prog 46 (.st leapfrogref09x_Peer_beside.w) := FnOk.st_of (evF_ok leapfrogref09x_Peer_beside.cok mixed (f := 46) (fn := Try.f46) (by kernel_rfl) leapfrogref09x_Peer_beside.draws) fun args s r h => by
  unfold leapfrogref09x_Peer_beside.w at h; split at h
  · rw [leapfrogref09x_Peer_beside.ok std]; exact h
  · simp at h

/-! ### (*leapfrog/leapfrogref09.Peer).enter: function 47 -/
def leapfrogref09x_Peer_enter.ctx : Ctx := [(40, .rd leapfrogref09x_Peer_rec.w), (71, .rd leapfrogref09x_Peer_list.w), (12, .rd leapfrogref09x_Less.w), (74, .rd leapfrogref09x_no.w), (73, .st leapfrogref07x_Lock_Ask.w), (75, .st leapfrogref09x_Peer_set.w), (77, .rd leapfrogref09x_ok.w)]
def leapfrogref09x_Peer_enter.t.p1 (S : Sig) (c1 : List Value) (s : St) (c2 : List Value) (a0 : Value) : Option (Value × St) :=
  S.bd (lal c1 1 2) fun x40 => S.bd (lal c1 3 5) fun x41 => S.bd (lal c1 8 5) fun x42 => S.bd (bld [(Go.Value.int Go.IntKind.i64 0), (Go.Value.int Go.IntKind.u64 0), (Go.Value.int Go.IntKind.i64 0), (Go.Value.int Go.IntKind.i64 0), (Go.Value.int Go.IntKind.u64 0), (Go.Value.int Go.IntKind.i64 0), (Go.Value.int Go.IntKind.u64 0), (Go.Value.int Go.IntKind.i64 0), (Go.Value.int Go.IntKind.i64 0), (Go.Value.int Go.IntKind.u64 0), (Go.Value.int Go.IntKind.i64 0), (Go.Value.int Go.IntKind.u64 0), (Go.Value.bool Bool.false), (Go.Value.int Go.IntKind.i64 0), (Go.Value.int Go.IntKind.i64 0), (Go.Value.slice Option.none 0 0)] [(0, 2, x40), (2, 5, x41), (7, 5, x42)]) fun x43 => S.bd (alv s (Go.Value.agg #[(Go.Value.int Go.IntKind.i64 0), (Go.Value.int Go.IntKind.u64 0), (Go.Value.int Go.IntKind.i64 0), (Go.Value.int Go.IntKind.i64 0), (Go.Value.int Go.IntKind.u64 0), (Go.Value.int Go.IntKind.i64 0), (Go.Value.int Go.IntKind.u64 0), (Go.Value.int Go.IntKind.i64 0), (Go.Value.int Go.IntKind.i64 0), (Go.Value.int Go.IntKind.u64 0), (Go.Value.int Go.IntKind.i64 0), (Go.Value.int Go.IntKind.u64 0), (Go.Value.bool Bool.false), (Go.Value.int Go.IntKind.i64 0), (Go.Value.int Go.IntKind.i64 0), (Go.Value.slice Option.none 0 0)])) fun r44 => S.bd (stv r44.2 16 r44.1 x43) fun s45 => S.bd (fld 12 r44.1) fun x46 => S.bd (lal c1 13 2) fun x47 => S.bd (leapfrogref07x_Lock_Ask.v x46 x47 s45) fun r48 => S.bd (xtr 0 r48.1) fun x49 => S.bd (xtr 1 r48.1) fun x50 => S.bd (eqb [1] false true x50 (Go.Value.int Go.IntKind.i64 0)) fun x51 => S.cnd x51 (S.bd (leapfrogref09x_no.r  r48.2) fun x52 => S.bd (stl c2 0 13 x52) fun c53 => S.bd (lal c53 0 13) fun x54 => some (x54, r48.2)) (S.bd (lda r48.2 16 r44.1) fun x55 => S.bd (leapfrogref09x_Peer_set.v a0 x55 r48.2) fun r56 => S.bd (leapfrogref09x_ok.r  r56.2) fun x57 => S.bd (stl c2 0 13 x57) fun c58 => S.bd (lal c58 0 13) fun x59 => some (x59, r56.2))

def leapfrogref09x_Peer_enter.t (S : Sig) (a0 a1 : Value) (s : St) : Option (Value × St) :=
  S.bd (bx a1) fun c1 => S.bd (bx (Go.Value.agg #[(Go.Value.int Go.IntKind.i64 0), (Go.Value.bool Bool.false), (Go.Value.int Go.IntKind.i64 0), (Go.Value.int Go.IntKind.i64 0), (Go.Value.int Go.IntKind.u64 0), (Go.Value.int Go.IntKind.i64 0), (Go.Value.int Go.IntKind.u64 0), (Go.Value.int Go.IntKind.i64 0), (Go.Value.int Go.IntKind.i64 0), (Go.Value.int Go.IntKind.u64 0), (Go.Value.int Go.IntKind.i64 0), (Go.Value.int Go.IntKind.u64 0), (Go.Value.slice Option.none 0 0)])) fun c2 => S.bd (lal c1 1 2) fun x3 => S.bd (leapfrogref09x_Peer_rec.r a0 x3 s) fun x4 => S.bd (xtr 0 x4) fun x5 => S.bd (xtr 1 x4) fun x6 => S.bd (bx (Go.Value.agg #[(Go.Value.int Go.IntKind.i64 0), (Go.Value.int Go.IntKind.u64 0), (Go.Value.int Go.IntKind.i64 0), (Go.Value.int Go.IntKind.i64 0), (Go.Value.int Go.IntKind.u64 0), (Go.Value.int Go.IntKind.i64 0), (Go.Value.int Go.IntKind.u64 0), (Go.Value.int Go.IntKind.i64 0), (Go.Value.int Go.IntKind.i64 0), (Go.Value.int Go.IntKind.u64 0), (Go.Value.int Go.IntKind.i64 0), (Go.Value.int Go.IntKind.u64 0), (Go.Value.bool Bool.false), (Go.Value.int Go.IntKind.i64 0), (Go.Value.int Go.IntKind.i64 0), (Go.Value.slice Option.none 0 0)])) fun c7 => S.bd (stl c7 0 16 x5) fun c8 => S.bd (S.gd x6 false (some a0)) fun x9 => S.bd (S.gd x6 false (nck x9)) fun x10 => S.bd (S.gd x6 false (fld 6 x10)) fun x11 => S.bd (S.gd x6 false (ldc s x11)) fun x12 => S.bd (pik x6 (Go.Value.bool Bool.true) x12) fun x13 => S.bd (S.gd x13 false (some a0)) fun x14 => S.bd (S.gd x13 false (lal c1 1 2)) fun x15 => S.bd (S.gd x13 false (leapfrogref09x_Peer_list.r x14 x15 s)) fun x16 => S.bd (S.gd x13 false (un .not x16)) fun x17 => S.bd (pik x13 (Go.Value.bool Bool.true) x17) fun x18 => S.bd (S.gd x18 false (lal c1 4 2)) fun x19 => S.bd (S.gd x18 false (some a0)) fun x20 => S.bd (S.gd x18 false (nck x20)) fun x21 => S.bd (S.gd x18 false (fld 0 x21)) fun x22 => S.bd (S.gd x18 false (fld 1 x22)) fun x23 => S.bd (S.gd x18 false (lda s 2 x23)) fun x24 => S.bd (S.gd x18 false (leapfrogref09x_Less.r x19 x24 s)) fun x25 => S.bd (S.gd x18 false (un .not x25)) fun x26 => S.bd (pik x18 (Go.Value.bool Bool.true) x26) fun x27 => S.bd (S.gd x27 false (some a0)) fun x28 => S.bd (S.gd x27 false (nck x28)) fun x29 => S.bd (S.gd x27 false (fld 0 x29)) fun x30 => S.bd (S.gd x27 false (fld 1 x30)) fun x31 => S.bd (S.gd x27 false (lda s 2 x31)) fun x32 => S.bd (S.gd x27 false (lal c1 9 2)) fun x33 => S.bd (S.gd x27 false (leapfrogref09x_Less.r x32 x33 s)) fun x34 => S.bd (S.gd x27 false (un .not x34)) fun x35 => S.bd (pik x27 (Go.Value.bool Bool.true) x35) fun x36 => S.cnd x36 (S.bd (leapfrogref09x_no.r  s) fun x37 => S.bd (stl c2 0 13 x37) fun c38 => S.bd (lal c38 0 13) fun x39 => some (x39, s)) (leapfrogref09x_Peer_enter.t.p1 S c1 s c2 a0)
def leapfrogref09x_Peer_enter.v (a0 a1 : Value) (s : St) : Option (Value × St) := leapfrogref09x_Peer_enter.t std a0 a1 s
def leapfrogref09x_Peer_enter.w : List Value → St → Option (Value × St)
  | [a0, a1], s => leapfrogref09x_Peer_enter.v a0 a1 s
  | _, _ => none
def leapfrogref09x_Peer_enter.an : An := ⟨77, false, [3, 4, 5], [], [], [(2, [(0, 0, [], []), (1, 0, [], []), (2, 0, [], []), (3, 0, [], []), (4, 0, [], []), (5, 2, [], []), (6, 0, [], []), (7, 0, [], []), (8, 0, [], []), (9, 0, [], []), (10, 25, [], []), (11, 3, [], []), (12, 0, [], []), (13, 0, [], []), (14, 0, [], []), (15, 0, [], []), (16, 0, [], []), (17, 25, [], []), (18, 0, [], []), (19, 0, [], []), (20, 0, [], []), (21, 0, [], []), (22, 2, [], []), (23, 3, [], []), (24, 0, [], []), (25, 0, [], []), (26, 0, [], []), (27, 0, [], []), (28, 0, [], []), (29, 0, [], []), (30, 0, [], []), (31, 2, [], []), (32, 0, [], []), (33, 0, [], []), (34, 25, [], []), (35, 3, [], []), (36, 0, [], []), (37, 0, [], [])])]⟩
theorem leapfrogref09x_Peer_enter.ok (S : Sig) (a0 a1 : Value) (s : St) : evF S Try.prog leapfrogref09x_Peer_enter.ctx leapfrogref09x_Peer_enter.an Try.f47 [a0, a1] s = leapfrogref09x_Peer_enter.t S a0 a1 s := by kernel_rfl
theorem leapfrogref09x_Peer_enter.cok : CtxOk Try.prog leapfrogref09x_Peer_enter.ctx := .cons leapfrogref09x_Peer_rec.sound leapfrogref09x_Peer_rec.can <| .cons leapfrogref09x_Peer_list.sound leapfrogref09x_Peer_list.can <| .cons leapfrogref09x_Less.sound leapfrogref09x_Less.can <| .cons leapfrogref09x_no.sound leapfrogref09x_no.can <| .cons leapfrogref07x_Lock_Ask.sound leapfrogref07x_Lock_Ask.can <| .cons leapfrogref09x_Peer_set.sound leapfrogref09x_Peer_set.can <| .cons leapfrogref09x_ok.sound leapfrogref09x_ok.can <| .nil
theorem leapfrogref09x_Peer_enter.draws : fnDraws leapfrogref09x_Peer_enter.an Try.f47 = true := by kernel_rfl
theorem leapfrogref09x_Peer_enter.can : callOk Try.prog 47 = true := by kernel_rfl
theorem leapfrogref09x_Peer_enter.sound : FnOk Try.prog 47 (.st leapfrogref09x_Peer_enter.w) := FnOk.st_of (evF_ok leapfrogref09x_Peer_enter.cok mixed (f := 47) (fn := Try.f47) (by kernel_rfl) leapfrogref09x_Peer_enter.draws) fun args s r h => by
  unfold leapfrogref09x_Peer_enter.w at h; split at h
  · rw [leapfrogref09x_Peer_enter.ok std]; exact h
  · simp at h

/-! ### (*leapfrog/leapfrogref09.Peer).unset: function 79 -/
def leapfrogref09x_Peer_unset.ctx : Ctx := []
def leapfrogref09x_Peer_unset.l3 (S : Sig) (rec26 : List Value → St → Option Cut) (xs24 : List Value) (s25 : St) : Option Cut :=
  S.bd (nck (xs24.getD 0 undef)) fun x27 => S.bd (fld 9 x27) fun x28 => S.bd (ldc s25 x28) fun x29 => S.bd (lenL x29) fun x30 => S.bd (bin .lss (xs24.getD 2 undef) x30) fun x31 => S.cnd x31 (S.bd (nck (xs24.getD 0 undef)) fun x32 => S.bd (fld 9 x32) fun x33 => S.bd (ldc s25 x33) fun x34 => S.bd (idx s25 16 x34 (xs24.getD 2 undef)) fun x35 => S.bd (fld 0 x35) fun x36 => S.bd (lda s25 2 x36) fun x37 => S.bd (lal (cellsA (xs24.getD 3 undef)) 0 2) fun x38 => S.bd (eqb [1, 1] true true x37 x38) fun x39 => S.cnd x39 (S.bd (nck (xs24.getD 0 undef)) fun x40 => S.bd (fld 9 x40) fun x41 => S.bd (ldc s25 x41) fun x42 => S.bd (idx s25 16 x42 (xs24.getD 2 undef)) fun x43 => S.bd (lda s25 16 x43) fun x44 => S.bd (S.bd (bls 16 (List.replicate 1 [(Go.Value.int Go.IntKind.i64 0), (Go.Value.int Go.IntKind.u64 0), (Go.Value.int Go.IntKind.i64 0), (Go.Value.int Go.IntKind.i64 0), (Go.Value.int Go.IntKind.u64 0), (Go.Value.int Go.IntKind.i64 0), (Go.Value.int Go.IntKind.u64 0), (Go.Value.int Go.IntKind.i64 0), (Go.Value.int Go.IntKind.i64 0), (Go.Value.int Go.IntKind.u64 0), (Go.Value.int Go.IntKind.i64 0), (Go.Value.int Go.IntKind.u64 0), (Go.Value.bool Bool.false), (Go.Value.int Go.IntKind.i64 0), (Go.Value.int Go.IntKind.i64 0), (Go.Value.slice Option.none 0 0)]) [(0, x44)]) fun rows => als s25 16 1 rows) fun r45 => S.bd (app r45.2 16 144 (xs24.getD 1 undef) r45.1) fun r46 => S.bd (bin .add (xs24.getD 2 undef) (Go.Value.int Go.IntKind.i64 1)) fun x47 => rec26 [(xs24.getD 0 undef), r46.1, x47, (Value.agg ⟨(cellsA (xs24.getD 3 undef))⟩)] r46.2) (S.bd (bin .add (xs24.getD 2 undef) (Go.Value.int Go.IntKind.i64 1)) fun x48 => rec26 [(xs24.getD 0 undef), (xs24.getD 1 undef), x48, (Value.agg ⟨(cellsA (xs24.getD 3 undef))⟩)] s25)) (some (0, [(xs24.getD 0 undef), (xs24.getD 1 undef)], s25))

def leapfrogref09x_Peer_unset.t (S : Sig) (a0 a1 : Value) (s : St) : Option (Value × St) :=
  S.bd (bx a1) fun c1 => S.bd (S.it (leapfrogref09x_Peer_unset.l3 S) [a0, (Go.Value.slice Option.none 0 0), (Go.Value.int Go.IntKind.i64 0), (Value.agg ⟨c1⟩)] s) fun r49 => S.bd (nck (r49.2.1.getD 0 undef)) fun x50 => S.bd (fld 9 x50) fun x51 => S.bd (stv r49.2.2 1 x51 (r49.2.1.getD 1 undef)) fun s52 => some ((Value.tuple ⟨[]⟩), s52)
def leapfrogref09x_Peer_unset.v (a0 a1 : Value) (s : St) : Option (Value × St) := leapfrogref09x_Peer_unset.t std a0 a1 s
def leapfrogref09x_Peer_unset.w : List Value → St → Option (Value × St)
  | [a0, a1], s => leapfrogref09x_Peer_unset.v a0 a1 s
  | _, _ => none
def leapfrogref09x_Peer_unset.an : An := ⟨39, false, [3], [(3, ⟨[.v 0, .p 3 3 0, .v 4, .v 5, .l 3], [(.exit 0, [.v 0, .v 4])]⟩)], [], [(5, [(0, 0, [], []), (1, 0, [], []), (2, 0, [], []), (3, 2, [], []), (4, 0, [], []), (5, 2, [], []), (6, 0, [], []), (7, 2, [], []), (8, 25, [], []), (9, 0, [], [])])]⟩
theorem leapfrogref09x_Peer_unset.ok (S : Sig) (a0 a1 : Value) (s : St) : evF S Try.prog leapfrogref09x_Peer_unset.ctx leapfrogref09x_Peer_unset.an Try.f79 [a0, a1] s = leapfrogref09x_Peer_unset.t S a0 a1 s := by kernel_rfl
theorem leapfrogref09x_Peer_unset.cok : CtxOk Try.prog leapfrogref09x_Peer_unset.ctx := .nil
theorem leapfrogref09x_Peer_unset.draws : fnDraws leapfrogref09x_Peer_unset.an Try.f79 = true := by kernel_rfl
theorem leapfrogref09x_Peer_unset.can : callOk Try.prog 79 = true := by kernel_rfl
theorem leapfrogref09x_Peer_unset.sound : FnOk Try.prog 79 (.st leapfrogref09x_Peer_unset.w) := FnOk.st_of (evF_ok leapfrogref09x_Peer_unset.cok mixed (f := 79) (fn := Try.f79) (by kernel_rfl) leapfrogref09x_Peer_unset.draws) fun args s r h => by
  unfold leapfrogref09x_Peer_unset.w at h; split at h
  · rw [leapfrogref09x_Peer_unset.ok std]; exact h
  · simp at h

/-! ### (*leapfrog/leapfrogref09.Peer).out: function 48 -/
def leapfrogref09x_Peer_out.ctx : Ctx := [(40, .rd leapfrogref09x_Peer_rec.w), (74, .rd leapfrogref09x_no.w), (41, .st leapfrogref09x_told.w), (79, .st leapfrogref09x_Peer_unset.w), (77, .rd leapfrogref09x_ok.w), (42, .rd leapfrogref09x_gone.w), (78, .st leapfrogref09x_Peer_answer.w)]
def leapfrogref09x_Peer_out.l7 (S : Sig) (rec42 : List Value → St → Option Cut) (xs40 : List Value) (s41 : St) : Option Cut :=
  S.bd (lcl (cellsA (xs40.getD 4 undef)) 15) fun x43 => S.bd (lenL x43) fun x44 => S.bd (bin .lss (xs40.getD 2 undef) x44) fun x45 => S.cnd x45 (S.bd (lal (cellsA (xs40.getD 3 undef)) 1 2) fun x46 => S.bd (lcl (cellsA (xs40.getD 4 undef)) 15) fun x47 => S.bd (idx s41 2 x47 (xs40.getD 2 undef)) fun x48 => S.bd (lda s41 2 x48) fun x49 => S.bd (leapfrogref09x_gone.r  s41) fun x50 => S.bd (leapfrogref09x_Peer_answer.v (xs40.getD 0 undef) x46 x49 x50 s41) fun r51 => S.bd (idx r51.2 2 x47 (xs40.getD 2 undef)) fun x52 => S.cnd (Value.bool (sameV x52 x48)) (S.bd (app r51.2 14 128 (xs40.getD 1 undef) r51.1) fun r53 => S.bd (idx r53.2 2 x47 (xs40.getD 2 undef)) fun x54 => S.cnd (Value.bool (sameV x54 x48)) (S.bd (bin .add (xs40.getD 2 undef) (Go.Value.int Go.IntKind.i64 1)) fun x55 => rec42 [(xs40.getD 0 undef), r53.1, x55, (Value.agg ⟨(cellsA (xs40.getD 3 undef))⟩), (Value.agg ⟨(cellsA (xs40.getD 4 undef))⟩)] r53.2) (none)) (none)) (some (0, [(xs40.getD 1 undef)], s41))

def leapfrogref09x_Peer_out.t (S : Sig) (a0 a1 a2 : Value) (s : St) : Option (Value × St) :=
  S.bd (bx a2) fun c1 => S.bd (lal c1 1 2) fun x2 => S.bd (leapfrogref09x_Peer_rec.r a0 x2 s) fun x3 => S.bd (xtr 0 x3) fun x4 => S.bd (xtr 1 x3) fun x5 => S.bd (bx (Go.Value.agg #[(Go.Value.int Go.IntKind.i64 0), (Go.Value.int Go.IntKind.u64 0), (Go.Value.int Go.IntKind.i64 0), (Go.Value.int Go.IntKind.i64 0), (Go.Value.int Go.IntKind.u64 0), (Go.Value.int Go.IntKind.i64 0), (Go.Value.int Go.IntKind.u64 0), (Go.Value.int Go.IntKind.i64 0), (Go.Value.int Go.IntKind.i64 0), (Go.Value.int Go.IntKind.u64 0), (Go.Value.int Go.IntKind.i64 0), (Go.Value.int Go.IntKind.u64 0), (Go.Value.bool Bool.false), (Go.Value.int Go.IntKind.i64 0), (Go.Value.int Go.IntKind.i64 0), (Go.Value.slice Option.none 0 0)])) fun c6 => S.bd (stl c6 0 16 x4) fun c7 => S.bd (un .not x5) fun x8 => S.bd (S.gd x8 false (some a0)) fun x9 => S.bd (S.gd x8 false (nck x9)) fun x10 => S.bd (S.gd x8 false (fld 6 x10)) fun x11 => S.bd (S.gd x8 false (ldc s x11)) fun x12 => S.bd (pik x8 (Go.Value.bool Bool.true) x12) fun x13 => S.bd (S.gd x13 false (lcl c7 12)) fun x14 => S.bd (S.gd x13 false (un .not x14)) fun x15 => S.bd (pik x13 (Go.Value.bool Bool.true) x15) fun x16 => S.bd (S.gd x16 false (lal c7 13 2)) fun x17 => S.bd (S.gd x16 false (lal c1 13 2)) fun x18 => S.bd (S.gd x16 false (eqb [1, 1] true true x17 x18)) fun x19 => S.bd (pik x16 (Go.Value.bool Bool.true) x19) fun x20 => S.cnd x20 (S.bd (leapfrogref09x_no.r  s) fun x21 => S.bd (leapfrogref09x_told.v a1 x21 s) fun r22 => some (r22.1, r22.2)) (S.bd (lal c1 1 2) fun x23 => S.bd (leapfrogref09x_Peer_unset.v a0 x23 s) fun r24 => S.bd (leapfrogref09x_ok.r  r24.2) fun x25 => S.bd (leapfrogref09x_told.v a1 x25 r24.2) fun r26 => S.bd (S.it (leapfrogref09x_Peer_out.l7 S) [a0, r26.1, (Go.Value.int Go.IntKind.i64 0), (Value.agg ⟨c1⟩), (Value.agg ⟨c7⟩)] r26.2) fun r56 => some ((r56.2.1.getD 0 undef), r56.2.2))
def leapfrogref09x_Peer_out.v (a0 a1 a2 : Value) (s : St) : Option (Value × St) := leapfrogref09x_Peer_out.t std a0 a1 a2 s
def leapfrogref09x_Peer_out.w : List Value → St → Option (Value × St)
  | [a0, a1, a2], s => leapfrogref09x_Peer_out.v a0 a1 a2 s
  | _, _ => none
def leapfrogref09x_Peer_out.an : An := ⟨72, false, [5, 7], [(7, ⟨[.v 0, .p 5 5 0, .p 7 7 0, .v 9, .v 10, .l 5, .l 7], [(.exit 0, [.v 9])]⟩)], [], [(9, [(0, 0, [], []), (1, 0, [], []), (2, 0, [], []), (3, 41, [], []), (4, 0, [], []), (5, 0, [], []), (6, 57, [], []), (7, 0, [], []), (8, 2, [], []), (9, 2, [], []), (10, 3, [], []), (11, 4, [8], []), (12, 4, [8], []), (13, 0, [], [])])]⟩
theorem leapfrogref09x_Peer_out.ok (S : Sig) (a0 a1 a2 : Value) (s : St) : evF S Try.prog leapfrogref09x_Peer_out.ctx leapfrogref09x_Peer_out.an Try.f48 [a0, a1, a2] s = leapfrogref09x_Peer_out.t S a0 a1 a2 s := by kernel_rfl
theorem leapfrogref09x_Peer_out.cok : CtxOk Try.prog leapfrogref09x_Peer_out.ctx := .cons leapfrogref09x_Peer_rec.sound leapfrogref09x_Peer_rec.can <| .cons leapfrogref09x_no.sound leapfrogref09x_no.can <| .cons leapfrogref09x_told.sound leapfrogref09x_told.can <| .cons leapfrogref09x_Peer_unset.sound leapfrogref09x_Peer_unset.can <| .cons leapfrogref09x_ok.sound leapfrogref09x_ok.can <| .cons leapfrogref09x_gone.sound leapfrogref09x_gone.can <| .cons leapfrogref09x_Peer_answer.sound leapfrogref09x_Peer_answer.can <| .nil
theorem leapfrogref09x_Peer_out.draws : fnDraws leapfrogref09x_Peer_out.an Try.f48 = true := by kernel_rfl
theorem leapfrogref09x_Peer_out.can : callOk Try.prog 48 = true := by kernel_rfl
theorem leapfrogref09x_Peer_out.sound : FnOk Try.prog 48 (.st leapfrogref09x_Peer_out.w) := FnOk.st_of (evF_ok leapfrogref09x_Peer_out.cok mixed (f := 48) (fn := Try.f48) (by kernel_rfl) leapfrogref09x_Peer_out.draws) fun args s r h => by
  unfold leapfrogref09x_Peer_out.w at h; split at h
  · rw [leapfrogref09x_Peer_out.ok std]; exact h
  · simp at h

/-! ### (*leapfrog/leapfrogref09.Peer).marked: function 80 -/
def leapfrogref09x_Peer_marked.ctx : Ctx := [(74, .rd leapfrogref09x_no.w)]
def leapfrogref09x_Peer_marked.t (S : Sig) (a0 : Value) (s : St) : Option (Value × St) :=
  S.bd (bx (Go.Value.agg #[(Go.Value.int Go.IntKind.i64 0), (Go.Value.bool Bool.false), (Go.Value.int Go.IntKind.i64 0), (Go.Value.int Go.IntKind.i64 0), (Go.Value.int Go.IntKind.u64 0), (Go.Value.int Go.IntKind.i64 0), (Go.Value.int Go.IntKind.u64 0), (Go.Value.int Go.IntKind.i64 0), (Go.Value.int Go.IntKind.i64 0), (Go.Value.int Go.IntKind.u64 0), (Go.Value.int Go.IntKind.i64 0), (Go.Value.int Go.IntKind.u64 0), (Go.Value.slice Option.none 0 0)])) fun c1 => S.bd (nck a0) fun x2 => S.bd (fld 8 x2) fun x3 => S.bd (ldc s x3) fun x4 => S.cnd x4 (S.bd (leapfrogref09x_no.r  s) fun x5 => S.bd (stl c1 0 13 x5) fun c6 => S.bd (lal c6 0 13) fun x7 => some (x7, s)) (S.bd (nck a0) fun x8 => S.bd (fld 8 x8) fun x9 => S.bd (stv s 1 x9 (Go.Value.bool Bool.true)) fun s10 => S.bd (S.bd (bls 1 (List.replicate 0 [(Go.Value.int Go.IntKind.u8 0)]) []) fun rows => als s10 1 0 rows) fun r11 => S.bd (nck a0) fun x12 => S.bd (fld 5 x12) fun x13 => S.bd (ldc r11.2 x13) fun x14 => S.bd (app r11.2 1 1 r11.1 x14) fun r15 => S.bd (bld [(Go.Value.int Go.IntKind.i64 0), (Go.Value.bool Bool.false), (Go.Value.int Go.IntKind.i64 0), (Go.Value.int Go.IntKind.i64 0), (Go.Value.int Go.IntKind.u64 0), (Go.Value.int Go.IntKind.i64 0), (Go.Value.int Go.IntKind.u64 0), (Go.Value.int Go.IntKind.i64 0), (Go.Value.int Go.IntKind.i64 0), (Go.Value.int Go.IntKind.u64 0), (Go.Value.int Go.IntKind.i64 0), (Go.Value.int Go.IntKind.u64 0), (Go.Value.slice Option.none 0 0)] [(0, 1, (Go.Value.int Go.IntKind.i64 1)), (12, 1, r15.1)]) fun x16 => S.bd (stl c1 0 13 x16) fun c17 => S.bd (lal c17 0 13) fun x18 => some (x18, r15.2))
def leapfrogref09x_Peer_marked.v (a0 : Value) (s : St) : Option (Value × St) := leapfrogref09x_Peer_marked.t std a0 s
def leapfrogref09x_Peer_marked.w : List Value → St → Option (Value × St)
  | [a0], s => leapfrogref09x_Peer_marked.v a0 s
  | _, _ => none
def leapfrogref09x_Peer_marked.an : An := ⟨18, false, [2], [], [], []⟩
theorem leapfrogref09x_Peer_marked.ok (S : Sig) (a0 : Value) (s : St) : evF S Try.prog leapfrogref09x_Peer_marked.ctx leapfrogref09x_Peer_marked.an Try.f80 [a0] s = leapfrogref09x_Peer_marked.t S a0 s := by kernel_rfl
theorem leapfrogref09x_Peer_marked.cok : CtxOk Try.prog leapfrogref09x_Peer_marked.ctx := .cons leapfrogref09x_no.sound leapfrogref09x_no.can <| .nil
theorem leapfrogref09x_Peer_marked.draws : fnDraws leapfrogref09x_Peer_marked.an Try.f80 = true := by kernel_rfl
theorem leapfrogref09x_Peer_marked.can : callOk Try.prog 80 = true := by kernel_rfl
theorem leapfrogref09x_Peer_marked.sound : FnOk Try.prog 80 (.st leapfrogref09x_Peer_marked.w) := FnOk.st_of (evF_ok leapfrogref09x_Peer_marked.cok mixed (f := 80) (fn := Try.f80) (by kernel_rfl) leapfrogref09x_Peer_marked.draws) fun args s r h => by
  unfold leapfrogref09x_Peer_marked.w at h; split at h
  · rw [leapfrogref09x_Peer_marked.ok std]; exact h
  · simp at h


end
end Go.Proofs.Ytpjobebheebncaa
