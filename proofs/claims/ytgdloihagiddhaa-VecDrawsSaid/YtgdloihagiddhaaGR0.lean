/-
  What the functions answer that VecTexts, VecJoins, VecParted, VecDraws, VecBits, VecBack, VecOrder, VecCompares reaches (part 0): for each function of the program a plain function over abstract values, and that the model answers as it does.
-/
import Derived.Test.YtgdloihagiddhaaSimZ
import Derived.Test.YtgdloihagiddhaaProg
import Derived.KernelRfl
set_option linter.unusedVariables false
set_option maxRecDepth 100000
namespace Go.Proofs.Ytgdloihagiddhaa
open Go.Sim
noncomputable section
theorem mixed : Try.prog.follows .mixedOrders = true := by kernel_rfl
/-! ### leapfrog/leapfroglaw01.VecDraws$1: function 26 -/
def leapfroglaw01x_VecDraws_fn1.ctx : Ctx := []
def leapfroglaw01x_VecDraws_fn1.t (S : Sig) (a0 a1 a2 a3 a4 : Value) (s : St) : Option (Value × St) :=
  S.bd (bx a0) fun c1 => S.bd (ldc s a1) fun x2 => S.bd (S.gd x2 true (ldc s a2)) fun x3 => S.bd (S.gd x2 true (ldc s a3)) fun x4 => S.bd (S.gd x2 true (lenL x4)) fun x5 => S.bd (S.gd x2 true (bin .lss x3 x5)) fun x6 => S.bd (pik x2 x6 (Go.Value.bool Bool.false)) fun x7 => S.bd (S.gd x7 true (ldc s a3)) fun x8 => S.bd (S.gd x7 true (ldc s a2)) fun x9 => S.bd (S.gd x7 true (idx s 2 x8 x9)) fun x10 => S.bd (S.gd x7 true (lda s 2 x10)) fun x11 => S.bd (S.gd x7 true (lal c1 0 2)) fun x12 => S.bd (S.gd x7 true (eqb [1, 1] true false x11 x12)) fun x13 => S.bd (pik x7 x13 (Go.Value.bool Bool.false)) fun x14 => S.bd (stv s 1 a1 x14) fun s15 => S.bd (ldc s15 a2) fun x16 => S.bd (bin .add x16 (Go.Value.int Go.IntKind.i64 1)) fun x17 => S.bd (stv s15 1 a2 x17) fun s18 => S.bd (ldc s18 a1) fun x19 => S.bd (S.gd x19 true (ldc s18 a2)) fun x20 => S.bd (S.gd x19 true (ldc s18 a4)) fun x21 => S.bd (S.gd x19 true (bin .lss x20 x21)) fun x22 => S.bd (pik x19 x22 (Go.Value.bool Bool.false)) fun x23 => some (x23, s18)
def leapfroglaw01x_VecDraws_fn1.v (a0 a1 a2 a3 a4 : Value) (s : St) : Option (Value × St) := leapfroglaw01x_VecDraws_fn1.t std a0 a1 a2 a3 a4 s
def leapfroglaw01x_VecDraws_fn1.w : List Value → St → Option (Value × St)
  | [a0, a1, a2, a3, a4], s => leapfroglaw01x_VecDraws_fn1.v a0 a1 a2 a3 a4 s
  | _, _ => none
def leapfroglaw01x_VecDraws_fn1.an : An := ⟨30, false, [5], [], [], [(1, [(0, 2, [], []), (1, 0, [], []), (2, 2, [], []), (3, 2, [], []), (4, 2, [], []), (5, 0, [], []), (6, 0, [], []), (7, 0, [], []), (8, 2, [], []), (9, 2, [], []), (10, 2, [], []), (11, 2, [], []), (12, 41, [], []), (13, 0, [], []), (14, 0, [], []), (15, 4, [], [])])]⟩
theorem leapfroglaw01x_VecDraws_fn1.ok (S : Sig) (a0 a1 a2 a3 a4 : Value) (s : St) : evF S Try.prog leapfroglaw01x_VecDraws_fn1.ctx leapfroglaw01x_VecDraws_fn1.an Try.f26 [a0, a1, a2, a3, a4] s = leapfroglaw01x_VecDraws_fn1.t S a0 a1 a2 a3 a4 s := by kernel_rfl
theorem leapfroglaw01x_VecDraws_fn1.cok : CtxOk Try.prog leapfroglaw01x_VecDraws_fn1.ctx := .nil
theorem leapfroglaw01x_VecDraws_fn1.draws : fnDraws leapfroglaw01x_VecDraws_fn1.an Try.f26 = true := by kernel_rfl
theorem leapfroglaw01x_VecDraws_fn1.can : callOk Try.prog 26 = true := by kernel_rfl
theorem leapfroglaw01x_VecDraws_fn1.sound : FnOk Try.prog 26 (.st leapfroglaw01x_VecDraws_fn1.w) := FnOk.st_of (evF_ok leapfroglaw01x_VecDraws_fn1.cok mixed (f := 26) (fn := Try.f26) (by kernel_rfl) leapfroglaw01x_VecDraws_fn1.draws) fun args s r h => by
  unfold leapfroglaw01x_VecDraws_fn1.w at h; split at h
  · rw [leapfroglaw01x_VecDraws_fn1.ok std]; exact h
  · simp at h

/-! ### leapfrog/vec.low: function 51 -/
def vec_low.ctx : Ctx := []
def vec_low.t (S : Sig) (a0 : Value) (s : St) : Option Value :=
  S.bd (cvi .u64 a0) fun x1 => S.bd (bin .shl (Go.Value.int Go.IntKind.u64 1) x1) fun x2 => S.bd (bin .sub x2 (Go.Value.int Go.IntKind.u64 1)) fun x3 => some (x3)
def vec_low.r (a0 : Value) (s : St) : Option Value := vec_low.t std a0 s
def vec_low.w : List Value → St → Option Value
  | [a0], s => vec_low.r a0 s
  | _, _ => none
def vec_low.an : An := ⟨7, true, [], [], [], []⟩
theorem vec_low.ok (S : Sig) (a0 : Value) (s : St) : evG S Try.prog vec_low.ctx vec_low.an Try.f51 [a0] s = vec_low.t S a0 s := by kernel_rfl
theorem vec_low.cok : CtxOk Try.prog vec_low.ctx := .nil
theorem vec_low.draws : fnDraws vec_low.an Try.f51 = true := by kernel_rfl
theorem vec_low.can : callOk Try.prog 51 = true := by kernel_rfl
theorem vec_low.sound : FnOk Try.prog 51 (.rd vec_low.w) := FnOk.rd_of (evG_ok vec_low.cok mixed (f := 51) (fn := Try.f51) (by kernel_rfl) vec_low.draws) fun args s r h => by
  unfold vec_low.w at h; split at h
  · rw [vec_low.ok std]; exact h
  · simp at h

/-! ### leapfrog/vec.Right: function 35 -/
def vec_Right.ctx : Ctx := [(51, .rd vec_low.w)]
def vec_Right.t (S : Sig) (a0 : Value) (s : St) : Option Value :=
  S.bd (bx a0) fun c1 => S.bd (lcl c1 0) fun x2 => S.bd (bin .lss x2 (Go.Value.int Go.IntKind.i64 0)) fun x3 => S.bd (S.gd x3 false (lcl c1 0)) fun x4 => S.bd (S.gd x3 false (bin .gtr x4 (Go.Value.int Go.IntKind.i64 32))) fun x5 => S.bd (pik x3 (Go.Value.bool Bool.true) x5) fun x6 => S.bd (S.gd x6 false (lcl c1 1)) fun x7 => S.bd (S.gd x6 false (lcl c1 0)) fun x8 => S.bd (S.gd x6 false (vec_low.r x8 s)) fun x9 => S.bd (S.gd x6 false (bin .gtr x7 x9)) fun x10 => S.bd (pik x6 (Go.Value.bool Bool.true) x10) fun x11 => S.cnd x11 (some ((Go.Value.int Go.IntKind.i64 10))) (some ((Go.Value.int Go.IntKind.i64 0)))
def vec_Right.r (a0 : Value) (s : St) : Option Value := vec_Right.t std a0 s
def vec_Right.w : List Value → St → Option Value
  | [a0], s => vec_Right.r a0 s
  | _, _ => none
def vec_Right.an : An := ⟨19, true, [1], [], [], [(1, [(0, 0, [], []), (1, 9, [], []), (2, 0, [], []), (3, 0, [], []), (4, 0, [], []), (5, 9, [], []), (6, 0, [], []), (7, 0, [], []), (8, 0, [], []), (9, 0, [], []), (10, 9, [], []), (11, 0, [], []), (12, 9, [], []), (13, 3, [], []), (14, 0, [], []), (15, 0, [], [])])]⟩
theorem vec_Right.ok (S : Sig) (a0 : Value) (s : St) : evG S Try.prog vec_Right.ctx vec_Right.an Try.f35 [a0] s = vec_Right.t S a0 s := by kernel_rfl
theorem vec_Right.cok : CtxOk Try.prog vec_Right.ctx := .cons vec_low.sound vec_low.can <| .nil
theorem vec_Right.draws : fnDraws vec_Right.an Try.f35 = true := by kernel_rfl
theorem vec_Right.can : callOk Try.prog 35 = true := by kernel_rfl
theorem vec_Right.sound : FnOk Try.prog 35 (.rd vec_Right.w) := FnOk.rd_of (evG_ok vec_Right.cok mixed (f := 35) (fn := Try.f35) (by kernel_rfl) vec_Right.draws) fun args s r h => by
  unfold vec_Right.w at h; split at h
  · rw [vec_Right.ok std]; exact h
  · simp at h

/-! ### leapfrog/vec.prefix: function 47 -/
def vec_prefix.ctx : Ctx := []
def vec_prefix.t (S : Sig) (a0 a1 : Value) (s : St) : Option Value :=
  S.bd (bx a0) fun c1 => S.bd (bx (Go.Value.agg #[(Go.Value.int Go.IntKind.i64 0), (Go.Value.int Go.IntKind.u64 0)])) fun c2 => S.bd (lcl c1 1) fun x3 => S.bd (lcl c1 0) fun x4 => S.bd (bin .sub x4 a1) fun x5 => S.bd (cvi .u64 x5) fun x6 => S.bd (bin .shr x3 x6) fun x7 => S.bd (bld [(Go.Value.int Go.IntKind.i64 0), (Go.Value.int Go.IntKind.u64 0)] [(0, 1, a1), (1, 1, x7)]) fun x8 => S.bd (stl c2 0 2 x8) fun c9 => S.bd (lal c9 0 2) fun x10 => some (x10)
def vec_prefix.r (a0 a1 : Value) (s : St) : Option Value := vec_prefix.t std a0 a1 s
def vec_prefix.w : List Value → St → Option Value
  | [a0, a1], s => vec_prefix.r a0 a1 s
  | _, _ => none
def vec_prefix.an : An := ⟨15, true, [2, 4], [], [], []⟩
theorem vec_prefix.ok (S : Sig) (a0 a1 : Value) (s : St) : evG S Try.prog vec_prefix.ctx vec_prefix.an Try.f47 [a0, a1] s = vec_prefix.t S a0 a1 s := by kernel_rfl
theorem vec_prefix.cok : CtxOk Try.prog vec_prefix.ctx := .nil
theorem vec_prefix.draws : fnDraws vec_prefix.an Try.f47 = true := by kernel_rfl
theorem vec_prefix.can : callOk Try.prog 47 = true := by kernel_rfl
theorem vec_prefix.sound : FnOk Try.prog 47 (.rd vec_prefix.w) := FnOk.rd_of (evG_ok vec_prefix.cok mixed (f := 47) (fn := Try.f47) (by kernel_rfl) vec_prefix.draws) fun args s r h => by
  unfold vec_prefix.w at h; split at h
  · rw [vec_prefix.ok std]; exact h
  · simp at h

/-! ### leapfrog/vec.Prefixes$1: function 48 -/
def vec_Prefixes_fn1.ctx : Ctx := [(35, .rd vec_Right.w), (47, .rd vec_prefix.w), (26, .st leapfroglaw01x_VecDraws_fn1.w)]
def vec_Prefixes_fn1.l2 (S : Sig) (rec15 : List Value → St → Option Cut) (xs13 : List Value) (s14 : St) : Option Cut :=
  S.bd (bin .lss (xs13.getD 3 undef) (xs13.getD 2 undef)) fun x16 => S.cnd x16 (S.bd (lda s14 2 (xs13.getD 1 undef)) fun x17 => S.bd (vec_prefix.r x17 (xs13.getD 3 undef) s14) fun x18 => S.bd (callV (vec_Prefixes_fn1.ctx) (xs13.getD 0 undef) [x18] s14) fun r19 => S.bd (un .not r19.1) fun x20 => S.cnd x20 (some (1, [], r19.2)) (S.bd (bin .add (xs13.getD 3 undef) (Go.Value.int Go.IntKind.i64 1)) fun x21 => rec15 [(xs13.getD 0 undef), (xs13.getD 1 undef), (xs13.getD 2 undef), x21] r19.2)) (some (0, [], s14))

def vec_Prefixes_fn1.t (S : Sig) (a0 a1 : Value) (s : St) : Option (Value × St) :=
  S.bd (lda s 2 a1) fun x1 => S.bd (vec_Right.r x1 s) fun x2 => S.bd (eqb [1] false true x2 (Go.Value.int Go.IntKind.i64 0)) fun x3 => S.cnd x3 (some ((Value.tuple ⟨[]⟩), s)) (S.bd (fld 0 a1) fun x4 => S.bd (ldc s x4) fun x5 => S.bd (bin .add x5 (Go.Value.int Go.IntKind.i64 1)) fun x6 => S.bd (S.it (vec_Prefixes_fn1.l2 S) [a0, a1, x6, (Go.Value.int Go.IntKind.i64 0)] s) fun r22 => if r22.1 = 0 then (some ((Value.tuple ⟨[]⟩), r22.2.2)) else (some ((Value.tuple ⟨[]⟩), r22.2.2)))
def vec_Prefixes_fn1.v (a0 a1 : Value) (s : St) : Option (Value × St) := vec_Prefixes_fn1.t std a0 a1 s
def vec_Prefixes_fn1.w : List Value → St → Option (Value × St)
  | [a0, a1], s => vec_Prefixes_fn1.v a0 a1 s
  | _, _ => none
def vec_Prefixes_fn1.an : An := ⟨20, false, [], [(2, ⟨[.v 0, .v 1, .v 9, .v 10], [(.exit 0, []), (.ret, [])]⟩)], [], []⟩
theorem vec_Prefixes_fn1.ok (S : Sig) (a0 a1 : Value) (s : St) : evF S Try.prog vec_Prefixes_fn1.ctx vec_Prefixes_fn1.an Try.f48 [a0, a1] s = vec_Prefixes_fn1.t S a0 a1 s := by kernel_rfl
theorem vec_Prefixes_fn1.cok : CtxOk Try.prog vec_Prefixes_fn1.ctx := .cons vec_Right.sound vec_Right.can <| .cons vec_prefix.sound vec_prefix.can <| .cons leapfroglaw01x_VecDraws_fn1.sound leapfroglaw01x_VecDraws_fn1.can <| .nil
theorem vec_Prefixes_fn1.draws : fnDraws vec_Prefixes_fn1.an Try.f48 = true := by kernel_rfl
theorem vec_Prefixes_fn1.can : callOk Try.prog 48 = true := by kernel_rfl
theorem vec_Prefixes_fn1.sound : FnOk Try.prog 48 (.st vec_Prefixes_fn1.w) := FnOk.st_of (evF_ok vec_Prefixes_fn1.cok mixed (f := 48) (fn := Try.f48) (by kernel_rfl) vec_Prefixes_fn1.draws) fun args s r h => by
  unfold vec_Prefixes_fn1.w at h; split at h
  · rw [vec_Prefixes_fn1.ok std]; exact h
  · simp at h

/-! ### leapfrog/vec.bit: function 42 -/
def vec_bit.ctx : Ctx := []
def vec_bit.t (S : Sig) (a0 a1 : Value) (s : St) : Option Value :=
  S.bd (bx a0) fun c1 => S.bd (lcl c1 1) fun x2 => S.bd (lcl c1 0) fun x3 => S.bd (bin .sub x3 (Go.Value.int Go.IntKind.i64 1)) fun x4 => S.bd (bin .sub x4 a1) fun x5 => S.bd (cvi .u64 x5) fun x6 => S.bd (bin .shr x2 x6) fun x7 => S.bd (bin .and x7 (Go.Value.int Go.IntKind.u64 1)) fun x8 => S.bd (cvi .i64 x8) fun x9 => some (x9)
def vec_bit.r (a0 a1 : Value) (s : St) : Option Value := vec_bit.t std a0 a1 s
def vec_bit.w : List Value → St → Option Value
  | [a0, a1], s => vec_bit.r a0 a1 s
  | _, _ => none
def vec_bit.an : An := ⟨16, true, [2], [], [], []⟩
theorem vec_bit.ok (S : Sig) (a0 a1 : Value) (s : St) : evG S Try.prog vec_bit.ctx vec_bit.an Try.f42 [a0, a1] s = vec_bit.t S a0 a1 s := by kernel_rfl
theorem vec_bit.cok : CtxOk Try.prog vec_bit.ctx := .nil
theorem vec_bit.draws : fnDraws vec_bit.an Try.f42 = true := by kernel_rfl
theorem vec_bit.can : callOk Try.prog 42 = true := by kernel_rfl
theorem vec_bit.sound : FnOk Try.prog 42 (.rd vec_bit.w) := FnOk.rd_of (evG_ok vec_bit.cok mixed (f := 42) (fn := Try.f42) (by kernel_rfl) vec_bit.draws) fun args s r h => by
  unfold vec_bit.w at h; split at h
  · rw [vec_bit.ok std]; exact h
  · simp at h

-- NOT PRINTED 59 internal/abi.NoEscape: no body
-- NOT PRINTED 56 (*strings.Builder).copyCheck: code ('refuse',)
-- NOT PRINTED 41 (*strings.Builder).WriteByte: a call of (*strings.Builder).copyCheck, which is not printed
-- NOT PRINTED 43 (*strings.Builder).String: builtin unsafeSliceData
-- NOT PRINTED 11 leapfrog/vec.Text: a call of (*strings.Builder).WriteByte, which is not printed
/-! ### leapfrog/leapfrogref01.Power: function 46 -/
def leapfrogref01x_Power.ctx : Ctx := []
def leapfrogref01x_Power.l2 (S : Sig) (rec6 : List Value → St → Option Cut) (xs4 : List Value) (s5 : St) : Option Cut :=
  S.bd (bin .gtr (xs4.getD 0 undef) (Go.Value.int Go.IntKind.i64 0)) fun x7 => S.cnd x7 (S.bd (bin .mul (xs4.getD 1 undef) (Go.Value.int Go.IntKind.u64 2)) fun x8 => S.bd (bin .sub (xs4.getD 0 undef) (Go.Value.int Go.IntKind.i64 1)) fun x9 => rec6 [x9, x8] s5) (some (0, [(xs4.getD 1 undef)], s5))

def leapfrogref01x_Power.t (S : Sig) (a0 : Value) (s : St) : Option Value :=
  S.bd (S.it (leapfrogref01x_Power.l2 S) [a0, (Go.Value.int Go.IntKind.u64 1)] s) fun r10 => some ((r10.2.1.getD 0 undef))
def leapfrogref01x_Power.r (a0 : Value) (s : St) : Option Value := leapfrogref01x_Power.t std a0 s
def leapfrogref01x_Power.w : List Value → St → Option Value
  | [a0], s => leapfrogref01x_Power.r a0 s
  | _, _ => none
def leapfrogref01x_Power.an : An := ⟨11, true, [], [(2, ⟨[.v 0, .v 3], [(.exit 0, [.v 3])]⟩)], [], []⟩
theorem leapfrogref01x_Power.ok (S : Sig) (a0 : Value) (s : St) : evG S Try.prog leapfrogref01x_Power.ctx leapfrogref01x_Power.an Try.f46 [a0] s = leapfrogref01x_Power.t S a0 s := by kernel_rfl
theorem leapfrogref01x_Power.cok : CtxOk Try.prog leapfrogref01x_Power.ctx := .nil
theorem leapfrogref01x_Power.draws : fnDraws leapfrogref01x_Power.an Try.f46 = true := by kernel_rfl
theorem leapfrogref01x_Power.can : callOk Try.prog 46 = true := by kernel_rfl
theorem leapfrogref01x_Power.sound : FnOk Try.prog 46 (.rd leapfrogref01x_Power.w) := FnOk.rd_of (evG_ok leapfrogref01x_Power.cok mixed (f := 46) (fn := Try.f46) (by kernel_rfl) leapfrogref01x_Power.draws) fun args s r h => by
  unfold leapfrogref01x_Power.w at h; split at h
  · rw [leapfrogref01x_Power.ok std]; exact h
  · simp at h

/-! ### leapfrog/leapfrogref01.Right: function 18 -/
def leapfrogref01x_Right.ctx : Ctx := [(46, .rd leapfrogref01x_Power.w)]
def leapfrogref01x_Right.t (S : Sig) (a0 : Value) (s : St) : Option Value :=
  S.bd (bx a0) fun c1 => S.bd (lcl c1 0) fun x2 => S.bd (bin .geq x2 (Go.Value.int Go.IntKind.i64 0)) fun x3 => S.bd (S.gd x3 true (lcl c1 0)) fun x4 => S.bd (S.gd x3 true (bin .leq x4 (Go.Value.int Go.IntKind.i64 32))) fun x5 => S.bd (pik x3 x5 (Go.Value.bool Bool.false)) fun x6 => S.bd (S.gd x6 true (lcl c1 1)) fun x7 => S.bd (S.gd x6 true (lcl c1 0)) fun x8 => S.bd (S.gd x6 true (leapfrogref01x_Power.r x8 s)) fun x9 => S.bd (S.gd x6 true (bin .lss x7 x9)) fun x10 => S.bd (pik x6 x10 (Go.Value.bool Bool.false)) fun x11 => some (x11)
def leapfrogref01x_Right.r (a0 : Value) (s : St) : Option Value := leapfrogref01x_Right.t std a0 s
def leapfrogref01x_Right.w : List Value → St → Option Value
  | [a0], s => leapfrogref01x_Right.r a0 s
  | _, _ => none
def leapfrogref01x_Right.an : An := ⟨19, true, [1], [], [], [(1, [(0, 0, [], []), (1, 9, [], []), (2, 0, [], []), (3, 0, [], []), (4, 0, [], []), (5, 9, [], []), (6, 0, [], []), (7, 0, [], []), (8, 0, [], []), (9, 0, [], []), (10, 9, [], []), (11, 0, [], []), (12, 9, [], []), (13, 3, [], []), (14, 0, [], []), (15, 0, [], []), (16, 0, [], [])])]⟩
theorem leapfrogref01x_Right.ok (S : Sig) (a0 : Value) (s : St) : evG S Try.prog leapfrogref01x_Right.ctx leapfrogref01x_Right.an Try.f18 [a0] s = leapfrogref01x_Right.t S a0 s := by kernel_rfl
theorem leapfrogref01x_Right.cok : CtxOk Try.prog leapfrogref01x_Right.ctx := .cons leapfrogref01x_Power.sound leapfrogref01x_Power.can <| .nil
theorem leapfrogref01x_Right.draws : fnDraws leapfrogref01x_Right.an Try.f18 = true := by kernel_rfl
theorem leapfrogref01x_Right.can : callOk Try.prog 18 = true := by kernel_rfl
theorem leapfrogref01x_Right.sound : FnOk Try.prog 18 (.rd leapfrogref01x_Right.w) := FnOk.rd_of (evG_ok leapfrogref01x_Right.cok mixed (f := 18) (fn := Try.f18) (by kernel_rfl) leapfrogref01x_Right.draws) fun args s r h => by
  unfold leapfrogref01x_Right.w at h; split at h
  · rw [leapfrogref01x_Right.ok std]; exact h
  · simp at h

/-! ### leapfrog/leapfrogref01.Bits: function 44 -/
def leapfrogref01x_Bits.ctx : Ctx := []
def leapfrogref01x_Bits.l4 (S : Sig) (rec16 : List Value → St → Option Cut) (xs14 : List Value) (s15 : St) : Option Cut :=
  S.bd (bin .geq (xs14.getD 2 undef) (Go.Value.int Go.IntKind.i64 0)) fun x17 => S.cnd x17 (S.bd (bin .rem (xs14.getD 1 undef) (Go.Value.int Go.IntKind.u64 2)) fun x18 => S.bd (cvi .i64 x18) fun x19 => S.bd (idx s15 1 (xs14.getD 0 undef) (xs14.getD 2 undef)) fun x20 => S.bd (stv s15 1 x20 x19) fun s21 => S.bd (bin .quo (xs14.getD 1 undef) (Go.Value.int Go.IntKind.u64 2)) fun x22 => S.bd (bin .sub (xs14.getD 2 undef) (Go.Value.int Go.IntKind.i64 1)) fun x23 => rec16 [(xs14.getD 0 undef), x22, x23] s21) (some (0, [(xs14.getD 0 undef)], s15))

def leapfrogref01x_Bits.t (S : Sig) (a0 : Value) (s : St) : Option (Value × St) :=
  S.bd (bx a0) fun c1 => S.bd (lcl c1 0) fun x2 => S.bd (mks s 1 8 [(Go.Value.int Go.IntKind.i64 0)] x2 x2) fun r3 => S.bd (lcl c1 1) fun x4 => S.bd (lcl c1 0) fun x5 => S.bd (bin .sub x5 (Go.Value.int Go.IntKind.i64 1)) fun x6 => S.bd (S.it (leapfrogref01x_Bits.l4 S) [r3.1, x4, x6] r3.2) fun r24 => some ((r24.2.1.getD 0 undef), r24.2.2)
def leapfrogref01x_Bits.v (a0 : Value) (s : St) : Option (Value × St) := leapfrogref01x_Bits.t std a0 s
def leapfrogref01x_Bits.w : List Value → St → Option (Value × St)
  | [a0], s => leapfrogref01x_Bits.v a0 s
  | _, _ => none
def leapfrogref01x_Bits.an : An := ⟨27, false, [1], [(4, ⟨[.v 3, .v 4, .v 5], [(.exit 0, [.v 3])]⟩)], [], []⟩
theorem leapfrogref01x_Bits.ok (S : Sig) (a0 : Value) (s : St) : evF S Try.prog leapfrogref01x_Bits.ctx leapfrogref01x_Bits.an Try.f44 [a0] s = leapfrogref01x_Bits.t S a0 s := by kernel_rfl
theorem leapfrogref01x_Bits.cok : CtxOk Try.prog leapfrogref01x_Bits.ctx := .nil
theorem leapfrogref01x_Bits.draws : fnDraws leapfrogref01x_Bits.an Try.f44 = true := by kernel_rfl
theorem leapfrogref01x_Bits.can : callOk Try.prog 44 = true := by kernel_rfl
theorem leapfrogref01x_Bits.sound : FnOk Try.prog 44 (.st leapfrogref01x_Bits.w) := FnOk.st_of (evF_ok leapfrogref01x_Bits.cok mixed (f := 44) (fn := Try.f44) (by kernel_rfl) leapfrogref01x_Bits.draws) fun args s r h => by
  unfold leapfrogref01x_Bits.w at h; split at h
  · rw [leapfrogref01x_Bits.ok std]; exact h
  · simp at h

/-! ### leapfrog/leapfrogref01.Text: function 12 -/
def leapfrogref01x_Text.ctx : Ctx := [(18, .rd leapfrogref01x_Right.w), (44, .st leapfrogref01x_Bits.w)]
def leapfrogref01x_Text.l8 (S : Sig) (rec20 : List Value → St → Option Cut) (xs18 : List Value) (s19 : St) : Option Cut :=
  S.bd (lenL (xs18.getD 1 undef)) fun x21 => S.bd (bin .lss (xs18.getD 2 undef) x21) fun x22 => S.cnd x22 (S.bd (idx s19 1 (xs18.getD 1 undef) (xs18.getD 2 undef)) fun x23 => S.bd (ldc s19 x23) fun x24 => S.bd (bin .add (Go.Value.int Go.IntKind.i64 48) x24) fun x25 => S.bd (cvi .u8 x25) fun x26 => S.bd (S.bd (bls 1 (List.replicate 1 [(Go.Value.int Go.IntKind.u8 0)]) [(0, x26)]) fun rows => als s19 1 1 rows) fun r27 => S.bd (app r27.2 1 1 (xs18.getD 0 undef) r27.1) fun r28 => S.bd (bin .add (xs18.getD 2 undef) (Go.Value.int Go.IntKind.i64 1)) fun x29 => rec20 [r28.1, (xs18.getD 1 undef), x29] r28.2) (some (0, [(xs18.getD 0 undef)], s19))

def leapfrogref01x_Text.t (S : Sig) (a0 : Value) (s : St) : Option (Value × St) :=
  S.bd (bx a0) fun c1 => S.bd (lal c1 0 2) fun x2 => S.bd (leapfrogref01x_Right.r x2 s) fun x3 => S.bd (un .not x3) fun x4 => S.cnd x4 (some ((Value.tuple ⟨[(Go.Value.string (ByteArray.mk #[])), (Go.Value.int Go.IntKind.i64 10)]⟩), s)) (S.bd (lcl c1 0) fun x5 => S.bd (eqb [1] false false x5 (Go.Value.int Go.IntKind.i64 0)) fun x6 => S.cnd x6 (some ((Value.tuple ⟨[(Go.Value.string (ByteArray.mk #[46])), (Go.Value.int Go.IntKind.i64 0)]⟩), s)) (S.bd (lal c1 0 2) fun x7 => S.bd (leapfrogref01x_Bits.v x7 s) fun r8 => S.bd (S.it (leapfrogref01x_Text.l8 S) [(Go.Value.slice Option.none 0 0), r8.1, (Go.Value.int Go.IntKind.i64 0)] r8.2) fun r30 => S.bd (b2s r30.2.2 (r30.2.1.getD 0 undef)) fun x31 => some ((Value.tuple ⟨[x31, (Go.Value.int Go.IntKind.i64 0)]⟩), r30.2.2)))
def leapfrogref01x_Text.v (a0 : Value) (s : St) : Option (Value × St) := leapfrogref01x_Text.t std a0 s
def leapfrogref01x_Text.w : List Value → St → Option (Value × St)
  | [a0], s => leapfrogref01x_Text.v a0 s
  | _, _ => none
def leapfrogref01x_Text.an : An := ⟨32, false, [1], [(8, ⟨[.v 4, .v 5, .v 6], [(.exit 0, [.v 4])]⟩)], [], []⟩
theorem leapfrogref01x_Text.ok (S : Sig) (a0 : Value) (s : St) : evF S Try.prog leapfrogref01x_Text.ctx leapfrogref01x_Text.an Try.f12 [a0] s = leapfrogref01x_Text.t S a0 s := by kernel_rfl
theorem leapfrogref01x_Text.cok : CtxOk Try.prog leapfrogref01x_Text.ctx := .cons leapfrogref01x_Right.sound leapfrogref01x_Right.can <| .cons leapfrogref01x_Bits.sound leapfrogref01x_Bits.can <| .nil
theorem leapfrogref01x_Text.draws : fnDraws leapfrogref01x_Text.an Try.f12 = true := by kernel_rfl
theorem leapfrogref01x_Text.can : callOk Try.prog 12 = true := by kernel_rfl
theorem leapfrogref01x_Text.sound : FnOk Try.prog 12 (.st leapfrogref01x_Text.w) := FnOk.st_of (evF_ok leapfrogref01x_Text.cok mixed (f := 12) (fn := Try.f12) (by kernel_rfl) leapfrogref01x_Text.draws) fun args s r h => by
  unfold leapfrogref01x_Text.w at h; split at h
  · rw [leapfrogref01x_Text.ok std]; exact h
  · simp at h

/-! ### leapfrog/leapfrogref01.Text: function 12, as a reading -/
def leapfrogref01x_TextQ.r (a0 : Value) (s : St) : Option Value := frzR (fun s => leapfrogref01x_Text.v a0 s) s
def leapfrogref01x_TextQ.w : List Value → St → Option Value := fun args s => frzR (leapfrogref01x_Text.w args) s
theorem leapfrogref01x_TextQ.can : callOk Try.prog 12 = true := leapfrogref01x_Text.can
theorem leapfrogref01x_TextQ.sound : FnOk Try.prog 12 (.rd leapfrogref01x_TextQ.w) := FnOk.frozen leapfrogref01x_Text.sound

/-! ### leapfrog/vec.Read: function 13 -/
def vec_Read.ctx : Ctx := []
def vec_Read.l9 (S : Sig) (rec40 : List Value → St → Option Cut) (xs38 : List Value) (s39 : St) : Option Cut :=
  S.bd (bin .lss (xs38.getD 2 undef) (xs38.getD 1 undef)) fun x41 => S.cnd x41 (S.bd (idxS (xs38.getD 0 undef) (xs38.getD 2 undef)) fun x42 => S.bd (eqb [1] false true x42 (Go.Value.int Go.IntKind.u8 48)) fun x43 => S.bd (S.gd x43 true (some x42)) fun x44 => S.bd (S.gd x43 true (eqb [1] false true x44 (Go.Value.int Go.IntKind.u8 49))) fun x45 => S.bd (pik x43 x45 (Go.Value.bool Bool.false)) fun x46 => S.bd (S.gd x46 false (some (xs38.getD 2 undef))) fun x47 => S.bd (S.gd x46 false (eqb [1] false false x47 (Go.Value.int Go.IntKind.i64 32))) fun x48 => S.bd (pik x46 (Go.Value.bool Bool.true) x48) fun x49 => S.cnd x49 (S.bd (bld [(Go.Value.int Go.IntKind.i64 0), (Go.Value.int Go.IntKind.u64 0)] []) fun x50 => S.bd (stl (cellsA (xs38.getD 3 undef)) 0 2 x50) fun c51 => some (1, [(xs38.getD 2 undef), (Go.Value.int Go.IntKind.i64 10), (Value.agg ⟨c51⟩)], s39)) (S.bd (lcl (cellsA (xs38.getD 4 undef)) 0) fun x52 => S.bd (bin .add x52 (Go.Value.int Go.IntKind.i64 1)) fun x53 => S.bd (lcl (cellsA (xs38.getD 4 undef)) 1) fun x54 => S.bd (bin .shl x54 (Go.Value.int Go.IntKind.u64 1)) fun x55 => S.bd (bin .sub x42 (Go.Value.int Go.IntKind.u8 48)) fun x56 => S.bd (cvi .u64 x56) fun x57 => S.bd (bin .or x55 x57) fun x58 => S.bd (bld [(Go.Value.int Go.IntKind.i64 0), (Go.Value.int Go.IntKind.u64 0)] [(0, 1, x53), (1, 1, x58)]) fun x59 => S.bd (stl (cellsA (xs38.getD 4 undef)) 0 2 x59) fun c60 => S.bd (bin .add (xs38.getD 2 undef) (Go.Value.int Go.IntKind.i64 1)) fun x61 => rec40 [(xs38.getD 0 undef), (xs38.getD 1 undef), x61, (Value.agg ⟨(cellsA (xs38.getD 3 undef))⟩), (Value.agg ⟨c60⟩)] s39)) (some (0, [(Value.agg ⟨(cellsA (xs38.getD 3 undef))⟩), (Value.agg ⟨(cellsA (xs38.getD 4 undef))⟩)], s39))

def vec_Read.t (S : Sig) (a0 : Value) (s : St) : Option Value :=
  S.bd (bx (Go.Value.agg #[(Go.Value.int Go.IntKind.i64 0), (Go.Value.int Go.IntKind.u64 0)])) fun c1 => S.bd (eqb [2] false false a0 (Go.Value.string (ByteArray.mk #[46]))) fun x2 => S.cnd x2 (S.bd (bld [(Go.Value.int Go.IntKind.i64 0), (Go.Value.int Go.IntKind.u64 0)] []) fun x3 => S.bd (stl c1 0 2 x3) fun c4 => S.bd (lal c4 0 2) fun x5 => some ((Value.tuple ⟨[x5, (Go.Value.int Go.IntKind.i64 0), (Go.Value.int Go.IntKind.i64 0)]⟩))) (S.bd (eqb [2] false false a0 (Go.Value.string (ByteArray.mk #[]))) fun x6 => S.cnd x6 (S.bd (bld [(Go.Value.int Go.IntKind.i64 0), (Go.Value.int Go.IntKind.u64 0)] []) fun x7 => S.bd (stl c1 0 2 x7) fun c8 => S.bd (lal c8 0 2) fun x9 => some ((Value.tuple ⟨[x9, (Go.Value.int Go.IntKind.i64 0), (Go.Value.int Go.IntKind.i64 10)]⟩))) (S.bd (idxS a0 (Go.Value.int Go.IntKind.i64 0)) fun x10 => S.bd (eqb [1] false false x10 (Go.Value.int Go.IntKind.u8 46)) fun x11 => S.cnd x11 (S.bd (bld [(Go.Value.int Go.IntKind.i64 0), (Go.Value.int Go.IntKind.u64 0)] []) fun x12 => S.bd (stl c1 0 2 x12) fun c13 => S.bd (lal c13 0 2) fun x14 => some ((Value.tuple ⟨[x14, (Go.Value.int Go.IntKind.i64 1), (Go.Value.int Go.IntKind.i64 10)]⟩))) (S.bd (bx (Go.Value.agg #[(Go.Value.int Go.IntKind.i64 0), (Go.Value.int Go.IntKind.u64 0)])) fun c15 => S.bd (lenS a0) fun x16 => S.bd (S.it (vec_Read.l9 S) [a0, x16, (Go.Value.int Go.IntKind.i64 0), (Value.agg ⟨c1⟩), (Value.agg ⟨c15⟩)] s) fun r62 => if r62.1 = 0 then (S.bd (lal (cellsA (r62.2.1.getD 1 undef)) 0 2) fun x64 => S.bd (stl (cellsA (r62.2.1.getD 0 undef)) 0 2 x64) fun c65 => S.bd (lal c65 0 2) fun x66 => some ((Value.tuple ⟨[x66, (Go.Value.int Go.IntKind.i64 0), (Go.Value.int Go.IntKind.i64 0)]⟩))) else (S.bd (lal (cellsA (r62.2.1.getD 2 undef)) 0 2) fun x63 => some ((Value.tuple ⟨[x63, (r62.2.1.getD 0 undef), (r62.2.1.getD 1 undef)]⟩))))))
def vec_Read.r (a0 : Value) (s : St) : Option Value := vec_Read.t std a0 s
def vec_Read.w : List Value → St → Option Value
  | [a0], s => vec_Read.r a0 s
  | _, _ => none
def vec_Read.an : An := ⟨54, true, [2, 5], [(9, ⟨[.v 0, .p 2 2 0, .p 5 5 0, .v 22, .v 23, .l 2, .l 5], [(.exit 1, [.p 2 2 0, .p 5 5 0, .l 2, .l 5]), (.ret, [.p 2 2 0, .v 3, .v 4, .l 2])]⟩)], [], []⟩
theorem vec_Read.ok (S : Sig) (a0 : Value) (s : St) : evG S Try.prog vec_Read.ctx vec_Read.an Try.f13 [a0] s = vec_Read.t S a0 s := by kernel_rfl
theorem vec_Read.cok : CtxOk Try.prog vec_Read.ctx := .nil
theorem vec_Read.draws : fnDraws vec_Read.an Try.f13 = true := by kernel_rfl
theorem vec_Read.can : callOk Try.prog 13 = true := by kernel_rfl
theorem vec_Read.sound : FnOk Try.prog 13 (.rd vec_Read.w) := FnOk.rd_of (evG_ok vec_Read.cok mixed (f := 13) (fn := Try.f13) (by kernel_rfl) vec_Read.draws) fun args s r h => by
  unfold vec_Read.w at h; split at h
  · rw [vec_Read.ok std]; exact h
  · simp at h

/-! ### leapfrog/leapfrogref01.Of: function 45 -/
def leapfrogref01x_Of.ctx : Ctx := []
def leapfrogref01x_Of.l3 (S : Sig) (rec18 : List Value → St → Option Cut) (xs16 : List Value) (s17 : St) : Option Cut :=
  S.bd (lenL (xs16.getD 0 undef)) fun x19 => S.bd (bin .lss (xs16.getD 1 undef) x19) fun x20 => S.cnd x20 (S.bd (lcl (cellsA (xs16.getD 3 undef)) 1) fun x21 => S.bd (bin .mul x21 (Go.Value.int Go.IntKind.u64 2)) fun x22 => S.bd (idx s17 1 (xs16.getD 0 undef) (xs16.getD 1 undef)) fun x23 => S.bd (ldc s17 x23) fun x24 => S.bd (cvi .u64 x24) fun x25 => S.bd (bin .add x22 x25) fun x26 => S.bd (stl (cellsA (xs16.getD 3 undef)) 1 1 x26) fun c27 => S.bd (bin .add (xs16.getD 1 undef) (Go.Value.int Go.IntKind.i64 1)) fun x28 => rec18 [(xs16.getD 0 undef), x28, (Value.agg ⟨(cellsA (xs16.getD 2 undef))⟩), (Value.agg ⟨c27⟩)] s17) (some (0, [(Value.agg ⟨(cellsA (xs16.getD 2 undef))⟩), (Value.agg ⟨(cellsA (xs16.getD 3 undef))⟩)], s17))

def leapfrogref01x_Of.t (S : Sig) (a0 : Value) (s : St) : Option Value :=
  S.bd (bx (Go.Value.agg #[(Go.Value.int Go.IntKind.i64 0), (Go.Value.int Go.IntKind.u64 0)])) fun c1 => S.bd (lenL a0) fun x2 => S.bd (bld [(Go.Value.int Go.IntKind.i64 0), (Go.Value.int Go.IntKind.u64 0)] [(0, 1, x2)]) fun x3 => S.bd (bx (Go.Value.agg #[(Go.Value.int Go.IntKind.i64 0), (Go.Value.int Go.IntKind.u64 0)])) fun c4 => S.bd (stl c4 0 2 x3) fun c5 => S.bd (S.it (leapfrogref01x_Of.l3 S) [a0, (Go.Value.int Go.IntKind.i64 0), (Value.agg ⟨c1⟩), (Value.agg ⟨c5⟩)] s) fun r29 => S.bd (lal (cellsA (r29.2.1.getD 1 undef)) 0 2) fun x30 => S.bd (stl (cellsA (r29.2.1.getD 0 undef)) 0 2 x30) fun c31 => S.bd (lal c31 0 2) fun x32 => some (x32)
def leapfrogref01x_Of.r (a0 : Value) (s : St) : Option Value := leapfrogref01x_Of.t std a0 s
def leapfrogref01x_Of.w : List Value → St → Option Value
  | [a0], s => leapfrogref01x_Of.r a0 s
  | _, _ => none
def leapfrogref01x_Of.an : An := ⟨25, true, [2, 3], [(3, ⟨[.v 0, .p 2 2 0, .p 3 3 0, .v 4, .l 2, .l 3], [(.exit 0, [.p 2 2 0, .p 3 3 0, .l 2, .l 3])]⟩)], [], [(5, [(0, 0, [], []), (1, 25, [], []), (2, 0, [], []), (3, 0, [], []), (4, 0, [], []), (5, 2, [], []), (6, 2, [], []), (7, 0, [], []), (8, 0, [], []), (9, 0, [], []), (10, 29, [], [])])]⟩
theorem leapfrogref01x_Of.ok (S : Sig) (a0 : Value) (s : St) : evG S Try.prog leapfrogref01x_Of.ctx leapfrogref01x_Of.an Try.f45 [a0] s = leapfrogref01x_Of.t S a0 s := by kernel_rfl
theorem leapfrogref01x_Of.cok : CtxOk Try.prog leapfrogref01x_Of.ctx := .nil
theorem leapfrogref01x_Of.draws : fnDraws leapfrogref01x_Of.an Try.f45 = true := by kernel_rfl
theorem leapfrogref01x_Of.can : callOk Try.prog 45 = true := by kernel_rfl
theorem leapfrogref01x_Of.sound : FnOk Try.prog 45 (.rd leapfrogref01x_Of.w) := FnOk.rd_of (evG_ok leapfrogref01x_Of.cok mixed (f := 45) (fn := Try.f45) (by kernel_rfl) leapfrogref01x_Of.draws) fun args s r h => by
  unfold leapfrogref01x_Of.w at h; split at h
  · rw [leapfrogref01x_Of.ok std]; exact h
  · simp at h

/-! ### leapfrog/leapfrogref01.Read: function 14 -/
def leapfrogref01x_Read.ctx : Ctx := [(45, .rd leapfrogref01x_Of.w)]
def leapfrogref01x_Read.l9 (S : Sig) (rec40 : List Value → St → Option Cut) (xs38 : List Value) (s39 : St) : Option Cut :=
  S.bd (lenS (xs38.getD 0 undef)) fun x41 => S.bd (bin .lss (xs38.getD 2 undef) x41) fun x42 => S.cnd x42 (S.bd (bin .geq (xs38.getD 2 undef) (Go.Value.int Go.IntKind.i64 32)) fun x43 => S.bd (S.gd x43 false (some (xs38.getD 0 undef))) fun x44 => S.bd (S.gd x43 false (some (xs38.getD 2 undef))) fun x45 => S.bd (S.gd x43 false (idxS x44 x45)) fun x46 => S.bd (S.gd x43 false (eqb [1] false true x46 (Go.Value.int Go.IntKind.u8 48))) fun x47 => S.bd (S.gd x43 false (some x47)) fun x48 => S.bd (S.gd x48 true (some (xs38.getD 0 undef))) fun x49 => S.bd (S.gd x48 true (some (xs38.getD 2 undef))) fun x50 => S.bd (S.gd x48 true (idxS x49 x50)) fun x51 => S.bd (S.gd x48 true (eqb [1] false true x51 (Go.Value.int Go.IntKind.u8 49))) fun x52 => S.bd (S.gd x43 false (pik x48 x52 (Go.Value.bool Bool.false))) fun x53 => S.bd (pik x43 (Go.Value.bool Bool.true) x53) fun x54 => S.cnd x54 (S.bd (bld [(Go.Value.int Go.IntKind.i64 0), (Go.Value.int Go.IntKind.u64 0)] []) fun x55 => S.bd (stl (cellsA (xs38.getD 3 undef)) 0 2 x55) fun c56 => some (1, [(xs38.getD 2 undef), (Go.Value.int Go.IntKind.i64 10), (Value.agg ⟨c56⟩)], s39)) (S.bd (idxS (xs38.getD 0 undef) (xs38.getD 2 undef)) fun x57 => S.bd (bin .sub x57 (Go.Value.int Go.IntKind.u8 48)) fun x58 => S.bd (cvi .i64 x58) fun x59 => S.bd (S.bd (bls 1 (List.replicate 1 [(Go.Value.int Go.IntKind.i64 0)]) [(0, x59)]) fun rows => als s39 1 1 rows) fun r60 => S.bd (app r60.2 1 8 (xs38.getD 1 undef) r60.1) fun r61 => S.bd (bin .add (xs38.getD 2 undef) (Go.Value.int Go.IntKind.i64 1)) fun x62 => rec40 [(xs38.getD 0 undef), r61.1, x62, (Value.agg ⟨(cellsA (xs38.getD 3 undef))⟩)] r61.2)) (some (0, [(xs38.getD 1 undef), (Value.agg ⟨(cellsA (xs38.getD 3 undef))⟩)], s39))

def leapfrogref01x_Read.t (S : Sig) (a0 : Value) (s : St) : Option (Value × St) :=
  S.bd (bx (Go.Value.agg #[(Go.Value.int Go.IntKind.i64 0), (Go.Value.int Go.IntKind.u64 0)])) fun c1 => S.bd (eqb [2] false false a0 (Go.Value.string (ByteArray.mk #[]))) fun x2 => S.cnd x2 (S.bd (bld [(Go.Value.int Go.IntKind.i64 0), (Go.Value.int Go.IntKind.u64 0)] []) fun x3 => S.bd (stl c1 0 2 x3) fun c4 => S.bd (lal c4 0 2) fun x5 => some ((Value.tuple ⟨[x5, (Go.Value.int Go.IntKind.i64 0), (Go.Value.int Go.IntKind.i64 10)]⟩), s)) (S.bd (idxS a0 (Go.Value.int Go.IntKind.i64 0)) fun x6 => S.bd (eqb [1] false false x6 (Go.Value.int Go.IntKind.u8 46)) fun x7 => S.cnd x7 (S.bd (lenS a0) fun x8 => S.bd (bin .gtr x8 (Go.Value.int Go.IntKind.i64 1)) fun x9 => S.cnd x9 (S.bd (bld [(Go.Value.int Go.IntKind.i64 0), (Go.Value.int Go.IntKind.u64 0)] []) fun x10 => S.bd (stl c1 0 2 x10) fun c11 => S.bd (lal c11 0 2) fun x12 => some ((Value.tuple ⟨[x12, (Go.Value.int Go.IntKind.i64 1), (Go.Value.int Go.IntKind.i64 10)]⟩), s)) (S.bd (bld [(Go.Value.int Go.IntKind.i64 0), (Go.Value.int Go.IntKind.u64 0)] []) fun x13 => S.bd (stl c1 0 2 x13) fun c14 => S.bd (lal c14 0 2) fun x15 => some ((Value.tuple ⟨[x15, (Go.Value.int Go.IntKind.i64 0), (Go.Value.int Go.IntKind.i64 0)]⟩), s))) (S.bd (S.it (leapfrogref01x_Read.l9 S) [a0, (Go.Value.slice Option.none 0 0), (Go.Value.int Go.IntKind.i64 0), (Value.agg ⟨c1⟩)] s) fun r63 => if r63.1 = 0 then (S.bd (leapfrogref01x_Of.r (r63.2.1.getD 0 undef) r63.2.2) fun x65 => S.bd (stl (cellsA (r63.2.1.getD 1 undef)) 0 2 x65) fun c66 => S.bd (lal c66 0 2) fun x67 => some ((Value.tuple ⟨[x67, (Go.Value.int Go.IntKind.i64 0), (Go.Value.int Go.IntKind.i64 0)]⟩), r63.2.2)) else (S.bd (lal (cellsA (r63.2.1.getD 2 undef)) 0 2) fun x64 => some ((Value.tuple ⟨[x64, (r63.2.1.getD 0 undef), (r63.2.1.getD 1 undef)]⟩), r63.2.2))))
def leapfrogref01x_Read.v (a0 : Value) (s : St) : Option (Value × St) := leapfrogref01x_Read.t std a0 s
def leapfrogref01x_Read.w : List Value → St → Option (Value × St)
  | [a0], s => leapfrogref01x_Read.v a0 s
  | _, _ => none
def leapfrogref01x_Read.an : An := ⟨50, false, [2], [(9, ⟨[.v 0, .p 2 2 0, .v 5, .v 6, .l 2], [(.exit 0, [.p 2 2 0, .v 5, .l 2]), (.ret, [.p 2 2 0, .v 3, .v 4, .l 2])]⟩)], [], []⟩
theorem leapfrogref01x_Read.ok (S : Sig) (a0 : Value) (s : St) : evF S Try.prog leapfrogref01x_Read.ctx leapfrogref01x_Read.an Try.f14 [a0] s = leapfrogref01x_Read.t S a0 s := by kernel_rfl
theorem leapfrogref01x_Read.cok : CtxOk Try.prog leapfrogref01x_Read.ctx := .cons leapfrogref01x_Of.sound leapfrogref01x_Of.can <| .nil
theorem leapfrogref01x_Read.draws : fnDraws leapfrogref01x_Read.an Try.f14 = true := by kernel_rfl
theorem leapfrogref01x_Read.can : callOk Try.prog 14 = true := by kernel_rfl
theorem leapfrogref01x_Read.sound : FnOk Try.prog 14 (.st leapfrogref01x_Read.w) := FnOk.st_of (evF_ok leapfrogref01x_Read.cok mixed (f := 14) (fn := Try.f14) (by kernel_rfl) leapfrogref01x_Read.draws) fun args s r h => by
  unfold leapfrogref01x_Read.w at h; split at h
  · rw [leapfrogref01x_Read.ok std]; exact h
  · simp at h

/-! ### leapfrog/leapfrogref01.Read: function 14, as a reading -/
def leapfrogref01x_ReadQ.r (a0 : Value) (s : St) : Option Value := frzR (fun s => leapfrogref01x_Read.v a0 s) s
def leapfrogref01x_ReadQ.w : List Value → St → Option Value := fun args s => frzR (leapfrogref01x_Read.w args) s
theorem leapfrogref01x_ReadQ.can : callOk Try.prog 14 = true := leapfrogref01x_Read.can
theorem leapfrogref01x_ReadQ.sound : FnOk Try.prog 14 (.rd leapfrogref01x_ReadQ.w) := FnOk.frozen leapfrogref01x_Read.sound

/-! ### leapfrog/vec.Begins: function 19 -/
def vec_Begins.ctx : Ctx := [(35, .rd vec_Right.w), (47, .rd vec_prefix.w)]
def vec_Begins.t (S : Sig) (a0 a1 : Value) (s : St) : Option Value :=
  S.bd (bx a0) fun c1 => S.bd (bx a1) fun c2 => S.bd (lal c1 0 2) fun x3 => S.bd (vec_Right.r x3 s) fun x4 => S.bd (eqb [1] false false x4 (Go.Value.int Go.IntKind.i64 0)) fun x5 => S.bd (S.gd x5 true (lal c2 0 2)) fun x6 => S.bd (S.gd x5 true (vec_Right.r x6 s)) fun x7 => S.bd (S.gd x5 true (eqb [1] false false x7 (Go.Value.int Go.IntKind.i64 0))) fun x8 => S.bd (pik x5 x8 (Go.Value.bool Bool.false)) fun x9 => S.bd (S.gd x9 true (lcl c2 0)) fun x10 => S.bd (S.gd x9 true (lcl c1 0)) fun x11 => S.bd (S.gd x9 true (bin .leq x10 x11)) fun x12 => S.bd (pik x9 x12 (Go.Value.bool Bool.false)) fun x13 => S.bd (S.gd x13 true (lal c1 0 2)) fun x14 => S.bd (S.gd x13 true (lcl c2 0)) fun x15 => S.bd (S.gd x13 true (lal c2 0 2)) fun x16 => S.bd (S.gd x13 true (vec_prefix.r x14 x15 s)) fun x17 => S.bd (S.gd x13 true (eqb [1, 1] true false x17 x16)) fun x18 => S.bd (pik x13 x18 (Go.Value.bool Bool.false)) fun x19 => some (x19)
def vec_Begins.r (a0 a1 : Value) (s : St) : Option Value := vec_Begins.t std a0 a1 s
def vec_Begins.w : List Value → St → Option Value
  | [a0, a1], s => vec_Begins.r a0 a1 s
  | _, _ => none
def vec_Begins.an : An := ⟨28, true, [2, 3], [], [], [(1, [(0, 17, [], []), (1, 3, [], []), (2, 0, [], []), (3, 0, [], []), (4, 25, [], []), (5, 3, [], []), (6, 0, [], []), (7, 0, [], []), (8, 0, [], []), (9, 0, [], []), (10, 25, [], []), (11, 0, [], []), (12, 17, [], []), (13, 0, [], []), (14, 0, [], []), (15, 0, [], []), (16, 17, [], []), (17, 0, [], []), (18, 25, [], []), (20, 25, [], []), (19, 3, [], []), (21, 0, [], []), (22, 0, [], []), (23, 0, [], [])])]⟩
theorem vec_Begins.ok (S : Sig) (a0 a1 : Value) (s : St) : evG S Try.prog vec_Begins.ctx vec_Begins.an Try.f19 [a0, a1] s = vec_Begins.t S a0 a1 s := by kernel_rfl
theorem vec_Begins.cok : CtxOk Try.prog vec_Begins.ctx := .cons vec_Right.sound vec_Right.can <| .cons vec_prefix.sound vec_prefix.can <| .nil
theorem vec_Begins.draws : fnDraws vec_Begins.an Try.f19 = true := by kernel_rfl
theorem vec_Begins.can : callOk Try.prog 19 = true := by kernel_rfl
theorem vec_Begins.sound : FnOk Try.prog 19 (.rd vec_Begins.w) := FnOk.rd_of (evG_ok vec_Begins.cok mixed (f := 19) (fn := Try.f19) (by kernel_rfl) vec_Begins.draws) fun args s r h => by
  unfold vec_Begins.w at h; split at h
  · rw [vec_Begins.ok std]; exact h
  · simp at h

-- NOT PRINTED 15 leapfrog/leapfroglaw01.alive: a call of leapfrog/vec.Text, which is not printed
-- NOT PRINTED 3 leapfrog/leapfroglaw01.VecTexts: a call of leapfrog/vec.Text, which is not printed
/-! ### leapfrog/vec.Join: function 16 -/
def vec_Join.ctx : Ctx := [(35, .rd vec_Right.w)]
def vec_Join.l2 (S : Sig) (rec16 : List Value → St → Option Cut) (xs14 : List Value) (s15 : St) : Option Cut :=
  S.bd (bin .lss (xs14.getD 3 undef) (xs14.getD 2 undef)) fun x17 => S.cnd x17 (S.bd (idx s15 2 (xs14.getD 1 undef) (xs14.getD 3 undef)) fun x18 => S.bd (lda s15 2 x18) fun x19 => S.bd (bx (Go.Value.agg #[(Go.Value.int Go.IntKind.i64 0), (Go.Value.int Go.IntKind.u64 0)])) fun c20 => S.bd (stl c20 0 2 x19) fun c21 => S.bd (lal c21 0 2) fun x22 => S.bd (vec_Right.r x22 s15) fun x23 => S.bd (eqb [1] false true x23 (Go.Value.int Go.IntKind.i64 0)) fun x24 => S.cnd x24 (S.bd (bld [(Go.Value.int Go.IntKind.i64 0), (Go.Value.int Go.IntKind.u64 0)] []) fun x25 => S.bd (stl (cellsA (xs14.getD 4 undef)) 0 2 x25) fun c26 => some (1, [x23, (Value.agg ⟨c26⟩)], s15)) (S.bd (bin .add (xs14.getD 3 undef) (Go.Value.int Go.IntKind.i64 1)) fun x27 => rec16 [(xs14.getD 0 undef), (xs14.getD 1 undef), (xs14.getD 2 undef), x27, (Value.agg ⟨(cellsA (xs14.getD 4 undef))⟩)] s15)) (some (0, [(xs14.getD 0 undef), (Value.agg ⟨(cellsA (xs14.getD 4 undef))⟩)], s15))

def vec_Join.l10 (S : Sig) (rec57 : List Value → St → Option Cut) (xs55 : List Value) (s56 : St) : Option Cut :=
  S.bd (bin .lss (xs55.getD 2 undef) (xs55.getD 1 undef)) fun x58 => S.cnd x58 (S.bd (idx s56 2 (xs55.getD 0 undef) (xs55.getD 2 undef)) fun x59 => S.bd (lda s56 2 x59) fun x60 => S.bd (bx (Go.Value.agg #[(Go.Value.int Go.IntKind.i64 0), (Go.Value.int Go.IntKind.u64 0)])) fun c61 => S.bd (stl c61 0 2 x60) fun c62 => S.bd (lcl (cellsA (xs55.getD 4 undef)) 0) fun x63 => S.bd (lcl c62 0) fun x64 => S.bd (bin .add x63 x64) fun x65 => S.bd (bin .gtr x65 (Go.Value.int Go.IntKind.i64 32)) fun x66 => S.cnd x66 (S.bd (bld [(Go.Value.int Go.IntKind.i64 0), (Go.Value.int Go.IntKind.u64 0)] []) fun x67 => S.bd (stl (cellsA (xs55.getD 3 undef)) 0 2 x67) fun c68 => some (1, [(Go.Value.int Go.IntKind.i64 2), (Value.agg ⟨c68⟩)], s56)) (S.bd (lcl (cellsA (xs55.getD 4 undef)) 0) fun x69 => S.bd (lcl c62 0) fun x70 => S.bd (bin .add x69 x70) fun x71 => S.bd (lcl (cellsA (xs55.getD 4 undef)) 1) fun x72 => S.bd (lcl c62 0) fun x73 => S.bd (cvi .u64 x73) fun x74 => S.bd (bin .shl x72 x74) fun x75 => S.bd (lcl c62 1) fun x76 => S.bd (bin .or x75 x76) fun x77 => S.bd (bld [(Go.Value.int Go.IntKind.i64 0), (Go.Value.int Go.IntKind.u64 0)] [(0, 1, x71), (1, 1, x77)]) fun x78 => S.bd (stl (cellsA (xs55.getD 4 undef)) 0 2 x78) fun c79 => S.bd (bin .add (xs55.getD 2 undef) (Go.Value.int Go.IntKind.i64 1)) fun x80 => rec57 [(xs55.getD 0 undef), (xs55.getD 1 undef), x80, (Value.agg ⟨(cellsA (xs55.getD 3 undef))⟩), (Value.agg ⟨c79⟩)] s56)) (some (0, [(Value.agg ⟨(cellsA (xs55.getD 3 undef))⟩), (Value.agg ⟨(cellsA (xs55.getD 4 undef))⟩)], s56))

def vec_Join.t (S : Sig) (a0 : Value) (s : St) : Option Value :=
  S.bd (bx (Go.Value.agg #[(Go.Value.int Go.IntKind.i64 0), (Go.Value.int Go.IntKind.u64 0)])) fun c1 => S.bd (lenL a0) fun x2 => S.bd (S.it (vec_Join.l2 S) [a0, a0, x2, (Go.Value.int Go.IntKind.i64 0), (Value.agg ⟨c1⟩)] s) fun r28 => if r28.1 = 0 then (S.bd (bx (Go.Value.agg #[(Go.Value.int Go.IntKind.i64 0), (Go.Value.int Go.IntKind.u64 0)])) fun c30 => S.bd (lenL (r28.2.1.getD 0 undef)) fun x31 => S.bd (S.it (vec_Join.l10 S) [(r28.2.1.getD 0 undef), x31, (Go.Value.int Go.IntKind.i64 0), (Value.agg ⟨(cellsA (r28.2.1.getD 1 undef))⟩), (Value.agg ⟨c30⟩)] r28.2.2) fun r81 => if r81.1 = 0 then (S.bd (lal (cellsA (r81.2.1.getD 1 undef)) 0 2) fun x83 => S.bd (stl (cellsA (r81.2.1.getD 0 undef)) 0 2 x83) fun c84 => S.bd (lal c84 0 2) fun x85 => some ((Value.tuple ⟨[x85, (Go.Value.int Go.IntKind.i64 0)]⟩))) else (S.bd (lal (cellsA (r81.2.1.getD 1 undef)) 0 2) fun x82 => some ((Value.tuple ⟨[x82, (r81.2.1.getD 0 undef)]⟩)))) else (S.bd (lal (cellsA (r28.2.1.getD 1 undef)) 0 2) fun x29 => some ((Value.tuple ⟨[x29, (r28.2.1.getD 0 undef)]⟩)))
def vec_Join.r (a0 : Value) (s : St) : Option Value := vec_Join.t std a0 s
def vec_Join.w : List Value → St → Option Value
  | [a0], s => vec_Join.r a0 s
  | _, _ => none
def vec_Join.an : An := ⟨53, true, [2, 5, 7, 9], [(2, ⟨[.v 0, .p 2 2 0, .v 10, .v 11, .v 12, .l 2], [(.exit 0, [.v 0, .p 2 2 0, .l 2]), (.ret, [.p 2 2 0, .v 3, .l 2])]⟩), (10, ⟨[.p 2 2 0, .p 7 7 0, .v 23, .v 24, .v 25, .l 2, .l 7], [(.exit 2, [.p 2 2 0, .p 7 7 0, .l 2, .l 7]), (.ret, [.p 2 2 0, .v 3, .l 2])]⟩)], [], []⟩
theorem vec_Join.ok (S : Sig) (a0 : Value) (s : St) : evG S Try.prog vec_Join.ctx vec_Join.an Try.f16 [a0] s = vec_Join.t S a0 s := by kernel_rfl
theorem vec_Join.cok : CtxOk Try.prog vec_Join.ctx := .cons vec_Right.sound vec_Right.can <| .nil
theorem vec_Join.draws : fnDraws vec_Join.an Try.f16 = true := by kernel_rfl
theorem vec_Join.can : callOk Try.prog 16 = true := by kernel_rfl
theorem vec_Join.sound : FnOk Try.prog 16 (.rd vec_Join.w) := FnOk.rd_of (evG_ok vec_Join.cok mixed (f := 16) (fn := Try.f16) (by kernel_rfl) vec_Join.draws) fun args s r h => by
  unfold vec_Join.w at h; split at h
  · rw [vec_Join.ok std]; exact h
  · simp at h

/-! ### leapfrog/leapfrogref01.Join: function 17 -/
def leapfrogref01x_Join.ctx : Ctx := [(18, .rd leapfrogref01x_Right.w), (44, .st leapfrogref01x_Bits.w), (45, .rd leapfrogref01x_Of.w)]
def leapfrogref01x_Join.l3 (S : Sig) (rec13 : List Value → St → Option Cut) (xs11 : List Value) (s12 : St) : Option Cut :=
  S.bd (lenL (xs11.getD 0 undef)) fun x14 => S.bd (bin .lss (xs11.getD 2 undef) x14) fun x15 => S.cnd x15 (S.bd (idx s12 2 (xs11.getD 0 undef) (xs11.getD 2 undef)) fun x16 => S.bd (lda s12 2 x16) fun x17 => S.bd (leapfrogref01x_Right.r x17 s12) fun x18 => S.bd (un .not x18) fun x19 => S.cnd x19 (S.bd (bld [(Go.Value.int Go.IntKind.i64 0), (Go.Value.int Go.IntKind.u64 0)] []) fun x20 => S.bd (stl (cellsA (xs11.getD 3 undef)) 0 2 x20) fun c21 => some (1, [(Go.Value.int Go.IntKind.i64 10), (Value.agg ⟨c21⟩)], s12)) (S.bd (bin .add (xs11.getD 2 undef) (Go.Value.int Go.IntKind.i64 1)) fun x22 => rec13 [(xs11.getD 0 undef), (xs11.getD 1 undef), x22, (Value.agg ⟨(cellsA (xs11.getD 3 undef))⟩)] s12)) (some (0, [(xs11.getD 0 undef), (xs11.getD 1 undef), (Value.agg ⟨(cellsA (xs11.getD 3 undef))⟩)], s12))

def leapfrogref01x_Join.l8 (S : Sig) (rec38 : List Value → St → Option Cut) (xs36 : List Value) (s37 : St) : Option Cut :=
  S.bd (lenL (xs36.getD 0 undef)) fun x39 => S.bd (bin .lss (xs36.getD 2 undef) x39) fun x40 => S.cnd x40 (S.bd (idx s37 2 (xs36.getD 0 undef) (xs36.getD 2 undef)) fun x41 => S.bd (lda s37 2 x41) fun x42 => S.bd (leapfrogref01x_Bits.v x42 s37) fun r43 => S.bd (app r43.2 1 8 (xs36.getD 1 undef) r43.1) fun r44 => S.bd (lenL r44.1) fun x45 => S.bd (bin .gtr x45 (Go.Value.int Go.IntKind.i64 32)) fun x46 => S.cnd x46 (S.bd (bld [(Go.Value.int Go.IntKind.i64 0), (Go.Value.int Go.IntKind.u64 0)] []) fun x47 => S.bd (stl (cellsA (xs36.getD 3 undef)) 0 2 x47) fun c48 => some (1, [(Go.Value.int Go.IntKind.i64 2), (Value.agg ⟨c48⟩)], r44.2)) (S.bd (bin .add (xs36.getD 2 undef) (Go.Value.int Go.IntKind.i64 1)) fun x49 => rec38 [(xs36.getD 0 undef), r44.1, x49, (Value.agg ⟨(cellsA (xs36.getD 3 undef))⟩)] r44.2)) (some (0, [(xs36.getD 1 undef), (Value.agg ⟨(cellsA (xs36.getD 3 undef))⟩)], s37))

def leapfrogref01x_Join.t (S : Sig) (a0 : Value) (s : St) : Option (Value × St) :=
  S.bd (bx (Go.Value.agg #[(Go.Value.int Go.IntKind.i64 0), (Go.Value.int Go.IntKind.u64 0)])) fun c1 => S.bd (S.it (leapfrogref01x_Join.l3 S) [a0, (Go.Value.slice Option.none 0 0), (Go.Value.int Go.IntKind.i64 0), (Value.agg ⟨c1⟩)] s) fun r23 => if r23.1 = 0 then (S.bd (S.it (leapfrogref01x_Join.l8 S) [(r23.2.1.getD 0 undef), (r23.2.1.getD 1 undef), (Go.Value.int Go.IntKind.i64 0), (Value.agg ⟨(cellsA (r23.2.1.getD 2 undef))⟩)] r23.2.2) fun r50 => if r50.1 = 0 then (S.bd (leapfrogref01x_Of.r (r50.2.1.getD 0 undef) r50.2.2) fun x52 => S.bd (stl (cellsA (r50.2.1.getD 1 undef)) 0 2 x52) fun c53 => S.bd (lal c53 0 2) fun x54 => some ((Value.tuple ⟨[x54, (Go.Value.int Go.IntKind.i64 0)]⟩), r50.2.2)) else (S.bd (lal (cellsA (r50.2.1.getD 1 undef)) 0 2) fun x51 => some ((Value.tuple ⟨[x51, (r50.2.1.getD 0 undef)]⟩), r50.2.2))) else (S.bd (lal (cellsA (r23.2.1.getD 1 undef)) 0 2) fun x24 => some ((Value.tuple ⟨[x24, (r23.2.1.getD 0 undef)]⟩), r23.2.2))
def leapfrogref01x_Join.v (a0 : Value) (s : St) : Option (Value × St) := leapfrogref01x_Join.t std a0 s
def leapfrogref01x_Join.w : List Value → St → Option (Value × St)
  | [a0], s => leapfrogref01x_Join.v a0 s
  | _, _ => none
def leapfrogref01x_Join.an : An := ⟨39, false, [2], [(3, ⟨[.v 0, .p 2 2 0, .v 4, .v 5, .l 2], [(.exit 0, [.v 0, .p 2 2 0, .v 4, .l 2]), (.ret, [.p 2 2 0, .v 3, .l 2])]⟩), (8, ⟨[.v 0, .p 2 2 0, .v 4, .v 6, .l 2], [(.exit 2, [.p 2 2 0, .v 4, .l 2]), (.ret, [.p 2 2 0, .v 3, .l 2])]⟩)], [], []⟩
theorem leapfrogref01x_Join.ok (S : Sig) (a0 : Value) (s : St) : evF S Try.prog leapfrogref01x_Join.ctx leapfrogref01x_Join.an Try.f17 [a0] s = leapfrogref01x_Join.t S a0 s := by kernel_rfl
theorem leapfrogref01x_Join.cok : CtxOk Try.prog leapfrogref01x_Join.ctx := .cons leapfrogref01x_Right.sound leapfrogref01x_Right.can <| .cons leapfrogref01x_Bits.sound leapfrogref01x_Bits.can <| .cons leapfrogref01x_Of.sound leapfrogref01x_Of.can <| .nil
theorem leapfrogref01x_Join.draws : fnDraws leapfrogref01x_Join.an Try.f17 = true := by kernel_rfl
theorem leapfrogref01x_Join.can : callOk Try.prog 17 = true := by kernel_rfl
theorem leapfrogref01x_Join.sound : FnOk Try.prog 17 (.st leapfrogref01x_Join.w) := FnOk.st_of (evF_ok leapfrogref01x_Join.cok mixed (f := 17) (fn := Try.f17) (by kernel_rfl) leapfrogref01x_Join.draws) fun args s r h => by
  unfold leapfrogref01x_Join.w at h; split at h
  · rw [leapfrogref01x_Join.ok std]; exact h
  · simp at h

-- NOT PRINTED 4 leapfrog/leapfroglaw01.VecJoins: a call of leapfrog/leapfroglaw01.alive, which is not printed
-- NOT PRINTED 5 leapfrog/leapfroglaw01.VecParted: a call of leapfrog/leapfroglaw01.alive, which is not printed
/-! ### leapfrog/vec.Mix: function 22 -/
def vec_Mix.ctx : Ctx := []
def vec_Mix.t (S : Sig) (a0 : Value) (s : St) : Option Value :=
  S.bd (bin .add a0 (Go.Value.int Go.IntKind.u64 11400714819323198485)) fun x1 => S.bd (bin .shr x1 (Go.Value.int Go.IntKind.u64 30)) fun x2 => S.bd (bin .xor x1 x2) fun x3 => S.bd (bin .mul x3 (Go.Value.int Go.IntKind.u64 13787848793156543929)) fun x4 => S.bd (bin .shr x4 (Go.Value.int Go.IntKind.u64 27)) fun x5 => S.bd (bin .xor x4 x5) fun x6 => S.bd (bin .mul x6 (Go.Value.int Go.IntKind.u64 10723151780598845931)) fun x7 => S.bd (bin .shr x7 (Go.Value.int Go.IntKind.u64 31)) fun x8 => S.bd (bin .xor x7 x8) fun x9 => some (x9)
def vec_Mix.r (a0 : Value) (s : St) : Option Value := vec_Mix.t std a0 s
def vec_Mix.w : List Value → St → Option Value
  | [a0], s => vec_Mix.r a0 s
  | _, _ => none
def vec_Mix.an : An := ⟨19, true, [], [], [], []⟩
theorem vec_Mix.ok (S : Sig) (a0 : Value) (s : St) : evG S Try.prog vec_Mix.ctx vec_Mix.an Try.f22 [a0] s = vec_Mix.t S a0 s := by kernel_rfl
theorem vec_Mix.cok : CtxOk Try.prog vec_Mix.ctx := .nil
theorem vec_Mix.draws : fnDraws vec_Mix.an Try.f22 = true := by kernel_rfl
theorem vec_Mix.can : callOk Try.prog 22 = true := by kernel_rfl
theorem vec_Mix.sound : FnOk Try.prog 22 (.rd vec_Mix.w) := FnOk.rd_of (evG_ok vec_Mix.cok mixed (f := 22) (fn := Try.f22) (by kernel_rfl) vec_Mix.draws) fun args s r h => by
  unfold vec_Mix.w at h; split at h
  · rw [vec_Mix.ok std]; exact h
  · simp at h

/-! ### leapfrog/vec.Draw: function 20 -/
def vec_Draw.ctx : Ctx := [(22, .rd vec_Mix.w)]
def vec_Draw.t (S : Sig) (a0 a1 : Value) (s : St) : Option Value :=
  S.bd (bx (Go.Value.agg #[(Go.Value.int Go.IntKind.i64 0), (Go.Value.int Go.IntKind.u64 0)])) fun c1 => S.bd (bin .lss a0 (Go.Value.int Go.IntKind.i64 0)) fun x2 => S.bd (S.gd x2 false (some a0)) fun x3 => S.bd (S.gd x2 false (bin .gtr x3 (Go.Value.int Go.IntKind.i64 32))) fun x4 => S.bd (pik x2 (Go.Value.bool Bool.true) x4) fun x5 => S.cnd x5 (S.bd (bld [(Go.Value.int Go.IntKind.i64 0), (Go.Value.int Go.IntKind.u64 0)] []) fun x6 => S.bd (stl c1 0 2 x6) fun c7 => S.bd (lal c7 0 2) fun x8 => some ((Value.tuple ⟨[x8, (Go.Value.int Go.IntKind.i64 5)]⟩))) (S.bd (vec_Mix.r a1 s) fun x9 => S.bd (bin .sub (Go.Value.int Go.IntKind.i64 64) a0) fun x10 => S.bd (cvi .u64 x10) fun x11 => S.bd (bin .shr x9 x11) fun x12 => S.bd (bld [(Go.Value.int Go.IntKind.i64 0), (Go.Value.int Go.IntKind.u64 0)] [(0, 1, a0), (1, 1, x12)]) fun x13 => S.bd (stl c1 0 2 x13) fun c14 => S.bd (lal c14 0 2) fun x15 => some ((Value.tuple ⟨[x15, (Go.Value.int Go.IntKind.i64 0)]⟩)))
def vec_Draw.r (a0 a1 : Value) (s : St) : Option Value := vec_Draw.t std a0 a1 s
def vec_Draw.w : List Value → St → Option Value
  | [a0, a1], s => vec_Draw.r a0 a1 s
  | _, _ => none
def vec_Draw.an : An := ⟨21, true, [4], [], [], []⟩
theorem vec_Draw.ok (S : Sig) (a0 a1 : Value) (s : St) : evG S Try.prog vec_Draw.ctx vec_Draw.an Try.f20 [a0, a1] s = vec_Draw.t S a0 a1 s := by kernel_rfl
theorem vec_Draw.cok : CtxOk Try.prog vec_Draw.ctx := .cons vec_Mix.sound vec_Mix.can <| .nil
theorem vec_Draw.draws : fnDraws vec_Draw.an Try.f20 = true := by kernel_rfl
theorem vec_Draw.can : callOk Try.prog 20 = true := by kernel_rfl
theorem vec_Draw.sound : FnOk Try.prog 20 (.rd vec_Draw.w) := FnOk.rd_of (evG_ok vec_Draw.cok mixed (f := 20) (fn := Try.f20) (by kernel_rfl) vec_Draw.draws) fun args s r h => by
  unfold vec_Draw.w at h; split at h
  · rw [vec_Draw.ok std]; exact h
  · simp at h

/-! ### leapfrog/leapfrogref01.Mix: function 23 -/
def leapfrogref01x_Mix.ctx : Ctx := [(46, .rd leapfrogref01x_Power.w)]
def leapfrogref01x_Mix.t (S : Sig) (a0 : Value) (s : St) : Option Value :=
  S.bd (bin .add a0 (Go.Value.int Go.IntKind.u64 11400714819323198485)) fun x1 => S.bd (leapfrogref01x_Power.r (Go.Value.int Go.IntKind.i64 30) s) fun x2 => S.bd (bin .quo x1 x2) fun x3 => S.bd (bin .xor x1 x3) fun x4 => S.bd (bin .mul x4 (Go.Value.int Go.IntKind.u64 13787848793156543929)) fun x5 => S.bd (leapfrogref01x_Power.r (Go.Value.int Go.IntKind.i64 27) s) fun x6 => S.bd (bin .quo x5 x6) fun x7 => S.bd (bin .xor x5 x7) fun x8 => S.bd (bin .mul x8 (Go.Value.int Go.IntKind.u64 10723151780598845931)) fun x9 => S.bd (leapfrogref01x_Power.r (Go.Value.int Go.IntKind.i64 31) s) fun x10 => S.bd (bin .quo x9 x10) fun x11 => S.bd (bin .xor x9 x11) fun x12 => some (x12)
def leapfrogref01x_Mix.r (a0 : Value) (s : St) : Option Value := leapfrogref01x_Mix.t std a0 s
def leapfrogref01x_Mix.w : List Value → St → Option Value
  | [a0], s => leapfrogref01x_Mix.r a0 s
  | _, _ => none
def leapfrogref01x_Mix.an : An := ⟨22, true, [], [], [], []⟩
theorem leapfrogref01x_Mix.ok (S : Sig) (a0 : Value) (s : St) : evG S Try.prog leapfrogref01x_Mix.ctx leapfrogref01x_Mix.an Try.f23 [a0] s = leapfrogref01x_Mix.t S a0 s := by kernel_rfl
theorem leapfrogref01x_Mix.cok : CtxOk Try.prog leapfrogref01x_Mix.ctx := .cons leapfrogref01x_Power.sound leapfrogref01x_Power.can <| .nil
theorem leapfrogref01x_Mix.draws : fnDraws leapfrogref01x_Mix.an Try.f23 = true := by kernel_rfl
theorem leapfrogref01x_Mix.can : callOk Try.prog 23 = true := by kernel_rfl
theorem leapfrogref01x_Mix.sound : FnOk Try.prog 23 (.rd leapfrogref01x_Mix.w) := FnOk.rd_of (evG_ok leapfrogref01x_Mix.cok mixed (f := 23) (fn := Try.f23) (by kernel_rfl) leapfrogref01x_Mix.draws) fun args s r h => by
  unfold leapfrogref01x_Mix.w at h; split at h
  · rw [leapfrogref01x_Mix.ok std]; exact h
  · simp at h

/-! ### leapfrog/leapfrogref01.Draw: function 21 -/
def leapfrogref01x_Draw.ctx : Ctx := [(23, .rd leapfrogref01x_Mix.w), (46, .rd leapfrogref01x_Power.w), (45, .rd leapfrogref01x_Of.w)]
def leapfrogref01x_Draw.l6 (S : Sig) (rec20 : List Value → St → Option Cut) (xs18 : List Value) (s19 : St) : Option Cut :=
  S.bd (bin .lss (xs18.getD 3 undef) (xs18.getD 0 undef)) fun x21 => S.cnd x21 (S.bd (leapfrogref01x_Power.r (Go.Value.int Go.IntKind.i64 63) s19) fun x22 => S.bd (bin .quo (xs18.getD 1 undef) x22) fun x23 => S.bd (cvi .i64 x23) fun x24 => S.bd (S.bd (bls 1 (List.replicate 1 [(Go.Value.int Go.IntKind.i64 0)]) [(0, x24)]) fun rows => als s19 1 1 rows) fun r25 => S.bd (app r25.2 1 8 (xs18.getD 2 undef) r25.1) fun r26 => S.bd (bin .mul (xs18.getD 1 undef) (Go.Value.int Go.IntKind.u64 2)) fun x27 => S.bd (bin .add (xs18.getD 3 undef) (Go.Value.int Go.IntKind.i64 1)) fun x28 => rec20 [(xs18.getD 0 undef), x27, r26.1, x28, (Value.agg ⟨(cellsA (xs18.getD 4 undef))⟩)] r26.2) (some (0, [(xs18.getD 2 undef), (Value.agg ⟨(cellsA (xs18.getD 4 undef))⟩)], s19))

def leapfrogref01x_Draw.t (S : Sig) (a0 a1 : Value) (s : St) : Option (Value × St) :=
  S.bd (bx (Go.Value.agg #[(Go.Value.int Go.IntKind.i64 0), (Go.Value.int Go.IntKind.u64 0)])) fun c1 => S.bd (bin .lss a0 (Go.Value.int Go.IntKind.i64 0)) fun x2 => S.bd (S.gd x2 false (some a0)) fun x3 => S.bd (S.gd x2 false (bin .gtr x3 (Go.Value.int Go.IntKind.i64 32))) fun x4 => S.bd (pik x2 (Go.Value.bool Bool.true) x4) fun x5 => S.cnd x5 (S.bd (bld [(Go.Value.int Go.IntKind.i64 0), (Go.Value.int Go.IntKind.u64 0)] []) fun x6 => S.bd (stl c1 0 2 x6) fun c7 => S.bd (lal c7 0 2) fun x8 => some ((Value.tuple ⟨[x8, (Go.Value.int Go.IntKind.i64 5)]⟩), s)) (S.bd (leapfrogref01x_Mix.r a1 s) fun x9 => S.bd (S.it (leapfrogref01x_Draw.l6 S) [a0, x9, (Go.Value.slice Option.none 0 0), (Go.Value.int Go.IntKind.i64 0), (Value.agg ⟨c1⟩)] s) fun r29 => S.bd (leapfrogref01x_Of.r (r29.2.1.getD 0 undef) r29.2.2) fun x30 => S.bd (stl (cellsA (r29.2.1.getD 1 undef)) 0 2 x30) fun c31 => S.bd (lal c31 0 2) fun x32 => some ((Value.tuple ⟨[x32, (Go.Value.int Go.IntKind.i64 0)]⟩), r29.2.2))
def leapfrogref01x_Draw.v (a0 a1 : Value) (s : St) : Option (Value × St) := leapfrogref01x_Draw.t std a0 a1 s
def leapfrogref01x_Draw.w : List Value → St → Option (Value × St)
  | [a0, a1], s => leapfrogref01x_Draw.v a0 a1 s
  | _, _ => none
def leapfrogref01x_Draw.an : An := ⟨33, false, [4], [(6, ⟨[.v 0, .v 1, .p 4 4 0, .v 6, .v 7, .l 4], [(.exit 0, [.p 4 4 0, .v 6, .l 4])]⟩)], [], []⟩
theorem leapfrogref01x_Draw.ok (S : Sig) (a0 a1 : Value) (s : St) : evF S Try.prog leapfrogref01x_Draw.ctx leapfrogref01x_Draw.an Try.f21 [a0, a1] s = leapfrogref01x_Draw.t S a0 a1 s := by kernel_rfl
theorem leapfrogref01x_Draw.cok : CtxOk Try.prog leapfrogref01x_Draw.ctx := .cons leapfrogref01x_Mix.sound leapfrogref01x_Mix.can <| .cons leapfrogref01x_Power.sound leapfrogref01x_Power.can <| .cons leapfrogref01x_Of.sound leapfrogref01x_Of.can <| .nil
theorem leapfrogref01x_Draw.draws : fnDraws leapfrogref01x_Draw.an Try.f21 = true := by kernel_rfl
theorem leapfrogref01x_Draw.can : callOk Try.prog 21 = true := by kernel_rfl
theorem leapfrogref01x_Draw.sound : FnOk Try.prog 21 (.st leapfrogref01x_Draw.w) := FnOk.st_of (evF_ok leapfrogref01x_Draw.cok mixed (f := 21) (fn := Try.f21) (by kernel_rfl) leapfrogref01x_Draw.draws) fun args s r h => by
  unfold leapfrogref01x_Draw.w at h; split at h
  · rw [leapfrogref01x_Draw.ok std]; exact h
  · simp at h

/-! ### leapfrog/leapfrogref01.Draw: function 21, as a reading -/
def leapfrogref01x_DrawQ.r (a0 a1 : Value) (s : St) : Option Value := frzR (fun s => leapfrogref01x_Draw.v a0 a1 s) s
def leapfrogref01x_DrawQ.w : List Value → St → Option Value := fun args s => frzR (leapfrogref01x_Draw.w args) s
theorem leapfrogref01x_DrawQ.can : callOk Try.prog 21 = true := leapfrogref01x_Draw.can
theorem leapfrogref01x_DrawQ.sound : FnOk Try.prog 21 (.rd leapfrogref01x_DrawQ.w) := FnOk.frozen leapfrogref01x_Draw.sound

/-! ### leapfrog/leapfrogref01.Prefixes: function 24 -/
def leapfrogref01x_Prefixes.ctx : Ctx := [(18, .rd leapfrogref01x_Right.w), (44, .st leapfrogref01x_Bits.w), (45, .rd leapfrogref01x_Of.w)]
def leapfrogref01x_Prefixes.l6 (S : Sig) (rec16 : List Value → St → Option Cut) (xs14 : List Value) (s15 : St) : Option Cut :=
  S.bd (lenL (xs14.getD 1 undef)) fun x17 => S.bd (bin .leq (xs14.getD 2 undef) x17) fun x18 => S.cnd x18 (S.bd (slc s15 1 (xs14.getD 1 undef) none (some (xs14.getD 2 undef)) none) fun x19 => S.bd (leapfrogref01x_Of.r x19 s15) fun x20 => S.bd (S.bd (bls 2 (List.replicate 1 [(Go.Value.int Go.IntKind.i64 0), (Go.Value.int Go.IntKind.u64 0)]) [(0, x20)]) fun rows => als s15 2 1 rows) fun r21 => S.bd (app r21.2 2 16 (xs14.getD 0 undef) r21.1) fun r22 => S.bd (bin .add (xs14.getD 2 undef) (Go.Value.int Go.IntKind.i64 1)) fun x23 => rec16 [r22.1, (xs14.getD 1 undef), x23] r22.2) (some (0, [(xs14.getD 0 undef)], s15))

def leapfrogref01x_Prefixes.t (S : Sig) (a0 : Value) (s : St) : Option (Value × St) :=
  S.bd (bx a0) fun c1 => S.bd (lal c1 0 2) fun x2 => S.bd (leapfrogref01x_Right.r x2 s) fun x3 => S.bd (un .not x3) fun x4 => S.cnd x4 (some ((Go.Value.slice Option.none 0 0), s)) (S.bd (lal c1 0 2) fun x5 => S.bd (leapfrogref01x_Bits.v x5 s) fun r6 => S.bd (S.it (leapfrogref01x_Prefixes.l6 S) [(Go.Value.slice Option.none 0 0), r6.1, (Go.Value.int Go.IntKind.i64 0)] r6.2) fun r24 => some ((r24.2.1.getD 0 undef), r24.2.2))
def leapfrogref01x_Prefixes.v (a0 : Value) (s : St) : Option (Value × St) := leapfrogref01x_Prefixes.t std a0 s
def leapfrogref01x_Prefixes.w : List Value → St → Option (Value × St)
  | [a0], s => leapfrogref01x_Prefixes.v a0 s
  | _, _ => none
def leapfrogref01x_Prefixes.an : An := ⟨25, false, [1], [(6, ⟨[.v 3, .v 4, .v 5], [(.exit 0, [.v 3])]⟩)], [], []⟩
theorem leapfrogref01x_Prefixes.ok (S : Sig) (a0 : Value) (s : St) : evF S Try.prog leapfrogref01x_Prefixes.ctx leapfrogref01x_Prefixes.an Try.f24 [a0] s = leapfrogref01x_Prefixes.t S a0 s := by kernel_rfl
theorem leapfrogref01x_Prefixes.cok : CtxOk Try.prog leapfrogref01x_Prefixes.ctx := .cons leapfrogref01x_Right.sound leapfrogref01x_Right.can <| .cons leapfrogref01x_Bits.sound leapfrogref01x_Bits.can <| .cons leapfrogref01x_Of.sound leapfrogref01x_Of.can <| .nil
theorem leapfrogref01x_Prefixes.draws : fnDraws leapfrogref01x_Prefixes.an Try.f24 = true := by kernel_rfl
theorem leapfrogref01x_Prefixes.can : callOk Try.prog 24 = true := by kernel_rfl
theorem leapfrogref01x_Prefixes.sound : FnOk Try.prog 24 (.st leapfrogref01x_Prefixes.w) := FnOk.st_of (evF_ok leapfrogref01x_Prefixes.cok mixed (f := 24) (fn := Try.f24) (by kernel_rfl) leapfrogref01x_Prefixes.draws) fun args s r h => by
  unfold leapfrogref01x_Prefixes.w at h; split at h
  · rw [leapfrogref01x_Prefixes.ok std]; exact h
  · simp at h

/-! ### leapfrog/vec.Prefixes: function 25 -/
def vec_Prefixes.ctx : Ctx := []
def vec_Prefixes.t (S : Sig) (a0 : Value) (s : St) : Option (Value × St) :=
  S.bd (alv s a0) fun r1 => some ((Value.func (.func 48) ⟨[]⟩ ⟨[r1.1]⟩), r1.2)
def vec_Prefixes.v (a0 : Value) (s : St) : Option (Value × St) := vec_Prefixes.t std a0 s
def vec_Prefixes.w : List Value → St → Option (Value × St)
  | [a0], s => vec_Prefixes.v a0 s
  | _, _ => none
def vec_Prefixes.an : An := ⟨4, false, [], [], [], []⟩
theorem vec_Prefixes.ok (S : Sig) (a0 : Value) (s : St) : evF S Try.prog vec_Prefixes.ctx vec_Prefixes.an Try.f25 [a0] s = vec_Prefixes.t S a0 s := by kernel_rfl
theorem vec_Prefixes.cok : CtxOk Try.prog vec_Prefixes.ctx := .nil
theorem vec_Prefixes.draws : fnDraws vec_Prefixes.an Try.f25 = true := by kernel_rfl
theorem vec_Prefixes.can : callOk Try.prog 25 = true := by kernel_rfl
theorem vec_Prefixes.sound : FnOk Try.prog 25 (.st vec_Prefixes.w) := FnOk.st_of (evF_ok vec_Prefixes.cok mixed (f := 25) (fn := Try.f25) (by kernel_rfl) vec_Prefixes.draws) fun args s r h => by
  unfold vec_Prefixes.w at h; split at h
  · rw [vec_Prefixes.ok std]; exact h
  · simp at h

-- NOT PRINTED 6 leapfrog/leapfroglaw01.VecDraws: a call of leapfrog/leapfroglaw01.alive, which is not printed
/-! ### leapfrog/vec.at: function 49 -/
def vec_at.ctx : Ctx := [(35, .rd vec_Right.w)]
def vec_at.t (S : Sig) (a0 a1 : Value) (s : St) : Option Value :=
  S.bd (bx a0) fun c1 => S.bd (lal c1 0 2) fun x2 => S.bd (vec_Right.r x2 s) fun x3 => S.bd (eqb [1] false true x3 (Go.Value.int Go.IntKind.i64 0)) fun x4 => S.cnd x4 (some (x3)) (S.bd (bin .lss a1 (Go.Value.int Go.IntKind.i64 0)) fun x5 => S.bd (S.gd x5 false (some a1)) fun x6 => S.bd (S.gd x5 false (lcl c1 0)) fun x7 => S.bd (S.gd x5 false (bin .geq x6 x7)) fun x8 => S.bd (pik x5 (Go.Value.bool Bool.true) x8) fun x9 => S.cnd x9 (some ((Go.Value.int Go.IntKind.i64 5))) (some ((Go.Value.int Go.IntKind.i64 0))))
def vec_at.r (a0 a1 : Value) (s : St) : Option Value := vec_at.t std a0 a1 s
def vec_at.w : List Value → St → Option Value
  | [a0, a1], s => vec_at.r a0 a1 s
  | _, _ => none
def vec_at.an : An := ⟨19, true, [2], [], [], []⟩
theorem vec_at.ok (S : Sig) (a0 a1 : Value) (s : St) : evG S Try.prog vec_at.ctx vec_at.an Try.f49 [a0, a1] s = vec_at.t S a0 a1 s := by kernel_rfl
theorem vec_at.cok : CtxOk Try.prog vec_at.ctx := .cons vec_Right.sound vec_Right.can <| .nil
theorem vec_at.draws : fnDraws vec_at.an Try.f49 = true := by kernel_rfl
theorem vec_at.can : callOk Try.prog 49 = true := by kernel_rfl
theorem vec_at.sound : FnOk Try.prog 49 (.rd vec_at.w) := FnOk.rd_of (evG_ok vec_at.cok mixed (f := 49) (fn := Try.f49) (by kernel_rfl) vec_at.draws) fun args s r h => by
  unfold vec_at.w at h; split at h
  · rw [vec_at.ok std]; exact h
  · simp at h

/-! ### leapfrog/vec.Bit: function 27 -/
def vec_Bit.ctx : Ctx := [(49, .rd vec_at.w), (42, .rd vec_bit.w)]
def vec_Bit.t (S : Sig) (a0 a1 : Value) (s : St) : Option Value :=
  S.bd (bx a0) fun c1 => S.bd (lal c1 0 2) fun x2 => S.bd (vec_at.r x2 a1 s) fun x3 => S.bd (eqb [1] false true x3 (Go.Value.int Go.IntKind.i64 0)) fun x4 => S.cnd x4 (some ((Value.tuple ⟨[(Go.Value.int Go.IntKind.i64 0), x3]⟩))) (S.bd (lal c1 0 2) fun x5 => S.bd (vec_bit.r x5 a1 s) fun x6 => some ((Value.tuple ⟨[x6, (Go.Value.int Go.IntKind.i64 0)]⟩)))
def vec_Bit.r (a0 a1 : Value) (s : St) : Option Value := vec_Bit.t std a0 a1 s
def vec_Bit.w : List Value → St → Option Value
  | [a0, a1], s => vec_Bit.r a0 a1 s
  | _, _ => none
def vec_Bit.an : An := ⟨16, true, [2], [], [], []⟩
theorem vec_Bit.ok (S : Sig) (a0 a1 : Value) (s : St) : evG S Try.prog vec_Bit.ctx vec_Bit.an Try.f27 [a0, a1] s = vec_Bit.t S a0 a1 s := by kernel_rfl
theorem vec_Bit.cok : CtxOk Try.prog vec_Bit.ctx := .cons vec_at.sound vec_at.can <| .cons vec_bit.sound vec_bit.can <| .nil
theorem vec_Bit.draws : fnDraws vec_Bit.an Try.f27 = true := by kernel_rfl
theorem vec_Bit.can : callOk Try.prog 27 = true := by kernel_rfl
theorem vec_Bit.sound : FnOk Try.prog 27 (.rd vec_Bit.w) := FnOk.rd_of (evG_ok vec_Bit.cok mixed (f := 27) (fn := Try.f27) (by kernel_rfl) vec_Bit.draws) fun args s r h => by
  unfold vec_Bit.w at h; split at h
  · rw [vec_Bit.ok std]; exact h
  · simp at h

/-! ### leapfrog/leapfrogref01.Bit: function 28 -/
def leapfrogref01x_Bit.ctx : Ctx := [(18, .rd leapfrogref01x_Right.w), (44, .st leapfrogref01x_Bits.w)]
def leapfrogref01x_Bit.t (S : Sig) (a0 a1 : Value) (s : St) : Option (Value × St) :=
  S.bd (bx a0) fun c1 => S.bd (lal c1 0 2) fun x2 => S.bd (leapfrogref01x_Right.r x2 s) fun x3 => S.bd (un .not x3) fun x4 => S.cnd x4 (some ((Value.tuple ⟨[(Go.Value.int Go.IntKind.i64 0), (Go.Value.int Go.IntKind.i64 10)]⟩), s)) (S.bd (bin .lss a1 (Go.Value.int Go.IntKind.i64 0)) fun x5 => S.bd (S.gd x5 false (some a1)) fun x6 => S.bd (S.gd x5 false (lcl c1 0)) fun x7 => S.bd (S.gd x5 false (bin .geq x6 x7)) fun x8 => S.bd (pik x5 (Go.Value.bool Bool.true) x8) fun x9 => S.cnd x9 (some ((Value.tuple ⟨[(Go.Value.int Go.IntKind.i64 0), (Go.Value.int Go.IntKind.i64 5)]⟩), s)) (S.bd (lal c1 0 2) fun x10 => S.bd (leapfrogref01x_Bits.v x10 s) fun r11 => S.bd (idx r11.2 1 r11.1 a1) fun x12 => S.bd (ldc r11.2 x12) fun x13 => some ((Value.tuple ⟨[x13, (Go.Value.int Go.IntKind.i64 0)]⟩), r11.2)))
def leapfrogref01x_Bit.v (a0 a1 : Value) (s : St) : Option (Value × St) := leapfrogref01x_Bit.t std a0 a1 s
def leapfrogref01x_Bit.w : List Value → St → Option (Value × St)
  | [a0, a1], s => leapfrogref01x_Bit.v a0 a1 s
  | _, _ => none
def leapfrogref01x_Bit.an : An := ⟨22, false, [2], [], [], []⟩
theorem leapfrogref01x_Bit.ok (S : Sig) (a0 a1 : Value) (s : St) : evF S Try.prog leapfrogref01x_Bit.ctx leapfrogref01x_Bit.an Try.f28 [a0, a1] s = leapfrogref01x_Bit.t S a0 a1 s := by kernel_rfl
theorem leapfrogref01x_Bit.cok : CtxOk Try.prog leapfrogref01x_Bit.ctx := .cons leapfrogref01x_Right.sound leapfrogref01x_Right.can <| .cons leapfrogref01x_Bits.sound leapfrogref01x_Bits.can <| .nil
theorem leapfrogref01x_Bit.draws : fnDraws leapfrogref01x_Bit.an Try.f28 = true := by kernel_rfl
theorem leapfrogref01x_Bit.can : callOk Try.prog 28 = true := by kernel_rfl
theorem leapfrogref01x_Bit.sound : FnOk Try.prog 28 (.st leapfrogref01x_Bit.w) := FnOk.st_of (evF_ok leapfrogref01x_Bit.cok mixed (f := 28) (fn := Try.f28) (by kernel_rfl) leapfrogref01x_Bit.draws) fun args s r h => by
  unfold leapfrogref01x_Bit.w at h; split at h
  · rw [leapfrogref01x_Bit.ok std]; exact h
  · simp at h

/-! ### leapfrog/leapfrogref01.Bit: function 28, as a reading -/
def leapfrogref01x_BitQ.r (a0 a1 : Value) (s : St) : Option Value := frzR (fun s => leapfrogref01x_Bit.v a0 a1 s) s
def leapfrogref01x_BitQ.w : List Value → St → Option Value := fun args s => frzR (leapfrogref01x_Bit.w args) s
theorem leapfrogref01x_BitQ.can : callOk Try.prog 28 = true := leapfrogref01x_Bit.can
theorem leapfrogref01x_BitQ.sound : FnOk Try.prog 28 (.rd leapfrogref01x_BitQ.w) := FnOk.frozen leapfrogref01x_Bit.sound

/-! ### leapfrog/vec.upTo: function 50 -/
def vec_upTo.ctx : Ctx := [(35, .rd vec_Right.w)]
def vec_upTo.t (S : Sig) (a0 a1 : Value) (s : St) : Option Value :=
  S.bd (bx a0) fun c1 => S.bd (lal c1 0 2) fun x2 => S.bd (vec_Right.r x2 s) fun x3 => S.bd (eqb [1] false true x3 (Go.Value.int Go.IntKind.i64 0)) fun x4 => S.cnd x4 (some (x3)) (S.bd (bin .lss a1 (Go.Value.int Go.IntKind.i64 0)) fun x5 => S.bd (S.gd x5 false (some a1)) fun x6 => S.bd (S.gd x5 false (lcl c1 0)) fun x7 => S.bd (S.gd x5 false (bin .gtr x6 x7)) fun x8 => S.bd (pik x5 (Go.Value.bool Bool.true) x8) fun x9 => S.cnd x9 (some ((Go.Value.int Go.IntKind.i64 5))) (some ((Go.Value.int Go.IntKind.i64 0))))
def vec_upTo.r (a0 a1 : Value) (s : St) : Option Value := vec_upTo.t std a0 a1 s
def vec_upTo.w : List Value → St → Option Value
  | [a0, a1], s => vec_upTo.r a0 a1 s
  | _, _ => none
def vec_upTo.an : An := ⟨19, true, [2], [], [], []⟩
theorem vec_upTo.ok (S : Sig) (a0 a1 : Value) (s : St) : evG S Try.prog vec_upTo.ctx vec_upTo.an Try.f50 [a0, a1] s = vec_upTo.t S a0 a1 s := by kernel_rfl
theorem vec_upTo.cok : CtxOk Try.prog vec_upTo.ctx := .cons vec_Right.sound vec_Right.can <| .nil
theorem vec_upTo.draws : fnDraws vec_upTo.an Try.f50 = true := by kernel_rfl
theorem vec_upTo.can : callOk Try.prog 50 = true := by kernel_rfl
theorem vec_upTo.sound : FnOk Try.prog 50 (.rd vec_upTo.w) := FnOk.rd_of (evG_ok vec_upTo.cok mixed (f := 50) (fn := Try.f50) (by kernel_rfl) vec_upTo.draws) fun args s r h => by
  unfold vec_upTo.w at h; split at h
  · rw [vec_upTo.ok std]; exact h
  · simp at h

/-! ### leapfrog/vec.Prefix: function 29 -/
def vec_Prefix.ctx : Ctx := [(50, .rd vec_upTo.w), (47, .rd vec_prefix.w)]
def vec_Prefix.t (S : Sig) (a0 a1 : Value) (s : St) : Option Value :=
  S.bd (bx a0) fun c1 => S.bd (bx (Go.Value.agg #[(Go.Value.int Go.IntKind.i64 0), (Go.Value.int Go.IntKind.u64 0)])) fun c2 => S.bd (lal c1 0 2) fun x3 => S.bd (vec_upTo.r x3 a1 s) fun x4 => S.bd (eqb [1] false true x4 (Go.Value.int Go.IntKind.i64 0)) fun x5 => S.cnd x5 (S.bd (bld [(Go.Value.int Go.IntKind.i64 0), (Go.Value.int Go.IntKind.u64 0)] []) fun x6 => S.bd (stl c2 0 2 x6) fun c7 => S.bd (lal c7 0 2) fun x8 => some ((Value.tuple ⟨[x8, x4]⟩))) (S.bd (lal c1 0 2) fun x9 => S.bd (vec_prefix.r x9 a1 s) fun x10 => S.bd (stl c2 0 2 x10) fun c11 => S.bd (lal c11 0 2) fun x12 => some ((Value.tuple ⟨[x12, (Go.Value.int Go.IntKind.i64 0)]⟩)))
def vec_Prefix.r (a0 a1 : Value) (s : St) : Option Value := vec_Prefix.t std a0 a1 s
def vec_Prefix.w : List Value → St → Option Value
  | [a0, a1], s => vec_Prefix.r a0 a1 s
  | _, _ => none
def vec_Prefix.an : An := ⟨17, true, [2, 4], [], [], []⟩
theorem vec_Prefix.ok (S : Sig) (a0 a1 : Value) (s : St) : evG S Try.prog vec_Prefix.ctx vec_Prefix.an Try.f29 [a0, a1] s = vec_Prefix.t S a0 a1 s := by kernel_rfl
theorem vec_Prefix.cok : CtxOk Try.prog vec_Prefix.ctx := .cons vec_upTo.sound vec_upTo.can <| .cons vec_prefix.sound vec_prefix.can <| .nil
theorem vec_Prefix.draws : fnDraws vec_Prefix.an Try.f29 = true := by kernel_rfl
theorem vec_Prefix.can : callOk Try.prog 29 = true := by kernel_rfl
theorem vec_Prefix.sound : FnOk Try.prog 29 (.rd vec_Prefix.w) := FnOk.rd_of (evG_ok vec_Prefix.cok mixed (f := 29) (fn := Try.f29) (by kernel_rfl) vec_Prefix.draws) fun args s r h => by
  unfold vec_Prefix.w at h; split at h
  · rw [vec_Prefix.ok std]; exact h
  · simp at h

/-! ### leapfrog/leapfrogref01.Prefix: function 30 -/
def leapfrogref01x_Prefix.ctx : Ctx := [(18, .rd leapfrogref01x_Right.w), (44, .st leapfrogref01x_Bits.w), (45, .rd leapfrogref01x_Of.w)]
def leapfrogref01x_Prefix.t (S : Sig) (a0 a1 : Value) (s : St) : Option (Value × St) :=
  S.bd (bx a0) fun c1 => S.bd (bx (Go.Value.agg #[(Go.Value.int Go.IntKind.i64 0), (Go.Value.int Go.IntKind.u64 0)])) fun c2 => S.bd (lal c1 0 2) fun x3 => S.bd (leapfrogref01x_Right.r x3 s) fun x4 => S.bd (un .not x4) fun x5 => S.cnd x5 (S.bd (bld [(Go.Value.int Go.IntKind.i64 0), (Go.Value.int Go.IntKind.u64 0)] []) fun x6 => S.bd (stl c2 0 2 x6) fun c7 => S.bd (lal c7 0 2) fun x8 => some ((Value.tuple ⟨[x8, (Go.Value.int Go.IntKind.i64 10)]⟩), s)) (S.bd (bin .lss a1 (Go.Value.int Go.IntKind.i64 0)) fun x9 => S.bd (S.gd x9 false (some a1)) fun x10 => S.bd (S.gd x9 false (lcl c1 0)) fun x11 => S.bd (S.gd x9 false (bin .gtr x10 x11)) fun x12 => S.bd (pik x9 (Go.Value.bool Bool.true) x12) fun x13 => S.cnd x13 (S.bd (bld [(Go.Value.int Go.IntKind.i64 0), (Go.Value.int Go.IntKind.u64 0)] []) fun x14 => S.bd (stl c2 0 2 x14) fun c15 => S.bd (lal c15 0 2) fun x16 => some ((Value.tuple ⟨[x16, (Go.Value.int Go.IntKind.i64 5)]⟩), s)) (S.bd (lal c1 0 2) fun x17 => S.bd (leapfrogref01x_Bits.v x17 s) fun r18 => S.bd (slc r18.2 1 r18.1 none (some a1) none) fun x19 => S.bd (leapfrogref01x_Of.r x19 r18.2) fun x20 => S.bd (stl c2 0 2 x20) fun c21 => S.bd (lal c21 0 2) fun x22 => some ((Value.tuple ⟨[x22, (Go.Value.int Go.IntKind.i64 0)]⟩), r18.2)))
def leapfrogref01x_Prefix.v (a0 a1 : Value) (s : St) : Option (Value × St) := leapfrogref01x_Prefix.t std a0 a1 s
def leapfrogref01x_Prefix.w : List Value → St → Option (Value × St)
  | [a0, a1], s => leapfrogref01x_Prefix.v a0 a1 s
  | _, _ => none
def leapfrogref01x_Prefix.an : An := ⟨24, false, [2, 4], [], [], []⟩
theorem leapfrogref01x_Prefix.ok (S : Sig) (a0 a1 : Value) (s : St) : evF S Try.prog leapfrogref01x_Prefix.ctx leapfrogref01x_Prefix.an Try.f30 [a0, a1] s = leapfrogref01x_Prefix.t S a0 a1 s := by kernel_rfl
theorem leapfrogref01x_Prefix.cok : CtxOk Try.prog leapfrogref01x_Prefix.ctx := .cons leapfrogref01x_Right.sound leapfrogref01x_Right.can <| .cons leapfrogref01x_Bits.sound leapfrogref01x_Bits.can <| .cons leapfrogref01x_Of.sound leapfrogref01x_Of.can <| .nil
theorem leapfrogref01x_Prefix.draws : fnDraws leapfrogref01x_Prefix.an Try.f30 = true := by kernel_rfl
theorem leapfrogref01x_Prefix.can : callOk Try.prog 30 = true := by kernel_rfl
theorem leapfrogref01x_Prefix.sound : FnOk Try.prog 30 (.st leapfrogref01x_Prefix.w) := FnOk.st_of (evF_ok leapfrogref01x_Prefix.cok mixed (f := 30) (fn := Try.f30) (by kernel_rfl) leapfrogref01x_Prefix.draws) fun args s r h => by
  unfold leapfrogref01x_Prefix.w at h; split at h
  · rw [leapfrogref01x_Prefix.ok std]; exact h
  · simp at h

/-! ### leapfrog/leapfrogref01.Prefix: function 30, as a reading -/
def leapfrogref01x_PrefixQ.r (a0 a1 : Value) (s : St) : Option Value := frzR (fun s => leapfrogref01x_Prefix.v a0 a1 s) s
def leapfrogref01x_PrefixQ.w : List Value → St → Option Value := fun args s => frzR (leapfrogref01x_Prefix.w args) s
theorem leapfrogref01x_PrefixQ.can : callOk Try.prog 30 = true := leapfrogref01x_Prefix.can
theorem leapfrogref01x_PrefixQ.sound : FnOk Try.prog 30 (.rd leapfrogref01x_PrefixQ.w) := FnOk.frozen leapfrogref01x_Prefix.sound

/-! ### leapfrog/vec.Rest: function 31 -/
def vec_Rest.ctx : Ctx := [(50, .rd vec_upTo.w), (51, .rd vec_low.w)]
def vec_Rest.t (S : Sig) (a0 a1 : Value) (s : St) : Option Value :=
  S.bd (bx a0) fun c1 => S.bd (bx (Go.Value.agg #[(Go.Value.int Go.IntKind.i64 0), (Go.Value.int Go.IntKind.u64 0)])) fun c2 => S.bd (lal c1 0 2) fun x3 => S.bd (vec_upTo.r x3 a1 s) fun x4 => S.bd (eqb [1] false true x4 (Go.Value.int Go.IntKind.i64 0)) fun x5 => S.cnd x5 (S.bd (bld [(Go.Value.int Go.IntKind.i64 0), (Go.Value.int Go.IntKind.u64 0)] []) fun x6 => S.bd (stl c2 0 2 x6) fun c7 => S.bd (lal c7 0 2) fun x8 => some ((Value.tuple ⟨[x8, x4]⟩))) (S.bd (lcl c1 0) fun x9 => S.bd (bin .sub x9 a1) fun x10 => S.bd (lcl c1 1) fun x11 => S.bd (lcl c1 0) fun x12 => S.bd (bin .sub x12 a1) fun x13 => S.bd (vec_low.r x13 s) fun x14 => S.bd (bin .and x11 x14) fun x15 => S.bd (bld [(Go.Value.int Go.IntKind.i64 0), (Go.Value.int Go.IntKind.u64 0)] [(0, 1, x10), (1, 1, x15)]) fun x16 => S.bd (stl c2 0 2 x16) fun c17 => S.bd (lal c17 0 2) fun x18 => some ((Value.tuple ⟨[x18, (Go.Value.int Go.IntKind.i64 0)]⟩)))
def vec_Rest.r (a0 a1 : Value) (s : St) : Option Value := vec_Rest.t std a0 a1 s
def vec_Rest.w : List Value → St → Option Value
  | [a0, a1], s => vec_Rest.r a0 a1 s
  | _, _ => none
def vec_Rest.an : An := ⟨27, true, [2, 4], [], [], [(4, [(0, 0, [], []), (1, 17, [], []), (2, 0, [], []), (3, 0, [], []), (4, 0, [], []), (5, 17, [], []), (6, 0, [], []), (7, 17, [], []), (8, 0, [], []), (9, 0, [], []), (10, 3, [], []), (11, 0, [], []), (12, 0, [], []), (13, 37, [], []), (14, 0, [], [])])]⟩
theorem vec_Rest.ok (S : Sig) (a0 a1 : Value) (s : St) : evG S Try.prog vec_Rest.ctx vec_Rest.an Try.f31 [a0, a1] s = vec_Rest.t S a0 a1 s := by kernel_rfl
theorem vec_Rest.cok : CtxOk Try.prog vec_Rest.ctx := .cons vec_upTo.sound vec_upTo.can <| .cons vec_low.sound vec_low.can <| .nil
theorem vec_Rest.draws : fnDraws vec_Rest.an Try.f31 = true := by kernel_rfl
theorem vec_Rest.can : callOk Try.prog 31 = true := by kernel_rfl
theorem vec_Rest.sound : FnOk Try.prog 31 (.rd vec_Rest.w) := FnOk.rd_of (evG_ok vec_Rest.cok mixed (f := 31) (fn := Try.f31) (by kernel_rfl) vec_Rest.draws) fun args s r h => by
  unfold vec_Rest.w at h; split at h
  · rw [vec_Rest.ok std]; exact h
  · simp at h

/-! ### leapfrog/leapfrogref01.Rest: function 32 -/
def leapfrogref01x_Rest.ctx : Ctx := [(18, .rd leapfrogref01x_Right.w), (44, .st leapfrogref01x_Bits.w), (45, .rd leapfrogref01x_Of.w)]
def leapfrogref01x_Rest.t (S : Sig) (a0 a1 : Value) (s : St) : Option (Value × St) :=
  S.bd (bx a0) fun c1 => S.bd (bx (Go.Value.agg #[(Go.Value.int Go.IntKind.i64 0), (Go.Value.int Go.IntKind.u64 0)])) fun c2 => S.bd (lal c1 0 2) fun x3 => S.bd (leapfrogref01x_Right.r x3 s) fun x4 => S.bd (un .not x4) fun x5 => S.cnd x5 (S.bd (bld [(Go.Value.int Go.IntKind.i64 0), (Go.Value.int Go.IntKind.u64 0)] []) fun x6 => S.bd (stl c2 0 2 x6) fun c7 => S.bd (lal c7 0 2) fun x8 => some ((Value.tuple ⟨[x8, (Go.Value.int Go.IntKind.i64 10)]⟩), s)) (S.bd (bin .lss a1 (Go.Value.int Go.IntKind.i64 0)) fun x9 => S.bd (S.gd x9 false (some a1)) fun x10 => S.bd (S.gd x9 false (lcl c1 0)) fun x11 => S.bd (S.gd x9 false (bin .gtr x10 x11)) fun x12 => S.bd (pik x9 (Go.Value.bool Bool.true) x12) fun x13 => S.cnd x13 (S.bd (bld [(Go.Value.int Go.IntKind.i64 0), (Go.Value.int Go.IntKind.u64 0)] []) fun x14 => S.bd (stl c2 0 2 x14) fun c15 => S.bd (lal c15 0 2) fun x16 => some ((Value.tuple ⟨[x16, (Go.Value.int Go.IntKind.i64 5)]⟩), s)) (S.bd (lal c1 0 2) fun x17 => S.bd (leapfrogref01x_Bits.v x17 s) fun r18 => S.bd (slc r18.2 1 r18.1 (some a1) none none) fun x19 => S.bd (leapfrogref01x_Of.r x19 r18.2) fun x20 => S.bd (stl c2 0 2 x20) fun c21 => S.bd (lal c21 0 2) fun x22 => some ((Value.tuple ⟨[x22, (Go.Value.int Go.IntKind.i64 0)]⟩), r18.2)))
def leapfrogref01x_Rest.v (a0 a1 : Value) (s : St) : Option (Value × St) := leapfrogref01x_Rest.t std a0 a1 s
def leapfrogref01x_Rest.w : List Value → St → Option (Value × St)
  | [a0, a1], s => leapfrogref01x_Rest.v a0 a1 s
  | _, _ => none
def leapfrogref01x_Rest.an : An := ⟨24, false, [2, 4], [], [], []⟩
theorem leapfrogref01x_Rest.ok (S : Sig) (a0 a1 : Value) (s : St) : evF S Try.prog leapfrogref01x_Rest.ctx leapfrogref01x_Rest.an Try.f32 [a0, a1] s = leapfrogref01x_Rest.t S a0 a1 s := by kernel_rfl
theorem leapfrogref01x_Rest.cok : CtxOk Try.prog leapfrogref01x_Rest.ctx := .cons leapfrogref01x_Right.sound leapfrogref01x_Right.can <| .cons leapfrogref01x_Bits.sound leapfrogref01x_Bits.can <| .cons leapfrogref01x_Of.sound leapfrogref01x_Of.can <| .nil
theorem leapfrogref01x_Rest.draws : fnDraws leapfrogref01x_Rest.an Try.f32 = true := by kernel_rfl
theorem leapfrogref01x_Rest.can : callOk Try.prog 32 = true := by kernel_rfl
theorem leapfrogref01x_Rest.sound : FnOk Try.prog 32 (.st leapfrogref01x_Rest.w) := FnOk.st_of (evF_ok leapfrogref01x_Rest.cok mixed (f := 32) (fn := Try.f32) (by kernel_rfl) leapfrogref01x_Rest.draws) fun args s r h => by
  unfold leapfrogref01x_Rest.w at h; split at h
  · rw [leapfrogref01x_Rest.ok std]; exact h
  · simp at h

/-! ### leapfrog/leapfrogref01.Rest: function 32, as a reading -/
def leapfrogref01x_RestQ.r (a0 a1 : Value) (s : St) : Option Value := frzR (fun s => leapfrogref01x_Rest.v a0 a1 s) s
def leapfrogref01x_RestQ.w : List Value → St → Option Value := fun args s => frzR (leapfrogref01x_Rest.w args) s
theorem leapfrogref01x_RestQ.can : callOk Try.prog 32 = true := leapfrogref01x_Rest.can
theorem leapfrogref01x_RestQ.sound : FnOk Try.prog 32 (.rd leapfrogref01x_RestQ.w) := FnOk.frozen leapfrogref01x_Rest.sound

/-! ### leapfrog/vec.Flip: function 33 -/
def vec_Flip.ctx : Ctx := [(49, .rd vec_at.w)]
def vec_Flip.t (S : Sig) (a0 a1 : Value) (s : St) : Option Value :=
  S.bd (bx a0) fun c1 => S.bd (bx (Go.Value.agg #[(Go.Value.int Go.IntKind.i64 0), (Go.Value.int Go.IntKind.u64 0)])) fun c2 => S.bd (lal c1 0 2) fun x3 => S.bd (vec_at.r x3 a1 s) fun x4 => S.bd (eqb [1] false true x4 (Go.Value.int Go.IntKind.i64 0)) fun x5 => S.cnd x5 (S.bd (bld [(Go.Value.int Go.IntKind.i64 0), (Go.Value.int Go.IntKind.u64 0)] []) fun x6 => S.bd (stl c2 0 2 x6) fun c7 => S.bd (lal c7 0 2) fun x8 => some ((Value.tuple ⟨[x8, x4]⟩))) (S.bd (lcl c1 1) fun x9 => S.bd (lcl c1 0) fun x10 => S.bd (bin .sub x10 (Go.Value.int Go.IntKind.i64 1)) fun x11 => S.bd (bin .sub x11 a1) fun x12 => S.bd (cvi .u64 x12) fun x13 => S.bd (bin .shl (Go.Value.int Go.IntKind.u64 1) x13) fun x14 => S.bd (bin .xor x9 x14) fun x15 => S.bd (stl c1 1 1 x15) fun c16 => S.bd (lal c16 0 2) fun x17 => S.bd (stl c2 0 2 x17) fun c18 => S.bd (lal c18 0 2) fun x19 => some ((Value.tuple ⟨[x19, (Go.Value.int Go.IntKind.i64 0)]⟩)))
def vec_Flip.r (a0 a1 : Value) (s : St) : Option Value := vec_Flip.t std a0 a1 s
def vec_Flip.w : List Value → St → Option Value
  | [a0, a1], s => vec_Flip.r a0 a1 s
  | _, _ => none
def vec_Flip.an : An := ⟨26, true, [2, 4], [], [], []⟩
theorem vec_Flip.ok (S : Sig) (a0 a1 : Value) (s : St) : evG S Try.prog vec_Flip.ctx vec_Flip.an Try.f33 [a0, a1] s = vec_Flip.t S a0 a1 s := by kernel_rfl
theorem vec_Flip.cok : CtxOk Try.prog vec_Flip.ctx := .cons vec_at.sound vec_at.can <| .nil
theorem vec_Flip.draws : fnDraws vec_Flip.an Try.f33 = true := by kernel_rfl
theorem vec_Flip.can : callOk Try.prog 33 = true := by kernel_rfl
theorem vec_Flip.sound : FnOk Try.prog 33 (.rd vec_Flip.w) := FnOk.rd_of (evG_ok vec_Flip.cok mixed (f := 33) (fn := Try.f33) (by kernel_rfl) vec_Flip.draws) fun args s r h => by
  unfold vec_Flip.w at h; split at h
  · rw [vec_Flip.ok std]; exact h
  · simp at h

/-! ### leapfrog/leapfrogref01.Flip: function 34 -/
def leapfrogref01x_Flip.ctx : Ctx := [(18, .rd leapfrogref01x_Right.w), (44, .st leapfrogref01x_Bits.w), (45, .rd leapfrogref01x_Of.w)]
def leapfrogref01x_Flip.t (S : Sig) (a0 a1 : Value) (s : St) : Option (Value × St) :=
  S.bd (bx a0) fun c1 => S.bd (bx (Go.Value.agg #[(Go.Value.int Go.IntKind.i64 0), (Go.Value.int Go.IntKind.u64 0)])) fun c2 => S.bd (lal c1 0 2) fun x3 => S.bd (leapfrogref01x_Right.r x3 s) fun x4 => S.bd (un .not x4) fun x5 => S.cnd x5 (S.bd (bld [(Go.Value.int Go.IntKind.i64 0), (Go.Value.int Go.IntKind.u64 0)] []) fun x6 => S.bd (stl c2 0 2 x6) fun c7 => S.bd (lal c7 0 2) fun x8 => some ((Value.tuple ⟨[x8, (Go.Value.int Go.IntKind.i64 10)]⟩), s)) (S.bd (bin .lss a1 (Go.Value.int Go.IntKind.i64 0)) fun x9 => S.bd (S.gd x9 false (some a1)) fun x10 => S.bd (S.gd x9 false (lcl c1 0)) fun x11 => S.bd (S.gd x9 false (bin .geq x10 x11)) fun x12 => S.bd (pik x9 (Go.Value.bool Bool.true) x12) fun x13 => S.cnd x13 (S.bd (bld [(Go.Value.int Go.IntKind.i64 0), (Go.Value.int Go.IntKind.u64 0)] []) fun x14 => S.bd (stl c2 0 2 x14) fun c15 => S.bd (lal c15 0 2) fun x16 => some ((Value.tuple ⟨[x16, (Go.Value.int Go.IntKind.i64 5)]⟩), s)) (S.bd (lal c1 0 2) fun x17 => S.bd (leapfrogref01x_Bits.v x17 s) fun r18 => S.bd (idx r18.2 1 r18.1 a1) fun x19 => S.bd (ldc r18.2 x19) fun x20 => S.bd (bin .sub (Go.Value.int Go.IntKind.i64 1) x20) fun x21 => S.bd (idx r18.2 1 r18.1 a1) fun x22 => S.bd (stv r18.2 1 x22 x21) fun s23 => S.bd (leapfrogref01x_Of.r r18.1 s23) fun x24 => S.bd (stl c2 0 2 x24) fun c25 => S.bd (lal c25 0 2) fun x26 => some ((Value.tuple ⟨[x26, (Go.Value.int Go.IntKind.i64 0)]⟩), s23)))
def leapfrogref01x_Flip.v (a0 a1 : Value) (s : St) : Option (Value × St) := leapfrogref01x_Flip.t std a0 a1 s
def leapfrogref01x_Flip.w : List Value → St → Option (Value × St)
  | [a0, a1], s => leapfrogref01x_Flip.v a0 a1 s
  | _, _ => none
def leapfrogref01x_Flip.an : An := ⟨32, false, [2, 4], [], [], []⟩
theorem leapfrogref01x_Flip.ok (S : Sig) (a0 a1 : Value) (s : St) : evF S Try.prog leapfrogref01x_Flip.ctx leapfrogref01x_Flip.an Try.f34 [a0, a1] s = leapfrogref01x_Flip.t S a0 a1 s := by kernel_rfl
theorem leapfrogref01x_Flip.cok : CtxOk Try.prog leapfrogref01x_Flip.ctx := .cons leapfrogref01x_Right.sound leapfrogref01x_Right.can <| .cons leapfrogref01x_Bits.sound leapfrogref01x_Bits.can <| .cons leapfrogref01x_Of.sound leapfrogref01x_Of.can <| .nil
theorem leapfrogref01x_Flip.draws : fnDraws leapfrogref01x_Flip.an Try.f34 = true := by kernel_rfl
theorem leapfrogref01x_Flip.can : callOk Try.prog 34 = true := by kernel_rfl
theorem leapfrogref01x_Flip.sound : FnOk Try.prog 34 (.st leapfrogref01x_Flip.w) := FnOk.st_of (evF_ok leapfrogref01x_Flip.cok mixed (f := 34) (fn := Try.f34) (by kernel_rfl) leapfrogref01x_Flip.draws) fun args s r h => by
  unfold leapfrogref01x_Flip.w at h; split at h
  · rw [leapfrogref01x_Flip.ok std]; exact h
  · simp at h

-- NOT PRINTED 7 leapfrog/leapfroglaw01.VecBits: a call of leapfrog/leapfroglaw01.alive, which is not printed
-- NOT PRINTED 8 leapfrog/leapfroglaw01.VecBack: a call of leapfrog/leapfroglaw01.alive, which is not printed
/-! ### leapfrog/vec.both: function 52 -/
def vec_both.ctx : Ctx := [(35, .rd vec_Right.w)]
def vec_both.t (S : Sig) (a0 a1 : Value) (s : St) : Option Value :=
  S.bd (bx a0) fun c1 => S.bd (bx a1) fun c2 => S.bd (lal c1 0 2) fun x3 => S.bd (vec_Right.r x3 s) fun x4 => S.bd (eqb [1] false true x4 (Go.Value.int Go.IntKind.i64 0)) fun x5 => S.cnd x5 (some (x4)) (S.bd (lal c2 0 2) fun x6 => S.bd (vec_Right.r x6 s) fun x7 => some (x7))
def vec_both.r (a0 a1 : Value) (s : St) : Option Value := vec_both.t std a0 a1 s
def vec_both.w : List Value → St → Option Value
  | [a0, a1], s => vec_both.r a0 a1 s
  | _, _ => none
def vec_both.an : An := ⟨13, true, [2, 3], [], [], []⟩
theorem vec_both.ok (S : Sig) (a0 a1 : Value) (s : St) : evG S Try.prog vec_both.ctx vec_both.an Try.f52 [a0, a1] s = vec_both.t S a0 a1 s := by kernel_rfl
theorem vec_both.cok : CtxOk Try.prog vec_both.ctx := .cons vec_Right.sound vec_Right.can <| .nil
theorem vec_both.draws : fnDraws vec_both.an Try.f52 = true := by kernel_rfl
theorem vec_both.can : callOk Try.prog 52 = true := by kernel_rfl
theorem vec_both.sound : FnOk Try.prog 52 (.rd vec_both.w) := FnOk.rd_of (evG_ok vec_both.cok mixed (f := 52) (fn := Try.f52) (by kernel_rfl) vec_both.draws) fun args s r h => by
  unfold vec_both.w at h; split at h
  · rw [vec_both.ok std]; exact h
  · simp at h

/-! ### math/bits.Len64: function 57 -/
def math_bits_Len64.ctx : Ctx := []
def math_bits_Len64.t (S : Sig) (a0 : Value) (s : St) : Option Value :=
  S.bd (show Option Cut from S.bd (bin .geq a0 (Go.Value.int Go.IntKind.u64 4294967296)) fun x3 => S.cnd x3 (S.bd (bin .shr a0 (Go.Value.int Go.IntKind.u64 32)) fun x4 => some (0, [x4, (Go.Value.int Go.IntKind.i64 32)], s)) (some (0, [a0, (Go.Value.int Go.IntKind.i64 0)], s))) fun r5 => S.bd (show Option Cut from S.bd (bin .geq (r5.2.1.getD 0 undef) (Go.Value.int Go.IntKind.u64 65536)) fun x9 => S.cnd x9 (S.bd (bin .shr (r5.2.1.getD 0 undef) (Go.Value.int Go.IntKind.u64 16)) fun x10 => S.bd (bin .add (r5.2.1.getD 1 undef) (Go.Value.int Go.IntKind.i64 16)) fun x11 => some (0, [x10, x11], r5.2.2)) (some (0, [(r5.2.1.getD 0 undef), (r5.2.1.getD 1 undef)], r5.2.2))) fun r12 => S.bd (show Option Cut from S.bd (bin .geq (r12.2.1.getD 0 undef) (Go.Value.int Go.IntKind.u64 256)) fun x16 => S.cnd x16 (S.bd (bin .shr (r12.2.1.getD 0 undef) (Go.Value.int Go.IntKind.u64 8)) fun x17 => S.bd (bin .add (r12.2.1.getD 1 undef) (Go.Value.int Go.IntKind.i64 8)) fun x18 => some (0, [x17, x18], r12.2.2)) (some (0, [(r12.2.1.getD 0 undef), (r12.2.1.getD 1 undef)], r12.2.2))) fun r19 => S.bd (cvi .u8 (r19.2.1.getD 0 undef)) fun x20 => S.bd (idxS (Go.Value.string (ByteArray.mk (List.toArray (List.append (List.append [0, 1, 2, 2, 3, 3, 3, 3, 4, 4, 4, 4, 4, 4, 4, 4, 5, 5, 5, 5, 5, 5, 5, 5, 5, 5, 5, 5, 5, 5, 5, 5, 6, 6, 6, 6, 6, 6, 6, 6, 6, 6, 6, 6, 6, 6, 6, 6, 6, 6, 6, 6, 6, 6, 6, 6, 6, 6, 6, 6, 6, 6, 6, 6] [7, 7, 7, 7, 7, 7, 7, 7, 7, 7, 7, 7, 7, 7, 7, 7, 7, 7, 7, 7, 7, 7, 7, 7, 7, 7, 7, 7, 7, 7, 7, 7, 7, 7, 7, 7, 7, 7, 7, 7, 7, 7, 7, 7, 7, 7, 7, 7, 7, 7, 7, 7, 7, 7, 7, 7, 7, 7, 7, 7, 7, 7, 7, 7]) (List.append [8, 8, 8, 8, 8, 8, 8, 8, 8, 8, 8, 8, 8, 8, 8, 8, 8, 8, 8, 8, 8, 8, 8, 8, 8, 8, 8, 8, 8, 8, 8, 8, 8, 8, 8, 8, 8, 8, 8, 8, 8, 8, 8, 8, 8, 8, 8, 8, 8, 8, 8, 8, 8, 8, 8, 8, 8, 8, 8, 8, 8, 8, 8, 8] [8, 8, 8, 8, 8, 8, 8, 8, 8, 8, 8, 8, 8, 8, 8, 8, 8, 8, 8, 8, 8, 8, 8, 8, 8, 8, 8, 8, 8, 8, 8, 8, 8, 8, 8, 8, 8, 8, 8, 8, 8, 8, 8, 8, 8, 8, 8, 8, 8, 8, 8, 8, 8, 8, 8, 8, 8, 8, 8, 8, 8, 8, 8, 8]))))) x20) fun x21 => S.bd (cvi .i64 x21) fun x22 => S.bd (bin .add (r19.2.1.getD 1 undef) x22) fun x23 => some (x23)
def math_bits_Len64.r (a0 : Value) (s : St) : Option Value := math_bits_Len64.t std a0 s
def math_bits_Len64.w : List Value → St → Option Value
  | [a0], s => math_bits_Len64.r a0 s
  | _, _ => none
def math_bits_Len64.an : An := ⟨25, true, [], [], [(4, ⟨[], [(.normal, [.v 0, .v 2])]⟩), (7, ⟨[], [(.normal, [.v 0, .v 2])]⟩), (10, ⟨[], [(.normal, [.v 0, .v 2])]⟩)], []⟩
theorem math_bits_Len64.ok (S : Sig) (a0 : Value) (s : St) : evG S Try.prog math_bits_Len64.ctx math_bits_Len64.an Try.f57 [a0] s = math_bits_Len64.t S a0 s := by kernel_rfl
theorem math_bits_Len64.cok : CtxOk Try.prog math_bits_Len64.ctx := .nil
theorem math_bits_Len64.draws : fnDraws math_bits_Len64.an Try.f57 = true := by kernel_rfl
theorem math_bits_Len64.can : callOk Try.prog 57 = true := by kernel_rfl
theorem math_bits_Len64.sound : FnOk Try.prog 57 (.rd math_bits_Len64.w) := FnOk.rd_of (evG_ok math_bits_Len64.cok mixed (f := 57) (fn := Try.f57) (by kernel_rfl) math_bits_Len64.draws) fun args s r h => by
  unfold math_bits_Len64.w at h; split at h
  · rw [math_bits_Len64.ok std]; exact h
  · simp at h

/-! ### leapfrog/vec.common: function 53 -/
def vec_common.ctx : Ctx := [(47, .rd vec_prefix.w), (57, .rd math_bits_Len64.w)]
def vec_common.t (S : Sig) (a0 a1 : Value) (s : St) : Option Value :=
  S.bd (bx a0) fun c1 => S.bd (bx a1) fun c2 => S.bd (lcl c1 0) fun x3 => S.bd (lcl c2 0) fun x4 => S.bd (mn2 x3 x4) fun x5 => S.bd (lal c1 0 2) fun x6 => S.bd (lal c2 0 2) fun x7 => S.bd (vec_prefix.r x6 x5 s) fun x8 => S.bd (prt 1 1 false x8) fun x9 => S.bd (vec_prefix.r x7 x5 s) fun x10 => S.bd (prt 1 1 false x10) fun x11 => S.bd (bin .xor x9 x11) fun x12 => S.bd (math_bits_Len64.r x12 s) fun x13 => S.bd (bin .sub x5 x13) fun x14 => some (x14)
def vec_common.r (a0 a1 : Value) (s : St) : Option Value := vec_common.t std a0 a1 s
def vec_common.w : List Value → St → Option Value
  | [a0, a1], s => vec_common.r a0 a1 s
  | _, _ => none
def vec_common.an : An := ⟨25, true, [2, 3], [], [], [(2, [(0, 17, [], []), (1, 0, [], []), (4, 25, [], []), (5, 0, [], []), (2, 3, [], []), (3, 0, [], []), (6, 3, [], []), (7, 0, [], []), (8, 0, [], []), (9, 0, [], [])])]⟩
theorem vec_common.ok (S : Sig) (a0 a1 : Value) (s : St) : evG S Try.prog vec_common.ctx vec_common.an Try.f53 [a0, a1] s = vec_common.t S a0 a1 s := by kernel_rfl
theorem vec_common.cok : CtxOk Try.prog vec_common.ctx := .cons vec_prefix.sound vec_prefix.can <| .cons math_bits_Len64.sound math_bits_Len64.can <| .nil
theorem vec_common.draws : fnDraws vec_common.an Try.f53 = true := by kernel_rfl
theorem vec_common.can : callOk Try.prog 53 = true := by kernel_rfl
theorem vec_common.sound : FnOk Try.prog 53 (.rd vec_common.w) := FnOk.rd_of (evG_ok vec_common.cok mixed (f := 53) (fn := Try.f53) (by kernel_rfl) vec_common.draws) fun args s r h => by
  unfold vec_common.w at h; split at h
  · rw [vec_common.ok std]; exact h
  · simp at h

/-! ### cmp.isNaN[int]: function 58 -/
def cmp_isNaN_int.ctx : Ctx := []
def cmp_isNaN_int.t (S : Sig) (a0 : Value) (s : St) : Option Value :=
  S.bd (eqb [1] false true a0 a0) fun x1 => some (x1)
def cmp_isNaN_int.r (a0 : Value) (s : St) : Option Value := cmp_isNaN_int.t std a0 s
def cmp_isNaN_int.w : List Value → St → Option Value
  | [a0], s => cmp_isNaN_int.r a0 s
  | _, _ => none
def cmp_isNaN_int.an : An := ⟨6, true, [], [], [], []⟩
theorem cmp_isNaN_int.ok (S : Sig) (a0 : Value) (s : St) : evG S Try.prog cmp_isNaN_int.ctx cmp_isNaN_int.an Try.f58 [a0] s = cmp_isNaN_int.t S a0 s := by kernel_rfl
theorem cmp_isNaN_int.cok : CtxOk Try.prog cmp_isNaN_int.ctx := .nil
theorem cmp_isNaN_int.draws : fnDraws cmp_isNaN_int.an Try.f58 = true := by kernel_rfl
theorem cmp_isNaN_int.can : callOk Try.prog 58 = true := by kernel_rfl
theorem cmp_isNaN_int.sound : FnOk Try.prog 58 (.rd cmp_isNaN_int.w) := FnOk.rd_of (evG_ok cmp_isNaN_int.cok mixed (f := 58) (fn := Try.f58) (by kernel_rfl) cmp_isNaN_int.draws) fun args s r h => by
  unfold cmp_isNaN_int.w at h; split at h
  · rw [cmp_isNaN_int.ok std]; exact h
  · simp at h

/-! ### cmp.Compare[int]: function 54 -/
def cmp_Compare_int.ctx : Ctx := [(58, .rd cmp_isNaN_int.w)]
def cmp_Compare_int.t (S : Sig) (a0 a1 : Value) (s : St) : Option Value :=
  S.bd (cmp_isNaN_int.r a0 s) fun x1 => S.bd (cmp_isNaN_int.r a1 s) fun x2 => S.cnd x1 (S.cnd x2 (some ((Go.Value.int Go.IntKind.i64 0))) (some ((Go.Value.int Go.IntKind.i64 (-1))))) (S.cnd x2 (some ((Go.Value.int Go.IntKind.i64 1))) (S.bd (bin .lss a0 a1) fun x3 => S.cnd x3 (some ((Go.Value.int Go.IntKind.i64 (-1)))) (S.bd (bin .gtr a0 a1) fun x4 => S.cnd x4 (some ((Go.Value.int Go.IntKind.i64 1))) (some ((Go.Value.int Go.IntKind.i64 0))))))
def cmp_Compare_int.r (a0 a1 : Value) (s : St) : Option Value := cmp_Compare_int.t std a0 a1 s
def cmp_Compare_int.w : List Value → St → Option Value
  | [a0, a1], s => cmp_Compare_int.r a0 a1 s
  | _, _ => none
def cmp_Compare_int.an : An := ⟨20, true, [], [], [], []⟩
theorem cmp_Compare_int.ok (S : Sig) (a0 a1 : Value) (s : St) : evG S Try.prog cmp_Compare_int.ctx cmp_Compare_int.an Try.f54 [a0, a1] s = cmp_Compare_int.t S a0 a1 s := by kernel_rfl
theorem cmp_Compare_int.cok : CtxOk Try.prog cmp_Compare_int.ctx := .cons cmp_isNaN_int.sound cmp_isNaN_int.can <| .nil
theorem cmp_Compare_int.draws : fnDraws cmp_Compare_int.an Try.f54 = true := by kernel_rfl
theorem cmp_Compare_int.can : callOk Try.prog 54 = true := by kernel_rfl
theorem cmp_Compare_int.sound : FnOk Try.prog 54 (.rd cmp_Compare_int.w) := FnOk.rd_of (evG_ok cmp_Compare_int.cok mixed (f := 54) (fn := Try.f54) (by kernel_rfl) cmp_Compare_int.draws) fun args s r h => by
  unfold cmp_Compare_int.w at h; split at h
  · rw [cmp_Compare_int.ok std]; exact h
  · simp at h

/-! ### leapfrog/vec.Compare: function 36 -/
def vec_Compare.ctx : Ctx := [(52, .rd vec_both.w), (53, .rd vec_common.w), (42, .rd vec_bit.w), (54, .rd cmp_Compare_int.w)]
def vec_Compare.t (S : Sig) (a0 a1 : Value) (s : St) : Option Value :=
  S.bd (bx a0) fun c1 => S.bd (bx a1) fun c2 => S.bd (lal c1 0 2) fun x3 => S.bd (lal c2 0 2) fun x4 => S.bd (vec_both.r x3 x4 s) fun x5 => S.bd (eqb [1] false true x5 (Go.Value.int Go.IntKind.i64 0)) fun x6 => S.cnd x6 (some ((Value.tuple ⟨[(Go.Value.int Go.IntKind.i64 0), x5]⟩))) (S.bd (lal c1 0 2) fun x7 => S.bd (lal c2 0 2) fun x8 => S.bd (vec_common.r x7 x8 s) fun x9 => S.bd (lcl c1 0) fun x10 => S.bd (lcl c2 0) fun x11 => S.bd (mn2 x10 x11) fun x12 => S.bd (bin .lss x9 x12) fun x13 => S.cnd x13 (S.bd (lal c1 0 2) fun x14 => S.bd (lal c2 0 2) fun x15 => S.bd (vec_bit.r x14 x9 s) fun x16 => S.bd (vec_bit.r x15 x9 s) fun x17 => S.bd (cmp_Compare_int.r x16 x17 s) fun x18 => some ((Value.tuple ⟨[x18, (Go.Value.int Go.IntKind.i64 0)]⟩))) (S.bd (lcl c1 0) fun x19 => S.bd (lcl c2 0) fun x20 => S.bd (cmp_Compare_int.r x19 x20 s) fun x21 => some ((Value.tuple ⟨[x21, (Go.Value.int Go.IntKind.i64 0)]⟩))))
def vec_Compare.r (a0 a1 : Value) (s : St) : Option Value := vec_Compare.t std a0 a1 s
def vec_Compare.w : List Value → St → Option Value
  | [a0, a1], s => vec_Compare.r a0 a1 s
  | _, _ => none
def vec_Compare.an : An := ⟨36, true, [2, 3], [], [], [(6, [(0, 17, [], []), (1, 0, [], []), (3, 25, [], []), (4, 0, [], []), (2, 3, [], []), (5, 3, [], []), (6, 3, [], []), (7, 0, [], []), (8, 0, [], [])])]⟩
theorem vec_Compare.ok (S : Sig) (a0 a1 : Value) (s : St) : evG S Try.prog vec_Compare.ctx vec_Compare.an Try.f36 [a0, a1] s = vec_Compare.t S a0 a1 s := by kernel_rfl
theorem vec_Compare.cok : CtxOk Try.prog vec_Compare.ctx := .cons vec_both.sound vec_both.can <| .cons vec_common.sound vec_common.can <| .cons vec_bit.sound vec_bit.can <| .cons cmp_Compare_int.sound cmp_Compare_int.can <| .nil
theorem vec_Compare.draws : fnDraws vec_Compare.an Try.f36 = true := by kernel_rfl
theorem vec_Compare.can : callOk Try.prog 36 = true := by kernel_rfl
theorem vec_Compare.sound : FnOk Try.prog 36 (.rd vec_Compare.w) := FnOk.rd_of (evG_ok vec_Compare.cok mixed (f := 36) (fn := Try.f36) (by kernel_rfl) vec_Compare.draws) fun args s r h => by
  unfold vec_Compare.w at h; split at h
  · rw [vec_Compare.ok std]; exact h
  · simp at h

/-! ### leapfrog/leapfrogref01.common: function 55 -/
def leapfrogref01x_common.ctx : Ctx := []
def leapfrogref01x_common.l2 (S : Sig) (rec21 : List Value → St → Option Cut) (xs19 : List Value) (s20 : St) : Option Cut :=
  S.bd (lenL (xs19.getD 0 undef)) fun x22 => S.bd (bin .lss (xs19.getD 2 undef) x22) fun x23 => S.bd (S.gd x23 true (some (xs19.getD 2 undef))) fun x24 => S.bd (S.gd x23 true (some (xs19.getD 1 undef))) fun x25 => S.bd (S.gd x23 true (lenL x25)) fun x26 => S.bd (S.gd x23 true (bin .lss x24 x26)) fun x27 => S.bd (pik x23 x27 (Go.Value.bool Bool.false)) fun x28 => S.bd (S.gd x28 true (some (xs19.getD 0 undef))) fun x29 => S.bd (S.gd x28 true (some (xs19.getD 2 undef))) fun x30 => S.bd (S.gd x28 true (idx s20 1 x29 x30)) fun x31 => S.bd (S.gd x28 true (ldc s20 x31)) fun x32 => S.bd (S.gd x28 true (some (xs19.getD 1 undef))) fun x33 => S.bd (S.gd x28 true (some (xs19.getD 2 undef))) fun x34 => S.bd (S.gd x28 true (idx s20 1 x33 x34)) fun x35 => S.bd (S.gd x28 true (ldc s20 x35)) fun x36 => S.bd (S.gd x28 true (eqb [1] false false x32 x36)) fun x37 => S.bd (pik x28 x37 (Go.Value.bool Bool.false)) fun x38 => S.cnd x38 (S.bd (bin .add (xs19.getD 2 undef) (Go.Value.int Go.IntKind.i64 1)) fun x39 => rec21 [(xs19.getD 0 undef), (xs19.getD 1 undef), x39] s20) (some (0, [(xs19.getD 2 undef)], s20))

def leapfrogref01x_common.t (S : Sig) (a0 a1 : Value) (s : St) : Option Value :=
  S.bd (S.it (leapfrogref01x_common.l2 S) [a0, a1, (Go.Value.int Go.IntKind.i64 0)] s) fun r40 => some ((r40.2.1.getD 0 undef))
def leapfrogref01x_common.r (a0 a1 : Value) (s : St) : Option Value := leapfrogref01x_common.t std a0 a1 s
def leapfrogref01x_common.w : List Value → St → Option Value
  | [a0, a1], s => leapfrogref01x_common.r a0 a1 s
  | _, _ => none
def leapfrogref01x_common.an : An := ⟨30, true, [], [(2, ⟨[.v 0, .v 1, .v 5], [(.exit 0, [.v 5])]⟩)], [], [(2, [(0, 0, [], []), (1, 0, [], []), (2, 2, [], []), (3, 0, [], []), (4, 0, [], []), (5, 0, [], []), (6, 0, [], []), (7, 2, [], []), (8, 0, [], []), (9, 0, [], []), (10, 0, [], []), (11, 0, [], []), (12, 0, [], []), (13, 2, [], []), (14, 2, [], []), (15, 0, [], []), (16, 0, [], []), (17, 2, [], []), (18, 2, [], []), (19, 0, [], []), (20, 0, [], [])])]⟩
theorem leapfrogref01x_common.ok (S : Sig) (a0 a1 : Value) (s : St) : evG S Try.prog leapfrogref01x_common.ctx leapfrogref01x_common.an Try.f55 [a0, a1] s = leapfrogref01x_common.t S a0 a1 s := by kernel_rfl
theorem leapfrogref01x_common.cok : CtxOk Try.prog leapfrogref01x_common.ctx := .nil
theorem leapfrogref01x_common.draws : fnDraws leapfrogref01x_common.an Try.f55 = true := by kernel_rfl
theorem leapfrogref01x_common.can : callOk Try.prog 55 = true := by kernel_rfl
theorem leapfrogref01x_common.sound : FnOk Try.prog 55 (.rd leapfrogref01x_common.w) := FnOk.rd_of (evG_ok leapfrogref01x_common.cok mixed (f := 55) (fn := Try.f55) (by kernel_rfl) leapfrogref01x_common.draws) fun args s r h => by
  unfold leapfrogref01x_common.w at h; split at h
  · rw [leapfrogref01x_common.ok std]; exact h
  · simp at h

/-! ### leapfrog/leapfrogref01.Common: function 37 -/
def leapfrogref01x_Common.ctx : Ctx := [(18, .rd leapfrogref01x_Right.w), (44, .st leapfrogref01x_Bits.w), (55, .rd leapfrogref01x_common.w)]
def leapfrogref01x_Common.t (S : Sig) (a0 a1 : Value) (s : St) : Option (Value × St) :=
  S.bd (bx a0) fun c1 => S.bd (bx a1) fun c2 => S.bd (lal c1 0 2) fun x3 => S.bd (leapfrogref01x_Right.r x3 s) fun x4 => S.bd (un .not x4) fun x5 => S.bd (S.gd x5 false (lal c2 0 2)) fun x6 => S.bd (S.gd x5 false (leapfrogref01x_Right.r x6 s)) fun x7 => S.bd (S.gd x5 false (un .not x7)) fun x8 => S.bd (pik x5 (Go.Value.bool Bool.true) x8) fun x9 => S.cnd x9 (some ((Value.tuple ⟨[(Go.Value.int Go.IntKind.i64 0), (Go.Value.int Go.IntKind.i64 10)]⟩), s)) (S.bd (lal c1 0 2) fun x10 => S.bd (lal c2 0 2) fun x11 => S.bd (leapfrogref01x_Bits.v x10 s) fun r12 => S.bd (leapfrogref01x_Bits.v x11 r12.2) fun r13 => S.bd (leapfrogref01x_common.r r12.1 r13.1 r13.2) fun x14 => some ((Value.tuple ⟨[x14, (Go.Value.int Go.IntKind.i64 0)]⟩), r13.2))
def leapfrogref01x_Common.v (a0 a1 : Value) (s : St) : Option (Value × St) := leapfrogref01x_Common.t std a0 a1 s
def leapfrogref01x_Common.w : List Value → St → Option (Value × St)
  | [a0, a1], s => leapfrogref01x_Common.v a0 a1 s
  | _, _ => none
def leapfrogref01x_Common.an : An := ⟨19, false, [2, 3], [], [], [(3, [(0, 17, [], []), (2, 25, [], []), (1, 4, [], []), (3, 4, [], []), (4, 3, [], []), (5, 0, [], []), (6, 0, [], [])])]⟩
theorem leapfrogref01x_Common.ok (S : Sig) (a0 a1 : Value) (s : St) : evF S Try.prog leapfrogref01x_Common.ctx leapfrogref01x_Common.an Try.f37 [a0, a1] s = leapfrogref01x_Common.t S a0 a1 s := by kernel_rfl
theorem leapfrogref01x_Common.cok : CtxOk Try.prog leapfrogref01x_Common.ctx := .cons leapfrogref01x_Right.sound leapfrogref01x_Right.can <| .cons leapfrogref01x_Bits.sound leapfrogref01x_Bits.can <| .cons leapfrogref01x_common.sound leapfrogref01x_common.can <| .nil
theorem leapfrogref01x_Common.draws : fnDraws leapfrogref01x_Common.an Try.f37 = true := by kernel_rfl
theorem leapfrogref01x_Common.can : callOk Try.prog 37 = true := by kernel_rfl
theorem leapfrogref01x_Common.sound : FnOk Try.prog 37 (.st leapfrogref01x_Common.w) := FnOk.st_of (evF_ok leapfrogref01x_Common.cok mixed (f := 37) (fn := Try.f37) (by kernel_rfl) leapfrogref01x_Common.draws) fun args s r h => by
  unfold leapfrogref01x_Common.w at h; split at h
  · rw [leapfrogref01x_Common.ok std]; exact h
  · simp at h

/-! ### leapfrog/leapfrogref01.Common: function 37, as a reading -/
def leapfrogref01x_CommonQ.r (a0 a1 : Value) (s : St) : Option Value := frzR (fun s => leapfrogref01x_Common.v a0 a1 s) s
def leapfrogref01x_CommonQ.w : List Value → St → Option Value := fun args s => frzR (leapfrogref01x_Common.w args) s
theorem leapfrogref01x_CommonQ.can : callOk Try.prog 37 = true := leapfrogref01x_Common.can
theorem leapfrogref01x_CommonQ.sound : FnOk Try.prog 37 (.rd leapfrogref01x_CommonQ.w) := FnOk.frozen leapfrogref01x_Common.sound

-- NOT PRINTED 9 leapfrog/leapfroglaw01.VecOrder: a call of leapfrog/leapfroglaw01.alive, which is not printed
/-! ### leapfrog/vec.Common: function 38 -/
def vec_Common.ctx : Ctx := [(52, .rd vec_both.w), (53, .rd vec_common.w)]
def vec_Common.t (S : Sig) (a0 a1 : Value) (s : St) : Option Value :=
  S.bd (bx a0) fun c1 => S.bd (bx a1) fun c2 => S.bd (lal c1 0 2) fun x3 => S.bd (lal c2 0 2) fun x4 => S.bd (vec_both.r x3 x4 s) fun x5 => S.bd (eqb [1] false true x5 (Go.Value.int Go.IntKind.i64 0)) fun x6 => S.cnd x6 (some ((Value.tuple ⟨[(Go.Value.int Go.IntKind.i64 0), x5]⟩))) (S.bd (lal c1 0 2) fun x7 => S.bd (lal c2 0 2) fun x8 => S.bd (vec_common.r x7 x8 s) fun x9 => some ((Value.tuple ⟨[x9, (Go.Value.int Go.IntKind.i64 0)]⟩)))
def vec_Common.r (a0 a1 : Value) (s : St) : Option Value := vec_Common.t std a0 a1 s
def vec_Common.w : List Value → St → Option Value
  | [a0, a1], s => vec_Common.r a0 a1 s
  | _, _ => none
def vec_Common.an : An := ⟨16, true, [2, 3], [], [], []⟩
theorem vec_Common.ok (S : Sig) (a0 a1 : Value) (s : St) : evG S Try.prog vec_Common.ctx vec_Common.an Try.f38 [a0, a1] s = vec_Common.t S a0 a1 s := by kernel_rfl
theorem vec_Common.cok : CtxOk Try.prog vec_Common.ctx := .cons vec_both.sound vec_both.can <| .cons vec_common.sound vec_common.can <| .nil
theorem vec_Common.draws : fnDraws vec_Common.an Try.f38 = true := by kernel_rfl
theorem vec_Common.can : callOk Try.prog 38 = true := by kernel_rfl
theorem vec_Common.sound : FnOk Try.prog 38 (.rd vec_Common.w) := FnOk.rd_of (evG_ok vec_Common.cok mixed (f := 38) (fn := Try.f38) (by kernel_rfl) vec_Common.draws) fun args s r h => by
  unfold vec_Common.w at h; split at h
  · rw [vec_Common.ok std]; exact h
  · simp at h

/-! ### leapfrog/leapfrogref01.Compare: function 39 -/
def leapfrogref01x_Compare.ctx : Ctx := [(18, .rd leapfrogref01x_Right.w), (44, .st leapfrogref01x_Bits.w), (55, .rd leapfrogref01x_common.w)]
def leapfrogref01x_Compare.t (S : Sig) (a0 a1 : Value) (s : St) : Option (Value × St) :=
  S.bd (bx a0) fun c1 => S.bd (bx a1) fun c2 => S.bd (lal c1 0 2) fun x3 => S.bd (leapfrogref01x_Right.r x3 s) fun x4 => S.bd (un .not x4) fun x5 => S.bd (S.gd x5 false (lal c2 0 2)) fun x6 => S.bd (S.gd x5 false (leapfrogref01x_Right.r x6 s)) fun x7 => S.bd (S.gd x5 false (un .not x7)) fun x8 => S.bd (pik x5 (Go.Value.bool Bool.true) x8) fun x9 => S.cnd x9 (some ((Value.tuple ⟨[(Go.Value.int Go.IntKind.i64 0), (Go.Value.int Go.IntKind.i64 10)]⟩), s)) (S.bd (lal c1 0 2) fun x10 => S.bd (lal c2 0 2) fun x11 => S.bd (leapfrogref01x_Bits.v x10 s) fun r12 => S.bd (leapfrogref01x_Bits.v x11 r12.2) fun r13 => S.bd (leapfrogref01x_common.r r12.1 r13.1 r13.2) fun x14 => S.bd (lenL r12.1) fun x15 => S.bd (eqb [1] false false x14 x15) fun x16 => S.bd (S.gd x16 true (some x14)) fun x17 => S.bd (S.gd x16 true (some r13.1)) fun x18 => S.bd (S.gd x16 true (lenL x18)) fun x19 => S.bd (S.gd x16 true (eqb [1] false false x17 x19)) fun x20 => S.bd (pik x16 x20 (Go.Value.bool Bool.false)) fun x21 => S.cnd x21 (some ((Value.tuple ⟨[(Go.Value.int Go.IntKind.i64 0), (Go.Value.int Go.IntKind.i64 0)]⟩), r13.2)) (S.bd (lenL r12.1) fun x22 => S.bd (eqb [1] false false x14 x22) fun x23 => S.cnd x23 (some ((Value.tuple ⟨[(Go.Value.int Go.IntKind.i64 (-1)), (Go.Value.int Go.IntKind.i64 0)]⟩), r13.2)) (S.bd (lenL r13.1) fun x24 => S.bd (eqb [1] false false x14 x24) fun x25 => S.cnd x25 (some ((Value.tuple ⟨[(Go.Value.int Go.IntKind.i64 1), (Go.Value.int Go.IntKind.i64 0)]⟩), r13.2)) (S.bd (idx r13.2 1 r12.1 x14) fun x26 => S.bd (ldc r13.2 x26) fun x27 => S.bd (idx r13.2 1 r13.1 x14) fun x28 => S.bd (ldc r13.2 x28) fun x29 => S.bd (bin .lss x27 x29) fun x30 => S.cnd x30 (some ((Value.tuple ⟨[(Go.Value.int Go.IntKind.i64 (-1)), (Go.Value.int Go.IntKind.i64 0)]⟩), r13.2)) (some ((Value.tuple ⟨[(Go.Value.int Go.IntKind.i64 1), (Go.Value.int Go.IntKind.i64 0)]⟩), r13.2))))))
def leapfrogref01x_Compare.v (a0 a1 : Value) (s : St) : Option (Value × St) := leapfrogref01x_Compare.t std a0 a1 s
def leapfrogref01x_Compare.w : List Value → St → Option (Value × St)
  | [a0, a1], s => leapfrogref01x_Compare.v a0 a1 s
  | _, _ => none
def leapfrogref01x_Compare.an : An := ⟨55, false, [2, 3], [], [], [(3, [(0, 17, [], []), (2, 25, [], []), (1, 4, [], []), (3, 4, [], []), (4, 0, [], []), (5, 0, [], [])]), (11, [(0, 0, [], []), (1, 0, [], []), (2, 2, [], []), (3, 2, [], []), (4, 0, [], []), (5, 0, [], []), (6, 2, [], []), (7, 2, [], []), (8, 0, [], []), (9, 0, [], [])])]⟩
theorem leapfrogref01x_Compare.ok (S : Sig) (a0 a1 : Value) (s : St) : evF S Try.prog leapfrogref01x_Compare.ctx leapfrogref01x_Compare.an Try.f39 [a0, a1] s = leapfrogref01x_Compare.t S a0 a1 s := by kernel_rfl
theorem leapfrogref01x_Compare.cok : CtxOk Try.prog leapfrogref01x_Compare.ctx := .cons leapfrogref01x_Right.sound leapfrogref01x_Right.can <| .cons leapfrogref01x_Bits.sound leapfrogref01x_Bits.can <| .cons leapfrogref01x_common.sound leapfrogref01x_common.can <| .nil
theorem leapfrogref01x_Compare.draws : fnDraws leapfrogref01x_Compare.an Try.f39 = true := by kernel_rfl
theorem leapfrogref01x_Compare.can : callOk Try.prog 39 = true := by kernel_rfl
theorem leapfrogref01x_Compare.sound : FnOk Try.prog 39 (.st leapfrogref01x_Compare.w) := FnOk.st_of (evF_ok leapfrogref01x_Compare.cok mixed (f := 39) (fn := Try.f39) (by kernel_rfl) leapfrogref01x_Compare.draws) fun args s r h => by
  unfold leapfrogref01x_Compare.w at h; split at h
  · rw [leapfrogref01x_Compare.ok std]; exact h
  · simp at h

/-! ### leapfrog/leapfrogref01.Compare: function 39, as a reading -/
def leapfrogref01x_CompareQ.r (a0 a1 : Value) (s : St) : Option Value := frzR (fun s => leapfrogref01x_Compare.v a0 a1 s) s
def leapfrogref01x_CompareQ.w : List Value → St → Option Value := fun args s => frzR (leapfrogref01x_Compare.w args) s
theorem leapfrogref01x_CompareQ.can : callOk Try.prog 39 = true := leapfrogref01x_Compare.can
theorem leapfrogref01x_CompareQ.sound : FnOk Try.prog 39 (.rd leapfrogref01x_CompareQ.w) := FnOk.frozen leapfrogref01x_Compare.sound

/-! ### leapfrog/leapfrogref01.Begins: function 40 -/
def leapfrogref01x_Begins.ctx : Ctx := [(18, .rd leapfrogref01x_Right.w), (44, .st leapfrogref01x_Bits.w), (55, .rd leapfrogref01x_common.w)]
def leapfrogref01x_Begins.t (S : Sig) (a0 a1 : Value) (s : St) : Option (Value × St) :=
  S.bd (bx a0) fun c1 => S.bd (bx a1) fun c2 => S.bd (lal c1 0 2) fun x3 => S.bd (leapfrogref01x_Right.r x3 s) fun x4 => S.bd (S.gd x4 true (lal c2 0 2)) fun x5 => S.bd (S.gd x4 true (leapfrogref01x_Right.r x5 s)) fun x6 => S.bd (pik x4 x6 (Go.Value.bool Bool.false)) fun x7 => S.bd (S.gd x7 true (lal c1 0 2)) fun x8 => S.bd (S.gd x7 true (lal c2 0 2)) fun x9 => S.bd (S.gd x7 true (lcl c2 0)) fun x10 => S.bd (S.gdS x7 true (leapfrogref01x_Bits.v x8 s) s) fun r11 => S.bd (S.gdS x7 true (leapfrogref01x_Bits.v x9 r11.2) r11.2) fun r12 => S.bd (S.gd x7 true (leapfrogref01x_common.r r11.1 r12.1 r12.2)) fun x13 => S.bd (S.gd x7 true (eqb [1] false false x13 x10)) fun x14 => S.bd (pik x7 x14 (Go.Value.bool Bool.false)) fun x15 => some (x15, r12.2)
def leapfrogref01x_Begins.v (a0 a1 : Value) (s : St) : Option (Value × St) := leapfrogref01x_Begins.t std a0 a1 s
def leapfrogref01x_Begins.w : List Value → St → Option (Value × St)
  | [a0, a1], s => leapfrogref01x_Begins.v a0 a1 s
  | _, _ => none
def leapfrogref01x_Begins.an : An := ⟨21, false, [2, 3], [], [], [(1, [(0, 17, [], []), (1, 3, [], []), (2, 0, [], []), (3, 25, [], []), (4, 3, [], []), (5, 0, [], []), (6, 0, [], []), (7, 17, [], []), (9, 25, [], []), (12, 0, [], []), (13, 25, [], []), (8, 4, [], []), (10, 4, [], []), (11, 3, [], []), (14, 0, [], []), (15, 0, [], []), (16, 0, [], [])])]⟩
theorem leapfrogref01x_Begins.ok (S : Sig) (a0 a1 : Value) (s : St) : evF S Try.prog leapfrogref01x_Begins.ctx leapfrogref01x_Begins.an Try.f40 [a0, a1] s = leapfrogref01x_Begins.t S a0 a1 s := by kernel_rfl
theorem leapfrogref01x_Begins.cok : CtxOk Try.prog leapfrogref01x_Begins.ctx := .cons leapfrogref01x_Right.sound leapfrogref01x_Right.can <| .cons leapfrogref01x_Bits.sound leapfrogref01x_Bits.can <| .cons leapfrogref01x_common.sound leapfrogref01x_common.can <| .nil
theorem leapfrogref01x_Begins.draws : fnDraws leapfrogref01x_Begins.an Try.f40 = true := by kernel_rfl
theorem leapfrogref01x_Begins.can : callOk Try.prog 40 = true := by kernel_rfl
theorem leapfrogref01x_Begins.sound : FnOk Try.prog 40 (.st leapfrogref01x_Begins.w) := FnOk.st_of (evF_ok leapfrogref01x_Begins.cok mixed (f := 40) (fn := Try.f40) (by kernel_rfl) leapfrogref01x_Begins.draws) fun args s r h => by
  unfold leapfrogref01x_Begins.w at h; split at h
  · rw [leapfrogref01x_Begins.ok std]; exact h
  · simp at h

/-! ### leapfrog/leapfrogref01.Begins: function 40, as a reading -/
def leapfrogref01x_BeginsQ.r (a0 a1 : Value) (s : St) : Option Value := frzR (fun s => leapfrogref01x_Begins.v a0 a1 s) s
def leapfrogref01x_BeginsQ.w : List Value → St → Option Value := fun args s => frzR (leapfrogref01x_Begins.w args) s
theorem leapfrogref01x_BeginsQ.can : callOk Try.prog 40 = true := leapfrogref01x_Begins.can
theorem leapfrogref01x_BeginsQ.sound : FnOk Try.prog 40 (.rd leapfrogref01x_BeginsQ.w) := FnOk.frozen leapfrogref01x_Begins.sound

-- NOT PRINTED 10 leapfrog/leapfroglaw01.VecCompares: a call of leapfrog/leapfroglaw01.alive, which is not printed

end
end Go.Proofs.Ytgdloihagiddhaa
