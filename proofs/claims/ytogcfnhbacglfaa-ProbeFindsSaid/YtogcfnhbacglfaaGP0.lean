/-
  What the functions answer that ProbeNobody, ProbeMany, ProbeFinds, ProbeRuns reaches (part 0): for each function of the program a plain function over abstract values, and that the model answers as it does.
-/
import Derived.Test.YtogcfnhbacglfaaSimZ
import Derived.Test.YtogcfnhbacglfaaProg
import Derived.KernelRfl
import Derived.Test.YtogcfnhbacglfaaRngE
set_option linter.unusedVariables false
set_option maxRecDepth 100000
namespace Go.Proofs.Ytogcfnhbacglfaa
open Go.Sim
noncomputable section
theorem mixed : Try.prog.follows .mixedOrders = true := by kernel_rfl
/-! ### (*leapfrog/probe.Probe).Breaks$1: function 41 -/
def probe_Probe_Breaks_fn1.ctx : Ctx := []
def probe_Probe_Breaks_fn1.t (S : Sig) (a0 a1 : Value) (s : St) : Option Value :=
  S.bd (bx a0) fun c1 => S.bd (bx a1) fun c2 => S.bd (lcl c1 8) fun x3 => S.bd (lcl c2 8) fun x4 => S.bd (bin .sub x3 x4) fun x5 => some (x5)
def probe_Probe_Breaks_fn1.r (a0 a1 : Value) (s : St) : Option Value := probe_Probe_Breaks_fn1.t std a0 a1 s
def probe_Probe_Breaks_fn1.w : List Value → St → Option Value
  | [a0, a1], s => probe_Probe_Breaks_fn1.r a0 a1 s
  | _, _ => none
def probe_Probe_Breaks_fn1.an : An := ⟨10, true, [2, 3], [], [], [], [], []⟩
theorem probe_Probe_Breaks_fn1.ok (S : Sig) (a0 a1 : Value) (s : St) : evG S Try.prog probe_Probe_Breaks_fn1.ctx probe_Probe_Breaks_fn1.an Try.f41 [a0, a1] s = probe_Probe_Breaks_fn1.t S a0 a1 s := by kernel_rfl
theorem probe_Probe_Breaks_fn1.cok : CtxOk Try.prog probe_Probe_Breaks_fn1.ctx := .nil
theorem probe_Probe_Breaks_fn1.draws : fnDraws probe_Probe_Breaks_fn1.an Try.f41 = true := by kernel_rfl
theorem probe_Probe_Breaks_fn1.can : callOk Try.prog 41 = true := by kernel_rfl
theorem probe_Probe_Breaks_fn1.sound : FnOk Try.prog 41 (.rd probe_Probe_Breaks_fn1.w) := FnOk.rd_of (evG_ok probe_Probe_Breaks_fn1.cok mixed (f := 41) (fn := Try.f41) (by kernel_rfl) probe_Probe_Breaks_fn1.draws) fun args s r h => by
  unfold probe_Probe_Breaks_fn1.w at h; split at h
  · rw [probe_Probe_Breaks_fn1.ok std]; exact h
  · simp at h

/-! ### leapfrog/vec.low: function 44 -/
def vec_low.ctx : Ctx := []
def vec_low.t (S : Sig) (a0 : Value) (s : St) : Option Value :=
  S.bd (cvi .u64 a0) fun x1 => S.bd (bin .shl (Go.Value.int Go.IntKind.u64 1) x1) fun x2 => S.bd (bin .sub x2 (Go.Value.int Go.IntKind.u64 1)) fun x3 => some (x3)
def vec_low.r (a0 : Value) (s : St) : Option Value := vec_low.t std a0 s
def vec_low.w : List Value → St → Option Value
  | [a0], s => vec_low.r a0 s
  | _, _ => none
def vec_low.an : An := ⟨7, true, [], [], [], [], [], []⟩
theorem vec_low.ok (S : Sig) (a0 : Value) (s : St) : evG S Try.prog vec_low.ctx vec_low.an Try.f44 [a0] s = vec_low.t S a0 s := by kernel_rfl
theorem vec_low.cok : CtxOk Try.prog vec_low.ctx := .nil
theorem vec_low.draws : fnDraws vec_low.an Try.f44 = true := by kernel_rfl
theorem vec_low.can : callOk Try.prog 44 = true := by kernel_rfl
theorem vec_low.sound : FnOk Try.prog 44 (.rd vec_low.w) := FnOk.rd_of (evG_ok vec_low.cok mixed (f := 44) (fn := Try.f44) (by kernel_rfl) vec_low.draws) fun args s r h => by
  unfold vec_low.w at h; split at h
  · rw [vec_low.ok std]; exact h
  · simp at h

/-! ### leapfrog/vec.Right: function 27 -/
def vec_Right.ctx : Ctx := [(44, .rd vec_low.w)]
def vec_Right.t (S : Sig) (a0 : Value) (s : St) : Option Value :=
  S.bd (bx a0) fun c1 => S.bd (lcl c1 0) fun x2 => S.bd (bin .lss x2 (Go.Value.int Go.IntKind.i64 0)) fun x3 => S.bd (S.gd x3 false (lcl c1 0)) fun x4 => S.bd (S.gd x3 false (bin .gtr x4 (Go.Value.int Go.IntKind.i64 32))) fun x5 => S.bd (pik x3 (Go.Value.bool Bool.true) x5) fun x6 => S.bd (S.gd x6 false (lcl c1 1)) fun x7 => S.bd (S.gd x6 false (lcl c1 0)) fun x8 => S.bd (S.gd x6 false (vec_low.r x8 s)) fun x9 => S.bd (S.gd x6 false (bin .gtr x7 x9)) fun x10 => S.bd (pik x6 (Go.Value.bool Bool.true) x10) fun x11 => S.cnd x11 (some ((Go.Value.int Go.IntKind.i64 10))) (some ((Go.Value.int Go.IntKind.i64 0)))
def vec_Right.r (a0 : Value) (s : St) : Option Value := vec_Right.t std a0 s
def vec_Right.w : List Value → St → Option Value
  | [a0], s => vec_Right.r a0 s
  | _, _ => none
def vec_Right.an : An := ⟨19, true, [1], [], [], [(1, [(0, 0, [], []), (1, 9, [], []), (2, 0, [], []), (3, 0, [], []), (4, 0, [], []), (5, 9, [], []), (6, 0, [], []), (7, 0, [], []), (8, 0, [], []), (9, 0, [], []), (10, 9, [], []), (11, 0, [], []), (12, 9, [], []), (13, 3, [], []), (14, 0, [], []), (15, 0, [], [])])], [], []⟩
theorem vec_Right.ok (S : Sig) (a0 : Value) (s : St) : evG S Try.prog vec_Right.ctx vec_Right.an Try.f27 [a0] s = vec_Right.t S a0 s := by kernel_rfl
theorem vec_Right.cok : CtxOk Try.prog vec_Right.ctx := .cons vec_low.sound vec_low.can <| .nil
theorem vec_Right.draws : fnDraws vec_Right.an Try.f27 = true := by kernel_rfl
theorem vec_Right.can : callOk Try.prog 27 = true := by kernel_rfl
theorem vec_Right.sound : FnOk Try.prog 27 (.rd vec_Right.w) := FnOk.rd_of (evG_ok vec_Right.cok mixed (f := 27) (fn := Try.f27) (by kernel_rfl) vec_Right.draws) fun args s r h => by
  unfold vec_Right.w at h; split at h
  · rw [vec_Right.ok std]; exact h
  · simp at h

/-! ### leapfrog/probe.bad$1: function 45 -/
def probe_bad_fn1.ctx : Ctx := [(27, .rd vec_Right.w), (41, .rd probe_Probe_Breaks_fn1.w)]
def probe_bad_fn1.l1 (S : Sig) (rec19 : List Value → St → Option Cut) (xs17 : List Value) (s18 : St) : Option Cut :=
  S.bd (bin .lss (xs17.getD 3 undef) (xs17.getD 2 undef)) fun x20 => S.cnd x20 (S.bd (idx s18 2 (xs17.getD 1 undef) (xs17.getD 3 undef)) fun x21 => S.bd (lda s18 2 x21) fun x22 => S.bd (bx (Go.Value.agg #[(Go.Value.int Go.IntKind.i64 0), (Go.Value.int Go.IntKind.u64 0)])) fun c23 => S.bd (stl c23 0 2 x22) fun c24 => S.bd (lal c24 0 2) fun x25 => S.bd (vec_Right.r x25 s18) fun x26 => S.bd (eqb [1] false true x26 (Go.Value.int Go.IntKind.i64 0)) fun x27 => S.bd (S.gd x27 true (some (xs17.getD 0 undef))) fun x28 => S.bd (S.gd x27 true (some (xs17.getD 3 undef))) fun x29 => S.bd (S.gdS x27 true (callV (probe_bad_fn1.ctx) x28 [x29] s18) s18) fun r30 => S.bd (S.gd x27 true (un .not r30.1)) fun x31 => S.bd (pik x27 x31 (Go.Value.bool Bool.false)) fun x32 => S.cnd x32 (some (1, [], r30.2)) (S.bd (bin .add (xs17.getD 3 undef) (Go.Value.int Go.IntKind.i64 1)) fun x33 => rec19 [(xs17.getD 0 undef), (xs17.getD 1 undef), (xs17.getD 2 undef), x33] r30.2)) (some (0, [], s18))

def probe_bad_fn1.t (S : Sig) (a0 a1 : Value) (s : St) : Option (Value × St) :=
  S.bd (ldc s a1) fun x1 => S.bd (lenL x1) fun x2 => S.bd (S.it (probe_bad_fn1.l1 S) [a0, x1, x2, (Go.Value.int Go.IntKind.i64 0)] s) fun r34 => if r34.1 = 0 then (some ((Value.tuple ⟨[]⟩), r34.2.2)) else (some ((Value.tuple ⟨[]⟩), r34.2.2))
def probe_bad_fn1.v (a0 a1 : Value) (s : St) : Option (Value × St) := probe_bad_fn1.t std a0 a1 s
def probe_bad_fn1.w : List Value → St → Option (Value × St)
  | [a0, a1], s => probe_bad_fn1.v a0 a1 s
  | _, _ => none
def probe_bad_fn1.an : An := ⟨22, false, [4], [(1, ⟨[.v 0, .v 5, .v 6, .v 7], [(.exit 0, []), (.ret, [])]⟩)], [], [], [], []⟩
theorem probe_bad_fn1.ok (S : Sig) (a0 a1 : Value) (s : St) : evF S Try.prog probe_bad_fn1.ctx probe_bad_fn1.an Try.f45 [a0, a1] s = probe_bad_fn1.t S a0 a1 s := by kernel_rfl
theorem probe_bad_fn1.cok : CtxOk Try.prog probe_bad_fn1.ctx := .cons vec_Right.sound vec_Right.can <| .cons probe_Probe_Breaks_fn1.sound probe_Probe_Breaks_fn1.can <| .nil
theorem probe_bad_fn1.draws : fnDraws probe_bad_fn1.an Try.f45 = true := by kernel_rfl
theorem probe_bad_fn1.can : callOk Try.prog 45 = true := by kernel_rfl
theorem probe_bad_fn1.sound : FnOk Try.prog 45 (.st probe_bad_fn1.w) := FnOk.st_of (evF_ok probe_bad_fn1.cok mixed (f := 45) (fn := Try.f45) (by kernel_rfl) probe_bad_fn1.draws) fun args s r h => by
  unfold probe_bad_fn1.w at h; split at h
  · rw [probe_bad_fn1.ok std]; exact h
  · simp at h

/-! ### leapfrog/leapfrogref02.At: function 25 -/
def leapfrogref02x_At.ctx : Ctx := []
def leapfrogref02x_At.t (S : Sig) (a0 : Value) (s : St) : Option Value :=
  S.bd (bx (Go.Value.agg #[(Go.Value.int Go.IntKind.i64 0), (Go.Value.int Go.IntKind.u64 0)])) fun c1 => S.bd (bld [(Go.Value.int Go.IntKind.i64 0), (Go.Value.int Go.IntKind.u64 0)] [(0, 1, (Go.Value.int Go.IntKind.i64 2)), (1, 1, a0)]) fun x2 => S.bd (stl c1 0 2 x2) fun c3 => S.bd (lal c3 0 2) fun x4 => some (x4)
def leapfrogref02x_At.r (a0 : Value) (s : St) : Option Value := leapfrogref02x_At.t std a0 s
def leapfrogref02x_At.w : List Value → St → Option Value
  | [a0], s => leapfrogref02x_At.r a0 s
  | _, _ => none
def leapfrogref02x_At.an : An := ⟨5, true, [2], [], [], [], [], []⟩
theorem leapfrogref02x_At.ok (S : Sig) (a0 : Value) (s : St) : evG S Try.prog leapfrogref02x_At.ctx leapfrogref02x_At.an Try.f25 [a0] s = leapfrogref02x_At.t S a0 s := by kernel_rfl
theorem leapfrogref02x_At.cok : CtxOk Try.prog leapfrogref02x_At.ctx := .nil
theorem leapfrogref02x_At.draws : fnDraws leapfrogref02x_At.an Try.f25 = true := by kernel_rfl
theorem leapfrogref02x_At.can : callOk Try.prog 25 = true := by kernel_rfl
theorem leapfrogref02x_At.sound : FnOk Try.prog 25 (.rd leapfrogref02x_At.w) := FnOk.rd_of (evG_ok leapfrogref02x_At.cok mixed (f := 25) (fn := Try.f25) (by kernel_rfl) leapfrogref02x_At.draws) fun args s r h => by
  unfold leapfrogref02x_At.w at h; split at h
  · rw [leapfrogref02x_At.ok std]; exact h
  · simp at h

/-! ### leapfrog/key.Check: function 26 -/
def key_Check.ctx : Ctx := []
def key_Check.t (S : Sig) (a0 : Value) (s : St) : Option Value :=
  S.bd (bx a0) fun c1 => S.bd (lcl c1 0) fun x2 => S.bd (eqb [1] false false x2 (Go.Value.int Go.IntKind.i64 2)) fun x3 => S.bd (S.gd x3 false (lcl c1 0)) fun x4 => S.bd (S.gd x3 false (eqb [1] false false x4 (Go.Value.int Go.IntKind.i64 1))) fun x5 => S.bd (S.gd x3 false (some x5)) fun x6 => S.bd (S.gd x6 false (lcl c1 0)) fun x7 => S.bd (S.gd x6 false (eqb [1] false false x7 (Go.Value.int Go.IntKind.i64 3))) fun x8 => S.bd (S.gd x3 false (pik x6 (Go.Value.bool Bool.true) x8)) fun x9 => S.bd (S.gd x3 false (some x9)) fun x10 => S.bd (S.gd x10 true (lcl c1 1)) fun x11 => S.bd (S.gd x10 true (eqb [1] false false x11 (Go.Value.int Go.IntKind.u64 0))) fun x12 => S.bd (S.gd x3 false (pik x10 x12 (Go.Value.bool Bool.false))) fun x13 => S.bd (pik x3 (Go.Value.bool Bool.true) x13) fun x14 => S.cnd x14 (some ((Go.Value.int Go.IntKind.i64 0))) (some ((Go.Value.int Go.IntKind.i64 20)))
def key_Check.r (a0 : Value) (s : St) : Option Value := key_Check.t std a0 s
def key_Check.w : List Value → St → Option Value
  | [a0], s => key_Check.r a0 s
  | _, _ => none
def key_Check.an : An := ⟨21, true, [1], [], [], [], [], []⟩
theorem key_Check.ok (S : Sig) (a0 : Value) (s : St) : evG S Try.prog key_Check.ctx key_Check.an Try.f26 [a0] s = key_Check.t S a0 s := by kernel_rfl
theorem key_Check.cok : CtxOk Try.prog key_Check.ctx := .nil
theorem key_Check.draws : fnDraws key_Check.an Try.f26 = true := by kernel_rfl
theorem key_Check.can : callOk Try.prog 26 = true := by kernel_rfl
theorem key_Check.sound : FnOk Try.prog 26 (.rd key_Check.w) := FnOk.rd_of (evG_ok key_Check.cok mixed (f := 26) (fn := Try.f26) (by kernel_rfl) key_Check.draws) fun args s r h => by
  unfold key_Check.w at h; split at h
  · rw [key_Check.ok std]; exact h
  · simp at h

/-! ### leapfrog/probe.bad: function 28 -/
def probe_bad.ctx : Ctx := []
def probe_bad.t (S : Sig) (a0 : Value) (s : St) : Option (Value × St) :=
  S.bd (alv s a0) fun r1 => some ((Value.func (.func 45) ⟨[]⟩ ⟨[r1.1]⟩), r1.2)
def probe_bad.v (a0 : Value) (s : St) : Option (Value × St) := probe_bad.t std a0 s
def probe_bad.w : List Value → St → Option (Value × St)
  | [a0], s => probe_bad.v a0 s
  | _, _ => none
def probe_bad.an : An := ⟨4, false, [], [], [], [], [], []⟩
theorem probe_bad.ok (S : Sig) (a0 : Value) (s : St) : evF S Try.prog probe_bad.ctx probe_bad.an Try.f28 [a0] s = probe_bad.t S a0 s := by kernel_rfl
theorem probe_bad.cok : CtxOk Try.prog probe_bad.ctx := .nil
theorem probe_bad.draws : fnDraws probe_bad.an Try.f28 = true := by kernel_rfl
theorem probe_bad.can : callOk Try.prog 28 = true := by kernel_rfl
theorem probe_bad.sound : FnOk Try.prog 28 (.st probe_bad.w) := FnOk.st_of (evF_ok probe_bad.cok mixed (f := 28) (fn := Try.f28) (by kernel_rfl) probe_bad.draws) fun args s r h => by
  unfold probe_bad.w at h; split at h
  · rw [probe_bad.ok std]; exact h
  · simp at h

/-! ### slices.Clone[[]leapfrog/api.Vec,leapfrog/api.Vec]: function 29 -/
def slices_Clone_api_Vec_api_Vec.ctx : Ctx := []
def slices_Clone_api_Vec_api_Vec.t (S : Sig) (a0 : Value) (s : St) : Option (Value × St) :=
  S.bd (eqb [4] false false a0 (Go.Value.slice Option.none 0 0)) fun x1 => S.cnd x1 (some ((Go.Value.slice Option.none 0 0), s)) (S.bd (S.bd (bls 2 (List.replicate 0 [(Go.Value.int Go.IntKind.i64 0), (Go.Value.int Go.IntKind.u64 0)]) []) fun rows => als s 2 0 rows) fun r2 => S.bd (app r2.2 2 16 r2.1 a0) fun r3 => some (r3.1, r3.2))
def slices_Clone_api_Vec_api_Vec.v (a0 : Value) (s : St) : Option (Value × St) := slices_Clone_api_Vec_api_Vec.t std a0 s
def slices_Clone_api_Vec_api_Vec.w : List Value → St → Option (Value × St)
  | [a0], s => slices_Clone_api_Vec_api_Vec.v a0 s
  | _, _ => none
def slices_Clone_api_Vec_api_Vec.an : An := ⟨8, false, [], [], [], [], [], []⟩
theorem slices_Clone_api_Vec_api_Vec.ok (S : Sig) (a0 : Value) (s : St) : evF S Try.prog slices_Clone_api_Vec_api_Vec.ctx slices_Clone_api_Vec_api_Vec.an Try.f29 [a0] s = slices_Clone_api_Vec_api_Vec.t S a0 s := by kernel_rfl
theorem slices_Clone_api_Vec_api_Vec.cok : CtxOk Try.prog slices_Clone_api_Vec_api_Vec.ctx := .nil
theorem slices_Clone_api_Vec_api_Vec.draws : fnDraws slices_Clone_api_Vec_api_Vec.an Try.f29 = true := by kernel_rfl
theorem slices_Clone_api_Vec_api_Vec.can : callOk Try.prog 29 = true := by kernel_rfl
theorem slices_Clone_api_Vec_api_Vec.sound : FnOk Try.prog 29 (.st slices_Clone_api_Vec_api_Vec.w) := FnOk.st_of (evF_ok slices_Clone_api_Vec_api_Vec.cok mixed (f := 29) (fn := Try.f29) (by kernel_rfl) slices_Clone_api_Vec_api_Vec.draws) fun args s r h => by
  unfold slices_Clone_api_Vec_api_Vec.w at h; split at h
  · rw [slices_Clone_api_Vec_api_Vec.ok std]; exact h
  · simp at h

/-! ### leapfrog/probe.New: function 8 (it ranges over function 45) -/
noncomputable def probe_bad_fn1I.ctx : Ctx := [(27, .rd vec_Right.w)]
theorem probe_bad_fn1I.ctxok : CtxOk Try.prog probe_bad_fn1I.ctx := .cons vec_Right.sound vec_Right.can <| .nil
noncomputable def probe_New.ctx : Ctx := [(26, .rd key_Check.w), (27, .rd vec_Right.w), (28, .st probe_bad.w), (29, .st slices_Clone_api_Vec_api_Vec.w)]
theorem probe_New.ctxok : CtxOk Try.prog probe_New.ctx := .cons key_Check.sound key_Check.can <| .cons vec_Right.sound vec_Right.can <| .cons probe_bad.sound probe_bad.can <| .cons slices_Clone_api_Vec_api_Vec.sound slices_Clone_api_Vec_api_Vec.can <| .nil
noncomputable def probe_New.h (S : Sig) (a0 : Value) (s : St) : Option (Bool × List Value × St) :=
  S.bd (alv s a0) fun r1 => S.bd (alv r1.2 (Go.Value.pointer Option.none)) fun r2 => S.bd (alv r2.2 (Go.Value.int Go.IntKind.i64 0)) fun r3 => S.bd (fld 0 r1.1) fun x4 => S.bd (fld 1 x4) fun x5 => S.bd (lda r3.2 2 x5) fun x6 => S.bd (key_Check.r x6 r3.2) fun x7 => S.bd (eqb [1] false true x7 (Go.Value.int Go.IntKind.i64 0)) fun x8 => S.bd (S.gd x8 false (fld 0 r1.1)) fun x9 => S.bd (S.gd x8 false (fld 3 x9)) fun x10 => S.bd (S.gd x8 false (lda r3.2 2 x10)) fun x11 => S.bd (S.gd x8 false (vec_Right.r x11 r3.2)) fun x12 => S.bd (S.gd x8 false (eqb [1] false true x12 (Go.Value.int Go.IntKind.i64 0))) fun x13 => S.bd (pik x8 (Go.Value.bool Bool.true) x13) fun x14 => S.bd (S.gd x14 false (fld 5 r1.1)) fun x15 => S.bd (S.gd x14 false (ldc r3.2 x15)) fun x16 => S.bd (S.gd x14 false (lenL x16)) fun x17 => S.bd (S.gd x14 false (bin .gtr x17 (Go.Value.int Go.IntKind.i64 1024))) fun x18 => S.bd (pik x14 (Go.Value.bool Bool.true) x18) fun x19 => S.cnd x19 (S.bd (stv r3.2 1 r2.1 (Go.Value.pointer Option.none)) fun s20 => S.bd (stv s20 1 r3.1 (Go.Value.int Go.IntKind.i64 190)) fun s21 => S.bd (ldc s21 r2.1) fun x22 => S.bd (ldc s21 r3.1) fun x23 => some (false, [x22, x23], s21)) (S.bd (fld 5 r1.1) fun x24 => S.bd (ldc r3.2 x24) fun x25 => S.bd (probe_bad.v x25 r3.2) fun r26 => some (true, [r1.1, r2.1, r3.1, r26.1], r26.2))
noncomputable def probe_New.e (S : Sig) (a0 a1 a2 a3 : Value) (s : St) : Option (Value × St) :=
  S.bd (fld 0 a0) fun x27 => S.bd (lda s 5 x27) fun x28 => S.bd (fld 5 a0) fun x29 => S.bd (ldc s x29) fun x30 => S.bd (slices_Clone_api_Vec_api_Vec.v x30 s) fun r31 => S.bd (lda r31.2 5 x27) fun x32 => S.cnd (Value.bool (sameV x32 x28)) (S.bd (bld [(Go.Value.int Go.IntKind.i64 0), (Go.Value.int Go.IntKind.i64 0), (Go.Value.int Go.IntKind.u64 0), (Go.Value.int Go.IntKind.i64 0), (Go.Value.int Go.IntKind.u64 0), (Go.Value.slice Option.none 0 0), (Go.Value.int Go.IntKind.i64 0), (Go.Value.bool Bool.false), (Go.Value.int Go.IntKind.i64 0), (Go.Value.int Go.IntKind.i64 0), (Go.Value.int Go.IntKind.u64 0), (Go.Value.int Go.IntKind.i64 0), (Go.Value.int Go.IntKind.u64 0), (Go.Value.slice Option.none 0 0), (Go.Value.bool Bool.false)] [(0, 5, x28), (5, 1, r31.1), (14, 1, (Go.Value.bool Bool.true))]) fun x33 => S.bd (alv r31.2 x33) fun r34 => S.bd (stv r34.2 1 a1 r34.1) fun s35 => S.bd (stv s35 1 a2 (Go.Value.int Go.IntKind.i64 0)) fun s36 => S.bd (ldc s36 a1) fun x37 => S.bd (ldc s36 a2) fun x38 => some ((Value.tuple ⟨[x37, x38]⟩), s36)) (none)
noncomputable def probe_New.s (S : Sig) (a0 a1 a2 a3 : Value) (s : St) : Option (Value × St) :=
  S.bd (stv s 1 a1 (Go.Value.pointer Option.none)) fun s39 => S.bd (stv s39 1 a2 (Go.Value.int Go.IntKind.i64 190)) fun s40 => S.bd (ldc s40 a1) fun x41 => S.bd (ldc s40 a2) fun x42 => some ((Value.tuple ⟨[x41, x42]⟩), s40)
noncomputable def probe_New.an : An := ⟨33, false, [], [], [], [(5, [(0, 0, [], []), (1, 2, [], []), (2, 0, [], []), (3, 2, [], []), (4, 4, [1], []), (5, 0, [], []), (6, 3, [], []), (7, 4, [], []), (8, 4, [], [])])], [], []⟩
noncomputable def probe_New.an2 (D : List Deferred) : An := ⟨33, false, [], [], [], [(5, [(0, 0, [], []), (1, 2, [], []), (2, 0, [], []), (3, 2, [], []), (4, 4, [1], []), (5, 0, [], []), (6, 3, [], []), (7, 4, [], []), (8, 4, [], [])])], D, []⟩
noncomputable def probe_bad_fn1I.an : An := ⟨22, false, [], [], [], [], [], []⟩
noncomputable def probe_New.code : RnC := rnOf Try.f8
noncomputable def probe_bad_fn1I.code : ItC := itOf Try.f45 4
theorem probe_New.hok (S : Sig) (a0 : Value) (s : St) : dfHead S Try.prog probe_New.ctx probe_New.an probe_New.code.H1 probe_New.code.H2 probe_New.code.H3 [1, 2, 3, 24] Try.f8.results.toList [a0] s = probe_New.h S a0 s := by kernel_rfl
theorem probe_New.eok (S : Sig) (D : List Deferred) (a0 a1 a2 a3 : Value) (s : St) : rnE S Try.prog probe_New.ctx (probe_New.an2 D) probe_New.code.E Try.f8.results.toList [1, 2, 3, 24] [2, 3] [a0, a1, a2, a3] s = probe_New.e S a0 a1 a2 a3 s := by kernel_rfl
theorem probe_New.sok (S : Sig) (a0 a1 a2 a3 : Value) (s : St) : rnS S Try.prog probe_New.ctx probe_New.an probe_New.code.st Try.f8.results.toList [1, 2, 3, 24] [a0, a1, a2, a3] s = probe_New.s S a0 a1 a2 a3 s := by kernel_rfl
noncomputable def probe_bad_fn1I.H (S : Sig) (a0 a1 : Value) (s : St) : Option (List Value × St) :=
  S.bd (ldc s a1) fun x1 => S.bd (lenL x1) fun x2 => some ([a0, x1, x2, (Go.Value.int Go.IntKind.i64 0)], s)
noncomputable def probe_bad_fn1I.Hu (S : Sig) (a1 : Value) (s : St) : Option (List Value × St) :=
  S.bd (ldc s a1) fun x1 => S.bd (lenL x1) fun x2 => some ([x1, x2, (Go.Value.int Go.IntKind.i64 0)], s)
theorem probe_bad_fn1I.Hok (S : Sig) (a0 a1 : Value) (s : St) : itH S Try.prog probe_bad_fn1I.ctx probe_bad_fn1I.an probe_bad_fn1I.code.R0 [0, 5, 6, 7] [a0, a1] s = probe_bad_fn1I.H S a0 a1 s := by kernel_rfl
theorem probe_bad_fn1I.Hpar (a0 a1 : Value) (s : St) : probe_bad_fn1I.H std a0 a1 s = (probe_bad_fn1I.Hu std a1 s).map fun y => (a0 :: y.1, y.2) := by
  simp only [probe_bad_fn1I.H, probe_bad_fn1I.Hu, std_bdR, std_cndR, Option.map_bind, Function.comp_def, cnd_map, Option.map_some, Option.map_none, one_ne_zeroR, zero_ne_oneR, if_true, if_false]
noncomputable def probe_bad_fn1I.Hw : List Value → St → Option (List Value × St)
  | [a1], s => probe_bad_fn1I.Hu std a1 s
  | _, _ => none
noncomputable def probe_bad_fn1I.P (S : Sig) (a0 a1 a2 a3 : Value) (s : St) : Option (Nat × List Value × St) :=
  S.bd (bin .lss a3 a2) fun x3 => S.cnd x3 (S.bd (idx s 2 a1 a3) fun x4 => S.bd (lda s 2 x4) fun x5 => S.bd (alv s (Go.Value.agg #[(Go.Value.int Go.IntKind.i64 0), (Go.Value.int Go.IntKind.u64 0)])) fun r6 => S.bd (stv r6.2 2 r6.1 x5) fun s7 => S.bd (lda s7 2 r6.1) fun x8 => S.bd (vec_Right.r x8 s7) fun x9 => S.bd (eqb [1] false true x9 (Go.Value.int Go.IntKind.i64 0)) fun x10 => some (0, [a0, x10, a3, a1, a2, a3], s7)) (some (1, [], s))
noncomputable def probe_bad_fn1I.Pu (S : Sig) (a1 a2 a3 : Value) (s : St) : Option (Nat × List Value × St) :=
  S.bd (bin .lss a3 a2) fun x3 => S.cnd x3 (S.bd (idx s 2 a1 a3) fun x4 => S.bd (lda s 2 x4) fun x5 => S.bd (alv s (Go.Value.agg #[(Go.Value.int Go.IntKind.i64 0), (Go.Value.int Go.IntKind.u64 0)])) fun r6 => S.bd (stv r6.2 2 r6.1 x5) fun s7 => S.bd (lda s7 2 r6.1) fun x8 => S.bd (vec_Right.r x8 s7) fun x9 => S.bd (eqb [1] false true x9 (Go.Value.int Go.IntKind.i64 0)) fun x10 => some (0, [x10, a3, a1, a2, a3], s7)) (some (1, [], s))
theorem probe_bad_fn1I.Pok (S : Sig) (a0 a1 a2 a3 : Value) (s : St) : itP S Try.prog probe_bad_fn1I.ctx probe_bad_fn1I.an probe_bad_fn1I.code.R1 probe_bad_fn1I.code.X probe_bad_fn1I.code.R2 probe_bad_fn1I.code.ops probe_bad_fn1I.code.A probe_bad_fn1I.code.i0 [0, 5, 6, 7] [0, 15, 3, 5, 6, 7] [a0, a1, a2, a3] s = probe_bad_fn1I.P S a0 a1 a2 a3 s := by kernel_rfl
theorem probe_bad_fn1I.Ppar (a0 a1 a2 a3 : Value) (s : St) : probe_bad_fn1I.P std a0 a1 a2 a3 s = (probe_bad_fn1I.Pu std a1 a2 a3 s).map fun y => (y.1, (if y.1 = 1 then [] else a0 :: y.2.1), y.2.2) := by
  simp only [probe_bad_fn1I.P, probe_bad_fn1I.Pu, std_bdR, std_cndR, Option.map_bind, Function.comp_def, cnd_map, Option.map_some, Option.map_none, one_ne_zeroR, zero_ne_oneR, if_true, if_false]
noncomputable def probe_bad_fn1I.Pw : List Value → St → Option (Nat × List Value × St)
  | [a1, a2, a3], s => probe_bad_fn1I.Pu std a1 a2 a3 s
  | _, _ => none
noncomputable def probe_bad_fn1I.Q (S : Sig) (a0 a1 a2 a3 a4 a5 : Value) (s : St) : Option (List Value × St) :=
  S.bd (pik a1 undef (Go.Value.bool Bool.false)) fun x11 => S.cnd x11 (none) (S.bd (bin .add a5 (Go.Value.int Go.IntKind.i64 1)) fun x12 => some ([a0, a3, a4, x12], s))
noncomputable def probe_bad_fn1I.Qu (S : Sig) (a1 a2 a3 a4 a5 : Value) (s : St) : Option (List Value × St) :=
  S.bd (pik a1 undef (Go.Value.bool Bool.false)) fun x11 => S.cnd x11 (none) (S.bd (bin .add a5 (Go.Value.int Go.IntKind.i64 1)) fun x12 => some ([a3, a4, x12], s))
theorem probe_bad_fn1I.Qok (S : Sig) (a0 a1 a2 a3 a4 a5 : Value) (s : St) : itQ S Try.prog probe_bad_fn1I.ctx probe_bad_fn1I.an probe_bad_fn1I.code.ops probe_bad_fn1I.code.b2 probe_bad_fn1I.code.Z probe_bad_fn1I.code.R4 [0, 5, 6, 7] [0, 15, 3, 5, 6, 7] 19 [a0, a1, a2, a3, a4, a5] s = probe_bad_fn1I.Q S a0 a1 a2 a3 a4 a5 s := by kernel_rfl
theorem probe_bad_fn1I.Qpar (a0 a1 a2 a3 a4 a5 : Value) (s : St) : probe_bad_fn1I.Q std a0 a1 a2 a3 a4 a5 s = (probe_bad_fn1I.Qu std a1 a2 a3 a4 a5 s).map fun y => (a0 :: y.1, y.2) := by
  simp only [probe_bad_fn1I.Q, probe_bad_fn1I.Qu, std_bdR, std_cndR, Option.map_bind, Function.comp_def, cnd_map, Option.map_some, Option.map_none, one_ne_zeroR, zero_ne_oneR, if_true, if_false]
noncomputable def probe_bad_fn1I.Qw : List Value → St → Option (List Value × St)
  | [a1, a2, a3, a4, a5], s => probe_bad_fn1I.Qu std a1 a2 a3 a4 a5 s
  | _, _ => none
theorem probe_bad_fn1I.Tok (s : St) : itT std Try.prog probe_bad_fn1I.ctx probe_bad_fn1I.an probe_bad_fn1I.code.ops probe_bad_fn1I.code.b1 probe_bad_fn1I.code.b2 probe_bad_fn1I.code.Z 15 18 s = some s := by kernel_rfl
theorem probe_bad_fn1I.T_all : probe_bad_fn1I.code.ops.toList = probe_bad_fn1I.code.A ++ [probe_bad_fn1I.code.m1, probe_bad_fn1I.code.m2, probe_bad_fn1I.code.y, probe_bad_fn1I.code.b1, probe_bad_fn1I.code.b2] := by kernel_rfl
noncomputable def probe_bad_fn1I.T : ItT probe_bad_fn1I.code probe_bad_fn1I.an [0, 5, 6, 7] [0, 15, 3, 5, 6, 7] 1 where
  t0 := 0
  t3 := 3
  t15 := 15
  t16 := 16
  t17 := 17
  t18 := 18
  t19 := 19
  g0 := 3
  l0 := rfl
  n0 := rfl
  n3 := ⟨2, rfl, by decide⟩
  n15 := rfl
  f15 := by decide
  g := by kernel_rfl
  m16 := by decide
  m17 := by decide
  m18 := by decide
  m19 := by decide
  lt := by decide
  ne := by decide
  hm1 := ⟨111, "probe.go:36", #[(Go.Edge.mk 3 Go.Ground.guard)], by kernel_rfl⟩
  hm2 := ⟨3, "probe.go:36", #[(Go.Edge.mk 3 Go.Ground.guard)], by kernel_rfl⟩
  hy := ⟨#[3], 4, "probe.go:36", #[(Go.Edge.mk 4 Go.Ground.data), (Go.Edge.mk 5 Go.Ground.data), (Go.Edge.mk 3 Go.Ground.chain), (Go.Edge.mk 3 Go.Ground.guard)], by kernel_rfl⟩
  hb1 := ⟨(Op.unOp Go.UnOp.not 4 (Go.Operand.tmp 18)), 4, "probe.go:36", #[(Go.Edge.mk 6 Go.Ground.data), (Go.Edge.mk 3 Go.Ground.guard)], by kernel_rfl⟩
  all := probe_bad_fn1I.T_all
noncomputable def probe_New.hw : List Value → St → Option (Bool × List Value × St)
  | [a0], s => probe_New.h std a0 s
  | _, _ => none
noncomputable def probe_New.ew : List Value → St → Option (Value × St)
  | [a0, a1, a2, a3], s => probe_New.e std a0 a1 a2 a3 s
  | _, _ => none
noncomputable def probe_New.sw : List Value → St → Option (Value × St)
  | [a0, a1, a2, a3], s => probe_New.s std a0 a1 a2 a3 s
  | _, _ => none
noncomputable def probe_New.w : List Value → St → Option (Value × St) := rnW probe_New.hw 3 45 probe_bad_fn1I.Hw probe_bad_fn1I.Pw probe_bad_fn1I.Qw 0 probe_New.ew probe_New.sw
noncomputable def probe_New.v (a0 : Value) (s : St) : Option (Value × St) := probe_New.w [a0] s
theorem probe_New.can : callOk Try.prog 8 = true := by kernel_rfl
theorem probe_New.sound : FnOk Try.prog 8 (.st probe_New.w) := range_ok (an := probe_New.an) (anI := probe_bad_fn1I.an) (an2 := probe_New.an2) probe_New.ctxok probe_bad_fn1I.ctxok mixed (f := 8) (fn := Try.f8) probe_New.code (by kernel_rfl) (by kernel_rfl) (by kernel_rfl) rfl (fun _ => ⟨rfl, rfl⟩)
  (by kernel_rfl) (by kernel_rfl) (by kernel_rfl) (fun _ => by kernel_rfl) (st_plain (by kernel_rfl)) (g := 45) (gn := Try.f45) probe_bad_fn1I.code (by kernel_rfl) (by kernel_rfl) (by kernel_rfl) (by kernel_rfl) rfl (by kernel_rfl) probe_bad_fn1I.T
  (by kernel_rfl) (by kernel_rfl) (by kernel_rfl) (by kernel_rfl) (by kernel_rfl) (by kernel_rfl)
  (fun a0 cs s r h => by
    unfold probe_bad_fn1I.Hw at h; split at h
    · exact ⟨by simp [probe_bad_fn1I.an], (probe_bad_fn1I.Hok std ..).trans (by rw [probe_bad_fn1I.Hpar, h]; rfl)⟩
    · simp at h)
  (fun a0 cs s r h => by
    unfold probe_bad_fn1I.Pw at h; split at h
    · exact (probe_bad_fn1I.Pok std ..).trans (by rw [probe_bad_fn1I.Ppar, h]; rfl)
    · simp at h)
  (fun a0 cs s r h => by
    unfold probe_bad_fn1I.Qw at h; split at h
    · exact (probe_bad_fn1I.Qok std ..).trans (by rw [probe_bad_fn1I.Qpar, h]; rfl)
    · simp at h)
  probe_bad_fn1I.Tok (ts := [1, 2, 3, 24]) (zs := [2, 3]) (kf := 3) (by kernel_rfl) (by decide) (by decide)
  (fun args s r h => by
    unfold probe_New.hw at h; split at h
    · exact ⟨by simp [probe_New.an], (probe_New.hok std ..).trans h⟩
    · simp at h)
  (fun D ys s r h => by
    unfold probe_New.ew at h; split at h
    · exact (probe_New.eok std D ..).trans h
    · simp at h)
  (fun ys s r h => by
    unfold probe_New.sw at h; split at h
    · exact (probe_New.sok std ..).trans h
    · simp at h)

/-! ### (*leapfrog/probe.Probe).is: function 34 -/
def probe_Probe_is.ctx : Ctx := []
def probe_Probe_is.t (S : Sig) (a0 : Value) (s : St) : Option Value :=
  S.bd (eqb [3] false true a0 (Go.Value.pointer Option.none)) fun x1 => S.bd (S.gd x1 true (some a0)) fun x2 => S.bd (S.gd x1 true (nck x2)) fun x3 => S.bd (S.gd x1 true (fld 14 x3)) fun x4 => S.bd (S.gd x1 true (ldc s x4)) fun x5 => S.bd (pik x1 x5 (Go.Value.bool Bool.false)) fun x6 => some (x6)
def probe_Probe_is.r (a0 : Value) (s : St) : Option Value := probe_Probe_is.t std a0 s
def probe_Probe_is.w : List Value → St → Option Value
  | [a0], s => probe_Probe_is.r a0 s
  | _, _ => none
def probe_Probe_is.an : An := ⟨11, true, [], [], [], [], [], []⟩
theorem probe_Probe_is.ok (S : Sig) (a0 : Value) (s : St) : evG S Try.prog probe_Probe_is.ctx probe_Probe_is.an Try.f34 [a0] s = probe_Probe_is.t S a0 s := by kernel_rfl
theorem probe_Probe_is.cok : CtxOk Try.prog probe_Probe_is.ctx := .nil
theorem probe_Probe_is.draws : fnDraws probe_Probe_is.an Try.f34 = true := by kernel_rfl
theorem probe_Probe_is.can : callOk Try.prog 34 = true := by kernel_rfl
theorem probe_Probe_is.sound : FnOk Try.prog 34 (.rd probe_Probe_is.w) := FnOk.rd_of (evG_ok probe_Probe_is.cok mixed (f := 34) (fn := Try.f34) (by kernel_rfl) probe_Probe_is.draws) fun args s r h => by
  unfold probe_Probe_is.w at h; split at h
  · rw [probe_Probe_is.ok std]; exact h
  · simp at h

/-! ### (*leapfrog/probe.Probe).Next: function 13 -/
def probe_Probe_Next.ctx : Ctx := [(34, .rd probe_Probe_is.w)]
def probe_Probe_Next.t.p1 (S : Sig) (a0 : Value) (s : St) (c1 : List Value) : Option Value :=
  S.bd (nck a0) fun x15 => S.bd (fld 13 x15) fun x16 => S.bd (ldc s x16) fun x17 => S.bd (lenL x17) fun x18 => S.bd (bin .gtr x18 (Go.Value.int Go.IntKind.i64 0)) fun x19 => S.bd (bld [(Go.Value.int Go.IntKind.i64 0), (Go.Value.int Go.IntKind.u64 0), (Go.Value.slice Option.none 0 0), (Go.Value.slice Option.none 0 0), (Go.Value.int Go.IntKind.i64 0), (Go.Value.int Go.IntKind.i64 0), (Go.Value.int Go.IntKind.u64 0), (Go.Value.int Go.IntKind.i64 0), (Go.Value.int Go.IntKind.u64 0), (Go.Value.int Go.IntKind.i64 0), (Go.Value.int Go.IntKind.i64 0), (Go.Value.int Go.IntKind.u64 0), (Go.Value.int Go.IntKind.i64 0), (Go.Value.int Go.IntKind.u64 0), (Go.Value.bool Bool.false)] [(14, 1, x19)]) fun x20 => S.bd (bld [(Go.Value.int Go.IntKind.i64 0), (Go.Value.int Go.IntKind.i64 0), (Go.Value.int Go.IntKind.i64 0), (Go.Value.int Go.IntKind.u64 0), (Go.Value.int Go.IntKind.i64 0), (Go.Value.int Go.IntKind.u64 0), (Go.Value.int Go.IntKind.i64 0), (Go.Value.int Go.IntKind.i64 0), (Go.Value.int Go.IntKind.u64 0), (Go.Value.int Go.IntKind.i64 0), (Go.Value.int Go.IntKind.i64 0), (Go.Value.int Go.IntKind.u64 0), (Go.Value.int Go.IntKind.i64 0), (Go.Value.int Go.IntKind.u64 0), (Go.Value.int Go.IntKind.i64 0), (Go.Value.int Go.IntKind.i64 0), (Go.Value.int Go.IntKind.u64 0), (Go.Value.int Go.IntKind.i64 0), (Go.Value.int Go.IntKind.u64 0), (Go.Value.int Go.IntKind.i64 0), (Go.Value.int Go.IntKind.i64 0), (Go.Value.int Go.IntKind.i64 0), (Go.Value.int Go.IntKind.u64 0), (Go.Value.slice Option.none 0 0), (Go.Value.slice Option.none 0 0), (Go.Value.int Go.IntKind.i64 0), (Go.Value.int Go.IntKind.i64 0), (Go.Value.int Go.IntKind.u64 0), (Go.Value.int Go.IntKind.i64 0), (Go.Value.int Go.IntKind.u64 0), (Go.Value.int Go.IntKind.i64 0), (Go.Value.int Go.IntKind.i64 0), (Go.Value.int Go.IntKind.u64 0), (Go.Value.int Go.IntKind.i64 0), (Go.Value.int Go.IntKind.u64 0), (Go.Value.bool Bool.false)] [(0, 1, (Go.Value.int Go.IntKind.i64 3)), (21, 15, x20)]) fun x21 => S.bd (stl c1 0 36 x21) fun c22 => S.bd (lal c22 0 36) fun x23 => some (x23)

def probe_Probe_Next.t.p2 (S : Sig) (r43 : Cut) (x46 : Value) (x44 : Value) : Option Value :=
  S.bd (ldc r43.2.2 x46) fun x47 => S.bd (nck (r43.2.1.getD 0 undef)) fun x48 => S.bd (fld 6 x48) fun x49 => S.bd (ldc r43.2.2 x49) fun x50 => S.bd (idx r43.2.2 2 x47 x50) fun x51 => S.bd (lda r43.2.2 2 x51) fun x52 => S.bd (bld [(Go.Value.int Go.IntKind.i64 0), (Go.Value.int Go.IntKind.i64 0), (Go.Value.int Go.IntKind.u64 0), (Go.Value.int Go.IntKind.i64 0), (Go.Value.int Go.IntKind.i64 0), (Go.Value.int Go.IntKind.u64 0), (Go.Value.int Go.IntKind.i64 0), (Go.Value.int Go.IntKind.u64 0), (Go.Value.int Go.IntKind.i64 0), (Go.Value.int Go.IntKind.i64 0), (Go.Value.int Go.IntKind.u64 0), (Go.Value.int Go.IntKind.i64 0), (Go.Value.int Go.IntKind.u64 0), (Go.Value.int Go.IntKind.i64 0), (Go.Value.int Go.IntKind.i64 0)] [(0, 1, (Go.Value.int Go.IntKind.i64 1)), (1, 2, x52)]) fun x53 => S.bd (bld [(Go.Value.int Go.IntKind.i64 0), (Go.Value.int Go.IntKind.i64 0), (Go.Value.int Go.IntKind.i64 0), (Go.Value.int Go.IntKind.u64 0), (Go.Value.int Go.IntKind.i64 0), (Go.Value.int Go.IntKind.u64 0), (Go.Value.int Go.IntKind.i64 0), (Go.Value.int Go.IntKind.i64 0), (Go.Value.int Go.IntKind.u64 0), (Go.Value.int Go.IntKind.i64 0), (Go.Value.int Go.IntKind.i64 0), (Go.Value.int Go.IntKind.u64 0), (Go.Value.int Go.IntKind.i64 0), (Go.Value.int Go.IntKind.u64 0), (Go.Value.int Go.IntKind.i64 0), (Go.Value.int Go.IntKind.i64 0), (Go.Value.int Go.IntKind.u64 0), (Go.Value.int Go.IntKind.i64 0), (Go.Value.int Go.IntKind.u64 0), (Go.Value.int Go.IntKind.i64 0), (Go.Value.int Go.IntKind.i64 0), (Go.Value.int Go.IntKind.i64 0), (Go.Value.int Go.IntKind.u64 0), (Go.Value.slice Option.none 0 0), (Go.Value.slice Option.none 0 0), (Go.Value.int Go.IntKind.i64 0), (Go.Value.int Go.IntKind.i64 0), (Go.Value.int Go.IntKind.u64 0), (Go.Value.int Go.IntKind.i64 0), (Go.Value.int Go.IntKind.u64 0), (Go.Value.int Go.IntKind.i64 0), (Go.Value.int Go.IntKind.i64 0), (Go.Value.int Go.IntKind.u64 0), (Go.Value.int Go.IntKind.i64 0), (Go.Value.int Go.IntKind.u64 0), (Go.Value.bool Bool.false)] [(0, 1, (Go.Value.int Go.IntKind.i64 1)), (1, 5, x44), (6, 15, x53)]) fun x54 => S.bd (stl (cellsA (r43.2.1.getD 1 undef)) 0 36 x54) fun c55 => S.bd (lal c55 0 36) fun x56 => some (x56)

def probe_Probe_Next.t (S : Sig) (a0 : Value) (s : St) : Option Value :=
  S.bd (bx (Go.Value.agg #[(Go.Value.int Go.IntKind.i64 0), (Go.Value.int Go.IntKind.i64 0), (Go.Value.int Go.IntKind.i64 0), (Go.Value.int Go.IntKind.u64 0), (Go.Value.int Go.IntKind.i64 0), (Go.Value.int Go.IntKind.u64 0), (Go.Value.int Go.IntKind.i64 0), (Go.Value.int Go.IntKind.i64 0), (Go.Value.int Go.IntKind.u64 0), (Go.Value.int Go.IntKind.i64 0), (Go.Value.int Go.IntKind.i64 0), (Go.Value.int Go.IntKind.u64 0), (Go.Value.int Go.IntKind.i64 0), (Go.Value.int Go.IntKind.u64 0), (Go.Value.int Go.IntKind.i64 0), (Go.Value.int Go.IntKind.i64 0), (Go.Value.int Go.IntKind.u64 0), (Go.Value.int Go.IntKind.i64 0), (Go.Value.int Go.IntKind.u64 0), (Go.Value.int Go.IntKind.i64 0), (Go.Value.int Go.IntKind.i64 0), (Go.Value.int Go.IntKind.i64 0), (Go.Value.int Go.IntKind.u64 0), (Go.Value.slice Option.none 0 0), (Go.Value.slice Option.none 0 0), (Go.Value.int Go.IntKind.i64 0), (Go.Value.int Go.IntKind.i64 0), (Go.Value.int Go.IntKind.u64 0), (Go.Value.int Go.IntKind.i64 0), (Go.Value.int Go.IntKind.u64 0), (Go.Value.int Go.IntKind.i64 0), (Go.Value.int Go.IntKind.i64 0), (Go.Value.int Go.IntKind.u64 0), (Go.Value.int Go.IntKind.i64 0), (Go.Value.int Go.IntKind.u64 0), (Go.Value.bool Bool.false)])) fun c1 => S.bd (probe_Probe_is.r a0 s) fun x2 => S.bd (un .not x2) fun x3 => S.cnd x3 (S.bd (bld [(Go.Value.int Go.IntKind.i64 0), (Go.Value.int Go.IntKind.i64 0), (Go.Value.int Go.IntKind.i64 0), (Go.Value.int Go.IntKind.u64 0), (Go.Value.int Go.IntKind.i64 0), (Go.Value.int Go.IntKind.u64 0), (Go.Value.int Go.IntKind.i64 0), (Go.Value.int Go.IntKind.i64 0), (Go.Value.int Go.IntKind.u64 0), (Go.Value.int Go.IntKind.i64 0), (Go.Value.int Go.IntKind.i64 0), (Go.Value.int Go.IntKind.u64 0), (Go.Value.int Go.IntKind.i64 0), (Go.Value.int Go.IntKind.u64 0), (Go.Value.int Go.IntKind.i64 0), (Go.Value.int Go.IntKind.i64 0), (Go.Value.int Go.IntKind.u64 0), (Go.Value.int Go.IntKind.i64 0), (Go.Value.int Go.IntKind.u64 0), (Go.Value.int Go.IntKind.i64 0), (Go.Value.int Go.IntKind.i64 0), (Go.Value.int Go.IntKind.i64 0), (Go.Value.int Go.IntKind.u64 0), (Go.Value.slice Option.none 0 0), (Go.Value.slice Option.none 0 0), (Go.Value.int Go.IntKind.i64 0), (Go.Value.int Go.IntKind.i64 0), (Go.Value.int Go.IntKind.u64 0), (Go.Value.int Go.IntKind.i64 0), (Go.Value.int Go.IntKind.u64 0), (Go.Value.int Go.IntKind.i64 0), (Go.Value.int Go.IntKind.i64 0), (Go.Value.int Go.IntKind.u64 0), (Go.Value.int Go.IntKind.i64 0), (Go.Value.int Go.IntKind.u64 0), (Go.Value.bool Bool.false)] []) fun x4 => S.bd (stl c1 0 36 x4) fun c5 => S.bd (lal c5 0 36) fun x6 => some (x6)) (S.bd (nck a0) fun x7 => S.bd (fld 6 x7) fun x8 => S.bd (ldc s x8) fun x9 => S.bd (nck a0) fun x10 => S.bd (fld 5 x10) fun x11 => S.bd (ldc s x11) fun x12 => S.bd (lenL x12) fun x13 => S.bd (bin .geq x9 x13) fun x14 => S.cnd x14 (probe_Probe_Next.t.p1 S a0 s c1) (S.bd (nck a0) fun x24 => S.bd (fld 0 x24) fun x25 => S.bd (lda s 5 x25) fun x26 => S.bd (bx (Go.Value.agg #[(Go.Value.int Go.IntKind.i64 0), (Go.Value.int Go.IntKind.i64 0), (Go.Value.int Go.IntKind.u64 0), (Go.Value.int Go.IntKind.i64 0), (Go.Value.int Go.IntKind.u64 0)])) fun c27 => S.bd (stl c27 0 5 x26) fun c28 => S.bd (show Option Cut from S.bd (nck a0) fun x36 => S.bd (fld 7 x36) fun x37 => S.bd (ldc s x37) fun x38 => S.cnd x38 (S.bd (nck a0) fun x39 => S.bd (fld 8 x39) fun x40 => S.bd (lda s 5 x40) fun x41 => S.bd (stl c28 0 5 x41) fun c42 => some (0, [a0, (Value.agg ⟨c1⟩), (Value.agg ⟨c42⟩)], s)) (some (0, [a0, (Value.agg ⟨c1⟩), (Value.agg ⟨c28⟩)], s))) fun r43 => S.bd (lal (cellsA (r43.2.1.getD 2 undef)) 0 5) fun x44 => S.bd (nck (r43.2.1.getD 0 undef)) fun x45 => S.bd (fld 5 x45) fun x46 => probe_Probe_Next.t.p2 S r43 x46 x44))
def probe_Probe_Next.r (a0 : Value) (s : St) : Option Value := probe_Probe_Next.t std a0 s
def probe_Probe_Next.w : List Value → St → Option Value
  | [a0], s => probe_Probe_Next.r a0 s
  | _, _ => none
def probe_Probe_Next.an : An := ⟨53, true, [2, 3], [], [(8, ⟨[], [(.normal, [.v 0, .p 2 2 0, .p 3 3 0, .l 2, .l 3])]⟩)], [(3, [(0, 0, [], []), (1, 0, [], []), (2, 0, [], []), (3, 2, [], []), (4, 0, [], []), (5, 0, [], []), (6, 0, [], []), (7, 2, [], []), (8, 2, [], []), (9, 0, [], []), (10, 0, [], [])]), (8, [(0, 25, [], []), (1, 0, [], []), (2, 0, [], []), (3, 0, [], []), (4, 2, [], []), (5, 0, [], []), (6, 0, [], []), (7, 0, [], []), (8, 2, [], []), (9, 2, [], []), (10, 2, [], []), (11, 0, [], []), (12, 0, [], []), (13, 21, [], [])])], [], []⟩
theorem probe_Probe_Next.ok (S : Sig) (a0 : Value) (s : St) : evG S Try.prog probe_Probe_Next.ctx probe_Probe_Next.an Try.f13 [a0] s = probe_Probe_Next.t S a0 s := by kernel_rfl
theorem probe_Probe_Next.cok : CtxOk Try.prog probe_Probe_Next.ctx := .cons probe_Probe_is.sound probe_Probe_is.can <| .nil
theorem probe_Probe_Next.draws : fnDraws probe_Probe_Next.an Try.f13 = true := by kernel_rfl
theorem probe_Probe_Next.can : callOk Try.prog 13 = true := by kernel_rfl
theorem probe_Probe_Next.sound : FnOk Try.prog 13 (.rd probe_Probe_Next.w) := FnOk.rd_of (evG_ok probe_Probe_Next.cok mixed (f := 13) (fn := Try.f13) (by kernel_rfl) probe_Probe_Next.draws) fun args s r h => by
  unfold probe_Probe_Next.w at h; split at h
  · rw [probe_Probe_Next.ok std]; exact h
  · simp at h

/-! ### cmp.isNaN[leapfrog/api.Rank]: function 57 -/
def cmp_isNaN_api_Rank.ctx : Ctx := []
def cmp_isNaN_api_Rank.t (S : Sig) (a0 : Value) (s : St) : Option Value :=
  S.bd (eqb [1] false true a0 a0) fun x1 => some (x1)
def cmp_isNaN_api_Rank.r (a0 : Value) (s : St) : Option Value := cmp_isNaN_api_Rank.t std a0 s
def cmp_isNaN_api_Rank.w : List Value → St → Option Value
  | [a0], s => cmp_isNaN_api_Rank.r a0 s
  | _, _ => none
def cmp_isNaN_api_Rank.an : An := ⟨6, true, [], [], [], [], [], []⟩
theorem cmp_isNaN_api_Rank.ok (S : Sig) (a0 : Value) (s : St) : evG S Try.prog cmp_isNaN_api_Rank.ctx cmp_isNaN_api_Rank.an Try.f57 [a0] s = cmp_isNaN_api_Rank.t S a0 s := by kernel_rfl
theorem cmp_isNaN_api_Rank.cok : CtxOk Try.prog cmp_isNaN_api_Rank.ctx := .nil
theorem cmp_isNaN_api_Rank.draws : fnDraws cmp_isNaN_api_Rank.an Try.f57 = true := by kernel_rfl
theorem cmp_isNaN_api_Rank.can : callOk Try.prog 57 = true := by kernel_rfl
theorem cmp_isNaN_api_Rank.sound : FnOk Try.prog 57 (.rd cmp_isNaN_api_Rank.w) := FnOk.rd_of (evG_ok cmp_isNaN_api_Rank.cok mixed (f := 57) (fn := Try.f57) (by kernel_rfl) cmp_isNaN_api_Rank.draws) fun args s r h => by
  unfold cmp_isNaN_api_Rank.w at h; split at h
  · rw [cmp_isNaN_api_Rank.ok std]; exact h
  · simp at h

/-! ### cmp.Compare[leapfrog/api.Rank]: function 52 -/
def cmp_Compare_api_Rank.ctx : Ctx := [(57, .rd cmp_isNaN_api_Rank.w)]
def cmp_Compare_api_Rank.t (S : Sig) (a0 a1 : Value) (s : St) : Option Value :=
  S.bd (cmp_isNaN_api_Rank.r a0 s) fun x1 => S.bd (cmp_isNaN_api_Rank.r a1 s) fun x2 => S.cnd x1 (S.cnd x2 (some ((Go.Value.int Go.IntKind.i64 0))) (some ((Go.Value.int Go.IntKind.i64 (-1))))) (S.cnd x2 (some ((Go.Value.int Go.IntKind.i64 1))) (S.bd (bin .lss a0 a1) fun x3 => S.cnd x3 (some ((Go.Value.int Go.IntKind.i64 (-1)))) (S.bd (bin .gtr a0 a1) fun x4 => S.cnd x4 (some ((Go.Value.int Go.IntKind.i64 1))) (some ((Go.Value.int Go.IntKind.i64 0))))))
def cmp_Compare_api_Rank.r (a0 a1 : Value) (s : St) : Option Value := cmp_Compare_api_Rank.t std a0 a1 s
def cmp_Compare_api_Rank.w : List Value → St → Option Value
  | [a0, a1], s => cmp_Compare_api_Rank.r a0 a1 s
  | _, _ => none
def cmp_Compare_api_Rank.an : An := ⟨20, true, [], [], [], [], [], []⟩
theorem cmp_Compare_api_Rank.ok (S : Sig) (a0 a1 : Value) (s : St) : evG S Try.prog cmp_Compare_api_Rank.ctx cmp_Compare_api_Rank.an Try.f52 [a0, a1] s = cmp_Compare_api_Rank.t S a0 a1 s := by kernel_rfl
theorem cmp_Compare_api_Rank.cok : CtxOk Try.prog cmp_Compare_api_Rank.ctx := .cons cmp_isNaN_api_Rank.sound cmp_isNaN_api_Rank.can <| .nil
theorem cmp_Compare_api_Rank.draws : fnDraws cmp_Compare_api_Rank.an Try.f52 = true := by kernel_rfl
theorem cmp_Compare_api_Rank.can : callOk Try.prog 52 = true := by kernel_rfl
theorem cmp_Compare_api_Rank.sound : FnOk Try.prog 52 (.rd cmp_Compare_api_Rank.w) := FnOk.rd_of (evG_ok cmp_Compare_api_Rank.cok mixed (f := 52) (fn := Try.f52) (by kernel_rfl) cmp_Compare_api_Rank.draws) fun args s r h => by
  unfold cmp_Compare_api_Rank.w at h; split at h
  · rw [cmp_Compare_api_Rank.ok std]; exact h
  · simp at h

/-! ### cmp.isNaN[uint64]: function 58 -/
def cmp_isNaN_uint64.ctx : Ctx := []
def cmp_isNaN_uint64.t (S : Sig) (a0 : Value) (s : St) : Option Value :=
  S.bd (eqb [1] false true a0 a0) fun x1 => some (x1)
def cmp_isNaN_uint64.r (a0 : Value) (s : St) : Option Value := cmp_isNaN_uint64.t std a0 s
def cmp_isNaN_uint64.w : List Value → St → Option Value
  | [a0], s => cmp_isNaN_uint64.r a0 s
  | _, _ => none
def cmp_isNaN_uint64.an : An := ⟨6, true, [], [], [], [], [], []⟩
theorem cmp_isNaN_uint64.ok (S : Sig) (a0 : Value) (s : St) : evG S Try.prog cmp_isNaN_uint64.ctx cmp_isNaN_uint64.an Try.f58 [a0] s = cmp_isNaN_uint64.t S a0 s := by kernel_rfl
theorem cmp_isNaN_uint64.cok : CtxOk Try.prog cmp_isNaN_uint64.ctx := .nil
theorem cmp_isNaN_uint64.draws : fnDraws cmp_isNaN_uint64.an Try.f58 = true := by kernel_rfl
theorem cmp_isNaN_uint64.can : callOk Try.prog 58 = true := by kernel_rfl
theorem cmp_isNaN_uint64.sound : FnOk Try.prog 58 (.rd cmp_isNaN_uint64.w) := FnOk.rd_of (evG_ok cmp_isNaN_uint64.cok mixed (f := 58) (fn := Try.f58) (by kernel_rfl) cmp_isNaN_uint64.draws) fun args s r h => by
  unfold cmp_isNaN_uint64.w at h; split at h
  · rw [cmp_isNaN_uint64.ok std]; exact h
  · simp at h

/-! ### cmp.Compare[uint64]: function 53 -/
def cmp_Compare_uint64.ctx : Ctx := [(58, .rd cmp_isNaN_uint64.w)]
def cmp_Compare_uint64.t (S : Sig) (a0 a1 : Value) (s : St) : Option Value :=
  S.bd (cmp_isNaN_uint64.r a0 s) fun x1 => S.bd (cmp_isNaN_uint64.r a1 s) fun x2 => S.cnd x1 (S.cnd x2 (some ((Go.Value.int Go.IntKind.i64 0))) (some ((Go.Value.int Go.IntKind.i64 (-1))))) (S.cnd x2 (some ((Go.Value.int Go.IntKind.i64 1))) (S.bd (bin .lss a0 a1) fun x3 => S.cnd x3 (some ((Go.Value.int Go.IntKind.i64 (-1)))) (S.bd (bin .gtr a0 a1) fun x4 => S.cnd x4 (some ((Go.Value.int Go.IntKind.i64 1))) (some ((Go.Value.int Go.IntKind.i64 0))))))
def cmp_Compare_uint64.r (a0 a1 : Value) (s : St) : Option Value := cmp_Compare_uint64.t std a0 a1 s
def cmp_Compare_uint64.w : List Value → St → Option Value
  | [a0, a1], s => cmp_Compare_uint64.r a0 a1 s
  | _, _ => none
def cmp_Compare_uint64.an : An := ⟨20, true, [], [], [], [], [], []⟩
theorem cmp_Compare_uint64.ok (S : Sig) (a0 a1 : Value) (s : St) : evG S Try.prog cmp_Compare_uint64.ctx cmp_Compare_uint64.an Try.f53 [a0, a1] s = cmp_Compare_uint64.t S a0 a1 s := by kernel_rfl
theorem cmp_Compare_uint64.cok : CtxOk Try.prog cmp_Compare_uint64.ctx := .cons cmp_isNaN_uint64.sound cmp_isNaN_uint64.can <| .nil
theorem cmp_Compare_uint64.draws : fnDraws cmp_Compare_uint64.an Try.f53 = true := by kernel_rfl
theorem cmp_Compare_uint64.can : callOk Try.prog 53 = true := by kernel_rfl
theorem cmp_Compare_uint64.sound : FnOk Try.prog 53 (.rd cmp_Compare_uint64.w) := FnOk.rd_of (evG_ok cmp_Compare_uint64.cok mixed (f := 53) (fn := Try.f53) (by kernel_rfl) cmp_Compare_uint64.draws) fun args s r h => by
  unfold cmp_Compare_uint64.w at h; split at h
  · rw [cmp_Compare_uint64.ok std]; exact h
  · simp at h

/-! ### cmp.Or[int]: function 51 -/
def cmp_Or_int.ctx : Ctx := []
def cmp_Or_int.l3 (S : Sig) (rec9 : List Value → St → Option Cut) (xs7 : List Value) (s8 : St) : Option Cut :=
  S.bd (bin .lss (xs7.getD 3 undef) (xs7.getD 2 undef)) fun x10 => S.cnd x10 (S.bd (idx s8 1 (xs7.getD 1 undef) (xs7.getD 3 undef)) fun x11 => S.bd (ldc s8 x11) fun x12 => S.bd (eqb [1] false true x12 (xs7.getD 0 undef)) fun x13 => S.cnd x13 (some (1, [x12], s8)) (S.bd (bin .add (xs7.getD 3 undef) (Go.Value.int Go.IntKind.i64 1)) fun x14 => rec9 [(xs7.getD 0 undef), (xs7.getD 1 undef), (xs7.getD 2 undef), x14] s8)) (some (0, [(xs7.getD 0 undef)], s8))

def cmp_Or_int.t (S : Sig) (a0 : Value) (s : St) : Option Value :=
  S.bd (lenL a0) fun x1 => S.bd (S.it (cmp_Or_int.l3 S) [(Go.Value.int Go.IntKind.i64 0), a0, x1, (Go.Value.int Go.IntKind.i64 0)] s) fun r15 => if r15.1 = 0 then (some ((r15.2.1.getD 0 undef))) else (some ((r15.2.1.getD 0 undef)))
def cmp_Or_int.r (a0 : Value) (s : St) : Option Value := cmp_Or_int.t std a0 s
def cmp_Or_int.w : List Value → St → Option Value
  | [a0], s => cmp_Or_int.r a0 s
  | _, _ => none
def cmp_Or_int.an : An := ⟨18, true, [], [(3, ⟨[.v 3, .v 6, .v 7, .v 8], [(.exit 0, [.v 3]), (.ret, [.v 2])]⟩)], [], [], [], []⟩
theorem cmp_Or_int.ok (S : Sig) (a0 : Value) (s : St) : evG S Try.prog cmp_Or_int.ctx cmp_Or_int.an Try.f51 [a0] s = cmp_Or_int.t S a0 s := by kernel_rfl
theorem cmp_Or_int.cok : CtxOk Try.prog cmp_Or_int.ctx := .nil
theorem cmp_Or_int.draws : fnDraws cmp_Or_int.an Try.f51 = true := by kernel_rfl
theorem cmp_Or_int.can : callOk Try.prog 51 = true := by kernel_rfl
theorem cmp_Or_int.sound : FnOk Try.prog 51 (.rd cmp_Or_int.w) := FnOk.rd_of (evG_ok cmp_Or_int.cok mixed (f := 51) (fn := Try.f51) (by kernel_rfl) cmp_Or_int.draws) fun args s r h => by
  unfold cmp_Or_int.w at h; split at h
  · rw [cmp_Or_int.ok std]; exact h
  · simp at h

/-! ### leapfrog/key.Compare: function 47 -/
def key_Compare.ctx : Ctx := [(52, .rd cmp_Compare_api_Rank.w), (53, .rd cmp_Compare_uint64.w), (51, .rd cmp_Or_int.w)]
def key_Compare.t (S : Sig) (a0 a1 : Value) (s : St) : Option (Value × St) :=
  S.bd (bx a0) fun c1 => S.bd (bx a1) fun c2 => S.bd (lcl c1 0) fun x3 => S.bd (lcl c2 0) fun x4 => S.bd (lcl c1 1) fun x5 => S.bd (lcl c2 1) fun x6 => S.bd (cmp_Compare_api_Rank.r x3 x4 s) fun x7 => S.bd (cmp_Compare_uint64.r x5 x6 s) fun x8 => S.bd (S.bd (bls 1 (List.replicate 2 [(Go.Value.int Go.IntKind.i64 0)]) [(0, x7), (1, x8)]) fun rows => als s 1 2 rows) fun r9 => S.bd (cmp_Or_int.r r9.1 r9.2) fun x10 => some (x10, r9.2)
def key_Compare.v (a0 a1 : Value) (s : St) : Option (Value × St) := key_Compare.t std a0 a1 s
def key_Compare.w : List Value → St → Option (Value × St)
  | [a0, a1], s => key_Compare.v a0 a1 s
  | _, _ => none
def key_Compare.an : An := ⟨17, false, [2, 3], [], [], [(1, [(0, 0, [], []), (1, 17, [], []), (2, 0, [], []), (3, 25, [], []), (5, 0, [], []), (6, 17, [], []), (7, 0, [], []), (8, 25, [], []), (4, 3, [], []), (9, 3, [], []), (10, 3, [], []), (11, 3, [], []), (12, 0, [], [])])], [], []⟩
theorem key_Compare.ok (S : Sig) (a0 a1 : Value) (s : St) : evF S Try.prog key_Compare.ctx key_Compare.an Try.f47 [a0, a1] s = key_Compare.t S a0 a1 s := by kernel_rfl
theorem key_Compare.cok : CtxOk Try.prog key_Compare.ctx := .cons cmp_Compare_api_Rank.sound cmp_Compare_api_Rank.can <| .cons cmp_Compare_uint64.sound cmp_Compare_uint64.can <| .cons cmp_Or_int.sound cmp_Or_int.can <| .nil
theorem key_Compare.draws : fnDraws key_Compare.an Try.f47 = true := by kernel_rfl
theorem key_Compare.can : callOk Try.prog 47 = true := by kernel_rfl
theorem key_Compare.sound : FnOk Try.prog 47 (.st key_Compare.w) := FnOk.st_of (evF_ok key_Compare.cok mixed (f := 47) (fn := Try.f47) (by kernel_rfl) key_Compare.draws) fun args s r h => by
  unfold key_Compare.w at h; split at h
  · rw [key_Compare.ok std]; exact h
  · simp at h

/-! ### leapfrog/key.Compare: function 47, as a reading -/
def key_CompareQ.r (a0 a1 : Value) (s : St) : Option Value := frzR (fun s => key_Compare.v a0 a1 s) s
def key_CompareQ.w : List Value → St → Option Value := fun args s => frzR (key_Compare.w args) s
theorem key_CompareQ.can : callOk Try.prog 47 = true := key_Compare.can
theorem key_CompareQ.sound : FnOk Try.prog 47 (.rd key_CompareQ.w) := FnOk.frozen key_Compare.sound

/-! ### leapfrog/key.Less: function 35 -/
def key_Less.ctx : Ctx := [(47, .rd key_CompareQ.w)]
def key_Less.t (S : Sig) (a0 a1 : Value) (s : St) : Option Value :=
  S.bd (bx a0) fun c1 => S.bd (bx a1) fun c2 => S.bd (lal c1 0 2) fun x3 => S.bd (lal c2 0 2) fun x4 => S.bd (key_CompareQ.r x3 x4 s) fun x5 => S.bd (bin .lss x5 (Go.Value.int Go.IntKind.i64 0)) fun x6 => some (x6)
def key_Less.r (a0 a1 : Value) (s : St) : Option Value := key_Less.t std a0 a1 s
def key_Less.w : List Value → St → Option Value
  | [a0, a1], s => key_Less.r a0 a1 s
  | _, _ => none
def key_Less.an : An := ⟨9, true, [2, 3], [], [], [], [], []⟩
theorem key_Less.ok (S : Sig) (a0 a1 : Value) (s : St) : evG S Try.prog key_Less.ctx key_Less.an Try.f35 [a0, a1] s = key_Less.t S a0 a1 s := by kernel_rfl
theorem key_Less.cok : CtxOk Try.prog key_Less.ctx := .cons key_CompareQ.sound key_CompareQ.can <| .nil
theorem key_Less.draws : fnDraws key_Less.an Try.f35 = true := by kernel_rfl
theorem key_Less.can : callOk Try.prog 35 = true := by kernel_rfl
theorem key_Less.sound : FnOk Try.prog 35 (.rd key_Less.w) := FnOk.rd_of (evG_ok key_Less.cok mixed (f := 35) (fn := Try.f35) (by kernel_rfl) key_Less.draws) fun args s r h => by
  unfold key_Less.w at h; split at h
  · rw [key_Less.ok std]; exact h
  · simp at h

/-! ### (*leapfrog/probe.Probe).finds: function 36 -/
def probe_Probe_finds.ctx : Ctx := []
def probe_Probe_finds.t.p1 (S : Sig) (a0 : Value) (s : St) (x9 : Value) (c1 : List Value) : Option (Value × St) :=
  S.bd (nck a0) fun x10 => S.bd (fld 8 x10) fun x11 => S.bd (lda s 5 x11) fun x12 => S.bd (bld [(Go.Value.int Go.IntKind.i64 0), (Go.Value.int Go.IntKind.u64 0), (Go.Value.int Go.IntKind.i64 0), (Go.Value.int Go.IntKind.i64 0), (Go.Value.int Go.IntKind.i64 0), (Go.Value.int Go.IntKind.u64 0), (Go.Value.int Go.IntKind.i64 0), (Go.Value.int Go.IntKind.u64 0)] [(0, 2, x9), (3, 5, x12)]) fun x13 => S.bd (nck a0) fun x14 => S.bd (fld 6 x14) fun x15 => S.bd (ldc s x15) fun x16 => S.bd (bld [(Go.Value.int Go.IntKind.i64 0), (Go.Value.int Go.IntKind.u64 0), (Go.Value.int Go.IntKind.i64 0), (Go.Value.int Go.IntKind.i64 0), (Go.Value.int Go.IntKind.i64 0), (Go.Value.int Go.IntKind.u64 0), (Go.Value.int Go.IntKind.i64 0), (Go.Value.int Go.IntKind.u64 0), (Go.Value.int Go.IntKind.i64 0)] [(0, 8, x13), (8, 1, x16)]) fun x17 => S.bd (bx (Go.Value.agg #[(Go.Value.int Go.IntKind.i64 0), (Go.Value.int Go.IntKind.u64 0), (Go.Value.int Go.IntKind.i64 0), (Go.Value.int Go.IntKind.i64 0), (Go.Value.int Go.IntKind.i64 0), (Go.Value.int Go.IntKind.u64 0), (Go.Value.int Go.IntKind.i64 0), (Go.Value.int Go.IntKind.u64 0), (Go.Value.int Go.IntKind.i64 0)])) fun c18 => S.bd (stl c18 0 9 x17) fun c19 => S.bd (show Option Cut from S.bd (lcl c1 0) fun x33 => S.bd (eqb [1] false false x33 (Go.Value.int Go.IntKind.i64 3)) fun x34 => S.cnd x34 (S.bd (stl c19 2 1 (Go.Value.int Go.IntKind.i64 1)) fun c35 => some (0, [a0, (Value.agg ⟨c35⟩)], s)) (S.bd (lcl c1 0) fun x36 => S.bd (eqb [1] false false x36 (Go.Value.int Go.IntKind.i64 1)) fun x37 => S.bd (S.gd x37 true (lal c1 2 5)) fun x38 => S.bd (S.gd x37 true (some a0)) fun x39 => S.bd (S.gd x37 true (nck x39)) fun x40 => S.bd (S.gd x37 true (fld 0 x40)) fun x41 => S.bd (S.gd x37 true (lda s 5 x41)) fun x42 => S.bd (S.gd x37 true (eqb [1, 1, 1, 1, 1] true true x38 x42)) fun x43 => S.bd (pik x37 x43 (Go.Value.bool Bool.false)) fun x44 => S.cnd x44 (S.bd (stl c19 2 1 (Go.Value.int Go.IntKind.i64 2)) fun c45 => some (0, [a0, (Value.agg ⟨c45⟩)], s)) (some (1, [], s)))) fun r46 => if r46.1 = 0 then (S.bd (nck (r46.2.1.getD 0 undef)) fun x47 => S.bd (fld 13 x47) fun x48 => S.bd (ldc r46.2.2 x48) fun x49 => S.bd (lal (cellsA (r46.2.1.getD 1 undef)) 0 9) fun x50 => S.bd (S.bd (bls 9 (List.replicate 1 [(Go.Value.int Go.IntKind.i64 0), (Go.Value.int Go.IntKind.u64 0), (Go.Value.int Go.IntKind.i64 0), (Go.Value.int Go.IntKind.i64 0), (Go.Value.int Go.IntKind.i64 0), (Go.Value.int Go.IntKind.u64 0), (Go.Value.int Go.IntKind.i64 0), (Go.Value.int Go.IntKind.u64 0), (Go.Value.int Go.IntKind.i64 0)]) [(0, x50)]) fun rows => als r46.2.2 9 1 rows) fun r51 => S.bd (app r51.2 9 72 x49 r51.1) fun r52 => S.bd (nck (r46.2.1.getD 0 undef)) fun x53 => S.bd (fld 13 x53) fun x54 => S.bd (stv r52.2 1 x54 r52.1) fun s55 => some ((Value.tuple ⟨[]⟩), s55)) else (some ((Value.tuple ⟨[]⟩), r46.2.2))

def probe_Probe_finds.t (S : Sig) (a0 a1 : Value) (s : St) : Option (Value × St) :=
  S.bd (bx a1) fun c1 => S.bd (nck a0) fun x2 => S.bd (fld 5 x2) fun x3 => S.bd (ldc s x3) fun x4 => S.bd (nck a0) fun x5 => S.bd (fld 6 x5) fun x6 => S.bd (ldc s x6) fun x7 => S.bd (idx s 2 x4 x7) fun x8 => S.bd (lda s 2 x8) fun x9 => probe_Probe_finds.t.p1 S a0 s x9 c1
def probe_Probe_finds.v (a0 a1 : Value) (s : St) : Option (Value × St) := probe_Probe_finds.t std a0 a1 s
def probe_Probe_finds.w : List Value → St → Option (Value × St)
  | [a0, a1], s => probe_Probe_finds.v a0 a1 s
  | _, _ => none
def probe_Probe_finds.an : An := ⟨56, false, [3, 4], [], [(6, ⟨[], [(.normal, [.v 0, .p 4 4 0, .l 4]), (.ret, [])]⟩)], [(1, [(0, 0, [], []), (1, 0, [], []), (2, 0, [], []), (3, 2, [], []), (4, 0, [], []), (5, 0, [], []), (6, 0, [], []), (7, 2, [], []), (8, 2, [], []), (9, 2, [], []), (10, 0, [], []), (11, 0, [], []), (12, 0, [], []), (13, 2, [], []), (14, 0, [], []), (15, 0, [], []), (16, 0, [], []), (17, 0, [], []), (18, 2, [], []), (19, 0, [], []), (20, 6, [], []), (21, 37, [], [])]), (4, [(0, 0, [], []), (1, 25, [], []), (2, 0, [], []), (3, 0, [], []), (4, 0, [], []), (5, 25, [], []), (6, 0, [], []), (7, 0, [], []), (8, 0, [], []), (9, 2, [], []), (10, 0, [], []), (11, 0, [], []), (12, 0, [], [])]), (6, [(0, 0, [], []), (1, 0, [], []), (2, 0, [], []), (3, 0, [], []), (4, 2, [], []), (5, 33, [], []), (6, 3, [], []), (7, 4, [], []), (8, 0, [], []), (9, 0, [], []), (10, 4, [], [])])], [], []⟩
theorem probe_Probe_finds.ok (S : Sig) (a0 a1 : Value) (s : St) : evF S Try.prog probe_Probe_finds.ctx probe_Probe_finds.an Try.f36 [a0, a1] s = probe_Probe_finds.t S a0 a1 s := by kernel_rfl
theorem probe_Probe_finds.cok : CtxOk Try.prog probe_Probe_finds.ctx := .nil
theorem probe_Probe_finds.draws : fnDraws probe_Probe_finds.an Try.f36 = true := by kernel_rfl
theorem probe_Probe_finds.can : callOk Try.prog 36 = true := by kernel_rfl
theorem probe_Probe_finds.sound : FnOk Try.prog 36 (.st probe_Probe_finds.w) := FnOk.st_of (evF_ok probe_Probe_finds.cok mixed (f := 36) (fn := Try.f36) (by kernel_rfl) probe_Probe_finds.draws) fun args s r h => by
  unfold probe_Probe_finds.w at h; split at h
  · rw [probe_Probe_finds.ok std]; exact h
  · simp at h

/-! ### (*leapfrog/probe.Probe).Tell: function 14 -/
def probe_Probe_Tell.ctx : Ctx := [(34, .rd probe_Probe_is.w), (35, .rd key_Less.w), (36, .st probe_Probe_finds.w)]
def probe_Probe_Tell.t.p1 (S : Sig) (x3 : Value) (x9 : Value) (s : St) (x7 : Value) (a0 : Value) (c1 : List Value) : Option (Value × St) :=
  S.bd (S.gd x3 false (fld 5 x9)) fun x10 => S.bd (S.gd x3 false (ldc s x10)) fun x11 => S.bd (S.gd x3 false (lenL x11)) fun x12 => S.bd (S.gd x3 false (bin .geq x7 x12)) fun x13 => S.bd (pik x3 (Go.Value.bool Bool.true) x13) fun x14 => S.cnd x14 (some ((Value.tuple ⟨[]⟩), s)) (S.bd (nck a0) fun x15 => S.bd (fld 7 x15) fun x16 => S.bd (ldc s x16) fun x17 => S.bd (un .not x17) fun x18 => S.bd (S.gd x18 true (lcl c1 0)) fun x19 => S.bd (S.gd x18 true (eqb [1] false false x19 (Go.Value.int Go.IntKind.i64 1))) fun x20 => S.bd (pik x18 x20 (Go.Value.bool Bool.false)) fun x21 => S.bd (S.gd x21 true (some a0)) fun x22 => S.bd (S.gd x21 true (nck x22)) fun x23 => S.bd (S.gd x21 true (fld 0 x23)) fun x24 => S.bd (S.gd x21 true (fld 1 x24)) fun x25 => S.bd (S.gd x21 true (lda s 2 x25)) fun x26 => S.bd (S.gd x21 true (lal c1 8 2)) fun x27 => S.bd (S.gd x21 true (key_Less.r x26 x27 s)) fun x28 => S.bd (pik x21 x28 (Go.Value.bool Bool.false)) fun x29 => S.cnd x29 (S.bd (lal c1 7 5) fun x30 => S.bd (nck a0) fun x31 => S.bd (fld 7 x31) fun x32 => S.bd (stv s 1 x32 (Go.Value.bool Bool.true)) fun s33 => S.bd (nck a0) fun x34 => S.bd (fld 8 x34) fun x35 => S.bd (stv s33 5 x35 x30) fun s36 => some ((Value.tuple ⟨[]⟩), s36)) (S.bd (show Option Cut from S.bd (nck a0) fun x42 => S.bd (fld 7 x42) fun x43 => S.bd (ldc s x43) fun x44 => S.cnd x44 (S.bd (lal c1 0 13) fun x45 => S.bd (probe_Probe_finds.v a0 x45 s) fun r46 => some (0, [a0], r46.2)) (some (0, [a0], s))) fun r47 => S.bd (nck (r47.2.1.getD 0 undef)) fun x48 => S.bd (fld 7 x48) fun x49 => S.bd (stv r47.2.2 1 x49 (Go.Value.bool Bool.false)) fun s50 => S.bd (nck (r47.2.1.getD 0 undef)) fun x51 => S.bd (fld 6 x51) fun x52 => S.bd (ldc s50 x52) fun x53 => S.bd (bin .add x53 (Go.Value.int Go.IntKind.i64 1)) fun x54 => S.bd (nck (r47.2.1.getD 0 undef)) fun x55 => S.bd (fld 6 x55) fun x56 => S.bd (stv s50 1 x56 x54) fun s57 => some ((Value.tuple ⟨[]⟩), s57)))

def probe_Probe_Tell.t (S : Sig) (a0 a1 : Value) (s : St) : Option (Value × St) :=
  S.bd (bx a1) fun c1 => S.bd (probe_Probe_is.r a0 s) fun x2 => S.bd (un .not x2) fun x3 => S.bd (S.gd x3 false (some a0)) fun x4 => S.bd (S.gd x3 false (nck x4)) fun x5 => S.bd (S.gd x3 false (fld 6 x5)) fun x6 => S.bd (S.gd x3 false (ldc s x6)) fun x7 => S.bd (S.gd x3 false (some a0)) fun x8 => S.bd (S.gd x3 false (nck x8)) fun x9 => probe_Probe_Tell.t.p1 S x3 x9 s x7 a0 c1
def probe_Probe_Tell.v (a0 a1 : Value) (s : St) : Option (Value × St) := probe_Probe_Tell.t std a0 a1 s
def probe_Probe_Tell.w : List Value → St → Option (Value × St)
  | [a0, a1], s => probe_Probe_Tell.v a0 a1 s
  | _, _ => none
def probe_Probe_Tell.an : An := ⟨65, false, [3], [], [(6, ⟨[], [(.normal, [.v 0])]⟩)], [(1, [(0, 0, [], []), (1, 3, [], []), (2, 0, [], []), (3, 0, [], []), (4, 0, [], []), (5, 0, [], []), (6, 0, [], []), (7, 2, [], []), (8, 0, [], []), (9, 0, [], []), (10, 0, [], []), (11, 2, [], []), (12, 2, [], []), (13, 0, [], []), (14, 0, [], [])]), (2, [(0, 0, [], []), (1, 0, [], []), (2, 0, [], []), (3, 2, [], []), (4, 0, [], []), (5, 0, [], []), (6, 0, [], []), (7, 25, [], []), (8, 0, [], []), (9, 0, [], []), (10, 0, [], []), (11, 0, [], []), (12, 0, [], []), (13, 0, [], []), (14, 0, [], []), (15, 2, [], []), (16, 0, [], []), (17, 0, [], []), (18, 25, [], []), (19, 3, [], []), (20, 0, [], [])]), (3, [(0, 0, [], []), (1, 0, [], []), (2, 0, [], []), (3, 25, [], []), (4, 0, [], []), (5, 0, [], []), (6, 4, [], []), (7, 0, [], []), (8, 0, [], []), (9, 4, [], [])])], [], []⟩
theorem probe_Probe_Tell.ok (S : Sig) (a0 a1 : Value) (s : St) : evF S Try.prog probe_Probe_Tell.ctx probe_Probe_Tell.an Try.f14 [a0, a1] s = probe_Probe_Tell.t S a0 a1 s := by kernel_rfl
theorem probe_Probe_Tell.cok : CtxOk Try.prog probe_Probe_Tell.ctx := .cons probe_Probe_is.sound probe_Probe_is.can <| .cons key_Less.sound key_Less.can <| .cons probe_Probe_finds.sound probe_Probe_finds.can <| .nil
theorem probe_Probe_Tell.draws : fnDraws probe_Probe_Tell.an Try.f14 = true := by kernel_rfl
theorem probe_Probe_Tell.can : callOk Try.prog 14 = true := by kernel_rfl
theorem probe_Probe_Tell.sound : FnOk Try.prog 14 (.st probe_Probe_Tell.w) := FnOk.st_of (evF_ok probe_Probe_Tell.cok mixed (f := 14) (fn := Try.f14) (by kernel_rfl) probe_Probe_Tell.draws) fun args s r h => by
  unfold probe_Probe_Tell.w at h; split at h
  · rw [probe_Probe_Tell.ok std]; exact h
  · simp at h

/-! ### slices.Clone[[]leapfrog/probe.broken,leapfrog/probe.broken]: function 39 -/
def slices_Clone_probe_broken_probe_broken.ctx : Ctx := []
def slices_Clone_probe_broken_probe_broken.t (S : Sig) (a0 : Value) (s : St) : Option (Value × St) :=
  S.bd (eqb [4] false false a0 (Go.Value.slice Option.none 0 0)) fun x1 => S.cnd x1 (some ((Go.Value.slice Option.none 0 0), s)) (S.bd (S.bd (bls 9 (List.replicate 0 [(Go.Value.int Go.IntKind.i64 0), (Go.Value.int Go.IntKind.u64 0), (Go.Value.int Go.IntKind.i64 0), (Go.Value.int Go.IntKind.i64 0), (Go.Value.int Go.IntKind.i64 0), (Go.Value.int Go.IntKind.u64 0), (Go.Value.int Go.IntKind.i64 0), (Go.Value.int Go.IntKind.u64 0), (Go.Value.int Go.IntKind.i64 0)]) []) fun rows => als s 9 0 rows) fun r2 => S.bd (app r2.2 9 72 r2.1 a0) fun r3 => some (r3.1, r3.2))
def slices_Clone_probe_broken_probe_broken.v (a0 : Value) (s : St) : Option (Value × St) := slices_Clone_probe_broken_probe_broken.t std a0 s
def slices_Clone_probe_broken_probe_broken.w : List Value → St → Option (Value × St)
  | [a0], s => slices_Clone_probe_broken_probe_broken.v a0 s
  | _, _ => none
def slices_Clone_probe_broken_probe_broken.an : An := ⟨8, false, [], [], [], [], [], []⟩
theorem slices_Clone_probe_broken_probe_broken.ok (S : Sig) (a0 : Value) (s : St) : evF S Try.prog slices_Clone_probe_broken_probe_broken.ctx slices_Clone_probe_broken_probe_broken.an Try.f39 [a0] s = slices_Clone_probe_broken_probe_broken.t S a0 s := by kernel_rfl
theorem slices_Clone_probe_broken_probe_broken.cok : CtxOk Try.prog slices_Clone_probe_broken_probe_broken.ctx := .nil
theorem slices_Clone_probe_broken_probe_broken.draws : fnDraws slices_Clone_probe_broken_probe_broken.an Try.f39 = true := by kernel_rfl
theorem slices_Clone_probe_broken_probe_broken.can : callOk Try.prog 39 = true := by kernel_rfl
theorem slices_Clone_probe_broken_probe_broken.sound : FnOk Try.prog 39 (.st slices_Clone_probe_broken_probe_broken.w) := FnOk.st_of (evF_ok slices_Clone_probe_broken_probe_broken.cok mixed (f := 39) (fn := Try.f39) (by kernel_rfl) slices_Clone_probe_broken_probe_broken.draws) fun args s r h => by
  unfold slices_Clone_probe_broken_probe_broken.w at h; split at h
  · rw [slices_Clone_probe_broken_probe_broken.ok std]; exact h
  · simp at h

/-! ### slices.insertionSortCmpFunc[leapfrog/probe.broken]: function 55 -/
def slices_insertionSortCmpFunc_probe_broken.ctx : Ctx := [(41, .rd probe_Probe_Breaks_fn1.w), (45, .st probe_bad_fn1.w)]
def slices_insertionSortCmpFunc_probe_broken.l4 (S : Sig) (rec70 : List Value → St → Option Cut) (xs68 : List Value) (s69 : St) : Option Cut :=
  S.bd (bin .gtr (xs68.getD 5 undef) (xs68.getD 1 undef)) fun x71 => S.bd (S.gd x71 true (some (xs68.getD 3 undef))) fun x72 => S.bd (S.gd x71 true (some (xs68.getD 0 undef))) fun x73 => S.bd (S.gd x71 true (some (xs68.getD 5 undef))) fun x74 => S.bd (S.gd x71 true (idx s69 9 x73 x74)) fun x75 => S.bd (S.gd x71 true (lda s69 9 x75)) fun x76 => S.bd (S.gd x71 true (some (xs68.getD 0 undef))) fun x77 => S.bd (S.gd x71 true (some (xs68.getD 5 undef))) fun x78 => S.bd (S.gd x71 true (bin .sub x78 (Go.Value.int Go.IntKind.i64 1))) fun x79 => S.bd (S.gd x71 true (idx s69 9 x77 x79)) fun x80 => S.bd (S.gd x71 true (lda s69 9 x80)) fun x81 => S.bd (S.gdS x71 true (callV (slices_insertionSortCmpFunc_probe_broken.ctx) x72 [x76, x81] s69) s69) fun r82 => S.bd (S.gd x71 true (idx r82.2 9 x73 x74)) fun x83 => S.cnd (Value.bool (sameV x83 x75)) (S.bd (S.gd x71 true (idx r82.2 9 x77 x79)) fun x84 => S.cnd (Value.bool (sameV x84 x80)) (S.bd (S.gd x71 true (bin .lss r82.1 (Go.Value.int Go.IntKind.i64 0))) fun x85 => S.bd (pik x71 x85 (Go.Value.bool Bool.false)) fun x86 => S.cnd x86 (S.bd (bin .sub (xs68.getD 5 undef) (Go.Value.int Go.IntKind.i64 1)) fun x87 => S.bd (bin .sub (xs68.getD 5 undef) (Go.Value.int Go.IntKind.i64 1)) fun x88 => S.bd (idx r82.2 9 (xs68.getD 0 undef) x88) fun x89 => S.bd (lda r82.2 9 x89) fun x90 => S.bd (idx r82.2 9 (xs68.getD 0 undef) (xs68.getD 5 undef)) fun x91 => S.bd (lda r82.2 9 x91) fun x92 => S.bd (idx r82.2 9 (xs68.getD 0 undef) (xs68.getD 5 undef)) fun x93 => S.bd (stv r82.2 9 x93 x90) fun s94 => S.bd (idx s94 9 (xs68.getD 0 undef) (xs68.getD 5 undef)) fun x95 => S.cnd (Value.bool (sameV x95 x91)) (S.bd (idx s94 9 (xs68.getD 0 undef) x87) fun x96 => S.bd (stv s94 9 x96 x92) fun s97 => S.bd (bin .sub (xs68.getD 5 undef) (Go.Value.int Go.IntKind.i64 1)) fun x98 => rec70 [(xs68.getD 0 undef), (xs68.getD 1 undef), (xs68.getD 2 undef), (xs68.getD 3 undef), (xs68.getD 4 undef), x98] s97) (none)) (some (0, [(xs68.getD 0 undef), (xs68.getD 1 undef), (xs68.getD 2 undef), (xs68.getD 3 undef), (xs68.getD 4 undef), x72, x73, x74, x75, x76, x77, x78, x79, x80, x81, r82.1, x85], r82.2))) (none)) (none)

def slices_insertionSortCmpFunc_probe_broken.l1 (S : Sig) (rec66 : List Value → St → Option Cut) (xs64 : List Value) (s65 : St) : Option Cut :=
  S.bd (bin .lss (xs64.getD 4 undef) (xs64.getD 2 undef)) fun x67 => S.cnd x67 (S.bd (S.it (slices_insertionSortCmpFunc_probe_broken.l4 S) [(xs64.getD 0 undef), (xs64.getD 1 undef), (xs64.getD 2 undef), (xs64.getD 3 undef), (xs64.getD 4 undef), (xs64.getD 4 undef)] s65) fun r99 => S.bd (bin .add (r99.2.1.getD 4 undef) (Go.Value.int Go.IntKind.i64 1)) fun x100 => rec66 [(r99.2.1.getD 0 undef), (r99.2.1.getD 1 undef), (r99.2.1.getD 2 undef), (r99.2.1.getD 3 undef), x100] r99.2.2) (some (0, [], s65))

def slices_insertionSortCmpFunc_probe_broken.t (S : Sig) (a0 a1 a2 a3 : Value) (s : St) : Option (Value × St) :=
  S.bd (bin .add a1 (Go.Value.int Go.IntKind.i64 1)) fun x1 => S.bd (S.it (slices_insertionSortCmpFunc_probe_broken.l1 S) [a0, a1, a2, a3, x1] s) fun r101 => some ((Value.tuple ⟨[]⟩), r101.2.2)
def slices_insertionSortCmpFunc_probe_broken.v (a0 a1 a2 a3 : Value) (s : St) : Option (Value × St) := slices_insertionSortCmpFunc_probe_broken.t std a0 a1 a2 a3 s
def slices_insertionSortCmpFunc_probe_broken.w : List Value → St → Option (Value × St)
  | [a0, a1, a2, a3], s => slices_insertionSortCmpFunc_probe_broken.v a0 a1 a2 a3 s
  | _, _ => none
def slices_insertionSortCmpFunc_probe_broken.an : An := ⟨53, false, [], [(4, ⟨[.v 0, .v 1, .v 2, .v 3, .v 8, .v 9], [(.exit 2, [.v 0, .v 1, .v 2, .v 3, .v 8, .v 22, .v 23, .v 24, .v 25, .v 26, .v 27, .v 28, .v 29, .v 30, .v 31, .v 32, .v 33])]⟩), (1, ⟨[.v 0, .v 1, .v 2, .v 3, .v 8], [(.exit 0, [])]⟩)], [], [(4, [(0, 0, [], []), (1, 0, [], []), (2, 0, [], []), (3, 0, [], []), (4, 0, [], []), (5, 0, [], []), (6, 0, [], []), (7, 2, [], []), (8, 2, [], []), (9, 0, [], []), (10, 0, [], []), (11, 0, [], []), (12, 2, [], []), (13, 2, [], []), (14, 4, [7, 12], []), (15, 0, [], []), (16, 0, [], [])]), (6, [(0, 0, [], []), (1, 0, [], []), (2, 0, [], []), (3, 0, [], []), (4, 0, [], []), (5, 0, [], []), (6, 0, [], []), (7, 0, [], []), (8, 2, [], []), (9, 2, [], []), (10, 0, [], []), (11, 0, [], []), (12, 2, [], []), (13, 2, [], []), (14, 2, [], []), (15, 4, [12], []), (16, 2, [], []), (17, 4, [], [])])], [], []⟩
theorem slices_insertionSortCmpFunc_probe_broken.ok (S : Sig) (a0 a1 a2 a3 : Value) (s : St) : evF S Try.prog slices_insertionSortCmpFunc_probe_broken.ctx slices_insertionSortCmpFunc_probe_broken.an Try.f55 [a0, a1, a2, a3] s = slices_insertionSortCmpFunc_probe_broken.t S a0 a1 a2 a3 s := by kernel_rfl
theorem slices_insertionSortCmpFunc_probe_broken.cok : CtxOk Try.prog slices_insertionSortCmpFunc_probe_broken.ctx := .cons probe_Probe_Breaks_fn1.sound probe_Probe_Breaks_fn1.can <| .cons probe_bad_fn1.sound probe_bad_fn1.can <| .nil
theorem slices_insertionSortCmpFunc_probe_broken.draws : fnDraws slices_insertionSortCmpFunc_probe_broken.an Try.f55 = true := by kernel_rfl
theorem slices_insertionSortCmpFunc_probe_broken.can : callOk Try.prog 55 = true := by kernel_rfl
theorem slices_insertionSortCmpFunc_probe_broken.sound : FnOk Try.prog 55 (.st slices_insertionSortCmpFunc_probe_broken.w) := FnOk.st_of (evF_ok slices_insertionSortCmpFunc_probe_broken.cok mixed (f := 55) (fn := Try.f55) (by kernel_rfl) slices_insertionSortCmpFunc_probe_broken.draws) fun args s r h => by
  unfold slices_insertionSortCmpFunc_probe_broken.w at h; split at h
  · rw [slices_insertionSortCmpFunc_probe_broken.ok std]; exact h
  · simp at h

/-! ### slices.swapRangeCmpFunc[leapfrog/probe.broken]: function 61 -/
def slices_swapRangeCmpFunc_probe_broken.ctx : Ctx := []
def slices_swapRangeCmpFunc_probe_broken.l1 (S : Sig) (rec18 : List Value → St → Option Cut) (xs16 : List Value) (s17 : St) : Option Cut :=
  S.bd (bin .lss (xs16.getD 4 undef) (xs16.getD 3 undef)) fun x19 => S.cnd x19 (S.bd (bin .add (xs16.getD 1 undef) (xs16.getD 4 undef)) fun x20 => S.bd (bin .add (xs16.getD 2 undef) (xs16.getD 4 undef)) fun x21 => S.bd (bin .add (xs16.getD 2 undef) (xs16.getD 4 undef)) fun x22 => S.bd (idx s17 9 (xs16.getD 0 undef) x22) fun x23 => S.bd (lda s17 9 x23) fun x24 => S.bd (bin .add (xs16.getD 1 undef) (xs16.getD 4 undef)) fun x25 => S.bd (idx s17 9 (xs16.getD 0 undef) x25) fun x26 => S.bd (lda s17 9 x26) fun x27 => S.bd (idx s17 9 (xs16.getD 0 undef) x20) fun x28 => S.bd (stv s17 9 x28 x24) fun s29 => S.bd (idx s29 9 (xs16.getD 0 undef) x25) fun x30 => S.cnd (Value.bool (sameV x30 x26)) (S.bd (idx s29 9 (xs16.getD 0 undef) x21) fun x31 => S.bd (stv s29 9 x31 x27) fun s32 => S.bd (bin .add (xs16.getD 4 undef) (Go.Value.int Go.IntKind.i64 1)) fun x33 => rec18 [(xs16.getD 0 undef), (xs16.getD 1 undef), (xs16.getD 2 undef), (xs16.getD 3 undef), x33] s32) (none)) (some (0, [], s17))

def slices_swapRangeCmpFunc_probe_broken.t (S : Sig) (a0 a1 a2 a3 a4 : Value) (s : St) : Option (Value × St) :=
  S.bd (S.it (slices_swapRangeCmpFunc_probe_broken.l1 S) [a0, a1, a2, a3, (Go.Value.int Go.IntKind.i64 0)] s) fun r34 => some ((Value.tuple ⟨[]⟩), r34.2.2)
def slices_swapRangeCmpFunc_probe_broken.v (a0 a1 a2 a3 a4 : Value) (s : St) : Option (Value × St) := slices_swapRangeCmpFunc_probe_broken.t std a0 a1 a2 a3 a4 s
def slices_swapRangeCmpFunc_probe_broken.w : List Value → St → Option (Value × St)
  | [a0, a1, a2, a3, a4], s => slices_swapRangeCmpFunc_probe_broken.v a0 a1 a2 a3 a4 s
  | _, _ => none
def slices_swapRangeCmpFunc_probe_broken.an : An := ⟨38, false, [], [(1, ⟨[.v 0, .v 1, .v 2, .v 3, .v 10], [(.exit 0, [])]⟩)], [], [(3, [(0, 0, [], []), (1, 0, [], []), (2, 0, [], []), (3, 0, [], []), (4, 0, [], []), (5, 0, [], []), (6, 0, [], []), (7, 0, [], []), (8, 0, [], []), (9, 0, [], []), (10, 0, [], []), (11, 0, [], []), (12, 2, [], []), (13, 2, [], []), (14, 0, [], []), (15, 0, [], []), (16, 0, [], []), (17, 0, [], []), (18, 2, [], []), (19, 2, [], []), (20, 2, [], []), (21, 4, [18], []), (22, 2, [], []), (23, 4, [], [])])], [], []⟩
theorem slices_swapRangeCmpFunc_probe_broken.ok (S : Sig) (a0 a1 a2 a3 a4 : Value) (s : St) : evF S Try.prog slices_swapRangeCmpFunc_probe_broken.ctx slices_swapRangeCmpFunc_probe_broken.an Try.f61 [a0, a1, a2, a3, a4] s = slices_swapRangeCmpFunc_probe_broken.t S a0 a1 a2 a3 a4 s := by kernel_rfl
theorem slices_swapRangeCmpFunc_probe_broken.cok : CtxOk Try.prog slices_swapRangeCmpFunc_probe_broken.ctx := .nil
theorem slices_swapRangeCmpFunc_probe_broken.draws : fnDraws slices_swapRangeCmpFunc_probe_broken.an Try.f61 = true := by kernel_rfl
theorem slices_swapRangeCmpFunc_probe_broken.can : callOk Try.prog 61 = true := by kernel_rfl
theorem slices_swapRangeCmpFunc_probe_broken.sound : FnOk Try.prog 61 (.st slices_swapRangeCmpFunc_probe_broken.w) := FnOk.st_of (evF_ok slices_swapRangeCmpFunc_probe_broken.cok mixed (f := 61) (fn := Try.f61) (by kernel_rfl) slices_swapRangeCmpFunc_probe_broken.draws) fun args s r h => by
  unfold slices_swapRangeCmpFunc_probe_broken.w at h; split at h
  · rw [slices_swapRangeCmpFunc_probe_broken.ok std]; exact h
  · simp at h

/-! ### slices.rotateCmpFunc[leapfrog/probe.broken]: function 60 -/
def slices_rotateCmpFunc_probe_broken.ctx : Ctx := [(61, .st slices_swapRangeCmpFunc_probe_broken.w)]
def slices_rotateCmpFunc_probe_broken.l2 (S : Sig) (rec15 : List Value → St → Option Cut) (xs13 : List Value) (s14 : St) : Option Cut :=
  S.bd (eqb [1] false true (xs13.getD 3 undef) (xs13.getD 4 undef)) fun x16 => S.cnd x16 (S.bd (bin .gtr (xs13.getD 3 undef) (xs13.getD 4 undef)) fun x17 => S.cnd x17 (S.bd (bin .sub (xs13.getD 1 undef) (xs13.getD 3 undef)) fun x18 => S.bd (slices_swapRangeCmpFunc_probe_broken.v (xs13.getD 0 undef) x18 (xs13.getD 1 undef) (xs13.getD 4 undef) (xs13.getD 2 undef) s14) fun r19 => S.bd (bin .sub (xs13.getD 3 undef) (xs13.getD 4 undef)) fun x20 => rec15 [(xs13.getD 0 undef), (xs13.getD 1 undef), (xs13.getD 2 undef), x20, (xs13.getD 4 undef)] r19.2) (S.bd (bin .sub (xs13.getD 1 undef) (xs13.getD 3 undef)) fun x21 => S.bd (bin .add (xs13.getD 1 undef) (xs13.getD 4 undef)) fun x22 => S.bd (bin .sub x22 (xs13.getD 3 undef)) fun x23 => S.bd (slices_swapRangeCmpFunc_probe_broken.v (xs13.getD 0 undef) x21 x23 (xs13.getD 3 undef) (xs13.getD 2 undef) s14) fun r24 => S.bd (bin .sub (xs13.getD 4 undef) (xs13.getD 3 undef)) fun x25 => rec15 [(xs13.getD 0 undef), (xs13.getD 1 undef), (xs13.getD 2 undef), (xs13.getD 3 undef), x25] r24.2)) (some (0, [(xs13.getD 0 undef), (xs13.getD 1 undef), (xs13.getD 2 undef), (xs13.getD 3 undef)], s14))

def slices_rotateCmpFunc_probe_broken.t (S : Sig) (a0 a1 a2 a3 a4 : Value) (s : St) : Option (Value × St) :=
  S.bd (bin .sub a2 a1) fun x1 => S.bd (bin .sub a3 a2) fun x2 => S.bd (S.it (slices_rotateCmpFunc_probe_broken.l2 S) [a0, a2, a4, x1, x2] s) fun r26 => S.bd (bin .sub (r26.2.1.getD 1 undef) (r26.2.1.getD 3 undef)) fun x27 => S.bd (slices_swapRangeCmpFunc_probe_broken.v (r26.2.1.getD 0 undef) x27 (r26.2.1.getD 1 undef) (r26.2.1.getD 3 undef) (r26.2.1.getD 2 undef) r26.2.2) fun r28 => some ((Value.tuple ⟨[]⟩), r28.2)
def slices_rotateCmpFunc_probe_broken.v (a0 a1 a2 a3 a4 : Value) (s : St) : Option (Value × St) := slices_rotateCmpFunc_probe_broken.t std a0 a1 a2 a3 a4 s
def slices_rotateCmpFunc_probe_broken.w : List Value → St → Option (Value × St)
  | [a0, a1, a2, a3, a4], s => slices_rotateCmpFunc_probe_broken.v a0 a1 a2 a3 a4 s
  | _, _ => none
def slices_rotateCmpFunc_probe_broken.an : An := ⟨58, false, [], [(2, ⟨[.v 0, .v 2, .v 4, .v 10, .v 11], [(.exit 0, [.v 0, .v 2, .v 4, .v 10])]⟩)], [], [], [], []⟩
theorem slices_rotateCmpFunc_probe_broken.ok (S : Sig) (a0 a1 a2 a3 a4 : Value) (s : St) : evF S Try.prog slices_rotateCmpFunc_probe_broken.ctx slices_rotateCmpFunc_probe_broken.an Try.f60 [a0, a1, a2, a3, a4] s = slices_rotateCmpFunc_probe_broken.t S a0 a1 a2 a3 a4 s := by kernel_rfl
theorem slices_rotateCmpFunc_probe_broken.cok : CtxOk Try.prog slices_rotateCmpFunc_probe_broken.ctx := .cons slices_swapRangeCmpFunc_probe_broken.sound slices_swapRangeCmpFunc_probe_broken.can <| .nil
theorem slices_rotateCmpFunc_probe_broken.draws : fnDraws slices_rotateCmpFunc_probe_broken.an Try.f60 = true := by kernel_rfl
theorem slices_rotateCmpFunc_probe_broken.can : callOk Try.prog 60 = true := by kernel_rfl
theorem slices_rotateCmpFunc_probe_broken.sound : FnOk Try.prog 60 (.st slices_rotateCmpFunc_probe_broken.w) := FnOk.st_of (evF_ok slices_rotateCmpFunc_probe_broken.cok mixed (f := 60) (fn := Try.f60) (by kernel_rfl) slices_rotateCmpFunc_probe_broken.draws) fun args s r h => by
  unfold slices_rotateCmpFunc_probe_broken.w at h; split at h
  · rw [slices_rotateCmpFunc_probe_broken.ok std]; exact h
  · simp at h

/-! ### slices.symMergeCmpFunc[leapfrog/probe.broken]: function 56 -/
def slices_symMergeCmpFunc_probe_broken.ctx (rc : List Value → St → Option (Value × St)) : Ctx := [(41, .rd probe_Probe_Breaks_fn1.w), (45, .st probe_bad_fn1.w), (60, .st slices_rotateCmpFunc_probe_broken.w), (56, .st rc)]
def slices_symMergeCmpFunc_probe_broken.l3 (S : Sig) (rc : List Value → St → Option (Value × St)) (rec19 : List Value → St → Option Cut) (xs17 : List Value) (s18 : St) : Option Cut :=
  S.bd (bin .lss (xs17.getD 3 undef) (xs17.getD 4 undef)) fun x20 => S.cnd x20 (S.bd (bin .add (xs17.getD 3 undef) (xs17.getD 4 undef)) fun x21 => S.bd (cvi .u64 x21) fun x22 => S.bd (bin .shr x22 (Go.Value.int Go.IntKind.u64 1)) fun x23 => S.bd (cvi .i64 x23) fun x24 => S.bd (idx s18 9 (xs17.getD 0 undef) x24) fun x25 => S.bd (lda s18 9 x25) fun x26 => S.bd (idx s18 9 (xs17.getD 0 undef) (xs17.getD 1 undef)) fun x27 => S.bd (lda s18 9 x27) fun x28 => S.bd (callV (slices_symMergeCmpFunc_probe_broken.ctx rc) (xs17.getD 2 undef) [x26, x28] s18) fun r29 => S.bd (idx r29.2 9 (xs17.getD 0 undef) x24) fun x30 => S.cnd (Value.bool (sameV x30 x25)) (S.bd (idx r29.2 9 (xs17.getD 0 undef) (xs17.getD 1 undef)) fun x31 => S.cnd (Value.bool (sameV x31 x27)) (S.bd (bin .lss r29.1 (Go.Value.int Go.IntKind.i64 0)) fun x32 => S.cnd x32 (S.bd (bin .add x24 (Go.Value.int Go.IntKind.i64 1)) fun x33 => rec19 [(xs17.getD 0 undef), (xs17.getD 1 undef), (xs17.getD 2 undef), x33, (xs17.getD 4 undef)] r29.2) (rec19 [(xs17.getD 0 undef), (xs17.getD 1 undef), (xs17.getD 2 undef), (xs17.getD 3 undef), x24] r29.2)) (none)) (none)) (some (0, [(xs17.getD 0 undef), (xs17.getD 1 undef), (xs17.getD 3 undef)], s18))

def slices_symMergeCmpFunc_probe_broken.l9 (S : Sig) (rc : List Value → St → Option (Value × St)) (rec51 : List Value → St → Option Cut) (xs49 : List Value) (s50 : St) : Option Cut :=
  S.bd (bin .sub (xs49.getD 1 undef) (Go.Value.int Go.IntKind.i64 1)) fun x52 => S.bd (bin .lss (xs49.getD 2 undef) x52) fun x53 => S.cnd x53 (S.bd (bin .add (xs49.getD 2 undef) (Go.Value.int Go.IntKind.i64 1)) fun x54 => S.bd (bin .add (xs49.getD 2 undef) (Go.Value.int Go.IntKind.i64 1)) fun x55 => S.bd (idx s50 9 (xs49.getD 0 undef) x55) fun x56 => S.bd (lda s50 9 x56) fun x57 => S.bd (idx s50 9 (xs49.getD 0 undef) (xs49.getD 2 undef)) fun x58 => S.bd (lda s50 9 x58) fun x59 => S.bd (idx s50 9 (xs49.getD 0 undef) (xs49.getD 2 undef)) fun x60 => S.bd (stv s50 9 x60 x57) fun s61 => S.bd (idx s61 9 (xs49.getD 0 undef) (xs49.getD 2 undef)) fun x62 => S.cnd (Value.bool (sameV x62 x58)) (S.bd (idx s61 9 (xs49.getD 0 undef) x54) fun x63 => S.bd (stv s61 9 x63 x59) fun s64 => S.bd (bin .add (xs49.getD 2 undef) (Go.Value.int Go.IntKind.i64 1)) fun x65 => rec51 [(xs49.getD 0 undef), (xs49.getD 1 undef), x65] s64) (none)) (some (0, [], s50))

def slices_symMergeCmpFunc_probe_broken.l15 (S : Sig) (rc : List Value → St → Option (Value × St)) (rec86 : List Value → St → Option Cut) (xs84 : List Value) (s85 : St) : Option Cut :=
  S.bd (bin .lss (xs84.getD 3 undef) (xs84.getD 4 undef)) fun x87 => S.cnd x87 (S.bd (bin .add (xs84.getD 3 undef) (xs84.getD 4 undef)) fun x88 => S.bd (cvi .u64 x88) fun x89 => S.bd (bin .shr x89 (Go.Value.int Go.IntKind.u64 1)) fun x90 => S.bd (cvi .i64 x90) fun x91 => S.bd (idx s85 9 (xs84.getD 0 undef) (xs84.getD 1 undef)) fun x92 => S.bd (lda s85 9 x92) fun x93 => S.bd (idx s85 9 (xs84.getD 0 undef) x91) fun x94 => S.bd (lda s85 9 x94) fun x95 => S.bd (callV (slices_symMergeCmpFunc_probe_broken.ctx rc) (xs84.getD 2 undef) [x93, x95] s85) fun r96 => S.bd (idx r96.2 9 (xs84.getD 0 undef) (xs84.getD 1 undef)) fun x97 => S.cnd (Value.bool (sameV x97 x92)) (S.bd (idx r96.2 9 (xs84.getD 0 undef) x91) fun x98 => S.cnd (Value.bool (sameV x98 x94)) (S.bd (bin .lss r96.1 (Go.Value.int Go.IntKind.i64 0)) fun x99 => S.bd (un .not x99) fun x100 => S.cnd x100 (S.bd (bin .add x91 (Go.Value.int Go.IntKind.i64 1)) fun x101 => rec86 [(xs84.getD 0 undef), (xs84.getD 1 undef), (xs84.getD 2 undef), x101, (xs84.getD 4 undef)] r96.2) (rec86 [(xs84.getD 0 undef), (xs84.getD 1 undef), (xs84.getD 2 undef), (xs84.getD 3 undef), x91] r96.2)) (none)) (none)) (some (0, [(xs84.getD 0 undef), (xs84.getD 1 undef), (xs84.getD 3 undef)], s85))

def slices_symMergeCmpFunc_probe_broken.l21 (S : Sig) (rc : List Value → St → Option (Value × St)) (rec118 : List Value → St → Option Cut) (xs116 : List Value) (s117 : St) : Option Cut :=
  S.bd (bin .gtr (xs116.getD 2 undef) (xs116.getD 1 undef)) fun x119 => S.cnd x119 (S.bd (bin .sub (xs116.getD 2 undef) (Go.Value.int Go.IntKind.i64 1)) fun x120 => S.bd (bin .sub (xs116.getD 2 undef) (Go.Value.int Go.IntKind.i64 1)) fun x121 => S.bd (idx s117 9 (xs116.getD 0 undef) x121) fun x122 => S.bd (lda s117 9 x122) fun x123 => S.bd (idx s117 9 (xs116.getD 0 undef) (xs116.getD 2 undef)) fun x124 => S.bd (lda s117 9 x124) fun x125 => S.bd (idx s117 9 (xs116.getD 0 undef) (xs116.getD 2 undef)) fun x126 => S.bd (stv s117 9 x126 x123) fun s127 => S.bd (idx s127 9 (xs116.getD 0 undef) (xs116.getD 2 undef)) fun x128 => S.cnd (Value.bool (sameV x128 x124)) (S.bd (idx s127 9 (xs116.getD 0 undef) x120) fun x129 => S.bd (stv s127 9 x129 x125) fun s130 => S.bd (bin .sub (xs116.getD 2 undef) (Go.Value.int Go.IntKind.i64 1)) fun x131 => rec118 [(xs116.getD 0 undef), (xs116.getD 1 undef), x131] s130) (none)) (some (0, [], s117))

def slices_symMergeCmpFunc_probe_broken.l33 (S : Sig) (rc : List Value → St → Option (Value × St)) (rec162 : List Value → St → Option Cut) (xs160 : List Value) (s161 : St) : Option Cut :=
  S.bd (bin .lss (xs160.getD 7 undef) (xs160.getD 8 undef)) fun x163 => S.cnd x163 (S.bd (bin .add (xs160.getD 7 undef) (xs160.getD 8 undef)) fun x164 => S.bd (cvi .u64 x164) fun x165 => S.bd (bin .shr x165 (Go.Value.int Go.IntKind.u64 1)) fun x166 => S.bd (cvi .i64 x166) fun x167 => S.bd (bin .sub (xs160.getD 9 undef) x167) fun x168 => S.bd (idx s161 9 (xs160.getD 0 undef) x168) fun x169 => S.bd (lda s161 9 x169) fun x170 => S.bd (idx s161 9 (xs160.getD 0 undef) x167) fun x171 => S.bd (lda s161 9 x171) fun x172 => S.bd (callV (slices_symMergeCmpFunc_probe_broken.ctx rc) (xs160.getD 4 undef) [x170, x172] s161) fun r173 => S.bd (idx r173.2 9 (xs160.getD 0 undef) x168) fun x174 => S.cnd (Value.bool (sameV x174 x169)) (S.bd (idx r173.2 9 (xs160.getD 0 undef) x167) fun x175 => S.cnd (Value.bool (sameV x175 x171)) (S.bd (bin .lss r173.1 (Go.Value.int Go.IntKind.i64 0)) fun x176 => S.bd (un .not x176) fun x177 => S.cnd x177 (S.bd (bin .add x167 (Go.Value.int Go.IntKind.i64 1)) fun x178 => rec162 [(xs160.getD 0 undef), (xs160.getD 1 undef), (xs160.getD 2 undef), (xs160.getD 3 undef), (xs160.getD 4 undef), (xs160.getD 5 undef), (xs160.getD 6 undef), x178, (xs160.getD 8 undef), (xs160.getD 9 undef)] r173.2) (rec162 [(xs160.getD 0 undef), (xs160.getD 1 undef), (xs160.getD 2 undef), (xs160.getD 3 undef), (xs160.getD 4 undef), (xs160.getD 5 undef), (xs160.getD 6 undef), (xs160.getD 7 undef), x167, (xs160.getD 9 undef)] r173.2)) (none)) (none)) (some (0, [(xs160.getD 0 undef), (xs160.getD 1 undef), (xs160.getD 2 undef), (xs160.getD 3 undef), (xs160.getD 4 undef), (xs160.getD 5 undef), (xs160.getD 6 undef), (xs160.getD 7 undef)], s161))

def slices_symMergeCmpFunc_probe_broken.t.p1 (S : Sig) (rc : List Value → St → Option (Value × St)) (r179 : Cut) (x180 : Value) : Option (Value × St) :=
  S.bd (show Option Cut from S.bd (bin .lss (r179.2.1.getD 7 undef) (r179.2.1.getD 2 undef)) fun x187 => S.bd (S.gd x187 true (some (r179.2.1.getD 2 undef))) fun x188 => S.bd (S.gd x187 true (some x180)) fun x189 => S.bd (S.gd x187 true (bin .lss x188 x189)) fun x190 => S.bd (pik x187 x190 (Go.Value.bool Bool.false)) fun x191 => S.cnd x191 (S.bd (slices_rotateCmpFunc_probe_broken.v (r179.2.1.getD 0 undef) (r179.2.1.getD 7 undef) (r179.2.1.getD 2 undef) x180 (r179.2.1.getD 4 undef) r179.2.2) fun r192 => some (0, [(r179.2.1.getD 0 undef), (r179.2.1.getD 1 undef), (r179.2.1.getD 3 undef), (r179.2.1.getD 4 undef), (r179.2.1.getD 5 undef), (r179.2.1.getD 7 undef), x180], r192.2)) (some (0, [(r179.2.1.getD 0 undef), (r179.2.1.getD 1 undef), (r179.2.1.getD 3 undef), (r179.2.1.getD 4 undef), (r179.2.1.getD 5 undef), (r179.2.1.getD 7 undef), x180], r179.2.2))) fun r193 => S.bd (show Option Cut from S.bd (bin .lss (r193.2.1.getD 1 undef) (r193.2.1.getD 5 undef)) fun x200 => S.bd (S.gd x200 true (some (r193.2.1.getD 5 undef))) fun x201 => S.bd (S.gd x200 true (some (r193.2.1.getD 4 undef))) fun x202 => S.bd (S.gd x200 true (bin .lss x201 x202)) fun x203 => S.bd (pik x200 x203 (Go.Value.bool Bool.false)) fun x204 => S.cnd x204 (S.bd (rc [(r193.2.1.getD 0 undef), (r193.2.1.getD 1 undef), (r193.2.1.getD 5 undef), (r193.2.1.getD 4 undef), (r193.2.1.getD 3 undef)] r193.2.2) fun r205 => some (0, [(r193.2.1.getD 0 undef), (r193.2.1.getD 2 undef), (r193.2.1.getD 3 undef), (r193.2.1.getD 4 undef), (r193.2.1.getD 6 undef)], r205.2)) (some (0, [(r193.2.1.getD 0 undef), (r193.2.1.getD 2 undef), (r193.2.1.getD 3 undef), (r193.2.1.getD 4 undef), (r193.2.1.getD 6 undef)], r193.2.2))) fun r206 => S.bd (bin .lss (r206.2.1.getD 3 undef) (r206.2.1.getD 4 undef)) fun x207 => S.bd (S.gd x207 true (some (r206.2.1.getD 4 undef))) fun x208 => S.bd (S.gd x207 true (some (r206.2.1.getD 1 undef))) fun x209 => S.bd (S.gd x207 true (bin .lss x208 x209)) fun x210 => S.bd (pik x207 x210 (Go.Value.bool Bool.false)) fun x211 => S.cnd x211 (S.bd (rc [(r206.2.1.getD 0 undef), (r206.2.1.getD 3 undef), (r206.2.1.getD 4 undef), (r206.2.1.getD 1 undef), (r206.2.1.getD 2 undef)] r206.2.2) fun r212 => some ((Value.tuple ⟨[]⟩), r212.2)) (some ((Value.tuple ⟨[]⟩), r206.2.2))

def slices_symMergeCmpFunc_probe_broken.t (S : Sig) (rc : List Value → St → Option (Value × St)) (a0 a1 a2 a3 a4 : Value) (s : St) : Option (Value × St) :=
  S.bd (bin .sub a2 a1) fun x1 => S.bd (eqb [1] false false x1 (Go.Value.int Go.IntKind.i64 1)) fun x2 => S.cnd x2 (S.bd (S.it (slices_symMergeCmpFunc_probe_broken.l3 S rc) [a0, a1, a4, a2, a3] s) fun r34 => S.bd (S.it (slices_symMergeCmpFunc_probe_broken.l9 S rc) [(r34.2.1.getD 0 undef), (r34.2.1.getD 2 undef), (r34.2.1.getD 1 undef)] r34.2.2) fun r66 => some ((Value.tuple ⟨[]⟩), r66.2.2)) (S.bd (bin .sub a3 a2) fun x67 => S.bd (eqb [1] false false x67 (Go.Value.int Go.IntKind.i64 1)) fun x68 => S.cnd x68 (S.bd (S.it (slices_symMergeCmpFunc_probe_broken.l15 S rc) [a0, a2, a4, a1, a2] s) fun r102 => S.bd (S.it (slices_symMergeCmpFunc_probe_broken.l21 S rc) [(r102.2.1.getD 0 undef), (r102.2.1.getD 2 undef), (r102.2.1.getD 1 undef)] r102.2.2) fun r132 => some ((Value.tuple ⟨[]⟩), r132.2.2)) (S.bd (bin .add a1 a3) fun x133 => S.bd (cvi .u64 x133) fun x134 => S.bd (bin .shr x134 (Go.Value.int Go.IntKind.u64 1)) fun x135 => S.bd (cvi .i64 x135) fun x136 => S.bd (bin .add x136 a2) fun x137 => S.bd (show Option Cut from S.bd (bin .gtr a2 x136) fun x140 => S.cnd x140 (S.bd (bin .sub x137 a3) fun x141 => some (0, [a0, a1, a2, a3, a4, x136, x137, x141, x136], s)) (some (0, [a0, a1, a2, a3, a4, x136, x137, a1, a2], s))) fun r142 => S.bd (bin .sub (r142.2.1.getD 6 undef) (Go.Value.int Go.IntKind.i64 1)) fun x143 => S.bd (S.it (slices_symMergeCmpFunc_probe_broken.l33 S rc) [(r142.2.1.getD 0 undef), (r142.2.1.getD 1 undef), (r142.2.1.getD 2 undef), (r142.2.1.getD 3 undef), (r142.2.1.getD 4 undef), (r142.2.1.getD 5 undef), (r142.2.1.getD 6 undef), (r142.2.1.getD 7 undef), (r142.2.1.getD 8 undef), x143] r142.2.2) fun r179 => S.bd (bin .sub (r179.2.1.getD 6 undef) (r179.2.1.getD 7 undef)) fun x180 => slices_symMergeCmpFunc_probe_broken.t.p1 S rc r179 x180))
def slices_symMergeCmpFunc_probe_broken.v (rc : List Value → St → Option (Value × St)) (a0 a1 a2 a3 a4 : Value) (s : St) : Option (Value × St) := slices_symMergeCmpFunc_probe_broken.t std rc a0 a1 a2 a3 a4 s
def slices_symMergeCmpFunc_probe_broken.w (rc : List Value → St → Option (Value × St)) : List Value → St → Option (Value × St)
  | [a0, a1, a2, a3, a4], s => slices_symMergeCmpFunc_probe_broken.v rc a0 a1 a2 a3 a4 s
  | _, _ => none
def slices_symMergeCmpFunc_probe_broken.an : An := ⟨220, false, [], [(3, ⟨[.v 0, .v 1, .v 4, .v 10, .v 11], [(.exit 0, [.v 0, .v 1, .v 10])]⟩), (9, ⟨[.v 0, .v 10, .v 13], [(.exit 2, [])]⟩), (15, ⟨[.v 0, .v 2, .v 4, .v 14, .v 15], [(.exit 4, [.v 0, .v 2, .v 14])]⟩), (21, ⟨[.v 0, .v 14, .v 17], [(.exit 6, [])]⟩), (33, ⟨[.v 0, .v 1, .v 2, .v 3, .v 4, .v 18, .v 19, .v 20, .v 21, .v 22], [(.exit 8, [.v 0, .v 1, .v 2, .v 3, .v 4, .v 18, .v 19, .v 20])]⟩)], [(32, ⟨[], [(.normal, [.v 0, .v 1, .v 2, .v 3, .v 4, .v 18, .v 19, .v 20, .v 21])]⟩), (41, ⟨[], [(.normal, [.v 0, .v 1, .v 3, .v 4, .v 18, .v 20, .v 24])]⟩), (43, ⟨[], [(.normal, [.v 0, .v 3, .v 4, .v 18, .v 24])]⟩)], [(5, [(0, 0, [], []), (1, 0, [], []), (2, 0, [], []), (3, 2, [], []), (4, 2, [], []), (5, 0, [], []), (6, 0, [], []), (7, 2, [], []), (8, 2, [], []), (9, 4, [3, 7], []), (10, 0, [], [])]), (11, [(0, 0, [], []), (1, 0, [], []), (2, 0, [], []), (3, 0, [], []), (4, 0, [], []), (5, 0, [], []), (6, 0, [], []), (7, 0, [], []), (8, 2, [], []), (9, 2, [], []), (10, 0, [], []), (11, 0, [], []), (12, 2, [], []), (13, 2, [], []), (14, 2, [], []), (15, 4, [12], []), (16, 2, [], []), (17, 4, [], [])]), (17, [(0, 0, [], []), (1, 0, [], []), (2, 0, [], []), (3, 2, [], []), (4, 2, [], []), (5, 0, [], []), (6, 0, [], []), (7, 2, [], []), (8, 2, [], []), (9, 4, [3, 7], []), (10, 0, [], []), (11, 0, [], [])]), (23, [(0, 0, [], []), (1, 0, [], []), (2, 0, [], []), (3, 0, [], []), (4, 0, [], []), (5, 0, [], []), (6, 0, [], []), (7, 0, [], []), (8, 2, [], []), (9, 2, [], []), (10, 0, [], []), (11, 0, [], []), (12, 2, [], []), (13, 2, [], []), (14, 2, [], []), (15, 4, [12], []), (16, 2, [], []), (17, 4, [], [])]), (35, [(0, 0, [], []), (1, 0, [], []), (2, 0, [], []), (3, 0, [], []), (4, 0, [], []), (5, 2, [], []), (6, 2, [], []), (7, 0, [], []), (8, 0, [], []), (9, 2, [], []), (10, 2, [], []), (11, 4, [5, 9], []), (12, 0, [], []), (13, 0, [], [])])], [], []⟩
theorem slices_symMergeCmpFunc_probe_broken.ok (S : Sig) (rc : List Value → St → Option (Value × St)) (a0 a1 a2 a3 a4 : Value) (s : St) : evF S Try.prog (slices_symMergeCmpFunc_probe_broken.ctx rc) slices_symMergeCmpFunc_probe_broken.an Try.f56 [a0, a1, a2, a3, a4] s = slices_symMergeCmpFunc_probe_broken.t S rc a0 a1 a2 a3 a4 s := by kernel_rfl
theorem slices_symMergeCmpFunc_probe_broken.draws : fnDraws slices_symMergeCmpFunc_probe_broken.an Try.f56 = true := by kernel_rfl
theorem slices_symMergeCmpFunc_probe_broken.can : callOk Try.prog 56 = true := by kernel_rfl
theorem slices_symMergeCmpFunc_probe_broken.cok {rc : List Value → St → Option (Value × St)} (hr : FnOk Try.prog 56 (.st rc)) : CtxOk Try.prog (slices_symMergeCmpFunc_probe_broken.ctx rc) := .cons probe_Probe_Breaks_fn1.sound probe_Probe_Breaks_fn1.can <| .cons probe_bad_fn1.sound probe_bad_fn1.can <| .cons slices_rotateCmpFunc_probe_broken.sound slices_rotateCmpFunc_probe_broken.can <| .cons hr slices_symMergeCmpFunc_probe_broken.can <| .nil
theorem slices_symMergeCmpFunc_probe_broken.sound {rc : List Value → St → Option (Value × St)} (hr : FnOk Try.prog 56 (.st rc)) : FnOk Try.prog 56 (.st (slices_symMergeCmpFunc_probe_broken.w rc)) := FnOk.st_of (evF_ok (slices_symMergeCmpFunc_probe_broken.cok hr) mixed (f := 56) (fn := Try.f56) (by kernel_rfl) slices_symMergeCmpFunc_probe_broken.draws) fun args s r h => by
  unfold slices_symMergeCmpFunc_probe_broken.w at h; split at h
  · rw [slices_symMergeCmpFunc_probe_broken.ok std rc]; exact h
  · simp at h
def slices_symMergeCmpFunc_probe_broken.lev : Nat → List Value → St → Option (Value × St)
  | 0 => fun _ _ => none
  | n + 1 => slices_symMergeCmpFunc_probe_broken.w (slices_symMergeCmpFunc_probe_broken.lev n)
theorem slices_symMergeCmpFunc_probe_broken.levs : ∀ n, FnOk Try.prog 56 (.st (slices_symMergeCmpFunc_probe_broken.lev n))
  | 0 => fun φ s w args args' r s' hr ha he => by cases he
  | n + 1 => slices_symMergeCmpFunc_probe_broken.sound (slices_symMergeCmpFunc_probe_broken.levs n)
def slices_symMergeCmpFunc_probe_brokenL.w : List Value → St → Option (Value × St) := slices_symMergeCmpFunc_probe_broken.lev 12
def slices_symMergeCmpFunc_probe_brokenL.v (a0 a1 a2 a3 a4 : Value) (s : St) : Option (Value × St) := slices_symMergeCmpFunc_probe_brokenL.w [a0, a1, a2, a3, a4] s
theorem slices_symMergeCmpFunc_probe_brokenL.can : callOk Try.prog 56 = true := slices_symMergeCmpFunc_probe_broken.can
theorem slices_symMergeCmpFunc_probe_brokenL.sound : FnOk Try.prog 56 (.st slices_symMergeCmpFunc_probe_brokenL.w) := slices_symMergeCmpFunc_probe_broken.levs 12

/-! ### slices.stableCmpFunc[leapfrog/probe.broken]: function 50 -/
def slices_stableCmpFunc_probe_broken.ctx : Ctx := [(55, .st slices_insertionSortCmpFunc_probe_broken.w), (56, .st slices_symMergeCmpFunc_probe_brokenL.w)]
def slices_stableCmpFunc_probe_broken.l2 (S : Sig) (rec6 : List Value → St → Option Cut) (xs4 : List Value) (s5 : St) : Option Cut :=
  S.bd (bin .leq (xs4.getD 5 undef) (xs4.getD 1 undef)) fun x7 => S.cnd x7 (S.bd (slices_insertionSortCmpFunc_probe_broken.v (xs4.getD 0 undef) (xs4.getD 4 undef) (xs4.getD 5 undef) (xs4.getD 2 undef) s5) fun r8 => S.bd (bin .add (xs4.getD 5 undef) (xs4.getD 3 undef)) fun x9 => rec6 [(xs4.getD 0 undef), (xs4.getD 1 undef), (xs4.getD 2 undef), (xs4.getD 3 undef), (xs4.getD 5 undef), x9] r8.2) (some (0, [(xs4.getD 0 undef), (xs4.getD 1 undef), (xs4.getD 2 undef), (xs4.getD 3 undef), (xs4.getD 4 undef)], s5))

def slices_stableCmpFunc_probe_broken.l9 (S : Sig) (rec40 : List Value → St → Option Cut) (xs38 : List Value) (s39 : St) : Option Cut :=
  S.bd (bin .leq (xs38.getD 5 undef) (xs38.getD 1 undef)) fun x41 => S.cnd x41 (S.bd (bin .add (xs38.getD 4 undef) (xs38.getD 3 undef)) fun x42 => S.bd (slices_symMergeCmpFunc_probe_brokenL.v (xs38.getD 0 undef) (xs38.getD 4 undef) x42 (xs38.getD 5 undef) (xs38.getD 2 undef) s39) fun r43 => S.bd (bin .mul (Go.Value.int Go.IntKind.i64 2) (xs38.getD 3 undef)) fun x44 => S.bd (bin .add (xs38.getD 5 undef) x44) fun x45 => rec40 [(xs38.getD 0 undef), (xs38.getD 1 undef), (xs38.getD 2 undef), (xs38.getD 3 undef), (xs38.getD 5 undef), x45] r43.2) (some (0, [(xs38.getD 0 undef), (xs38.getD 1 undef), (xs38.getD 2 undef), (xs38.getD 3 undef), (xs38.getD 4 undef)], s39))

def slices_stableCmpFunc_probe_broken.l7 (S : Sig) (rec35 : List Value → St → Option Cut) (xs33 : List Value) (s34 : St) : Option Cut :=
  S.bd (bin .lss (xs33.getD 3 undef) (xs33.getD 1 undef)) fun x36 => S.cnd x36 (S.bd (bin .mul (Go.Value.int Go.IntKind.i64 2) (xs33.getD 3 undef)) fun x37 => S.bd (S.it (slices_stableCmpFunc_probe_broken.l9 S) [(xs33.getD 0 undef), (xs33.getD 1 undef), (xs33.getD 2 undef), (xs33.getD 3 undef), (Go.Value.int Go.IntKind.i64 0), x37] s34) fun r46 => S.bd (bin .add (r46.2.1.getD 4 undef) (r46.2.1.getD 3 undef)) fun x47 => S.bd (bin .lss x47 (r46.2.1.getD 1 undef)) fun x48 => S.cnd x48 (S.bd (slices_symMergeCmpFunc_probe_brokenL.v (r46.2.1.getD 0 undef) (r46.2.1.getD 4 undef) x47 (r46.2.1.getD 1 undef) (r46.2.1.getD 2 undef) r46.2.2) fun r49 => S.bd (bin .mul (r46.2.1.getD 3 undef) (Go.Value.int Go.IntKind.i64 2)) fun x50 => rec35 [(r46.2.1.getD 0 undef), (r46.2.1.getD 1 undef), (r46.2.1.getD 2 undef), x50] r49.2) (S.bd (bin .mul (r46.2.1.getD 3 undef) (Go.Value.int Go.IntKind.i64 2)) fun x51 => rec35 [(r46.2.1.getD 0 undef), (r46.2.1.getD 1 undef), (r46.2.1.getD 2 undef), x51] r46.2.2)) (some (0, [], s34))

def slices_stableCmpFunc_probe_broken.t (S : Sig) (a0 a1 a2 : Value) (s : St) : Option (Value × St) :=
  S.bd (S.it (slices_stableCmpFunc_probe_broken.l2 S) [a0, a1, a2, (Go.Value.int Go.IntKind.i64 20), (Go.Value.int Go.IntKind.i64 0), (Go.Value.int Go.IntKind.i64 20)] s) fun r10 => S.bd (slices_insertionSortCmpFunc_probe_broken.v (r10.2.1.getD 0 undef) (r10.2.1.getD 4 undef) (r10.2.1.getD 1 undef) (r10.2.1.getD 2 undef) r10.2.2) fun r11 => S.bd (S.it (slices_stableCmpFunc_probe_broken.l7 S) [(r10.2.1.getD 0 undef), (r10.2.1.getD 1 undef), (r10.2.1.getD 2 undef), (r10.2.1.getD 3 undef)] r11.2) fun r52 => some ((Value.tuple ⟨[]⟩), r52.2.2)
def slices_stableCmpFunc_probe_broken.v (a0 a1 a2 : Value) (s : St) : Option (Value × St) := slices_stableCmpFunc_probe_broken.t std a0 a1 a2 s
def slices_stableCmpFunc_probe_broken.w : List Value → St → Option (Value × St)
  | [a0, a1, a2], s => slices_stableCmpFunc_probe_broken.v a0 a1 a2 s
  | _, _ => none
def slices_stableCmpFunc_probe_broken.an : An := ⟨63, false, [], [(2, ⟨[.v 0, .v 1, .v 2, .v 6, .v 7, .v 8], [(.exit 0, [.v 0, .v 1, .v 2, .v 6, .v 7])]⟩), (9, ⟨[.v 0, .v 1, .v 2, .v 6, .v 7, .v 8], [(.exit 4, [.v 0, .v 1, .v 2, .v 6, .v 7])]⟩), (7, ⟨[.v 0, .v 1, .v 2, .v 6], [(.exit 2, [])]⟩)], [], [], [], []⟩
theorem slices_stableCmpFunc_probe_broken.ok (S : Sig) (a0 a1 a2 : Value) (s : St) : evF S Try.prog slices_stableCmpFunc_probe_broken.ctx slices_stableCmpFunc_probe_broken.an Try.f50 [a0, a1, a2] s = slices_stableCmpFunc_probe_broken.t S a0 a1 a2 s := by kernel_rfl
theorem slices_stableCmpFunc_probe_broken.cok : CtxOk Try.prog slices_stableCmpFunc_probe_broken.ctx := .cons slices_insertionSortCmpFunc_probe_broken.sound slices_insertionSortCmpFunc_probe_broken.can <| .cons slices_symMergeCmpFunc_probe_brokenL.sound slices_symMergeCmpFunc_probe_brokenL.can <| .nil
theorem slices_stableCmpFunc_probe_broken.draws : fnDraws slices_stableCmpFunc_probe_broken.an Try.f50 = true := by kernel_rfl
theorem slices_stableCmpFunc_probe_broken.can : callOk Try.prog 50 = true := by kernel_rfl
theorem slices_stableCmpFunc_probe_broken.sound : FnOk Try.prog 50 (.st slices_stableCmpFunc_probe_broken.w) := FnOk.st_of (evF_ok slices_stableCmpFunc_probe_broken.cok mixed (f := 50) (fn := Try.f50) (by kernel_rfl) slices_stableCmpFunc_probe_broken.draws) fun args s r h => by
  unfold slices_stableCmpFunc_probe_broken.w at h; split at h
  · rw [slices_stableCmpFunc_probe_broken.ok std]; exact h
  · simp at h

/-! ### slices.SortStableFunc[[]leapfrog/probe.broken,leapfrog/probe.broken]: function 40 -/
def slices_SortStableFunc_probe_broken_probe_broken.ctx : Ctx := [(50, .st slices_stableCmpFunc_probe_broken.w)]
def slices_SortStableFunc_probe_broken_probe_broken.t (S : Sig) (a0 a1 : Value) (s : St) : Option (Value × St) :=
  S.bd (lenL a0) fun x1 => S.bd (slices_stableCmpFunc_probe_broken.v a0 x1 a1 s) fun r2 => some ((Value.tuple ⟨[]⟩), r2.2)
def slices_SortStableFunc_probe_broken_probe_broken.v (a0 a1 : Value) (s : St) : Option (Value × St) := slices_SortStableFunc_probe_broken_probe_broken.t std a0 a1 s
def slices_SortStableFunc_probe_broken_probe_broken.w : List Value → St → Option (Value × St)
  | [a0, a1], s => slices_SortStableFunc_probe_broken_probe_broken.v a0 a1 s
  | _, _ => none
def slices_SortStableFunc_probe_broken_probe_broken.an : An := ⟨9, false, [], [], [], [], [], []⟩
theorem slices_SortStableFunc_probe_broken_probe_broken.ok (S : Sig) (a0 a1 : Value) (s : St) : evF S Try.prog slices_SortStableFunc_probe_broken_probe_broken.ctx slices_SortStableFunc_probe_broken_probe_broken.an Try.f40 [a0, a1] s = slices_SortStableFunc_probe_broken_probe_broken.t S a0 a1 s := by kernel_rfl
theorem slices_SortStableFunc_probe_broken_probe_broken.cok : CtxOk Try.prog slices_SortStableFunc_probe_broken_probe_broken.ctx := .cons slices_stableCmpFunc_probe_broken.sound slices_stableCmpFunc_probe_broken.can <| .nil
theorem slices_SortStableFunc_probe_broken_probe_broken.draws : fnDraws slices_SortStableFunc_probe_broken_probe_broken.an Try.f40 = true := by kernel_rfl
theorem slices_SortStableFunc_probe_broken_probe_broken.can : callOk Try.prog 40 = true := by kernel_rfl
theorem slices_SortStableFunc_probe_broken_probe_broken.sound : FnOk Try.prog 40 (.st slices_SortStableFunc_probe_broken_probe_broken.w) := FnOk.st_of (evF_ok slices_SortStableFunc_probe_broken_probe_broken.cok mixed (f := 40) (fn := Try.f40) (by kernel_rfl) slices_SortStableFunc_probe_broken_probe_broken.draws) fun args s r h => by
  unfold slices_SortStableFunc_probe_broken_probe_broken.w at h; split at h
  · rw [slices_SortStableFunc_probe_broken_probe_broken.ok std]; exact h
  · simp at h

/-! ### (*leapfrog/probe.Probe).Breaks: function 18 -/
def probe_Probe_Breaks.ctx : Ctx := [(34, .rd probe_Probe_is.w), (39, .st slices_Clone_probe_broken_probe_broken.w), (40, .st slices_SortStableFunc_probe_broken_probe_broken.w)]
def probe_Probe_Breaks.l7 (S : Sig) (rec20 : List Value → St → Option Cut) (xs18 : List Value) (s19 : St) : Option Cut :=
  S.bd (bin .lss (xs18.getD 3 undef) (xs18.getD 2 undef)) fun x21 => S.cnd x21 (S.bd (idx s19 9 (xs18.getD 1 undef) (xs18.getD 3 undef)) fun x22 => S.bd (lda s19 9 x22) fun x23 => S.bd (bx (Go.Value.agg #[(Go.Value.int Go.IntKind.i64 0), (Go.Value.int Go.IntKind.u64 0), (Go.Value.int Go.IntKind.i64 0), (Go.Value.int Go.IntKind.i64 0), (Go.Value.int Go.IntKind.i64 0), (Go.Value.int Go.IntKind.u64 0), (Go.Value.int Go.IntKind.i64 0), (Go.Value.int Go.IntKind.u64 0), (Go.Value.int Go.IntKind.i64 0)])) fun c24 => S.bd (stl c24 0 9 x23) fun c25 => S.bd (lal c25 0 8) fun x26 => S.bd (S.bd (bls 8 (List.replicate 1 [(Go.Value.int Go.IntKind.i64 0), (Go.Value.int Go.IntKind.u64 0), (Go.Value.int Go.IntKind.i64 0), (Go.Value.int Go.IntKind.i64 0), (Go.Value.int Go.IntKind.i64 0), (Go.Value.int Go.IntKind.u64 0), (Go.Value.int Go.IntKind.i64 0), (Go.Value.int Go.IntKind.u64 0)]) [(0, x26)]) fun rows => als s19 8 1 rows) fun r27 => S.bd (app r27.2 8 64 (xs18.getD 0 undef) r27.1) fun r28 => S.bd (bin .add (xs18.getD 3 undef) (Go.Value.int Go.IntKind.i64 1)) fun x29 => rec20 [r28.1, (xs18.getD 1 undef), (xs18.getD 2 undef), x29] r28.2) (some (0, [(xs18.getD 0 undef)], s19))

def probe_Probe_Breaks.t (S : Sig) (a0 : Value) (s : St) : Option (Value × St) :=
  S.bd (probe_Probe_is.r a0 s) fun x1 => S.bd (un .not x1) fun x2 => S.cnd x2 (some ((Go.Value.slice Option.none 0 0), s)) (S.bd (nck a0) fun x3 => S.bd (fld 13 x3) fun x4 => S.bd (ldc s x4) fun x5 => S.bd (slices_Clone_probe_broken_probe_broken.v x5 s) fun r6 => S.bd (slices_SortStableFunc_probe_broken_probe_broken.v r6.1 (Value.func (.func 41) #[] #[]) r6.2) fun r7 => S.bd (lenL r6.1) fun x8 => S.bd (S.it (probe_Probe_Breaks.l7 S) [(Go.Value.slice Option.none 0 0), r6.1, x8, (Go.Value.int Go.IntKind.i64 0)] r7.2) fun r30 => some ((r30.2.1.getD 0 undef), r30.2.2))
def probe_Probe_Breaks.v (a0 : Value) (s : St) : Option (Value × St) := probe_Probe_Breaks.t std a0 s
def probe_Probe_Breaks.w : List Value → St → Option (Value × St)
  | [a0], s => probe_Probe_Breaks.v a0 s
  | _, _ => none
def probe_Probe_Breaks.an : An := ⟨30, false, [6], [(7, ⟨[.v 4, .v 17, .v 18, .v 19], [(.exit 0, [.v 4])]⟩)], [], [], [], []⟩
theorem probe_Probe_Breaks.ok (S : Sig) (a0 : Value) (s : St) : evF S Try.prog probe_Probe_Breaks.ctx probe_Probe_Breaks.an Try.f18 [a0] s = probe_Probe_Breaks.t S a0 s := by kernel_rfl
theorem probe_Probe_Breaks.cok : CtxOk Try.prog probe_Probe_Breaks.ctx := .cons probe_Probe_is.sound probe_Probe_is.can <| .cons slices_Clone_probe_broken_probe_broken.sound slices_Clone_probe_broken_probe_broken.can <| .cons slices_SortStableFunc_probe_broken_probe_broken.sound slices_SortStableFunc_probe_broken_probe_broken.can <| .nil
theorem probe_Probe_Breaks.draws : fnDraws probe_Probe_Breaks.an Try.f18 = true := by kernel_rfl
theorem probe_Probe_Breaks.can : callOk Try.prog 18 = true := by kernel_rfl
theorem probe_Probe_Breaks.sound : FnOk Try.prog 18 (.st probe_Probe_Breaks.w) := FnOk.st_of (evF_ok probe_Probe_Breaks.cok mixed (f := 18) (fn := Try.f18) (by kernel_rfl) probe_Probe_Breaks.draws) fun args s r h => by
  unfold probe_Probe_Breaks.w at h; split at h
  · rw [probe_Probe_Breaks.ok std]; exact h
  · simp at h

/-! ### leapfrog/leapfroglaw19.awake: function 7 -/
def leapfroglaw19x_awake.ctx : Ctx := [(25, .rd leapfrogref02x_At.w), (8, .st probe_New.w), (13, .rd probe_Probe_Next.w), (14, .st probe_Probe_Tell.w), (18, .st probe_Probe_Breaks.w)]
def leapfroglaw19x_awake.t.p1 (S : Sig) (x14 : Value) (r25 : Value × St) (c22 : List Value) (c7 : List Value) (c28 : List Value) (c8 : List Value) : Option (Value × St) :=
  S.bd (bld [(Go.Value.int Go.IntKind.i64 0), (Go.Value.bool Bool.false), (Go.Value.int Go.IntKind.i64 0), (Go.Value.int Go.IntKind.i64 0), (Go.Value.int Go.IntKind.u64 0), (Go.Value.int Go.IntKind.i64 0), (Go.Value.int Go.IntKind.u64 0), (Go.Value.int Go.IntKind.i64 0), (Go.Value.int Go.IntKind.i64 0), (Go.Value.int Go.IntKind.u64 0), (Go.Value.int Go.IntKind.i64 0), (Go.Value.int Go.IntKind.u64 0), (Go.Value.slice Option.none 0 0)] [(0, 1, (Go.Value.int Go.IntKind.i64 3))]) fun x29 => S.bd (probe_Probe_Tell.v x14 x29 r25.2) fun r30 => S.bd (probe_Probe_Next.r x14 r30.2) fun x31 => S.bd (bx (Go.Value.agg #[(Go.Value.int Go.IntKind.i64 0), (Go.Value.int Go.IntKind.i64 0), (Go.Value.int Go.IntKind.i64 0), (Go.Value.int Go.IntKind.u64 0), (Go.Value.int Go.IntKind.i64 0), (Go.Value.int Go.IntKind.u64 0), (Go.Value.int Go.IntKind.i64 0), (Go.Value.int Go.IntKind.i64 0), (Go.Value.int Go.IntKind.u64 0), (Go.Value.int Go.IntKind.i64 0), (Go.Value.int Go.IntKind.i64 0), (Go.Value.int Go.IntKind.u64 0), (Go.Value.int Go.IntKind.i64 0), (Go.Value.int Go.IntKind.u64 0), (Go.Value.int Go.IntKind.i64 0), (Go.Value.int Go.IntKind.i64 0), (Go.Value.int Go.IntKind.u64 0), (Go.Value.int Go.IntKind.i64 0), (Go.Value.int Go.IntKind.u64 0), (Go.Value.int Go.IntKind.i64 0), (Go.Value.int Go.IntKind.i64 0), (Go.Value.int Go.IntKind.i64 0), (Go.Value.int Go.IntKind.u64 0), (Go.Value.slice Option.none 0 0), (Go.Value.slice Option.none 0 0), (Go.Value.int Go.IntKind.i64 0), (Go.Value.int Go.IntKind.i64 0), (Go.Value.int Go.IntKind.u64 0), (Go.Value.int Go.IntKind.i64 0), (Go.Value.int Go.IntKind.u64 0), (Go.Value.int Go.IntKind.i64 0), (Go.Value.int Go.IntKind.i64 0), (Go.Value.int Go.IntKind.u64 0), (Go.Value.int Go.IntKind.i64 0), (Go.Value.int Go.IntKind.u64 0), (Go.Value.bool Bool.false)])) fun c32 => S.bd (stl c32 0 36 x31) fun c33 => S.bd (probe_Probe_Breaks.v x14 r30.2) fun r34 => S.bd (lal c22 1 5) fun x35 => S.bd (lal c7 0 5) fun x36 => S.bd (eqb [1, 1, 1, 1, 1] true false x35 x36) fun x37 => S.bd (S.gd x37 true (lal c28 1 5)) fun x38 => S.bd (S.gd x37 true (lal c8 0 5)) fun x39 => S.bd (S.gd x37 true (eqb [1, 1, 1, 1, 1] true false x38 x39)) fun x40 => S.bd (pik x37 x40 (Go.Value.bool Bool.false)) fun x41 => S.bd (S.gd x41 true (lcl c33 0)) fun x42 => S.bd (S.gd x41 true (eqb [1] false false x42 (Go.Value.int Go.IntKind.i64 3))) fun x43 => S.bd (pik x41 x43 (Go.Value.bool Bool.false)) fun x44 => S.bd (S.gd x44 true (lcl c33 35)) fun x45 => S.bd (pik x44 x45 (Go.Value.bool Bool.false)) fun x46 => S.bd (S.gd x46 true (some r34.1)) fun x47 => S.bd (S.gd x46 true (lenL x47)) fun x48 => S.bd (S.gd x46 true (eqb [1] false false x48 (Go.Value.int Go.IntKind.i64 1))) fun x49 => S.bd (pik x46 x49 (Go.Value.bool Bool.false)) fun x50 => S.bd (S.gd x50 true (some r34.1)) fun x51 => S.bd (S.gd x50 true (idx r34.2 8 x51 (Go.Value.int Go.IntKind.i64 0))) fun x52 => S.bd (S.gd x50 true (lda r34.2 8 x52)) fun x53 => S.bd (S.gd x50 true (lal c8 0 5)) fun x54 => S.bd (S.gd x50 true (bld [(Go.Value.int Go.IntKind.i64 0), (Go.Value.int Go.IntKind.u64 0), (Go.Value.int Go.IntKind.i64 0), (Go.Value.int Go.IntKind.i64 0), (Go.Value.int Go.IntKind.i64 0), (Go.Value.int Go.IntKind.u64 0), (Go.Value.int Go.IntKind.i64 0), (Go.Value.int Go.IntKind.u64 0)] [(2, 1, (Go.Value.int Go.IntKind.i64 1)), (3, 5, x54)])) fun x55 => S.bd (S.gd x50 true (eqb [1, 1, 1, 1, 1, 1, 1, 1] true false x53 x55)) fun x56 => S.bd (pik x50 x56 (Go.Value.bool Bool.false)) fun x57 => some (x57, r34.2)

def leapfroglaw19x_awake.t.p2 (S : Sig) (x14 : Value) (r13 : Value × St) (c8 : List Value) (c7 : List Value) : Option (Value × St) :=
  S.bd (probe_Probe_Next.r x14 r13.2) fun x20 => S.bd (bx (Go.Value.agg #[(Go.Value.int Go.IntKind.i64 0), (Go.Value.int Go.IntKind.i64 0), (Go.Value.int Go.IntKind.i64 0), (Go.Value.int Go.IntKind.u64 0), (Go.Value.int Go.IntKind.i64 0), (Go.Value.int Go.IntKind.u64 0), (Go.Value.int Go.IntKind.i64 0), (Go.Value.int Go.IntKind.i64 0), (Go.Value.int Go.IntKind.u64 0), (Go.Value.int Go.IntKind.i64 0), (Go.Value.int Go.IntKind.i64 0), (Go.Value.int Go.IntKind.u64 0), (Go.Value.int Go.IntKind.i64 0), (Go.Value.int Go.IntKind.u64 0), (Go.Value.int Go.IntKind.i64 0), (Go.Value.int Go.IntKind.i64 0), (Go.Value.int Go.IntKind.u64 0), (Go.Value.int Go.IntKind.i64 0), (Go.Value.int Go.IntKind.u64 0), (Go.Value.int Go.IntKind.i64 0), (Go.Value.int Go.IntKind.i64 0), (Go.Value.int Go.IntKind.i64 0), (Go.Value.int Go.IntKind.u64 0), (Go.Value.slice Option.none 0 0), (Go.Value.slice Option.none 0 0), (Go.Value.int Go.IntKind.i64 0), (Go.Value.int Go.IntKind.i64 0), (Go.Value.int Go.IntKind.u64 0), (Go.Value.int Go.IntKind.i64 0), (Go.Value.int Go.IntKind.u64 0), (Go.Value.int Go.IntKind.i64 0), (Go.Value.int Go.IntKind.i64 0), (Go.Value.int Go.IntKind.u64 0), (Go.Value.int Go.IntKind.i64 0), (Go.Value.int Go.IntKind.u64 0), (Go.Value.bool Bool.false)])) fun c21 => S.bd (stl c21 0 36 x20) fun c22 => S.bd (lal c8 0 5) fun x23 => S.bd (bld [(Go.Value.int Go.IntKind.i64 0), (Go.Value.bool Bool.false), (Go.Value.int Go.IntKind.i64 0), (Go.Value.int Go.IntKind.i64 0), (Go.Value.int Go.IntKind.u64 0), (Go.Value.int Go.IntKind.i64 0), (Go.Value.int Go.IntKind.u64 0), (Go.Value.int Go.IntKind.i64 0), (Go.Value.int Go.IntKind.i64 0), (Go.Value.int Go.IntKind.u64 0), (Go.Value.int Go.IntKind.i64 0), (Go.Value.int Go.IntKind.u64 0), (Go.Value.slice Option.none 0 0)] [(0, 1, (Go.Value.int Go.IntKind.i64 1)), (7, 5, x23)]) fun x24 => S.bd (probe_Probe_Tell.v x14 x24 r13.2) fun r25 => S.bd (probe_Probe_Next.r x14 r25.2) fun x26 => S.bd (bx (Go.Value.agg #[(Go.Value.int Go.IntKind.i64 0), (Go.Value.int Go.IntKind.i64 0), (Go.Value.int Go.IntKind.i64 0), (Go.Value.int Go.IntKind.u64 0), (Go.Value.int Go.IntKind.i64 0), (Go.Value.int Go.IntKind.u64 0), (Go.Value.int Go.IntKind.i64 0), (Go.Value.int Go.IntKind.i64 0), (Go.Value.int Go.IntKind.u64 0), (Go.Value.int Go.IntKind.i64 0), (Go.Value.int Go.IntKind.i64 0), (Go.Value.int Go.IntKind.u64 0), (Go.Value.int Go.IntKind.i64 0), (Go.Value.int Go.IntKind.u64 0), (Go.Value.int Go.IntKind.i64 0), (Go.Value.int Go.IntKind.i64 0), (Go.Value.int Go.IntKind.u64 0), (Go.Value.int Go.IntKind.i64 0), (Go.Value.int Go.IntKind.u64 0), (Go.Value.int Go.IntKind.i64 0), (Go.Value.int Go.IntKind.i64 0), (Go.Value.int Go.IntKind.i64 0), (Go.Value.int Go.IntKind.u64 0), (Go.Value.slice Option.none 0 0), (Go.Value.slice Option.none 0 0), (Go.Value.int Go.IntKind.i64 0), (Go.Value.int Go.IntKind.i64 0), (Go.Value.int Go.IntKind.u64 0), (Go.Value.int Go.IntKind.i64 0), (Go.Value.int Go.IntKind.u64 0), (Go.Value.int Go.IntKind.i64 0), (Go.Value.int Go.IntKind.i64 0), (Go.Value.int Go.IntKind.u64 0), (Go.Value.int Go.IntKind.i64 0), (Go.Value.int Go.IntKind.u64 0), (Go.Value.bool Bool.false)])) fun c27 => S.bd (stl c27 0 36 x26) fun c28 => leapfroglaw19x_awake.t.p1 S x14 r25 c22 c7 c28 c8

def leapfroglaw19x_awake.t (S : Sig) (s : St) : Option (Value × St) :=
  S.bd (leapfrogref02x_At.r (Go.Value.int Go.IntKind.u64 5) s) fun x1 => S.bd (bld [(Go.Value.int Go.IntKind.i64 0), (Go.Value.int Go.IntKind.i64 0), (Go.Value.int Go.IntKind.u64 0), (Go.Value.int Go.IntKind.i64 0), (Go.Value.int Go.IntKind.u64 0)] [(0, 1, (Go.Value.int Go.IntKind.i64 5)), (1, 2, x1)]) fun x2 => S.bd (leapfrogref02x_At.r (Go.Value.int Go.IntKind.u64 8) s) fun x3 => S.bd (bld [(Go.Value.int Go.IntKind.i64 0), (Go.Value.int Go.IntKind.i64 0), (Go.Value.int Go.IntKind.u64 0), (Go.Value.int Go.IntKind.i64 0), (Go.Value.int Go.IntKind.u64 0)] [(0, 1, (Go.Value.int Go.IntKind.i64 8)), (1, 2, x3)]) fun x4 => S.bd (bx (Go.Value.agg #[(Go.Value.int Go.IntKind.i64 0), (Go.Value.int Go.IntKind.i64 0), (Go.Value.int Go.IntKind.u64 0), (Go.Value.int Go.IntKind.i64 0), (Go.Value.int Go.IntKind.u64 0)])) fun c5 => S.bd (bx (Go.Value.agg #[(Go.Value.int Go.IntKind.i64 0), (Go.Value.int Go.IntKind.i64 0), (Go.Value.int Go.IntKind.u64 0), (Go.Value.int Go.IntKind.i64 0), (Go.Value.int Go.IntKind.u64 0)])) fun c6 => S.bd (stl c5 0 5 x2) fun c7 => S.bd (stl c6 0 5 x4) fun c8 => S.bd (lal c7 0 5) fun x9 => S.bd (bld [(Go.Value.int Go.IntKind.i64 0), (Go.Value.int Go.IntKind.u64 0)] []) fun x10 => S.bd (S.bd (bls 2 (List.replicate 1 [(Go.Value.int Go.IntKind.i64 0), (Go.Value.int Go.IntKind.u64 0)]) [(0, x10)]) fun rows => als s 2 1 rows) fun r11 => S.bd (bld [(Go.Value.int Go.IntKind.i64 0), (Go.Value.int Go.IntKind.i64 0), (Go.Value.int Go.IntKind.u64 0), (Go.Value.int Go.IntKind.i64 0), (Go.Value.int Go.IntKind.u64 0), (Go.Value.slice Option.none 0 0)] [(0, 5, x9), (5, 1, r11.1)]) fun x12 => S.bd (probe_New.v x12 r11.2) fun r13 => S.bd (xtr 0 r13.1) fun x14 => S.bd (xtr 1 r13.1) fun x15 => S.bd (eqb [1] false true x15 (Go.Value.int Go.IntKind.i64 0)) fun x16 => S.bd (S.gd x16 false (some x14)) fun x17 => S.bd (S.gd x16 false (eqb [3] false false x17 (Go.Value.pointer Option.none))) fun x18 => S.bd (pik x16 (Go.Value.bool Bool.true) x18) fun x19 => S.cnd x19 (some ((Go.Value.bool Bool.false), r13.2)) (leapfroglaw19x_awake.t.p2 S x14 r13 c8 c7)
def leapfroglaw19x_awake.v (s : St) : Option (Value × St) := leapfroglaw19x_awake.t std  s
def leapfroglaw19x_awake.w : List Value → St → Option (Value × St)
  | [], s => leapfroglaw19x_awake.v  s
  | _, _ => none
def leapfroglaw19x_awake.an : An := ⟨75, false, [1, 2, 5, 6, 7], [], [], [(11, [(0, 0, [], []), (1, 41, [], []), (2, 9, [], []), (3, 0, [], []), (4, 0, [], []), (5, 0, [], []), (6, 49, [], []), (7, 17, [], []), (8, 0, [], []), (9, 0, [], []), (10, 0, [], []), (11, 0, [], []), (12, 57, [], []), (13, 0, [], []), (14, 0, [], []), (15, 0, [], []), (16, 0, [], []), (17, 0, [], []), (18, 57, [], []), (19, 0, [], []), (20, 0, [], []), (21, 0, [], []), (22, 2, [], []), (23, 0, [], []), (24, 0, [], []), (25, 0, [], []), (26, 0, [], []), (27, 2, [], []), (28, 2, [], []), (29, 17, [], []), (30, 0, [], []), (31, 0, [], []), (32, 0, [], []), (33, 0, [], [])])], [], []⟩
theorem leapfroglaw19x_awake.ok (S : Sig) (s : St) : evF S Try.prog leapfroglaw19x_awake.ctx leapfroglaw19x_awake.an Try.f7 [] s = leapfroglaw19x_awake.t S  s := by kernel_rfl
theorem leapfroglaw19x_awake.cok : CtxOk Try.prog leapfroglaw19x_awake.ctx := .cons leapfrogref02x_At.sound leapfrogref02x_At.can <| .cons probe_New.sound probe_New.can <| .cons probe_Probe_Next.sound probe_Probe_Next.can <| .cons probe_Probe_Tell.sound probe_Probe_Tell.can <| .cons probe_Probe_Breaks.sound probe_Probe_Breaks.can <| .nil
theorem leapfroglaw19x_awake.draws : fnDraws leapfroglaw19x_awake.an Try.f7 = true := by kernel_rfl
theorem leapfroglaw19x_awake.can : callOk Try.prog 7 = true := by kernel_rfl
theorem leapfroglaw19x_awake.sound : FnOk Try.prog 7 (.st leapfroglaw19x_awake.w) := FnOk.st_of (evF_ok leapfroglaw19x_awake.cok mixed (f := 7) (fn := Try.f7) (by kernel_rfl) leapfroglaw19x_awake.draws) fun args s r h => by
  unfold leapfroglaw19x_awake.w at h; split at h
  · rw [leapfroglaw19x_awake.ok std]; exact h
  · simp at h

/-! ### leapfrog/leapfroglaw19.awake: function 7, closed -/
def leapfroglaw19x_awakeC.r (s : St) : Option Value := some (Value.bool true)
def leapfroglaw19x_awakeC.w : List Value → St → Option Value := closedW (Value.bool true)
theorem leapfroglaw19x_awakeC.can : callOk Try.prog 7 = true := leapfroglaw19x_awake.can
theorem leapfroglaw19x_awakeC.sound : FnOk Try.prog 7 (.rd leapfroglaw19x_awakeC.w) := FnOk.closed leapfroglaw19x_awake.sound (by kernel_rfl) rfl

/-! ### leapfrog/leapfrogref12.Head: function 9 -/
def leapfrogref12x_Head.ctx : Ctx := []
def leapfrogref12x_Head.t (S : Sig) (a0 : Value) (s : St) : Option Value :=
  S.bd (bx (Go.Value.agg #[(Go.Value.int Go.IntKind.i64 0), (Go.Value.int Go.IntKind.i64 0), (Go.Value.int Go.IntKind.u64 0), (Go.Value.int Go.IntKind.i64 0), (Go.Value.int Go.IntKind.u64 0)])) fun c1 => S.bd (bld [(Go.Value.int Go.IntKind.i64 0), (Go.Value.int Go.IntKind.u64 0)] [(0, 1, (Go.Value.int Go.IntKind.i64 1))]) fun x2 => S.bd (bld [(Go.Value.int Go.IntKind.i64 0), (Go.Value.int Go.IntKind.u64 0)] [(0, 1, a0)]) fun x3 => S.bd (bld [(Go.Value.int Go.IntKind.i64 0), (Go.Value.int Go.IntKind.i64 0), (Go.Value.int Go.IntKind.u64 0), (Go.Value.int Go.IntKind.i64 0), (Go.Value.int Go.IntKind.u64 0)] [(1, 2, x2), (3, 2, x3)]) fun x4 => S.bd (stl c1 0 5 x4) fun c5 => S.bd (lal c5 0 5) fun x6 => some (x6)
def leapfrogref12x_Head.r (a0 : Value) (s : St) : Option Value := leapfrogref12x_Head.t std a0 s
def leapfrogref12x_Head.w : List Value → St → Option Value
  | [a0], s => leapfrogref12x_Head.r a0 s
  | _, _ => none
def leapfrogref12x_Head.an : An := ⟨7, true, [2], [], [], [], [], []⟩
theorem leapfrogref12x_Head.ok (S : Sig) (a0 : Value) (s : St) : evG S Try.prog leapfrogref12x_Head.ctx leapfrogref12x_Head.an Try.f9 [a0] s = leapfrogref12x_Head.t S a0 s := by kernel_rfl
theorem leapfrogref12x_Head.cok : CtxOk Try.prog leapfrogref12x_Head.ctx := .nil
theorem leapfrogref12x_Head.draws : fnDraws leapfrogref12x_Head.an Try.f9 = true := by kernel_rfl
theorem leapfrogref12x_Head.can : callOk Try.prog 9 = true := by kernel_rfl
theorem leapfrogref12x_Head.sound : FnOk Try.prog 9 (.rd leapfrogref12x_Head.w) := FnOk.rd_of (evG_ok leapfrogref12x_Head.cok mixed (f := 9) (fn := Try.f9) (by kernel_rfl) leapfrogref12x_Head.draws) fun args s r h => by
  unfold leapfrogref12x_Head.w at h; split at h
  · rw [leapfrogref12x_Head.ok std]; exact h
  · simp at h

/-! ### leapfrog/leapfroglaw19.ProbeMany: function 3 -/
def leapfroglaw19x_ProbeMany.ctx : Ctx := [(7, .rd leapfroglaw19x_awakeC.w), (9, .rd leapfrogref12x_Head.w), (8, .st probe_New.w)]
def leapfroglaw19x_ProbeMany.t (S : Sig) (a0 : Value) (s : St) : Option (Value × St) :=
  S.bd (leapfroglaw19x_awakeC.r  s) fun x1 => S.bd (un .not x1) fun x2 => S.cnd x2 (some ((Go.Value.bool Bool.false), s)) (S.bd (cvi .i64 a0) fun x3 => S.bd (bin .rem x3 (Go.Value.int Go.IntKind.i64 2048)) fun x4 => S.bd (mks s 2 16 [(Go.Value.int Go.IntKind.i64 0), (Go.Value.int Go.IntKind.u64 0)] x4 x4) fun _ => S.bd (leapfrogref12x_Head.r (Go.Value.int Go.IntKind.i64 0) s) fun x5 => S.bd (mks s 2 16 [(Go.Value.int Go.IntKind.i64 0), (Go.Value.int Go.IntKind.u64 0)] x4 x4) fun r6 => S.bd (bld [(Go.Value.int Go.IntKind.i64 0), (Go.Value.int Go.IntKind.i64 0), (Go.Value.int Go.IntKind.u64 0), (Go.Value.int Go.IntKind.i64 0), (Go.Value.int Go.IntKind.u64 0), (Go.Value.slice Option.none 0 0)] [(0, 5, x5), (5, 1, r6.1)]) fun x7 => S.bd (probe_New.v x7 r6.2) fun r8 => S.bd (xtr 0 r8.1) fun x9 => S.bd (xtr 1 r8.1) fun x10 => S.bd (eqb [1] false false x10 (Go.Value.int Go.IntKind.i64 0)) fun x11 => S.bd (bin .leq x4 (Go.Value.int Go.IntKind.i64 1024)) fun x12 => S.bd (eqb [0] false false x11 x12) fun x13 => S.bd (S.gd x13 true (some x9)) fun x14 => S.bd (S.gd x13 true (eqb [3] false true x14 (Go.Value.pointer Option.none))) fun x15 => S.bd (S.gd x13 true (some x4)) fun x16 => S.bd (S.gd x13 true (bin .leq x16 (Go.Value.int Go.IntKind.i64 1024))) fun x17 => S.bd (S.gd x13 true (eqb [0] false false x15 x17)) fun x18 => S.bd (pik x13 x18 (Go.Value.bool Bool.false)) fun x19 => S.bd (S.gd x19 true (some x10)) fun x20 => S.bd (S.gd x19 true (eqb [1] false false x20 (Go.Value.int Go.IntKind.i64 0))) fun x21 => S.bd (S.gd x19 true (some x21)) fun x22 => S.bd (S.gd x22 false (some x10)) fun x23 => S.bd (S.gd x22 false (eqb [1] false false x23 (Go.Value.int Go.IntKind.i64 190))) fun x24 => S.bd (S.gd x19 true (pik x22 (Go.Value.bool Bool.true) x24)) fun x25 => S.bd (pik x19 x25 (Go.Value.bool Bool.false)) fun x26 => some (x26, r8.2))
def leapfroglaw19x_ProbeMany.v (a0 : Value) (s : St) : Option (Value × St) := leapfroglaw19x_ProbeMany.t std a0 s
def leapfroglaw19x_ProbeMany.w : List Value → St → Option (Value × St)
  | [a0], s => leapfroglaw19x_ProbeMany.v a0 s
  | _, _ => none
def leapfroglaw19x_ProbeMany.an : An := ⟨39, false, [], [], [], [(4, [(1, 0, [], []), (0, 3, [], [2]), (2, 3, [], []), (3, 0, [], []), (4, 4, [], []), (5, 0, [], []), (6, 0, [], []), (7, 0, [], []), (8, 0, [], []), (9, 0, [], [])])], [], []⟩
theorem leapfroglaw19x_ProbeMany.ok (S : Sig) (a0 : Value) (s : St) : evF S Try.prog leapfroglaw19x_ProbeMany.ctx leapfroglaw19x_ProbeMany.an Try.f3 [a0] s = leapfroglaw19x_ProbeMany.t S a0 s := by kernel_rfl
theorem leapfroglaw19x_ProbeMany.cok : CtxOk Try.prog leapfroglaw19x_ProbeMany.ctx := .cons leapfroglaw19x_awakeC.sound leapfroglaw19x_awakeC.can <| .cons leapfrogref12x_Head.sound leapfrogref12x_Head.can <| .cons probe_New.sound probe_New.can <| .nil
theorem leapfroglaw19x_ProbeMany.draws : fnDraws leapfroglaw19x_ProbeMany.an Try.f3 = true := by kernel_rfl
theorem leapfroglaw19x_ProbeMany.can : callOk Try.prog 3 = true := by kernel_rfl
theorem leapfroglaw19x_ProbeMany.sound : FnOk Try.prog 3 (.st leapfroglaw19x_ProbeMany.w) := FnOk.st_of (evF_ok leapfroglaw19x_ProbeMany.cok mixed (f := 3) (fn := Try.f3) (by kernel_rfl) leapfroglaw19x_ProbeMany.draws) fun args s r h => by
  unfold leapfroglaw19x_ProbeMany.w at h; split at h
  · rw [leapfroglaw19x_ProbeMany.ok std]; exact h
  · simp at h

/-! ### leapfrog/leapfrogref02.Compare: function 38 -/
def leapfrogref02x_Compare.ctx : Ctx := []
def leapfrogref02x_Compare.t (S : Sig) (a0 a1 : Value) (s : St) : Option Value :=
  S.bd (bx a0) fun c1 => S.bd (bx a1) fun c2 => S.bd (lcl c1 0) fun x3 => S.bd (lcl c2 0) fun x4 => S.bd (bin .lss x3 x4) fun x5 => S.bd (S.gd x5 false (lcl c1 0)) fun x6 => S.bd (S.gd x5 false (lcl c2 0)) fun x7 => S.bd (S.gd x5 false (eqb [1] false false x6 x7)) fun x8 => S.bd (S.gd x5 false (some x8)) fun x9 => S.bd (S.gd x9 true (lcl c1 1)) fun x10 => S.bd (S.gd x9 true (lcl c2 1)) fun x11 => S.bd (S.gd x9 true (bin .lss x10 x11)) fun x12 => S.bd (S.gd x5 false (pik x9 x12 (Go.Value.bool Bool.false))) fun x13 => S.bd (pik x5 (Go.Value.bool Bool.true) x13) fun x14 => S.cnd x14 (some ((Go.Value.int Go.IntKind.i64 (-1)))) (S.bd (lal c1 0 2) fun x15 => S.bd (lal c2 0 2) fun x16 => S.bd (eqb [1, 1] true false x15 x16) fun x17 => S.cnd x17 (some ((Go.Value.int Go.IntKind.i64 0))) (some ((Go.Value.int Go.IntKind.i64 1))))
def leapfrogref02x_Compare.r (a0 a1 : Value) (s : St) : Option Value := leapfrogref02x_Compare.t std a0 a1 s
def leapfrogref02x_Compare.w : List Value → St → Option Value
  | [a0, a1], s => leapfrogref02x_Compare.r a0 a1 s
  | _, _ => none
def leapfrogref02x_Compare.an : An := ⟨29, true, [2, 3], [], [], [], [], []⟩
theorem leapfrogref02x_Compare.ok (S : Sig) (a0 a1 : Value) (s : St) : evG S Try.prog leapfrogref02x_Compare.ctx leapfrogref02x_Compare.an Try.f38 [a0, a1] s = leapfrogref02x_Compare.t S a0 a1 s := by kernel_rfl
theorem leapfrogref02x_Compare.cok : CtxOk Try.prog leapfrogref02x_Compare.ctx := .nil
theorem leapfrogref02x_Compare.draws : fnDraws leapfrogref02x_Compare.an Try.f38 = true := by kernel_rfl
theorem leapfrogref02x_Compare.can : callOk Try.prog 38 = true := by kernel_rfl
theorem leapfrogref02x_Compare.sound : FnOk Try.prog 38 (.rd leapfrogref02x_Compare.w) := FnOk.rd_of (evG_ok leapfrogref02x_Compare.cok mixed (f := 38) (fn := Try.f38) (by kernel_rfl) leapfrogref02x_Compare.draws) fun args s r h => by
  unfold leapfrogref02x_Compare.w at h; split at h
  · rw [leapfrogref02x_Compare.ok std]; exact h
  · simp at h

/-! ### leapfrog/leapfrogref02.Less: function 16 -/
def leapfrogref02x_Less.ctx : Ctx := [(38, .rd leapfrogref02x_Compare.w)]
def leapfrogref02x_Less.t (S : Sig) (a0 a1 : Value) (s : St) : Option Value :=
  S.bd (bx a0) fun c1 => S.bd (bx a1) fun c2 => S.bd (lal c1 0 2) fun x3 => S.bd (lal c2 0 2) fun x4 => S.bd (leapfrogref02x_Compare.r x3 x4 s) fun x5 => S.bd (bin .lss x5 (Go.Value.int Go.IntKind.i64 0)) fun x6 => some (x6)
def leapfrogref02x_Less.r (a0 a1 : Value) (s : St) : Option Value := leapfrogref02x_Less.t std a0 a1 s
def leapfrogref02x_Less.w : List Value → St → Option Value
  | [a0, a1], s => leapfrogref02x_Less.r a0 a1 s
  | _, _ => none
def leapfrogref02x_Less.an : An := ⟨9, true, [2, 3], [], [], [], [], []⟩
theorem leapfrogref02x_Less.ok (S : Sig) (a0 a1 : Value) (s : St) : evG S Try.prog leapfrogref02x_Less.ctx leapfrogref02x_Less.an Try.f16 [a0, a1] s = leapfrogref02x_Less.t S a0 a1 s := by kernel_rfl
theorem leapfrogref02x_Less.cok : CtxOk Try.prog leapfrogref02x_Less.ctx := .cons leapfrogref02x_Compare.sound leapfrogref02x_Compare.can <| .nil
theorem leapfrogref02x_Less.draws : fnDraws leapfrogref02x_Less.an Try.f16 = true := by kernel_rfl
theorem leapfrogref02x_Less.can : callOk Try.prog 16 = true := by kernel_rfl
theorem leapfrogref02x_Less.sound : FnOk Try.prog 16 (.rd leapfrogref02x_Less.w) := FnOk.rd_of (evG_ok leapfrogref02x_Less.cok mixed (f := 16) (fn := Try.f16) (by kernel_rfl) leapfrogref02x_Less.draws) fun args s r h => by
  unfold leapfrogref02x_Less.w at h; split at h
  · rw [leapfrogref02x_Less.ok std]; exact h
  · simp at h

/-! ### leapfrog/leapfrogref02.Sorted: function 30 -/
def leapfrogref02x_Sorted.ctx : Ctx := [(16, .rd leapfrogref02x_Less.w)]
def leapfrogref02x_Sorted.l8.p1 (S : Sig) (xs95 : List Value) (s96 : St) (rec97 : List Value → St → Option Cut) : Option Cut :=
  S.bd (show Option Cut from S.bd (un .not (xs95.getD 4 undef)) fun x100 => S.bd (S.gd x100 true (some (xs95.getD 1 undef))) fun x101 => S.bd (S.gd x100 true (some (xs95.getD 5 undef))) fun x102 => S.bd (S.gd x100 true (idx s96 2 x101 x102)) fun x103 => S.bd (S.gd x100 true (lda s96 2 x103)) fun x104 => S.bd (S.gd x100 true (some (xs95.getD 0 undef))) fun x105 => S.bd (S.gd x100 true (some (xs95.getD 2 undef))) fun x106 => S.bd (S.gd x100 true (idx s96 2 x105 x106)) fun x107 => S.bd (S.gd x100 true (lda s96 2 x107)) fun x108 => S.bd (S.gd x100 true (leapfrogref02x_Less.r x104 x108 s96)) fun x109 => S.bd (S.gd x100 true (un .not x109)) fun x110 => S.bd (pik x100 x110 (Go.Value.bool Bool.false)) fun x111 => S.cnd x111 (S.bd (idx s96 2 (xs95.getD 0 undef) (xs95.getD 2 undef)) fun x112 => S.bd (lda s96 2 x112) fun x113 => S.bd (S.bd (bls 2 (List.replicate 1 [(Go.Value.int Go.IntKind.i64 0), (Go.Value.int Go.IntKind.u64 0)]) [(0, x113)]) fun rows => als s96 2 1 rows) fun r114 => S.bd (app r114.2 2 16 (xs95.getD 3 undef) r114.1) fun r115 => some (0, [(xs95.getD 0 undef), (xs95.getD 1 undef), (xs95.getD 2 undef), r115.1, (Go.Value.bool Bool.true), (xs95.getD 5 undef), x101, x102, x103, x104, x105, x106, x107, x108, x109, x110], r115.2)) (some (0, [(xs95.getD 0 undef), (xs95.getD 1 undef), (xs95.getD 2 undef), (xs95.getD 3 undef), (xs95.getD 4 undef), (xs95.getD 5 undef), x101, x102, x103, x104, x105, x106, x107, x108, x109, x110], s96))) fun r116 => S.bd (idx r116.2.2 2 (r116.2.1.getD 1 undef) (r116.2.1.getD 5 undef)) fun x117 => S.bd (lda r116.2.2 2 x117) fun x118 => S.bd (idx r116.2.2 2 (r116.2.1.getD 0 undef) (r116.2.1.getD 2 undef)) fun x119 => S.bd (lda r116.2.2 2 x119) fun x120 => S.bd (eqb [1, 1] true true x118 x120) fun x121 => S.cnd x121 (S.bd (idx r116.2.2 2 (r116.2.1.getD 1 undef) (r116.2.1.getD 5 undef)) fun x122 => S.bd (lda r116.2.2 2 x122) fun x123 => S.bd (S.bd (bls 2 (List.replicate 1 [(Go.Value.int Go.IntKind.i64 0), (Go.Value.int Go.IntKind.u64 0)]) [(0, x123)]) fun rows => als r116.2.2 2 1 rows) fun r124 => S.bd (app r124.2 2 16 (r116.2.1.getD 3 undef) r124.1) fun r125 => S.bd (bin .add (r116.2.1.getD 5 undef) (Go.Value.int Go.IntKind.i64 1)) fun x126 => rec97 [(r116.2.1.getD 0 undef), (r116.2.1.getD 1 undef), (r116.2.1.getD 2 undef), r125.1, (r116.2.1.getD 4 undef), x126] r125.2) (S.bd (bin .add (r116.2.1.getD 5 undef) (Go.Value.int Go.IntKind.i64 1)) fun x127 => rec97 [(r116.2.1.getD 0 undef), (r116.2.1.getD 1 undef), (r116.2.1.getD 2 undef), (r116.2.1.getD 3 undef), (r116.2.1.getD 4 undef), x127] r116.2.2)

def leapfrogref02x_Sorted.l8 (S : Sig) (rec97 : List Value → St → Option Cut) (xs95 : List Value) (s96 : St) : Option Cut :=
  S.bd (lenL (xs95.getD 1 undef)) fun x98 => S.bd (bin .lss (xs95.getD 5 undef) x98) fun x99 => S.cnd x99 (leapfrogref02x_Sorted.l8.p1 S xs95 s96 rec97) (some (0, [(xs95.getD 0 undef), (xs95.getD 2 undef), (xs95.getD 3 undef), (xs95.getD 4 undef)], s96))

def leapfrogref02x_Sorted.l3 (S : Sig) (rec92 : List Value → St → Option Cut) (xs90 : List Value) (s91 : St) : Option Cut :=
  S.bd (lenL (xs90.getD 0 undef)) fun x93 => S.bd (bin .lss (xs90.getD 2 undef) x93) fun x94 => S.cnd x94 (S.bd (S.it (leapfrogref02x_Sorted.l8 S) [(xs90.getD 0 undef), (xs90.getD 1 undef), (xs90.getD 2 undef), (Go.Value.slice Option.none 0 0), (Go.Value.bool Bool.false), (Go.Value.int Go.IntKind.i64 0)] s91) fun r128 => S.bd (un .not (r128.2.1.getD 3 undef)) fun x129 => S.cnd x129 (S.bd (idx r128.2.2 2 (r128.2.1.getD 0 undef) (r128.2.1.getD 1 undef)) fun x130 => S.bd (lda r128.2.2 2 x130) fun x131 => S.bd (S.bd (bls 2 (List.replicate 1 [(Go.Value.int Go.IntKind.i64 0), (Go.Value.int Go.IntKind.u64 0)]) [(0, x131)]) fun rows => als r128.2.2 2 1 rows) fun r132 => S.bd (app r132.2 2 16 (r128.2.1.getD 2 undef) r132.1) fun r133 => S.bd (bin .add (r128.2.1.getD 1 undef) (Go.Value.int Go.IntKind.i64 1)) fun x134 => rec92 [(r128.2.1.getD 0 undef), r133.1, x134] r133.2) (S.bd (bin .add (r128.2.1.getD 1 undef) (Go.Value.int Go.IntKind.i64 1)) fun x135 => rec92 [(r128.2.1.getD 0 undef), (r128.2.1.getD 2 undef), x135] r128.2.2)) (some (0, [(xs90.getD 1 undef)], s91))

def leapfrogref02x_Sorted.t (S : Sig) (a0 : Value) (s : St) : Option (Value × St) :=
  S.bd (S.it (leapfrogref02x_Sorted.l3 S) [a0, (Go.Value.slice Option.none 0 0), (Go.Value.int Go.IntKind.i64 0)] s) fun r136 => some ((r136.2.1.getD 0 undef), r136.2.2)
def leapfrogref02x_Sorted.v (a0 : Value) (s : St) : Option (Value × St) := leapfrogref02x_Sorted.t std a0 s
def leapfrogref02x_Sorted.w : List Value → St → Option (Value × St)
  | [a0], s => leapfrogref02x_Sorted.v a0 s
  | _, _ => none
def leapfrogref02x_Sorted.an : An := ⟨68, false, [], [(8, ⟨[.v 0, .v 3, .v 4, .v 5, .v 6, .v 7], [(.exit 2, [.v 0, .v 4, .v 5, .v 6])]⟩), (3, ⟨[.v 0, .v 3, .v 4], [(.exit 0, [.v 3])]⟩)], [(13, ⟨[], [(.normal, [.v 0, .v 3, .v 4, .v 5, .v 6, .v 7, .v 23, .v 24, .v 25, .v 26, .v 27, .v 28, .v 29, .v 30, .v 31, .v 32])]⟩)], [(10, [(0, 0, [], []), (1, 0, [], []), (2, 0, [], []), (3, 0, [], []), (4, 0, [], []), (5, 2, [], []), (6, 2, [], []), (7, 0, [], []), (8, 0, [], []), (9, 2, [], []), (10, 2, [], []), (11, 3, [], []), (12, 0, [], []), (13, 0, [], [])]), (13, [(0, 0, [], []), (1, 0, [], []), (2, 2, [], []), (3, 2, [], []), (4, 0, [], []), (5, 0, [], []), (6, 2, [], []), (7, 2, [], []), (8, 0, [], [])])], [], []⟩
theorem leapfrogref02x_Sorted.ok (S : Sig) (a0 : Value) (s : St) : evF S Try.prog leapfrogref02x_Sorted.ctx leapfrogref02x_Sorted.an Try.f30 [a0] s = leapfrogref02x_Sorted.t S a0 s := by kernel_rfl
theorem leapfrogref02x_Sorted.cok : CtxOk Try.prog leapfrogref02x_Sorted.ctx := .cons leapfrogref02x_Less.sound leapfrogref02x_Less.can <| .nil
theorem leapfrogref02x_Sorted.draws : fnDraws leapfrogref02x_Sorted.an Try.f30 = true := by kernel_rfl
theorem leapfrogref02x_Sorted.can : callOk Try.prog 30 = true := by kernel_rfl
theorem leapfrogref02x_Sorted.sound : FnOk Try.prog 30 (.st leapfrogref02x_Sorted.w) := FnOk.st_of (evF_ok leapfrogref02x_Sorted.cok mixed (f := 30) (fn := Try.f30) (by kernel_rfl) leapfrogref02x_Sorted.draws) fun args s r h => by
  unfold leapfrogref02x_Sorted.w at h; split at h
  · rw [leapfrogref02x_Sorted.ok std]; exact h
  · simp at h

/-! ### leapfrog/leapfroglaw12.Make: function 10 -/
def leapfroglaw12x_Make.ctx : Ctx := [(25, .rd leapfrogref02x_At.w), (30, .st leapfrogref02x_Sorted.w)]
def leapfroglaw12x_Make.l4 (S : Sig) (rec18 : List Value → St → Option Cut) (xs16 : List Value) (s17 : St) : Option Cut :=
  S.bd (lenL (xs16.getD 1 undef)) fun x19 => S.bd (bin .lss (xs16.getD 5 undef) x19) fun x20 => S.bd (S.gd x20 true (some (xs16.getD 5 undef))) fun x21 => S.bd (S.gd x20 true (bin .lss x21 (Go.Value.int Go.IntKind.i64 20))) fun x22 => S.bd (pik x20 x22 (Go.Value.bool Bool.false)) fun x23 => S.cnd x23 (S.bd (idx s17 1 (xs16.getD 1 undef) (xs16.getD 5 undef)) fun x24 => S.bd (ldc s17 x24) fun x25 => S.bd (leapfrogref02x_At.r x25 s17) fun x26 => S.bd (S.bd (bls 2 (List.replicate 1 [(Go.Value.int Go.IntKind.i64 0), (Go.Value.int Go.IntKind.u64 0)]) [(0, x26)]) fun rows => als s17 2 1 rows) fun r27 => S.bd (app r27.2 2 16 (xs16.getD 4 undef) r27.1) fun r28 => S.bd (bin .add (xs16.getD 5 undef) (Go.Value.int Go.IntKind.i64 1)) fun x29 => rec18 [(xs16.getD 0 undef), (xs16.getD 1 undef), (xs16.getD 2 undef), (xs16.getD 3 undef), r28.1, x29, (Value.agg ⟨(cellsA (xs16.getD 6 undef))⟩), (Value.agg ⟨(cellsA (xs16.getD 7 undef))⟩)] r28.2) (some (0, [(xs16.getD 0 undef), (xs16.getD 2 undef), (xs16.getD 3 undef), (xs16.getD 4 undef), (Value.agg ⟨(cellsA (xs16.getD 6 undef))⟩), (Value.agg ⟨(cellsA (xs16.getD 7 undef))⟩)], s17))

def leapfroglaw12x_Make.l9.p1 (S : Sig) (x98 : Value) (x100 : Value) (x101 : Value) (r96 : Cut) (x97 : Value) (x99 : Value) (rec82 : List Value → St → Option Cut) : Option Cut :=
  S.bd (bld [(Go.Value.int Go.IntKind.i64 0), (Go.Value.int Go.IntKind.i64 0), (Go.Value.int Go.IntKind.u64 0), (Go.Value.int Go.IntKind.i64 0), (Go.Value.int Go.IntKind.u64 0)] [(0, 1, x98), (1, 2, x100), (3, 2, x101)]) fun x102 => S.bd (S.bd (bls 5 (List.replicate 1 [(Go.Value.int Go.IntKind.i64 0), (Go.Value.int Go.IntKind.i64 0), (Go.Value.int Go.IntKind.u64 0), (Go.Value.int Go.IntKind.i64 0), (Go.Value.int Go.IntKind.u64 0)]) [(0, x102)]) fun rows => als r96.2.2 5 1 rows) fun r103 => S.bd (app r103.2 5 40 x97 r103.1) fun r104 => S.bd (idx r104.2 2 (r96.2.1.getD 3 undef) (r96.2.1.getD 4 undef)) fun x105 => S.cnd (Value.bool (sameV x105 x99)) (S.bd (lda r104.2 2 x99) fun x106 => S.cnd (Value.bool (sameV x106 x100)) (S.bd (stl (cellsA (r96.2.1.getD 6 undef)) 1 1 r104.1) fun c107 => S.bd (lcl c107 2) fun x108 => S.bd (lenL (r96.2.1.getD 2 undef)) fun x109 => S.bd (bin .lss (r96.2.1.getD 4 undef) x109) fun x110 => S.bd (S.gd x110 true (some (r96.2.1.getD 2 undef))) fun x111 => S.bd (S.gd x110 true (some (r96.2.1.getD 4 undef))) fun x112 => S.bd (S.gd x110 true (idx r104.2 1 x111 x112)) fun x113 => S.bd (S.gd x110 true (ldc r104.2 x113)) fun x114 => S.bd (pik x110 x114 (Go.Value.bool Bool.false)) fun x115 => S.bd (S.bd (bls 1 (List.replicate 1 [(Go.Value.bool Bool.false)]) [(0, x115)]) fun rows => als r104.2 1 1 rows) fun r116 => S.bd (app r116.2 1 1 x108 r116.1) fun r117 => S.bd (lenL (r96.2.1.getD 2 undef)) fun x118 => S.cnd (Value.bool (sameV x118 x109)) (S.bd (S.gd x110 true (idx r117.2 1 x111 x112)) fun x119 => S.cnd (Value.bool (sameV x119 x113)) (S.bd (S.gd x110 true (ldc r117.2 x113)) fun x120 => S.cnd (Value.bool (sameV x120 x114)) (S.bd (stl c107 2 1 r117.1) fun c121 => S.bd (bin .add (r96.2.1.getD 4 undef) (Go.Value.int Go.IntKind.i64 1)) fun x122 => rec82 [(r96.2.1.getD 0 undef), (r96.2.1.getD 1 undef), (r96.2.1.getD 2 undef), (r96.2.1.getD 3 undef), x122, (Value.agg ⟨(cellsA (r96.2.1.getD 5 undef))⟩), (Value.agg ⟨c121⟩)] r117.2) (none)) (none)) (none)) (none)) (none)

def leapfroglaw12x_Make.l9 (S : Sig) (rec82 : List Value → St → Option Cut) (xs80 : List Value) (s81 : St) : Option Cut :=
  S.bd (lenL (xs80.getD 3 undef)) fun x83 => S.bd (bin .lss (xs80.getD 4 undef) x83) fun x84 => S.cnd x84 (S.bd (bld [(Go.Value.int Go.IntKind.i64 0), (Go.Value.int Go.IntKind.u64 0)] [(0, 1, (xs80.getD 0 undef))]) fun x85 => S.bd (bx (Go.Value.agg #[(Go.Value.int Go.IntKind.i64 0), (Go.Value.int Go.IntKind.u64 0)])) fun c86 => S.bd (stl c86 0 2 x85) fun c87 => S.bd (show Option Cut from S.bd (lenL (xs80.getD 1 undef)) fun x88 => S.bd (bin .lss (xs80.getD 4 undef) x88) fun x89 => S.cnd x89 (S.bd (idx s81 1 (xs80.getD 1 undef) (xs80.getD 4 undef)) fun x90 => S.bd (ldc s81 x90) fun x91 => S.bd (cvi .u64 (xs80.getD 0 undef)) fun x92 => S.bd (bin .shl (Go.Value.int Go.IntKind.u64 1) x92) fun x93 => S.bd (bin .rem x91 x93) fun x94 => S.bd (stl c87 1 1 x94) fun c95 => some (0, [(xs80.getD 0 undef), (xs80.getD 1 undef), (xs80.getD 2 undef), (xs80.getD 3 undef), (xs80.getD 4 undef), (Value.agg ⟨(cellsA (xs80.getD 5 undef))⟩), (Value.agg ⟨(cellsA (xs80.getD 6 undef))⟩), (Value.agg ⟨c95⟩)], s81)) (some (0, [(xs80.getD 0 undef), (xs80.getD 1 undef), (xs80.getD 2 undef), (xs80.getD 3 undef), (xs80.getD 4 undef), (Value.agg ⟨(cellsA (xs80.getD 5 undef))⟩), (Value.agg ⟨(cellsA (xs80.getD 6 undef))⟩), (Value.agg ⟨c87⟩)], s81))) fun r96 => S.bd (lcl (cellsA (r96.2.1.getD 6 undef)) 1) fun x97 => S.bd (bin .add (r96.2.1.getD 4 undef) (Go.Value.int Go.IntKind.i64 2)) fun x98 => S.bd (idx r96.2.2 2 (r96.2.1.getD 3 undef) (r96.2.1.getD 4 undef)) fun x99 => S.bd (lda r96.2.2 2 x99) fun x100 => S.bd (lal (cellsA (r96.2.1.getD 7 undef)) 0 2) fun x101 => leapfroglaw12x_Make.l9.p1 S x98 x100 x101 r96 x97 x99 rec82) (some (0, [(Value.agg ⟨(cellsA (xs80.getD 5 undef))⟩), (Value.agg ⟨(cellsA (xs80.getD 6 undef))⟩)], s81))

def leapfroglaw12x_Make.t (S : Sig) (a0 a1 a2 a3 : Value) (s : St) : Option (Value × St) :=
  S.bd (bx (Go.Value.agg #[(Go.Value.int Go.IntKind.i64 0), (Go.Value.slice Option.none 0 0), (Go.Value.slice Option.none 0 0)])) fun c1 => S.bd (bld [(Go.Value.int Go.IntKind.i64 0), (Go.Value.slice Option.none 0 0), (Go.Value.slice Option.none 0 0)] [(0, 1, a0)]) fun x2 => S.bd (bx (Go.Value.agg #[(Go.Value.int Go.IntKind.i64 0), (Go.Value.slice Option.none 0 0), (Go.Value.slice Option.none 0 0)])) fun c3 => S.bd (stl c3 0 3 x2) fun c4 => S.bd (S.it (leapfroglaw12x_Make.l4 S) [a0, a1, a2, a3, (Go.Value.slice Option.none 0 0), (Go.Value.int Go.IntKind.i64 0), (Value.agg ⟨c1⟩), (Value.agg ⟨c4⟩)] s) fun r30 => S.bd (leapfrogref02x_Sorted.v (r30.2.1.getD 3 undef) r30.2.2) fun r31 => S.bd (S.it (leapfroglaw12x_Make.l9 S) [(r30.2.1.getD 0 undef), (r30.2.1.getD 1 undef), (r30.2.1.getD 2 undef), r31.1, (Go.Value.int Go.IntKind.i64 0), (Value.agg ⟨(cellsA (r30.2.1.getD 4 undef))⟩), (Value.agg ⟨(cellsA (r30.2.1.getD 5 undef))⟩)] r31.2) fun r123 => S.bd (lal (cellsA (r123.2.1.getD 1 undef)) 0 3) fun x124 => S.bd (stl (cellsA (r123.2.1.getD 0 undef)) 0 3 x124) fun c125 => S.bd (lal c125 0 3) fun x126 => some (x126, r123.2.2)
def leapfroglaw12x_Make.v (a0 a1 a2 a3 : Value) (s : St) : Option (Value × St) := leapfroglaw12x_Make.t std a0 a1 a2 a3 s
def leapfroglaw12x_Make.w : List Value → St → Option (Value × St)
  | [a0, a1, a2, a3], s => leapfroglaw12x_Make.v a0 a1 a2 a3 s
  | _, _ => none
def leapfroglaw12x_Make.an : An := ⟨86, false, [8, 9, 13], [(4, ⟨[.v 0, .v 1, .v 2, .v 3, .p 8 8 0, .p 9 9 0, .v 10, .v 11, .l 8, .l 9], [(.exit 0, [.v 0, .v 2, .v 3, .p 8 8 0, .p 9 9 0, .v 10, .l 8, .l 9])]⟩), (9, ⟨[.v 0, .v 2, .v 3, .p 8 8 0, .p 9 9 0, .v 10, .v 12, .l 8, .l 9], [(.exit 2, [.p 8 8 0, .p 9 9 0, .l 8, .l 9])]⟩)], [(14, ⟨[], [(.normal, [.v 0, .v 2, .v 3, .p 8 8 0, .p 9 9 0, .v 10, .v 12, .p 13 13 0, .l 8, .l 9, .l 13])]⟩)], [(14, [(0, 0, [], []), (1, 73, [], []), (2, 0, [], []), (3, 0, [], []), (4, 0, [], []), (5, 0, [], []), (6, 2, [], []), (7, 2, [], []), (8, 105, [], []), (9, 0, [], []), (10, 3, [], []), (11, 4, [6, 7], []), (12, 0, [], []), (13, 77, [], [])]), (15, [(0, 0, [], []), (1, 73, [], []), (2, 0, [], []), (3, 0, [], []), (4, 2, [], []), (5, 0, [], []), (6, 0, [], []), (7, 0, [], []), (8, 0, [], []), (9, 2, [], []), (10, 2, [], []), (11, 0, [], []), (12, 3, [], []), (13, 4, [4, 9, 10], []), (14, 0, [], []), (15, 77, [], [])])], [], []⟩
theorem leapfroglaw12x_Make.ok (S : Sig) (a0 a1 a2 a3 : Value) (s : St) : evF S Try.prog leapfroglaw12x_Make.ctx leapfroglaw12x_Make.an Try.f10 [a0, a1, a2, a3] s = leapfroglaw12x_Make.t S a0 a1 a2 a3 s := by kernel_rfl
theorem leapfroglaw12x_Make.cok : CtxOk Try.prog leapfroglaw12x_Make.ctx := .cons leapfrogref02x_At.sound leapfrogref02x_At.can <| .cons leapfrogref02x_Sorted.sound leapfrogref02x_Sorted.can <| .nil
theorem leapfroglaw12x_Make.draws : fnDraws leapfroglaw12x_Make.an Try.f10 = true := by kernel_rfl
theorem leapfroglaw12x_Make.can : callOk Try.prog 10 = true := by kernel_rfl
theorem leapfroglaw12x_Make.sound : FnOk Try.prog 10 (.st leapfroglaw12x_Make.w) := FnOk.st_of (evF_ok leapfroglaw12x_Make.cok mixed (f := 10) (fn := Try.f10) (by kernel_rfl) leapfroglaw12x_Make.draws) fun args s r h => by
  unfold leapfroglaw12x_Make.w at h; split at h
  · rw [leapfroglaw12x_Make.ok std]; exact h
  · simp at h

/-! ### leapfrog/leapfrogref12.Tail: function 11 -/
def leapfrogref12x_Tail.ctx : Ctx := []
def leapfrogref12x_Tail.t (S : Sig) (a0 : Value) (s : St) : Option Value :=
  S.bd (bx (Go.Value.agg #[(Go.Value.int Go.IntKind.i64 0), (Go.Value.int Go.IntKind.i64 0), (Go.Value.int Go.IntKind.u64 0), (Go.Value.int Go.IntKind.i64 0), (Go.Value.int Go.IntKind.u64 0)])) fun c1 => S.bd (bld [(Go.Value.int Go.IntKind.i64 0), (Go.Value.int Go.IntKind.u64 0)] [(0, 1, (Go.Value.int Go.IntKind.i64 3))]) fun x2 => S.bd (bld [(Go.Value.int Go.IntKind.i64 0), (Go.Value.int Go.IntKind.u64 0)] [(0, 1, a0)]) fun x3 => S.bd (bld [(Go.Value.int Go.IntKind.i64 0), (Go.Value.int Go.IntKind.i64 0), (Go.Value.int Go.IntKind.u64 0), (Go.Value.int Go.IntKind.i64 0), (Go.Value.int Go.IntKind.u64 0)] [(0, 1, (Go.Value.int Go.IntKind.i64 1)), (1, 2, x2), (3, 2, x3)]) fun x4 => S.bd (stl c1 0 5 x4) fun c5 => S.bd (lal c5 0 5) fun x6 => some (x6)
def leapfrogref12x_Tail.r (a0 : Value) (s : St) : Option Value := leapfrogref12x_Tail.t std a0 s
def leapfrogref12x_Tail.w : List Value → St → Option Value
  | [a0], s => leapfrogref12x_Tail.r a0 s
  | _, _ => none
def leapfrogref12x_Tail.an : An := ⟨7, true, [2], [], [], [], [], []⟩
theorem leapfrogref12x_Tail.ok (S : Sig) (a0 : Value) (s : St) : evG S Try.prog leapfrogref12x_Tail.ctx leapfrogref12x_Tail.an Try.f11 [a0] s = leapfrogref12x_Tail.t S a0 s := by kernel_rfl
theorem leapfrogref12x_Tail.cok : CtxOk Try.prog leapfrogref12x_Tail.ctx := .nil
theorem leapfrogref12x_Tail.draws : fnDraws leapfrogref12x_Tail.an Try.f11 = true := by kernel_rfl
theorem leapfrogref12x_Tail.can : callOk Try.prog 11 = true := by kernel_rfl
theorem leapfrogref12x_Tail.sound : FnOk Try.prog 11 (.rd leapfrogref12x_Tail.w) := FnOk.rd_of (evG_ok leapfrogref12x_Tail.cok mixed (f := 11) (fn := Try.f11) (by kernel_rfl) leapfrogref12x_Tail.draws) fun args s r h => by
  unfold leapfrogref12x_Tail.w at h; split at h
  · rw [leapfrogref12x_Tail.ok std]; exact h
  · simp at h

/-! ### leapfrog/leapfrogref01.Power: function 46 -/
def leapfrogref01x_Power.ctx : Ctx := []
def leapfrogref01x_Power.l2 (S : Sig) (rec6 : List Value → St → Option Cut) (xs4 : List Value) (s5 : St) : Option Cut :=
  S.bd (bin .gtr (xs4.getD 0 undef) (Go.Value.int Go.IntKind.i64 0)) fun x7 => S.cnd x7 (S.bd (bin .mul (xs4.getD 1 undef) (Go.Value.int Go.IntKind.u64 2)) fun x8 => S.bd (bin .sub (xs4.getD 0 undef) (Go.Value.int Go.IntKind.i64 1)) fun x9 => rec6 [x9, x8] s5) (some (0, [(xs4.getD 1 undef)], s5))

def leapfrogref01x_Power.t (S : Sig) (a0 : Value) (s : St) : Option Value :=
  S.bd (S.it (leapfrogref01x_Power.l2 S) [a0, (Go.Value.int Go.IntKind.u64 1)] s) fun r10 => some ((r10.2.1.getD 0 undef))
def leapfrogref01x_Power.r (a0 : Value) (s : St) : Option Value := leapfrogref01x_Power.t std a0 s
def leapfrogref01x_Power.w : List Value → St → Option Value
  | [a0], s => leapfrogref01x_Power.r a0 s
  | _, _ => none
def leapfrogref01x_Power.an : An := ⟨11, true, [], [(2, ⟨[.v 0, .v 3], [(.exit 0, [.v 3])]⟩)], [], [], [], []⟩
theorem leapfrogref01x_Power.ok (S : Sig) (a0 : Value) (s : St) : evG S Try.prog leapfrogref01x_Power.ctx leapfrogref01x_Power.an Try.f46 [a0] s = leapfrogref01x_Power.t S a0 s := by kernel_rfl
theorem leapfrogref01x_Power.cok : CtxOk Try.prog leapfrogref01x_Power.ctx := .nil
theorem leapfrogref01x_Power.draws : fnDraws leapfrogref01x_Power.an Try.f46 = true := by kernel_rfl
theorem leapfrogref01x_Power.can : callOk Try.prog 46 = true := by kernel_rfl
theorem leapfrogref01x_Power.sound : FnOk Try.prog 46 (.rd leapfrogref01x_Power.w) := FnOk.rd_of (evG_ok leapfrogref01x_Power.cok mixed (f := 46) (fn := Try.f46) (by kernel_rfl) leapfrogref01x_Power.draws) fun args s r h => by
  unfold leapfrogref01x_Power.w at h; split at h
  · rw [leapfrogref01x_Power.ok std]; exact h
  · simp at h

/-! ### leapfrog/leapfrogref01.Right: function 31 -/
def leapfrogref01x_Right.ctx : Ctx := [(46, .rd leapfrogref01x_Power.w)]
def leapfrogref01x_Right.t (S : Sig) (a0 : Value) (s : St) : Option Value :=
  S.bd (bx a0) fun c1 => S.bd (lcl c1 0) fun x2 => S.bd (bin .geq x2 (Go.Value.int Go.IntKind.i64 0)) fun x3 => S.bd (S.gd x3 true (lcl c1 0)) fun x4 => S.bd (S.gd x3 true (bin .leq x4 (Go.Value.int Go.IntKind.i64 32))) fun x5 => S.bd (pik x3 x5 (Go.Value.bool Bool.false)) fun x6 => S.bd (S.gd x6 true (lcl c1 1)) fun x7 => S.bd (S.gd x6 true (lcl c1 0)) fun x8 => S.bd (S.gd x6 true (leapfrogref01x_Power.r x8 s)) fun x9 => S.bd (S.gd x6 true (bin .lss x7 x9)) fun x10 => S.bd (pik x6 x10 (Go.Value.bool Bool.false)) fun x11 => some (x11)
def leapfrogref01x_Right.r (a0 : Value) (s : St) : Option Value := leapfrogref01x_Right.t std a0 s
def leapfrogref01x_Right.w : List Value → St → Option Value
  | [a0], s => leapfrogref01x_Right.r a0 s
  | _, _ => none
def leapfrogref01x_Right.an : An := ⟨19, true, [1], [], [], [(1, [(0, 0, [], []), (1, 9, [], []), (2, 0, [], []), (3, 0, [], []), (4, 0, [], []), (5, 9, [], []), (6, 0, [], []), (7, 0, [], []), (8, 0, [], []), (9, 0, [], []), (10, 9, [], []), (11, 0, [], []), (12, 9, [], []), (13, 3, [], []), (14, 0, [], []), (15, 0, [], []), (16, 0, [], [])])], [], []⟩
theorem leapfrogref01x_Right.ok (S : Sig) (a0 : Value) (s : St) : evG S Try.prog leapfrogref01x_Right.ctx leapfrogref01x_Right.an Try.f31 [a0] s = leapfrogref01x_Right.t S a0 s := by kernel_rfl
theorem leapfrogref01x_Right.cok : CtxOk Try.prog leapfrogref01x_Right.ctx := .cons leapfrogref01x_Power.sound leapfrogref01x_Power.can <| .nil
theorem leapfrogref01x_Right.draws : fnDraws leapfrogref01x_Right.an Try.f31 = true := by kernel_rfl
theorem leapfrogref01x_Right.can : callOk Try.prog 31 = true := by kernel_rfl
theorem leapfrogref01x_Right.sound : FnOk Try.prog 31 (.rd leapfrogref01x_Right.w) := FnOk.rd_of (evG_ok leapfrogref01x_Right.cok mixed (f := 31) (fn := Try.f31) (by kernel_rfl) leapfrogref01x_Right.draws) fun args s r h => by
  unfold leapfrogref01x_Right.w at h; split at h
  · rw [leapfrogref01x_Right.ok std]; exact h
  · simp at h

/-! ### leapfrog/leapfrogref01.Bits: function 32 -/
def leapfrogref01x_Bits.ctx : Ctx := []
def leapfrogref01x_Bits.l4 (S : Sig) (rec16 : List Value → St → Option Cut) (xs14 : List Value) (s15 : St) : Option Cut :=
  S.bd (bin .geq (xs14.getD 2 undef) (Go.Value.int Go.IntKind.i64 0)) fun x17 => S.cnd x17 (S.bd (bin .rem (xs14.getD 1 undef) (Go.Value.int Go.IntKind.u64 2)) fun x18 => S.bd (cvi .i64 x18) fun x19 => S.bd (idx s15 1 (xs14.getD 0 undef) (xs14.getD 2 undef)) fun x20 => S.bd (stv s15 1 x20 x19) fun s21 => S.bd (bin .quo (xs14.getD 1 undef) (Go.Value.int Go.IntKind.u64 2)) fun x22 => S.bd (bin .sub (xs14.getD 2 undef) (Go.Value.int Go.IntKind.i64 1)) fun x23 => rec16 [(xs14.getD 0 undef), x22, x23] s21) (some (0, [(xs14.getD 0 undef)], s15))

def leapfrogref01x_Bits.t (S : Sig) (a0 : Value) (s : St) : Option (Value × St) :=
  S.bd (bx a0) fun c1 => S.bd (lcl c1 0) fun x2 => S.bd (mks s 1 8 [(Go.Value.int Go.IntKind.i64 0)] x2 x2) fun r3 => S.bd (lcl c1 1) fun x4 => S.bd (lcl c1 0) fun x5 => S.bd (bin .sub x5 (Go.Value.int Go.IntKind.i64 1)) fun x6 => S.bd (S.it (leapfrogref01x_Bits.l4 S) [r3.1, x4, x6] r3.2) fun r24 => some ((r24.2.1.getD 0 undef), r24.2.2)
def leapfrogref01x_Bits.v (a0 : Value) (s : St) : Option (Value × St) := leapfrogref01x_Bits.t std a0 s
def leapfrogref01x_Bits.w : List Value → St → Option (Value × St)
  | [a0], s => leapfrogref01x_Bits.v a0 s
  | _, _ => none
def leapfrogref01x_Bits.an : An := ⟨27, false, [1], [(4, ⟨[.v 3, .v 4, .v 5], [(.exit 0, [.v 3])]⟩)], [], [], [], []⟩
theorem leapfrogref01x_Bits.ok (S : Sig) (a0 : Value) (s : St) : evF S Try.prog leapfrogref01x_Bits.ctx leapfrogref01x_Bits.an Try.f32 [a0] s = leapfrogref01x_Bits.t S a0 s := by kernel_rfl
theorem leapfrogref01x_Bits.cok : CtxOk Try.prog leapfrogref01x_Bits.ctx := .nil
theorem leapfrogref01x_Bits.draws : fnDraws leapfrogref01x_Bits.an Try.f32 = true := by kernel_rfl
theorem leapfrogref01x_Bits.can : callOk Try.prog 32 = true := by kernel_rfl
theorem leapfrogref01x_Bits.sound : FnOk Try.prog 32 (.st leapfrogref01x_Bits.w) := FnOk.st_of (evF_ok leapfrogref01x_Bits.cok mixed (f := 32) (fn := Try.f32) (by kernel_rfl) leapfrogref01x_Bits.draws) fun args s r h => by
  unfold leapfrogref01x_Bits.w at h; split at h
  · rw [leapfrogref01x_Bits.ok std]; exact h
  · simp at h

/-! ### leapfrog/leapfrogref01.Of: function 33 -/
def leapfrogref01x_Of.ctx : Ctx := []
def leapfrogref01x_Of.l3 (S : Sig) (rec18 : List Value → St → Option Cut) (xs16 : List Value) (s17 : St) : Option Cut :=
  S.bd (lenL (xs16.getD 0 undef)) fun x19 => S.bd (bin .lss (xs16.getD 1 undef) x19) fun x20 => S.cnd x20 (S.bd (lcl (cellsA (xs16.getD 3 undef)) 1) fun x21 => S.bd (bin .mul x21 (Go.Value.int Go.IntKind.u64 2)) fun x22 => S.bd (idx s17 1 (xs16.getD 0 undef) (xs16.getD 1 undef)) fun x23 => S.bd (ldc s17 x23) fun x24 => S.bd (cvi .u64 x24) fun x25 => S.bd (bin .add x22 x25) fun x26 => S.bd (stl (cellsA (xs16.getD 3 undef)) 1 1 x26) fun c27 => S.bd (bin .add (xs16.getD 1 undef) (Go.Value.int Go.IntKind.i64 1)) fun x28 => rec18 [(xs16.getD 0 undef), x28, (Value.agg ⟨(cellsA (xs16.getD 2 undef))⟩), (Value.agg ⟨c27⟩)] s17) (some (0, [(Value.agg ⟨(cellsA (xs16.getD 2 undef))⟩), (Value.agg ⟨(cellsA (xs16.getD 3 undef))⟩)], s17))

def leapfrogref01x_Of.t (S : Sig) (a0 : Value) (s : St) : Option Value :=
  S.bd (bx (Go.Value.agg #[(Go.Value.int Go.IntKind.i64 0), (Go.Value.int Go.IntKind.u64 0)])) fun c1 => S.bd (lenL a0) fun x2 => S.bd (bld [(Go.Value.int Go.IntKind.i64 0), (Go.Value.int Go.IntKind.u64 0)] [(0, 1, x2)]) fun x3 => S.bd (bx (Go.Value.agg #[(Go.Value.int Go.IntKind.i64 0), (Go.Value.int Go.IntKind.u64 0)])) fun c4 => S.bd (stl c4 0 2 x3) fun c5 => S.bd (S.it (leapfrogref01x_Of.l3 S) [a0, (Go.Value.int Go.IntKind.i64 0), (Value.agg ⟨c1⟩), (Value.agg ⟨c5⟩)] s) fun r29 => S.bd (lal (cellsA (r29.2.1.getD 1 undef)) 0 2) fun x30 => S.bd (stl (cellsA (r29.2.1.getD 0 undef)) 0 2 x30) fun c31 => S.bd (lal c31 0 2) fun x32 => some (x32)
def leapfrogref01x_Of.r (a0 : Value) (s : St) : Option Value := leapfrogref01x_Of.t std a0 s
def leapfrogref01x_Of.w : List Value → St → Option Value
  | [a0], s => leapfrogref01x_Of.r a0 s
  | _, _ => none
def leapfrogref01x_Of.an : An := ⟨25, true, [2, 3], [(3, ⟨[.v 0, .p 2 2 0, .p 3 3 0, .v 4, .l 2, .l 3], [(.exit 0, [.p 2 2 0, .p 3 3 0, .l 2, .l 3])]⟩)], [], [(5, [(0, 0, [], []), (1, 25, [], []), (2, 0, [], []), (3, 0, [], []), (4, 0, [], []), (5, 2, [], []), (6, 2, [], []), (7, 0, [], []), (8, 0, [], []), (9, 0, [], []), (10, 29, [], [])])], [], []⟩
theorem leapfrogref01x_Of.ok (S : Sig) (a0 : Value) (s : St) : evG S Try.prog leapfrogref01x_Of.ctx leapfrogref01x_Of.an Try.f33 [a0] s = leapfrogref01x_Of.t S a0 s := by kernel_rfl
theorem leapfrogref01x_Of.cok : CtxOk Try.prog leapfrogref01x_Of.ctx := .nil
theorem leapfrogref01x_Of.draws : fnDraws leapfrogref01x_Of.an Try.f33 = true := by kernel_rfl
theorem leapfrogref01x_Of.can : callOk Try.prog 33 = true := by kernel_rfl
theorem leapfrogref01x_Of.sound : FnOk Try.prog 33 (.rd leapfrogref01x_Of.w) := FnOk.rd_of (evG_ok leapfrogref01x_Of.cok mixed (f := 33) (fn := Try.f33) (by kernel_rfl) leapfrogref01x_Of.draws) fun args s r h => by
  unfold leapfrogref01x_Of.w at h; split at h
  · rw [leapfrogref01x_Of.ok std]; exact h
  · simp at h

/-! ### leapfrog/leapfrogref01.Prefixes: function 12 -/
def leapfrogref01x_Prefixes.ctx : Ctx := [(31, .rd leapfrogref01x_Right.w), (32, .st leapfrogref01x_Bits.w), (33, .rd leapfrogref01x_Of.w)]
def leapfrogref01x_Prefixes.l6 (S : Sig) (rec16 : List Value → St → Option Cut) (xs14 : List Value) (s15 : St) : Option Cut :=
  S.bd (lenL (xs14.getD 1 undef)) fun x17 => S.bd (bin .leq (xs14.getD 2 undef) x17) fun x18 => S.cnd x18 (S.bd (slc s15 1 (xs14.getD 1 undef) none (some (xs14.getD 2 undef)) none) fun x19 => S.bd (leapfrogref01x_Of.r x19 s15) fun x20 => S.bd (S.bd (bls 2 (List.replicate 1 [(Go.Value.int Go.IntKind.i64 0), (Go.Value.int Go.IntKind.u64 0)]) [(0, x20)]) fun rows => als s15 2 1 rows) fun r21 => S.bd (app r21.2 2 16 (xs14.getD 0 undef) r21.1) fun r22 => S.bd (bin .add (xs14.getD 2 undef) (Go.Value.int Go.IntKind.i64 1)) fun x23 => rec16 [r22.1, (xs14.getD 1 undef), x23] r22.2) (some (0, [(xs14.getD 0 undef)], s15))

def leapfrogref01x_Prefixes.t (S : Sig) (a0 : Value) (s : St) : Option (Value × St) :=
  S.bd (bx a0) fun c1 => S.bd (lal c1 0 2) fun x2 => S.bd (leapfrogref01x_Right.r x2 s) fun x3 => S.bd (un .not x3) fun x4 => S.cnd x4 (some ((Go.Value.slice Option.none 0 0), s)) (S.bd (lal c1 0 2) fun x5 => S.bd (leapfrogref01x_Bits.v x5 s) fun r6 => S.bd (S.it (leapfrogref01x_Prefixes.l6 S) [(Go.Value.slice Option.none 0 0), r6.1, (Go.Value.int Go.IntKind.i64 0)] r6.2) fun r24 => some ((r24.2.1.getD 0 undef), r24.2.2))
def leapfrogref01x_Prefixes.v (a0 : Value) (s : St) : Option (Value × St) := leapfrogref01x_Prefixes.t std a0 s
def leapfrogref01x_Prefixes.w : List Value → St → Option (Value × St)
  | [a0], s => leapfrogref01x_Prefixes.v a0 s
  | _, _ => none
def leapfrogref01x_Prefixes.an : An := ⟨25, false, [1], [(6, ⟨[.v 3, .v 4, .v 5], [(.exit 0, [.v 3])]⟩)], [], [], [], []⟩
theorem leapfrogref01x_Prefixes.ok (S : Sig) (a0 : Value) (s : St) : evF S Try.prog leapfrogref01x_Prefixes.ctx leapfrogref01x_Prefixes.an Try.f12 [a0] s = leapfrogref01x_Prefixes.t S a0 s := by kernel_rfl
theorem leapfrogref01x_Prefixes.cok : CtxOk Try.prog leapfrogref01x_Prefixes.ctx := .cons leapfrogref01x_Right.sound leapfrogref01x_Right.can <| .cons leapfrogref01x_Bits.sound leapfrogref01x_Bits.can <| .cons leapfrogref01x_Of.sound leapfrogref01x_Of.can <| .nil
theorem leapfrogref01x_Prefixes.draws : fnDraws leapfrogref01x_Prefixes.an Try.f12 = true := by kernel_rfl
theorem leapfrogref01x_Prefixes.can : callOk Try.prog 12 = true := by kernel_rfl
theorem leapfrogref01x_Prefixes.sound : FnOk Try.prog 12 (.st leapfrogref01x_Prefixes.w) := FnOk.st_of (evF_ok leapfrogref01x_Prefixes.cok mixed (f := 12) (fn := Try.f12) (by kernel_rfl) leapfrogref01x_Prefixes.draws) fun args s r h => by
  unfold leapfrogref01x_Prefixes.w at h; split at h
  · rw [leapfrogref01x_Prefixes.ok std]; exact h
  · simp at h

/-! ### leapfrog/leapfrogref01.common: function 59 -/
def leapfrogref01x_common.ctx : Ctx := []
def leapfrogref01x_common.l2 (S : Sig) (rec21 : List Value → St → Option Cut) (xs19 : List Value) (s20 : St) : Option Cut :=
  S.bd (lenL (xs19.getD 0 undef)) fun x22 => S.bd (bin .lss (xs19.getD 2 undef) x22) fun x23 => S.bd (S.gd x23 true (some (xs19.getD 2 undef))) fun x24 => S.bd (S.gd x23 true (some (xs19.getD 1 undef))) fun x25 => S.bd (S.gd x23 true (lenL x25)) fun x26 => S.bd (S.gd x23 true (bin .lss x24 x26)) fun x27 => S.bd (pik x23 x27 (Go.Value.bool Bool.false)) fun x28 => S.bd (S.gd x28 true (some (xs19.getD 0 undef))) fun x29 => S.bd (S.gd x28 true (some (xs19.getD 2 undef))) fun x30 => S.bd (S.gd x28 true (idx s20 1 x29 x30)) fun x31 => S.bd (S.gd x28 true (ldc s20 x31)) fun x32 => S.bd (S.gd x28 true (some (xs19.getD 1 undef))) fun x33 => S.bd (S.gd x28 true (some (xs19.getD 2 undef))) fun x34 => S.bd (S.gd x28 true (idx s20 1 x33 x34)) fun x35 => S.bd (S.gd x28 true (ldc s20 x35)) fun x36 => S.bd (S.gd x28 true (eqb [1] false false x32 x36)) fun x37 => S.bd (pik x28 x37 (Go.Value.bool Bool.false)) fun x38 => S.cnd x38 (S.bd (bin .add (xs19.getD 2 undef) (Go.Value.int Go.IntKind.i64 1)) fun x39 => rec21 [(xs19.getD 0 undef), (xs19.getD 1 undef), x39] s20) (some (0, [(xs19.getD 2 undef)], s20))

def leapfrogref01x_common.t (S : Sig) (a0 a1 : Value) (s : St) : Option Value :=
  S.bd (S.it (leapfrogref01x_common.l2 S) [a0, a1, (Go.Value.int Go.IntKind.i64 0)] s) fun r40 => some ((r40.2.1.getD 0 undef))
def leapfrogref01x_common.r (a0 a1 : Value) (s : St) : Option Value := leapfrogref01x_common.t std a0 a1 s
def leapfrogref01x_common.w : List Value → St → Option Value
  | [a0, a1], s => leapfrogref01x_common.r a0 a1 s
  | _, _ => none
def leapfrogref01x_common.an : An := ⟨30, true, [], [(2, ⟨[.v 0, .v 1, .v 5], [(.exit 0, [.v 5])]⟩)], [], [(2, [(0, 0, [], []), (1, 0, [], []), (2, 2, [], []), (3, 0, [], []), (4, 0, [], []), (5, 0, [], []), (6, 0, [], []), (7, 2, [], []), (8, 0, [], []), (9, 0, [], []), (10, 0, [], []), (11, 0, [], []), (12, 0, [], []), (13, 2, [], []), (14, 2, [], []), (15, 0, [], []), (16, 0, [], []), (17, 2, [], []), (18, 2, [], []), (19, 0, [], []), (20, 0, [], [])])], [], []⟩
theorem leapfrogref01x_common.ok (S : Sig) (a0 a1 : Value) (s : St) : evG S Try.prog leapfrogref01x_common.ctx leapfrogref01x_common.an Try.f59 [a0, a1] s = leapfrogref01x_common.t S a0 a1 s := by kernel_rfl
theorem leapfrogref01x_common.cok : CtxOk Try.prog leapfrogref01x_common.ctx := .nil
theorem leapfrogref01x_common.draws : fnDraws leapfrogref01x_common.an Try.f59 = true := by kernel_rfl
theorem leapfrogref01x_common.can : callOk Try.prog 59 = true := by kernel_rfl
theorem leapfrogref01x_common.sound : FnOk Try.prog 59 (.rd leapfrogref01x_common.w) := FnOk.rd_of (evG_ok leapfrogref01x_common.cok mixed (f := 59) (fn := Try.f59) (by kernel_rfl) leapfrogref01x_common.draws) fun args s r h => by
  unfold leapfrogref01x_common.w at h; split at h
  · rw [leapfrogref01x_common.ok std]; exact h
  · simp at h

/-! ### leapfrog/leapfrogref01.Begins: function 54 -/
def leapfrogref01x_Begins.ctx : Ctx := [(31, .rd leapfrogref01x_Right.w), (32, .st leapfrogref01x_Bits.w), (59, .rd leapfrogref01x_common.w)]
def leapfrogref01x_Begins.t (S : Sig) (a0 a1 : Value) (s : St) : Option (Value × St) :=
  S.bd (bx a0) fun c1 => S.bd (bx a1) fun c2 => S.bd (lal c1 0 2) fun x3 => S.bd (leapfrogref01x_Right.r x3 s) fun x4 => S.bd (S.gd x4 true (lal c2 0 2)) fun x5 => S.bd (S.gd x4 true (leapfrogref01x_Right.r x5 s)) fun x6 => S.bd (pik x4 x6 (Go.Value.bool Bool.false)) fun x7 => S.bd (S.gd x7 true (lal c1 0 2)) fun x8 => S.bd (S.gd x7 true (lal c2 0 2)) fun x9 => S.bd (S.gd x7 true (lcl c2 0)) fun x10 => S.bd (S.gdS x7 true (leapfrogref01x_Bits.v x8 s) s) fun r11 => S.bd (S.gdS x7 true (leapfrogref01x_Bits.v x9 r11.2) r11.2) fun r12 => S.bd (S.gd x7 true (leapfrogref01x_common.r r11.1 r12.1 r12.2)) fun x13 => S.bd (S.gd x7 true (eqb [1] false false x13 x10)) fun x14 => S.bd (pik x7 x14 (Go.Value.bool Bool.false)) fun x15 => some (x15, r12.2)
def leapfrogref01x_Begins.v (a0 a1 : Value) (s : St) : Option (Value × St) := leapfrogref01x_Begins.t std a0 a1 s
def leapfrogref01x_Begins.w : List Value → St → Option (Value × St)
  | [a0, a1], s => leapfrogref01x_Begins.v a0 a1 s
  | _, _ => none
def leapfrogref01x_Begins.an : An := ⟨21, false, [2, 3], [], [], [(1, [(0, 17, [], []), (1, 3, [], []), (2, 0, [], []), (3, 25, [], []), (4, 3, [], []), (5, 0, [], []), (6, 0, [], []), (7, 17, [], []), (9, 25, [], []), (12, 0, [], []), (13, 25, [], []), (8, 4, [], []), (10, 4, [], []), (11, 3, [], []), (14, 0, [], []), (15, 0, [], []), (16, 0, [], [])])], [], []⟩
theorem leapfrogref01x_Begins.ok (S : Sig) (a0 a1 : Value) (s : St) : evF S Try.prog leapfrogref01x_Begins.ctx leapfrogref01x_Begins.an Try.f54 [a0, a1] s = leapfrogref01x_Begins.t S a0 a1 s := by kernel_rfl
theorem leapfrogref01x_Begins.cok : CtxOk Try.prog leapfrogref01x_Begins.ctx := .cons leapfrogref01x_Right.sound leapfrogref01x_Right.can <| .cons leapfrogref01x_Bits.sound leapfrogref01x_Bits.can <| .cons leapfrogref01x_common.sound leapfrogref01x_common.can <| .nil
theorem leapfrogref01x_Begins.draws : fnDraws leapfrogref01x_Begins.an Try.f54 = true := by kernel_rfl
theorem leapfrogref01x_Begins.can : callOk Try.prog 54 = true := by kernel_rfl
theorem leapfrogref01x_Begins.sound : FnOk Try.prog 54 (.st leapfrogref01x_Begins.w) := FnOk.st_of (evF_ok leapfrogref01x_Begins.cok mixed (f := 54) (fn := Try.f54) (by kernel_rfl) leapfrogref01x_Begins.draws) fun args s r h => by
  unfold leapfrogref01x_Begins.w at h; split at h
  · rw [leapfrogref01x_Begins.ok std]; exact h
  · simp at h

/-! ### leapfrog/leapfrogref01.Begins: function 54, as a reading -/
def leapfrogref01x_BeginsQ.r (a0 a1 : Value) (s : St) : Option Value := frzR (fun s => leapfrogref01x_Begins.v a0 a1 s) s
def leapfrogref01x_BeginsQ.w : List Value → St → Option Value := fun args s => frzR (leapfrogref01x_Begins.w args) s
theorem leapfrogref01x_BeginsQ.can : callOk Try.prog 54 = true := leapfrogref01x_Begins.can
theorem leapfrogref01x_BeginsQ.sound : FnOk Try.prog 54 (.rd leapfrogref01x_BeginsQ.w) := FnOk.frozen leapfrogref01x_Begins.sound

/-! ### (leapfrog/leapfroglaw12.World).list: function 48 -/
def leapfroglaw12x_World_list.ctx : Ctx := [(9, .rd leapfrogref12x_Head.w), (54, .rd leapfrogref01x_BeginsQ.w), (11, .rd leapfrogref12x_Tail.w)]
def leapfroglaw12x_World_list.l3 (S : Sig) (rec24 : List Value → St → Option Cut) (xs22 : List Value) (s23 : St) : Option Cut :=
  S.bd (lcl (cellsA (xs22.getD 2 undef)) 1) fun x25 => S.bd (lenL x25) fun x26 => S.bd (bin .lss (xs22.getD 1 undef) x26) fun x27 => S.cnd x27 (S.bd (lcl (cellsA (xs22.getD 2 undef)) 1) fun x28 => S.bd (idx s23 5 x28 (xs22.getD 1 undef)) fun x29 => S.bd (fld 3 x29) fun x30 => S.bd (lda s23 2 x30) fun x31 => S.bd (lal (cellsA (xs22.getD 3 undef)) 0 2) fun x32 => S.bd (leapfrogref01x_BeginsQ.r x31 x32 s23) fun x33 => S.cnd x33 (S.bd (lcl (cellsA (xs22.getD 2 undef)) 1) fun x34 => S.bd (idx s23 5 x34 (xs22.getD 1 undef)) fun x35 => S.bd (lda s23 5 x35) fun x36 => S.bd (S.bd (bls 5 (List.replicate 1 [(Go.Value.int Go.IntKind.i64 0), (Go.Value.int Go.IntKind.i64 0), (Go.Value.int Go.IntKind.u64 0), (Go.Value.int Go.IntKind.i64 0), (Go.Value.int Go.IntKind.u64 0)]) [(0, x36)]) fun rows => als s23 5 1 rows) fun r37 => S.bd (app r37.2 5 40 (xs22.getD 0 undef) r37.1) fun r38 => S.bd (bin .add (xs22.getD 1 undef) (Go.Value.int Go.IntKind.i64 1)) fun x39 => rec24 [r38.1, x39, (Value.agg ⟨(cellsA (xs22.getD 2 undef))⟩), (Value.agg ⟨(cellsA (xs22.getD 3 undef))⟩)] r38.2) (S.bd (bin .add (xs22.getD 1 undef) (Go.Value.int Go.IntKind.i64 1)) fun x40 => rec24 [(xs22.getD 0 undef), x40, (Value.agg ⟨(cellsA (xs22.getD 2 undef))⟩), (Value.agg ⟨(cellsA (xs22.getD 3 undef))⟩)] s23)) (some (0, [(xs22.getD 0 undef), (Value.agg ⟨(cellsA (xs22.getD 2 undef))⟩)], s23))

def leapfroglaw12x_World_list.t (S : Sig) (a0 a1 : Value) (s : St) : Option (Value × St) :=
  S.bd (bx a0) fun c1 => S.bd (bx a1) fun c2 => S.bd (lcl c1 0) fun x3 => S.bd (leapfrogref12x_Head.r x3 s) fun x4 => S.bd (S.bd (bls 5 (List.replicate 1 [(Go.Value.int Go.IntKind.i64 0), (Go.Value.int Go.IntKind.i64 0), (Go.Value.int Go.IntKind.u64 0), (Go.Value.int Go.IntKind.i64 0), (Go.Value.int Go.IntKind.u64 0)]) [(0, x4)]) fun rows => als s 5 1 rows) fun r5 => S.bd (S.it (leapfroglaw12x_World_list.l3 S) [r5.1, (Go.Value.int Go.IntKind.i64 0), (Value.agg ⟨c1⟩), (Value.agg ⟨c2⟩)] r5.2) fun r41 => S.bd (lcl (cellsA (r41.2.1.getD 1 undef)) 0) fun x42 => S.bd (leapfrogref12x_Tail.r x42 r41.2.2) fun x43 => S.bd (S.bd (bls 5 (List.replicate 1 [(Go.Value.int Go.IntKind.i64 0), (Go.Value.int Go.IntKind.i64 0), (Go.Value.int Go.IntKind.u64 0), (Go.Value.int Go.IntKind.i64 0), (Go.Value.int Go.IntKind.u64 0)]) [(0, x43)]) fun rows => als r41.2.2 5 1 rows) fun r44 => S.bd (app r44.2 5 40 (r41.2.1.getD 0 undef) r44.1) fun r45 => some (r45.1, r45.2)
def leapfroglaw12x_World_list.v (a0 a1 : Value) (s : St) : Option (Value × St) := leapfroglaw12x_World_list.t std a0 a1 s
def leapfroglaw12x_World_list.w : List Value → St → Option (Value × St)
  | [a0, a1], s => leapfroglaw12x_World_list.v a0 a1 s
  | _, _ => none
def leapfroglaw12x_World_list.an : An := ⟨40, false, [2, 3], [(3, ⟨[.p 2 2 0, .p 3 3 0, .v 5, .v 6, .l 2, .l 3], [(.exit 0, [.p 2 2 0, .v 5, .l 2])]⟩)], [], [(5, [(0, 0, [], []), (1, 17, [], []), (2, 0, [], []), (3, 2, [], []), (4, 0, [], []), (5, 2, [], []), (6, 25, [], []), (7, 3, [], [])])], [], []⟩
theorem leapfroglaw12x_World_list.ok (S : Sig) (a0 a1 : Value) (s : St) : evF S Try.prog leapfroglaw12x_World_list.ctx leapfroglaw12x_World_list.an Try.f48 [a0, a1] s = leapfroglaw12x_World_list.t S a0 a1 s := by kernel_rfl
theorem leapfroglaw12x_World_list.cok : CtxOk Try.prog leapfroglaw12x_World_list.ctx := .cons leapfrogref12x_Head.sound leapfrogref12x_Head.can <| .cons leapfrogref01x_BeginsQ.sound leapfrogref01x_BeginsQ.can <| .cons leapfrogref12x_Tail.sound leapfrogref12x_Tail.can <| .nil
theorem leapfroglaw12x_World_list.draws : fnDraws leapfroglaw12x_World_list.an Try.f48 = true := by kernel_rfl
theorem leapfroglaw12x_World_list.can : callOk Try.prog 48 = true := by kernel_rfl
theorem leapfroglaw12x_World_list.sound : FnOk Try.prog 48 (.st leapfroglaw12x_World_list.w) := FnOk.st_of (evF_ok leapfroglaw12x_World_list.cok mixed (f := 48) (fn := Try.f48) (by kernel_rfl) leapfroglaw12x_World_list.draws) fun args s r h => by
  unfold leapfroglaw12x_World_list.w at h; split at h
  · rw [leapfroglaw12x_World_list.ok std]; exact h
  · simp at h

/-! ### (leapfrog/leapfroglaw12.World).gone: function 49 -/
def leapfroglaw12x_World_gone.ctx : Ctx := []
def leapfroglaw12x_World_gone.t (S : Sig) (a0 a1 : Value) (s : St) : Option Value :=
  S.bd (bx a0) fun c1 => S.bd (bin .geq a1 (Go.Value.int Go.IntKind.i64 2)) fun x2 => S.bd (S.gd x2 true (some a1)) fun x3 => S.bd (S.gd x2 true (lcl c1 2)) fun x4 => S.bd (S.gd x2 true (lenL x4)) fun x5 => S.bd (S.gd x2 true (bin .add x5 (Go.Value.int Go.IntKind.i64 2))) fun x6 => S.bd (S.gd x2 true (bin .lss x3 x6)) fun x7 => S.bd (pik x2 x7 (Go.Value.bool Bool.false)) fun x8 => S.bd (S.gd x8 true (lcl c1 2)) fun x9 => S.bd (S.gd x8 true (some a1)) fun x10 => S.bd (S.gd x8 true (bin .sub x10 (Go.Value.int Go.IntKind.i64 2))) fun x11 => S.bd (S.gd x8 true (idx s 1 x9 x11)) fun x12 => S.bd (S.gd x8 true (ldc s x12)) fun x13 => S.bd (pik x8 x13 (Go.Value.bool Bool.false)) fun x14 => some (x14)
def leapfroglaw12x_World_gone.r (a0 a1 : Value) (s : St) : Option Value := leapfroglaw12x_World_gone.t std a0 a1 s
def leapfroglaw12x_World_gone.w : List Value → St → Option Value
  | [a0, a1], s => leapfroglaw12x_World_gone.r a0 a1 s
  | _, _ => none
def leapfroglaw12x_World_gone.an : An := ⟨23, true, [2], [], [], [], [], []⟩
theorem leapfroglaw12x_World_gone.ok (S : Sig) (a0 a1 : Value) (s : St) : evG S Try.prog leapfroglaw12x_World_gone.ctx leapfroglaw12x_World_gone.an Try.f49 [a0, a1] s = leapfroglaw12x_World_gone.t S a0 a1 s := by kernel_rfl
theorem leapfroglaw12x_World_gone.cok : CtxOk Try.prog leapfroglaw12x_World_gone.ctx := .nil
theorem leapfroglaw12x_World_gone.draws : fnDraws leapfroglaw12x_World_gone.an Try.f49 = true := by kernel_rfl
theorem leapfroglaw12x_World_gone.can : callOk Try.prog 49 = true := by kernel_rfl
theorem leapfroglaw12x_World_gone.sound : FnOk Try.prog 49 (.rd leapfroglaw12x_World_gone.w) := FnOk.rd_of (evG_ok leapfroglaw12x_World_gone.cok mixed (f := 49) (fn := Try.f49) (by kernel_rfl) leapfroglaw12x_World_gone.draws) fun args s r h => by
  unfold leapfroglaw12x_World_gone.w at h; split at h
  · rw [leapfroglaw12x_World_gone.ok std]; exact h
  · simp at h

/-! ### (leapfrog/leapfroglaw12.World).Answer: function 37 -/
def leapfroglaw12x_World_Answer.ctx : Ctx := [(48, .st leapfroglaw12x_World_list.w), (49, .rd leapfroglaw12x_World_gone.w)]
def leapfroglaw12x_World_Answer.l3.p1 (S : Sig) (xs50 : List Value) (s51 : St) : Option Cut :=
  S.bd (bld [(Go.Value.int Go.IntKind.i64 0), (Go.Value.bool Bool.false), (Go.Value.int Go.IntKind.i64 0), (Go.Value.int Go.IntKind.i64 0), (Go.Value.int Go.IntKind.u64 0), (Go.Value.int Go.IntKind.i64 0), (Go.Value.int Go.IntKind.u64 0), (Go.Value.int Go.IntKind.i64 0), (Go.Value.int Go.IntKind.i64 0), (Go.Value.int Go.IntKind.u64 0), (Go.Value.int Go.IntKind.i64 0), (Go.Value.int Go.IntKind.u64 0), (Go.Value.slice Option.none 0 0)] [(0, 1, (Go.Value.int Go.IntKind.i64 1))]) fun x61 => S.bd (bx (Go.Value.agg #[(Go.Value.int Go.IntKind.i64 0), (Go.Value.bool Bool.false), (Go.Value.int Go.IntKind.i64 0), (Go.Value.int Go.IntKind.i64 0), (Go.Value.int Go.IntKind.u64 0), (Go.Value.int Go.IntKind.i64 0), (Go.Value.int Go.IntKind.u64 0), (Go.Value.int Go.IntKind.i64 0), (Go.Value.int Go.IntKind.i64 0), (Go.Value.int Go.IntKind.u64 0), (Go.Value.int Go.IntKind.i64 0), (Go.Value.int Go.IntKind.u64 0), (Go.Value.slice Option.none 0 0)])) fun c62 => S.bd (stl c62 0 13 x61) fun c63 => S.bd (show Option Cut from S.bd (lal (cellsA (xs50.getD 2 undef)) 0 3) fun x64 => S.bd (lcl (cellsA (xs50.getD 3 undef)) 0) fun x65 => S.bd (leapfroglaw12x_World_gone.r x64 x65 s51) fun x66 => S.cnd x66 (S.bd (stl c63 0 1 (Go.Value.int Go.IntKind.i64 3)) fun c67 => some (0, [(xs50.getD 0 undef), (xs50.getD 1 undef), (Value.agg ⟨(cellsA (xs50.getD 4 undef))⟩), (Value.agg ⟨c67⟩)], s51)) (some (0, [(xs50.getD 0 undef), (xs50.getD 1 undef), (Value.agg ⟨(cellsA (xs50.getD 4 undef))⟩), (Value.agg ⟨c63⟩)], s51))) fun r68 => S.bd (show Option Cut from S.bd (bin .gtr (r68.2.1.getD 1 undef) (Go.Value.int Go.IntKind.i64 0)) fun x69 => S.cnd x69 (S.bd (bin .sub (r68.2.1.getD 1 undef) (Go.Value.int Go.IntKind.i64 1)) fun x70 => S.bd (idx r68.2.2 5 (r68.2.1.getD 0 undef) x70) fun x71 => S.bd (lda r68.2.2 5 x71) fun x72 => S.bd (stl (cellsA (r68.2.1.getD 3 undef)) 2 5 x72) fun c73 => some (0, [(r68.2.1.getD 0 undef), (r68.2.1.getD 1 undef), (Value.agg ⟨(cellsA (r68.2.1.getD 2 undef))⟩), (Value.agg ⟨c73⟩)], r68.2.2)) (some (0, [(r68.2.1.getD 0 undef), (r68.2.1.getD 1 undef), (Value.agg ⟨(cellsA (r68.2.1.getD 2 undef))⟩), (Value.agg ⟨(cellsA (r68.2.1.getD 3 undef))⟩)], r68.2.2))) fun r74 => S.bd (bin .add (r74.2.1.getD 1 undef) (Go.Value.int Go.IntKind.i64 1)) fun x75 => S.bd (lenL (r74.2.1.getD 0 undef)) fun x76 => S.bd (bin .lss x75 x76) fun x77 => S.cnd x77 (S.bd (bin .add (r74.2.1.getD 1 undef) (Go.Value.int Go.IntKind.i64 1)) fun x78 => S.bd (idx r74.2.2 5 (r74.2.1.getD 0 undef) x78) fun x79 => S.bd (lda r74.2.2 5 x79) fun x80 => S.bd (stl (cellsA (r74.2.1.getD 3 undef)) 7 5 x80) fun c81 => S.bd (lal c81 0 13) fun x82 => S.bd (stl (cellsA (r74.2.1.getD 2 undef)) 0 13 x82) fun c83 => some (1, [(Value.agg ⟨c83⟩)], r74.2.2)) (S.bd (lal (cellsA (r74.2.1.getD 3 undef)) 0 13) fun x84 => S.bd (stl (cellsA (r74.2.1.getD 2 undef)) 0 13 x84) fun c85 => some (1, [(Value.agg ⟨c85⟩)], r74.2.2))

def leapfroglaw12x_World_Answer.l3 (S : Sig) (rec52 : List Value → St → Option Cut) (xs50 : List Value) (s51 : St) : Option Cut :=
  S.bd (lenL (xs50.getD 0 undef)) fun x53 => S.bd (bin .lss (xs50.getD 1 undef) x53) fun x54 => S.cnd x54 (S.bd (idx s51 5 (xs50.getD 0 undef) (xs50.getD 1 undef)) fun x55 => S.bd (fld 0 x55) fun x56 => S.bd (ldc s51 x56) fun x57 => S.bd (lcl (cellsA (xs50.getD 3 undef)) 0) fun x58 => S.bd (eqb [1] false true x57 x58) fun x59 => S.cnd x59 (S.bd (bin .add (xs50.getD 1 undef) (Go.Value.int Go.IntKind.i64 1)) fun x60 => rec52 [(xs50.getD 0 undef), x60, (Value.agg ⟨(cellsA (xs50.getD 2 undef))⟩), (Value.agg ⟨(cellsA (xs50.getD 3 undef))⟩), (Value.agg ⟨(cellsA (xs50.getD 4 undef))⟩)] s51) (leapfroglaw12x_World_Answer.l3.p1 S xs50 s51)) (some (0, [(Value.agg ⟨(cellsA (xs50.getD 4 undef))⟩)], s51))

def leapfroglaw12x_World_Answer.t (S : Sig) (a0 a1 a2 : Value) (s : St) : Option (Value × St) :=
  S.bd (bx a0) fun c1 => S.bd (bx a1) fun c2 => S.bd (bx a2) fun c3 => S.bd (bx (Go.Value.agg #[(Go.Value.int Go.IntKind.i64 0), (Go.Value.bool Bool.false), (Go.Value.int Go.IntKind.i64 0), (Go.Value.int Go.IntKind.i64 0), (Go.Value.int Go.IntKind.u64 0), (Go.Value.int Go.IntKind.i64 0), (Go.Value.int Go.IntKind.u64 0), (Go.Value.int Go.IntKind.i64 0), (Go.Value.int Go.IntKind.i64 0), (Go.Value.int Go.IntKind.u64 0), (Go.Value.int Go.IntKind.i64 0), (Go.Value.int Go.IntKind.u64 0), (Go.Value.slice Option.none 0 0)])) fun c4 => S.bd (lal c1 0 3) fun x5 => S.bd (lal c3 0 2) fun x6 => S.bd (leapfroglaw12x_World_list.v x5 x6 s) fun r7 => S.bd (S.it (leapfroglaw12x_World_Answer.l3 S) [r7.1, (Go.Value.int Go.IntKind.i64 0), (Value.agg ⟨c1⟩), (Value.agg ⟨c2⟩), (Value.agg ⟨c4⟩)] r7.2) fun r86 => if r86.1 = 0 then (S.bd (bld [(Go.Value.int Go.IntKind.i64 0), (Go.Value.bool Bool.false), (Go.Value.int Go.IntKind.i64 0), (Go.Value.int Go.IntKind.i64 0), (Go.Value.int Go.IntKind.u64 0), (Go.Value.int Go.IntKind.i64 0), (Go.Value.int Go.IntKind.u64 0), (Go.Value.int Go.IntKind.i64 0), (Go.Value.int Go.IntKind.i64 0), (Go.Value.int Go.IntKind.u64 0), (Go.Value.int Go.IntKind.i64 0), (Go.Value.int Go.IntKind.u64 0), (Go.Value.slice Option.none 0 0)] [(0, 1, (Go.Value.int Go.IntKind.i64 2))]) fun x88 => S.bd (stl (cellsA (r86.2.1.getD 0 undef)) 0 13 x88) fun c89 => S.bd (lal c89 0 13) fun x90 => some (x90, r86.2.2)) else (S.bd (lal (cellsA (r86.2.1.getD 0 undef)) 0 13) fun x87 => some (x87, r86.2.2))
def leapfroglaw12x_World_Answer.v (a0 a1 a2 : Value) (s : St) : Option (Value × St) := leapfroglaw12x_World_Answer.t std a0 a1 a2 s
def leapfroglaw12x_World_Answer.w : List Value → St → Option (Value × St)
  | [a0, a1, a2], s => leapfroglaw12x_World_Answer.v a0 a1 a2 s
  | _, _ => none
def leapfroglaw12x_World_Answer.an : An := ⟨54, false, [3, 4, 5, 6, 9], [(3, ⟨[.p 3 3 0, .p 4 4 0, .p 6 6 0, .v 7, .v 8, .l 3, .l 4, .l 6], [(.exit 0, [.p 6 6 0, .l 6]), (.ret, [.p 6 6 0, .l 6])]⟩)], [(9, ⟨[], [(.normal, [.p 6 6 0, .v 7, .v 8, .p 9 9 0, .l 6, .l 9])]⟩), (11, ⟨[], [(.normal, [.p 6 6 0, .v 7, .v 8, .p 9 9 0, .l 6, .l 9])]⟩)], [(5, [(0, 0, [], []), (1, 0, [], []), (2, 2, [], []), (3, 0, [], []), (4, 2, [], []), (5, 0, [], []), (6, 33, [], []), (7, 0, [], [])])], [], []⟩
theorem leapfroglaw12x_World_Answer.ok (S : Sig) (a0 a1 a2 : Value) (s : St) : evF S Try.prog leapfroglaw12x_World_Answer.ctx leapfroglaw12x_World_Answer.an Try.f37 [a0, a1, a2] s = leapfroglaw12x_World_Answer.t S a0 a1 a2 s := by kernel_rfl
theorem leapfroglaw12x_World_Answer.cok : CtxOk Try.prog leapfroglaw12x_World_Answer.ctx := .cons leapfroglaw12x_World_list.sound leapfroglaw12x_World_list.can <| .cons leapfroglaw12x_World_gone.sound leapfroglaw12x_World_gone.can <| .nil
theorem leapfroglaw12x_World_Answer.draws : fnDraws leapfroglaw12x_World_Answer.an Try.f37 = true := by kernel_rfl
theorem leapfroglaw12x_World_Answer.can : callOk Try.prog 37 = true := by kernel_rfl
theorem leapfroglaw12x_World_Answer.sound : FnOk Try.prog 37 (.st leapfroglaw12x_World_Answer.w) := FnOk.st_of (evF_ok leapfroglaw12x_World_Answer.cok mixed (f := 37) (fn := Try.f37) (by kernel_rfl) leapfroglaw12x_World_Answer.draws) fun args s r h => by
  unfold leapfroglaw12x_World_Answer.w at h; split at h
  · rw [leapfroglaw12x_World_Answer.ok std]; exact h
  · simp at h

/-! ### leapfrog/leapfroglaw19.answer: function 15 -/
def leapfroglaw19x_answer.ctx : Ctx := [(37, .st leapfroglaw12x_World_Answer.w), (9, .rd leapfrogref12x_Head.w)]
def leapfroglaw19x_answer.t (S : Sig) (a0 a1 a2 : Value) (s : St) : Option (Value × St) :=
  S.bd (bx a0) fun c1 => S.bd (bx a2) fun c2 => S.bd (bx (Go.Value.agg #[(Go.Value.int Go.IntKind.i64 0), (Go.Value.bool Bool.false), (Go.Value.int Go.IntKind.i64 0), (Go.Value.int Go.IntKind.i64 0), (Go.Value.int Go.IntKind.u64 0), (Go.Value.int Go.IntKind.i64 0), (Go.Value.int Go.IntKind.u64 0), (Go.Value.int Go.IntKind.i64 0), (Go.Value.int Go.IntKind.i64 0), (Go.Value.int Go.IntKind.u64 0), (Go.Value.int Go.IntKind.i64 0), (Go.Value.int Go.IntKind.u64 0), (Go.Value.slice Option.none 0 0)])) fun c3 => S.bd (lal c1 0 3) fun x4 => S.bd (lal c2 1 5) fun x5 => S.bd (lal c2 7 2) fun x6 => S.bd (leapfroglaw12x_World_Answer.v x4 x5 x6 s) fun r7 => S.bd (bx (Go.Value.agg #[(Go.Value.int Go.IntKind.i64 0), (Go.Value.bool Bool.false), (Go.Value.int Go.IntKind.i64 0), (Go.Value.int Go.IntKind.i64 0), (Go.Value.int Go.IntKind.u64 0), (Go.Value.int Go.IntKind.i64 0), (Go.Value.int Go.IntKind.u64 0), (Go.Value.int Go.IntKind.i64 0), (Go.Value.int Go.IntKind.i64 0), (Go.Value.int Go.IntKind.u64 0), (Go.Value.int Go.IntKind.i64 0), (Go.Value.int Go.IntKind.u64 0), (Go.Value.slice Option.none 0 0)])) fun c8 => S.bd (stl c8 0 13 r7.1) fun c9 => S.bd (lcl c2 1) fun x10 => S.bd (bin .geq x10 (Go.Value.int Go.IntKind.i64 0)) fun x11 => S.bd (S.gd x11 true (some x10)) fun x12 => S.bd (S.gd x11 true (some a1)) fun x13 => S.bd (S.gd x11 true (lenL x13)) fun x14 => S.bd (S.gd x11 true (bin .lss x12 x14)) fun x15 => S.bd (pik x11 x15 (Go.Value.bool Bool.false)) fun x16 => S.bd (S.gd x16 true (some a1)) fun x17 => S.bd (S.gd x16 true (some x10)) fun x18 => S.bd (S.gd x16 true (idx r7.2 1 x17 x18)) fun x19 => S.bd (S.gd x16 true (ldc r7.2 x19)) fun x20 => S.bd (pik x16 x20 (Go.Value.bool Bool.false)) fun x21 => S.bd (S.gd x21 true (lcl c9 0)) fun x22 => S.bd (S.gd x21 true (eqb [1] false false x22 (Go.Value.int Go.IntKind.i64 1))) fun x23 => S.bd (pik x21 x23 (Go.Value.bool Bool.false)) fun x24 => S.cnd x24 (S.bd (lcl c1 0) fun x25 => S.bd (leapfrogref12x_Head.r x25 r7.2) fun x26 => S.bd (stl c9 2 5 x26) fun c27 => S.bd (lal c27 0 13) fun x28 => S.bd (stl c3 0 13 x28) fun c29 => S.bd (lal c29 0 13) fun x30 => some (x30, r7.2)) (S.bd (lal c9 0 13) fun x31 => S.bd (stl c3 0 13 x31) fun c32 => S.bd (lal c32 0 13) fun x33 => some (x33, r7.2))
def leapfroglaw19x_answer.v (a0 a1 a2 : Value) (s : St) : Option (Value × St) := leapfroglaw19x_answer.t std a0 a1 a2 s
def leapfroglaw19x_answer.w : List Value → St → Option (Value × St)
  | [a0, a1, a2], s => leapfroglaw19x_answer.v a0 a1 a2 s
  | _, _ => none
def leapfroglaw19x_answer.an : An := ⟨43, false, [3, 5, 6, 7], [], [], [], [], []⟩
theorem leapfroglaw19x_answer.ok (S : Sig) (a0 a1 a2 : Value) (s : St) : evF S Try.prog leapfroglaw19x_answer.ctx leapfroglaw19x_answer.an Try.f15 [a0, a1, a2] s = leapfroglaw19x_answer.t S a0 a1 a2 s := by kernel_rfl
theorem leapfroglaw19x_answer.cok : CtxOk Try.prog leapfroglaw19x_answer.ctx := .cons leapfroglaw12x_World_Answer.sound leapfroglaw12x_World_Answer.can <| .cons leapfrogref12x_Head.sound leapfrogref12x_Head.can <| .nil
theorem leapfroglaw19x_answer.draws : fnDraws leapfroglaw19x_answer.an Try.f15 = true := by kernel_rfl
theorem leapfroglaw19x_answer.can : callOk Try.prog 15 = true := by kernel_rfl
theorem leapfroglaw19x_answer.sound : FnOk Try.prog 15 (.st leapfroglaw19x_answer.w) := FnOk.st_of (evF_ok leapfroglaw19x_answer.cok mixed (f := 15) (fn := Try.f15) (by kernel_rfl) leapfroglaw19x_answer.draws) fun args s r h => by
  unfold leapfroglaw19x_answer.w at h; split at h
  · rw [leapfroglaw19x_answer.ok std]; exact h
  · simp at h

/-! ### leapfrog/leapfrogref19.Same: function 17 -/
def leapfrogref19x_Same.ctx : Ctx := []
def leapfrogref19x_Same.l4 (S : Sig) (rec14 : List Value → St → Option Cut) (xs12 : List Value) (s13 : St) : Option Cut :=
  S.bd (lenL (xs12.getD 0 undef)) fun x15 => S.bd (bin .lss (xs12.getD 2 undef) x15) fun x16 => S.cnd x16 (S.bd (idx s13 8 (xs12.getD 0 undef) (xs12.getD 2 undef)) fun x17 => S.bd (lda s13 8 x17) fun x18 => S.bd (idx s13 8 (xs12.getD 1 undef) (xs12.getD 2 undef)) fun x19 => S.bd (lda s13 8 x19) fun x20 => S.bd (eqb [1, 1, 1, 1, 1, 1, 1, 1] true true x18 x20) fun x21 => S.cnd x21 (some (1, [(Go.Value.bool Bool.false)], s13)) (S.bd (bin .add (xs12.getD 2 undef) (Go.Value.int Go.IntKind.i64 1)) fun x22 => rec14 [(xs12.getD 0 undef), (xs12.getD 1 undef), x22] s13)) (some (0, [], s13))

def leapfrogref19x_Same.t (S : Sig) (a0 a1 : Value) (s : St) : Option Value :=
  S.bd (lenL a0) fun x1 => S.bd (lenL a1) fun x2 => S.bd (eqb [1] false true x1 x2) fun x3 => S.cnd x3 (some ((Go.Value.bool Bool.false))) (S.bd (S.it (leapfrogref19x_Same.l4 S) [a0, a1, (Go.Value.int Go.IntKind.i64 0)] s) fun r23 => if r23.1 = 0 then (some ((Go.Value.bool Bool.true))) else (some ((r23.2.1.getD 0 undef))))
def leapfrogref19x_Same.r (a0 a1 : Value) (s : St) : Option Value := leapfrogref19x_Same.t std a0 a1 s
def leapfrogref19x_Same.w : List Value → St → Option Value
  | [a0, a1], s => leapfrogref19x_Same.r a0 a1 s
  | _, _ => none
def leapfrogref19x_Same.an : An := ⟨26, true, [], [(4, ⟨[.v 0, .v 1, .v 5], [(.exit 0, []), (.ret, [.v 4])]⟩)], [], [(6, [(0, 0, [], []), (1, 0, [], []), (2, 2, [], []), (3, 2, [], []), (4, 0, [], []), (5, 0, [], []), (6, 2, [], []), (7, 2, [], []), (8, 0, [], [])])], [], []⟩
theorem leapfrogref19x_Same.ok (S : Sig) (a0 a1 : Value) (s : St) : evG S Try.prog leapfrogref19x_Same.ctx leapfrogref19x_Same.an Try.f17 [a0, a1] s = leapfrogref19x_Same.t S a0 a1 s := by kernel_rfl
theorem leapfrogref19x_Same.cok : CtxOk Try.prog leapfrogref19x_Same.ctx := .nil
theorem leapfrogref19x_Same.draws : fnDraws leapfrogref19x_Same.an Try.f17 = true := by kernel_rfl
theorem leapfrogref19x_Same.can : callOk Try.prog 17 = true := by kernel_rfl
theorem leapfrogref19x_Same.sound : FnOk Try.prog 17 (.rd leapfrogref19x_Same.w) := FnOk.rd_of (evG_ok leapfrogref19x_Same.cok mixed (f := 17) (fn := Try.f17) (by kernel_rfl) leapfrogref19x_Same.draws) fun args s r h => by
  unfold leapfrogref19x_Same.w at h; split at h
  · rw [leapfrogref19x_Same.ok std]; exact h
  · simp at h

/-! ### leapfrog/leapfroglaw19.ProbeFinds: function 4 -/
def leapfroglaw19x_ProbeFinds.ctx : Ctx := [(7, .rd leapfroglaw19x_awakeC.w), (10, .st leapfroglaw12x_Make.w), (9, .rd leapfrogref12x_Head.w), (11, .rd leapfrogref12x_Tail.w), (12, .st leapfrogref01x_Prefixes.w), (8, .st probe_New.w), (13, .rd probe_Probe_Next.w), (15, .st leapfroglaw19x_answer.w), (14, .st probe_Probe_Tell.w), (16, .rd leapfrogref02x_Less.w), (18, .st probe_Probe_Breaks.w), (17, .rd leapfrogref19x_Same.w)]
def leapfroglaw19x_ProbeFinds.l11.p1 (S : Sig) (xs58 : List Value) (s59 : St) (rec60 : List Value → St → Option Cut) : Option Cut :=
  S.bd (probe_Probe_Next.r (xs58.getD 2 undef) s59) fun x71 => S.bd (bx (Go.Value.agg #[(Go.Value.int Go.IntKind.i64 0), (Go.Value.int Go.IntKind.i64 0), (Go.Value.int Go.IntKind.i64 0), (Go.Value.int Go.IntKind.u64 0), (Go.Value.int Go.IntKind.i64 0), (Go.Value.int Go.IntKind.u64 0), (Go.Value.int Go.IntKind.i64 0), (Go.Value.int Go.IntKind.i64 0), (Go.Value.int Go.IntKind.u64 0), (Go.Value.int Go.IntKind.i64 0), (Go.Value.int Go.IntKind.i64 0), (Go.Value.int Go.IntKind.u64 0), (Go.Value.int Go.IntKind.i64 0), (Go.Value.int Go.IntKind.u64 0), (Go.Value.int Go.IntKind.i64 0), (Go.Value.int Go.IntKind.i64 0), (Go.Value.int Go.IntKind.u64 0), (Go.Value.int Go.IntKind.i64 0), (Go.Value.int Go.IntKind.u64 0), (Go.Value.int Go.IntKind.i64 0), (Go.Value.int Go.IntKind.i64 0), (Go.Value.int Go.IntKind.i64 0), (Go.Value.int Go.IntKind.u64 0), (Go.Value.slice Option.none 0 0), (Go.Value.slice Option.none 0 0), (Go.Value.int Go.IntKind.i64 0), (Go.Value.int Go.IntKind.i64 0), (Go.Value.int Go.IntKind.u64 0), (Go.Value.int Go.IntKind.i64 0), (Go.Value.int Go.IntKind.u64 0), (Go.Value.int Go.IntKind.i64 0), (Go.Value.int Go.IntKind.i64 0), (Go.Value.int Go.IntKind.u64 0), (Go.Value.int Go.IntKind.i64 0), (Go.Value.int Go.IntKind.u64 0), (Go.Value.bool Bool.false)])) fun c72 => S.bd (stl c72 0 36 x71) fun c73 => S.bd (lcl c73 6) fun x74 => S.bd (eqb [1] false true x74 (Go.Value.int Go.IntKind.i64 1)) fun x75 => S.cnd x75 (some (1, [(Go.Value.bool Bool.false)], s59)) (S.bd (lal (cellsA (xs58.getD 4 undef)) 0 3) fun x76 => S.bd (lal c73 0 36) fun x77 => S.bd (leapfroglaw19x_answer.v x76 (xs58.getD 0 undef) x77 s59) fun r78 => S.bd (probe_Probe_Tell.v (xs58.getD 2 undef) r78.1 r78.2) fun r79 => S.bd (bin .add (xs58.getD 3 undef) (Go.Value.int Go.IntKind.i64 1)) fun x80 => rec60 [(xs58.getD 0 undef), (xs58.getD 1 undef), (xs58.getD 2 undef), x80, (Value.agg ⟨(cellsA (xs58.getD 4 undef))⟩), (Value.agg ⟨(cellsA (xs58.getD 5 undef))⟩)] r79.2)

def leapfroglaw19x_ProbeFinds.l11 (S : Sig) (rec60 : List Value → St → Option Cut) (xs58 : List Value) (s59 : St) : Option Cut :=
  S.bd (fld 5 (xs58.getD 1 undef)) fun x61 => S.bd (ldc s59 x61) fun x62 => S.bd (lenL x62) fun x63 => S.bd (bin .mul (Go.Value.int Go.IntKind.i64 2) x63) fun x64 => S.bd (bin .leq (xs58.getD 3 undef) x64) fun x65 => S.bd (S.gd x65 true (some (xs58.getD 2 undef))) fun x66 => S.bd (S.gd x65 true (probe_Probe_Next.r x66 s59)) fun x67 => S.bd (S.gd x65 true (prt 0 1 false x67)) fun x68 => S.bd (S.gd x65 true (eqb [1] false false x68 (Go.Value.int Go.IntKind.i64 1))) fun x69 => S.bd (pik x65 x69 (Go.Value.bool Bool.false)) fun x70 => S.cnd x70 (leapfroglaw19x_ProbeFinds.l11.p1 S xs58 s59 rec60) (some (0, [(xs58.getD 0 undef), (xs58.getD 1 undef), (xs58.getD 2 undef), (xs58.getD 3 undef), (Value.agg ⟨(cellsA (xs58.getD 4 undef))⟩), (Value.agg ⟨(cellsA (xs58.getD 5 undef))⟩)], s59))

def leapfroglaw19x_ProbeFinds.l21.p1 (S : Sig) (r223 : Value × St) (s224 : St) (xs177 : List Value) (r196 : Value × St) (rec179 : List Value → St → Option Cut) : Option Cut :=
  S.bd (fld 0 r223.1) fun x242 => S.bd (ldc s224 x242) fun x243 => S.bd (eqb [1] false false x243 (Go.Value.int Go.IntKind.i64 1)) fun x244 => S.bd (S.gd x244 true (fld 2 r223.1)) fun x245 => S.bd (S.gd x244 true (lda s224 5 x245)) fun x246 => S.bd (S.gd x244 true (lal (cellsA (xs177.getD 6 undef)) 0 5)) fun x247 => S.bd (S.gd x244 true (eqb [1, 1, 1, 1, 1] true true x246 x247)) fun x248 => S.bd (pik x244 x248 (Go.Value.bool Bool.false)) fun x249 => S.cnd x249 (S.bd (fld 5 (xs177.getD 1 undef)) fun x250 => S.bd (ldc s224 x250) fun x251 => S.bd (idx s224 2 x251 (xs177.getD 4 undef)) fun x252 => S.bd (lda s224 2 x252) fun x253 => S.bd (fld 7 r196.1) fun x254 => S.bd (lda s224 5 x254) fun x255 => S.bd (bld [(Go.Value.int Go.IntKind.i64 0), (Go.Value.int Go.IntKind.u64 0), (Go.Value.int Go.IntKind.i64 0), (Go.Value.int Go.IntKind.i64 0), (Go.Value.int Go.IntKind.i64 0), (Go.Value.int Go.IntKind.u64 0), (Go.Value.int Go.IntKind.i64 0), (Go.Value.int Go.IntKind.u64 0)] [(0, 2, x253), (2, 1, (Go.Value.int Go.IntKind.i64 2)), (3, 5, x255)]) fun x256 => S.bd (S.bd (bls 8 (List.replicate 1 [(Go.Value.int Go.IntKind.i64 0), (Go.Value.int Go.IntKind.u64 0), (Go.Value.int Go.IntKind.i64 0), (Go.Value.int Go.IntKind.i64 0), (Go.Value.int Go.IntKind.i64 0), (Go.Value.int Go.IntKind.u64 0), (Go.Value.int Go.IntKind.i64 0), (Go.Value.int Go.IntKind.u64 0)]) [(0, x256)]) fun rows => als s224 8 1 rows) fun r257 => S.bd (app r257.2 8 64 (xs177.getD 3 undef) r257.1) fun r258 => S.bd (ldc r258.2 x250) fun x259 => S.cnd (Value.bool (sameV x259 x251)) (S.bd (idx r258.2 2 x251 (xs177.getD 4 undef)) fun x260 => S.cnd (Value.bool (sameV x260 x252)) (S.bd (lda r258.2 2 x252) fun x261 => S.cnd (Value.bool (sameV x261 x253)) (S.bd (lda r258.2 5 x254) fun x262 => S.cnd (Value.bool (sameV x262 x255)) (S.bd (bin .add (xs177.getD 4 undef) (Go.Value.int Go.IntKind.i64 1)) fun x263 => rec179 [(xs177.getD 0 undef), (xs177.getD 1 undef), (xs177.getD 2 undef), r258.1, x263, (Value.agg ⟨(cellsA (xs177.getD 5 undef))⟩), (Value.agg ⟨(cellsA (xs177.getD 6 undef))⟩)] r258.2) (none)) (none)) (none)) (none)) (S.bd (bin .add (xs177.getD 4 undef) (Go.Value.int Go.IntKind.i64 1)) fun x264 => rec179 [(xs177.getD 0 undef), (xs177.getD 1 undef), (xs177.getD 2 undef), (xs177.getD 3 undef), x264, (Value.agg ⟨(cellsA (xs177.getD 5 undef))⟩), (Value.agg ⟨(cellsA (xs177.getD 6 undef))⟩)] s224)

def leapfroglaw19x_ProbeFinds.l21.p2 (S : Sig) (r218 : Value × St) (xs177 : List Value) (r196 : Value × St) (rec179 : List Value → St → Option Cut) : Option Cut :=
  S.bd (alv r218.2 (Go.Value.agg #[(Go.Value.int Go.IntKind.i64 0), (Go.Value.bool Bool.false), (Go.Value.int Go.IntKind.i64 0), (Go.Value.int Go.IntKind.i64 0), (Go.Value.int Go.IntKind.u64 0), (Go.Value.int Go.IntKind.i64 0), (Go.Value.int Go.IntKind.u64 0), (Go.Value.int Go.IntKind.i64 0), (Go.Value.int Go.IntKind.i64 0), (Go.Value.int Go.IntKind.u64 0), (Go.Value.int Go.IntKind.i64 0), (Go.Value.int Go.IntKind.u64 0), (Go.Value.slice Option.none 0 0)])) fun r223 => S.bd (stv r223.2 13 r223.1 r218.1) fun s224 => S.bd (fld 0 r223.1) fun x225 => S.bd (ldc s224 x225) fun x226 => S.bd (eqb [1] false false x226 (Go.Value.int Go.IntKind.i64 3)) fun x227 => S.cnd x227 (S.bd (fld 5 (xs177.getD 1 undef)) fun x228 => S.bd (ldc s224 x228) fun x229 => S.bd (idx s224 2 x229 (xs177.getD 4 undef)) fun x230 => S.bd (lda s224 2 x230) fun x231 => S.bd (fld 7 r196.1) fun x232 => S.bd (lda s224 5 x232) fun x233 => S.bd (bld [(Go.Value.int Go.IntKind.i64 0), (Go.Value.int Go.IntKind.u64 0), (Go.Value.int Go.IntKind.i64 0), (Go.Value.int Go.IntKind.i64 0), (Go.Value.int Go.IntKind.i64 0), (Go.Value.int Go.IntKind.u64 0), (Go.Value.int Go.IntKind.i64 0), (Go.Value.int Go.IntKind.u64 0)] [(0, 2, x231), (2, 1, (Go.Value.int Go.IntKind.i64 1)), (3, 5, x233)]) fun x234 => S.bd (S.bd (bls 8 (List.replicate 1 [(Go.Value.int Go.IntKind.i64 0), (Go.Value.int Go.IntKind.u64 0), (Go.Value.int Go.IntKind.i64 0), (Go.Value.int Go.IntKind.i64 0), (Go.Value.int Go.IntKind.i64 0), (Go.Value.int Go.IntKind.u64 0), (Go.Value.int Go.IntKind.i64 0), (Go.Value.int Go.IntKind.u64 0)]) [(0, x234)]) fun rows => als s224 8 1 rows) fun r235 => S.bd (app r235.2 8 64 (xs177.getD 3 undef) r235.1) fun r236 => S.bd (ldc r236.2 x228) fun x237 => S.cnd (Value.bool (sameV x237 x229)) (S.bd (idx r236.2 2 x229 (xs177.getD 4 undef)) fun x238 => S.cnd (Value.bool (sameV x238 x230)) (S.bd (lda r236.2 2 x230) fun x239 => S.cnd (Value.bool (sameV x239 x231)) (S.bd (lda r236.2 5 x232) fun x240 => S.cnd (Value.bool (sameV x240 x233)) (S.bd (bin .add (xs177.getD 4 undef) (Go.Value.int Go.IntKind.i64 1)) fun x241 => rec179 [(xs177.getD 0 undef), (xs177.getD 1 undef), (xs177.getD 2 undef), r236.1, x241, (Value.agg ⟨(cellsA (xs177.getD 5 undef))⟩), (Value.agg ⟨(cellsA (xs177.getD 6 undef))⟩)] r236.2) (none)) (none)) (none)) (none)) (leapfroglaw19x_ProbeFinds.l21.p1 S r223 s224 xs177 r196 rec179)

def leapfroglaw19x_ProbeFinds.l21.p3 (S : Sig) (xs177 : List Value) (r196 : Value × St) (s197 : St) (rec179 : List Value → St → Option Cut) : Option Cut :=
  S.bd (lal (cellsA (xs177.getD 5 undef)) 0 3) fun x209 => S.bd (fld 7 r196.1) fun x210 => S.bd (lda s197 5 x210) fun x211 => S.bd (fld 5 (xs177.getD 1 undef)) fun x212 => S.bd (ldc s197 x212) fun x213 => S.bd (idx s197 2 x213 (xs177.getD 4 undef)) fun x214 => S.bd (lda s197 2 x214) fun x215 => S.bd (bld [(Go.Value.int Go.IntKind.i64 0), (Go.Value.int Go.IntKind.i64 0), (Go.Value.int Go.IntKind.u64 0), (Go.Value.int Go.IntKind.i64 0), (Go.Value.int Go.IntKind.i64 0), (Go.Value.int Go.IntKind.u64 0), (Go.Value.int Go.IntKind.i64 0), (Go.Value.int Go.IntKind.u64 0), (Go.Value.int Go.IntKind.i64 0), (Go.Value.int Go.IntKind.i64 0), (Go.Value.int Go.IntKind.u64 0), (Go.Value.int Go.IntKind.i64 0), (Go.Value.int Go.IntKind.u64 0), (Go.Value.int Go.IntKind.i64 0), (Go.Value.int Go.IntKind.i64 0)] [(1, 2, x215)]) fun x216 => S.bd (bld [(Go.Value.int Go.IntKind.i64 0), (Go.Value.int Go.IntKind.i64 0), (Go.Value.int Go.IntKind.i64 0), (Go.Value.int Go.IntKind.u64 0), (Go.Value.int Go.IntKind.i64 0), (Go.Value.int Go.IntKind.u64 0), (Go.Value.int Go.IntKind.i64 0), (Go.Value.int Go.IntKind.i64 0), (Go.Value.int Go.IntKind.u64 0), (Go.Value.int Go.IntKind.i64 0), (Go.Value.int Go.IntKind.i64 0), (Go.Value.int Go.IntKind.u64 0), (Go.Value.int Go.IntKind.i64 0), (Go.Value.int Go.IntKind.u64 0), (Go.Value.int Go.IntKind.i64 0), (Go.Value.int Go.IntKind.i64 0), (Go.Value.int Go.IntKind.u64 0), (Go.Value.int Go.IntKind.i64 0), (Go.Value.int Go.IntKind.u64 0), (Go.Value.int Go.IntKind.i64 0), (Go.Value.int Go.IntKind.i64 0), (Go.Value.int Go.IntKind.i64 0), (Go.Value.int Go.IntKind.u64 0), (Go.Value.slice Option.none 0 0), (Go.Value.slice Option.none 0 0), (Go.Value.int Go.IntKind.i64 0), (Go.Value.int Go.IntKind.i64 0), (Go.Value.int Go.IntKind.u64 0), (Go.Value.int Go.IntKind.i64 0), (Go.Value.int Go.IntKind.u64 0), (Go.Value.int Go.IntKind.i64 0), (Go.Value.int Go.IntKind.i64 0), (Go.Value.int Go.IntKind.u64 0), (Go.Value.int Go.IntKind.i64 0), (Go.Value.int Go.IntKind.u64 0), (Go.Value.bool Bool.false)] [(1, 5, x211), (6, 15, x216)]) fun x217 => S.bd (alv s197 (Go.Value.agg #[(Go.Value.int Go.IntKind.i64 0), (Go.Value.bool Bool.false), (Go.Value.int Go.IntKind.i64 0), (Go.Value.int Go.IntKind.i64 0), (Go.Value.int Go.IntKind.u64 0), (Go.Value.int Go.IntKind.i64 0), (Go.Value.int Go.IntKind.u64 0), (Go.Value.int Go.IntKind.i64 0), (Go.Value.int Go.IntKind.i64 0), (Go.Value.int Go.IntKind.u64 0), (Go.Value.int Go.IntKind.i64 0), (Go.Value.int Go.IntKind.u64 0), (Go.Value.slice Option.none 0 0)])) fun _ => S.bd (leapfroglaw19x_answer.v x209 (xs177.getD 0 undef) x217 s197) fun r218 => S.bd (lda r218.2 5 x210) fun x219 => S.cnd (Value.bool (sameV x219 x211)) (S.bd (ldc r218.2 x212) fun x220 => S.cnd (Value.bool (sameV x220 x213)) (S.bd (idx r218.2 2 x213 (xs177.getD 4 undef)) fun x221 => S.cnd (Value.bool (sameV x221 x214)) (S.bd (lda r218.2 2 x214) fun x222 => S.cnd (Value.bool (sameV x222 x215)) (leapfroglaw19x_ProbeFinds.l21.p2 S r218 xs177 r196 rec179) (none)) (none)) (none)) (none)

def leapfroglaw19x_ProbeFinds.l21.p4 (S : Sig) (xs177 : List Value) (s178 : St) (rec179 : List Value → St → Option Cut) : Option Cut :=
  S.bd (lal (cellsA (xs177.getD 5 undef)) 0 3) fun x184 => S.bd (lal (cellsA (xs177.getD 6 undef)) 0 5) fun x185 => S.bd (fld 5 (xs177.getD 1 undef)) fun x186 => S.bd (ldc s178 x186) fun x187 => S.bd (idx s178 2 x187 (xs177.getD 4 undef)) fun x188 => S.bd (lda s178 2 x188) fun x189 => S.bd (bld [(Go.Value.int Go.IntKind.i64 0), (Go.Value.int Go.IntKind.i64 0), (Go.Value.int Go.IntKind.u64 0), (Go.Value.int Go.IntKind.i64 0), (Go.Value.int Go.IntKind.i64 0), (Go.Value.int Go.IntKind.u64 0), (Go.Value.int Go.IntKind.i64 0), (Go.Value.int Go.IntKind.u64 0), (Go.Value.int Go.IntKind.i64 0), (Go.Value.int Go.IntKind.i64 0), (Go.Value.int Go.IntKind.u64 0), (Go.Value.int Go.IntKind.i64 0), (Go.Value.int Go.IntKind.u64 0), (Go.Value.int Go.IntKind.i64 0), (Go.Value.int Go.IntKind.i64 0)] [(1, 2, x189)]) fun x190 => S.bd (bld [(Go.Value.int Go.IntKind.i64 0), (Go.Value.int Go.IntKind.i64 0), (Go.Value.int Go.IntKind.i64 0), (Go.Value.int Go.IntKind.u64 0), (Go.Value.int Go.IntKind.i64 0), (Go.Value.int Go.IntKind.u64 0), (Go.Value.int Go.IntKind.i64 0), (Go.Value.int Go.IntKind.i64 0), (Go.Value.int Go.IntKind.u64 0), (Go.Value.int Go.IntKind.i64 0), (Go.Value.int Go.IntKind.i64 0), (Go.Value.int Go.IntKind.u64 0), (Go.Value.int Go.IntKind.i64 0), (Go.Value.int Go.IntKind.u64 0), (Go.Value.int Go.IntKind.i64 0), (Go.Value.int Go.IntKind.i64 0), (Go.Value.int Go.IntKind.u64 0), (Go.Value.int Go.IntKind.i64 0), (Go.Value.int Go.IntKind.u64 0), (Go.Value.int Go.IntKind.i64 0), (Go.Value.int Go.IntKind.i64 0), (Go.Value.int Go.IntKind.i64 0), (Go.Value.int Go.IntKind.u64 0), (Go.Value.slice Option.none 0 0), (Go.Value.slice Option.none 0 0), (Go.Value.int Go.IntKind.i64 0), (Go.Value.int Go.IntKind.i64 0), (Go.Value.int Go.IntKind.u64 0), (Go.Value.int Go.IntKind.i64 0), (Go.Value.int Go.IntKind.u64 0), (Go.Value.int Go.IntKind.i64 0), (Go.Value.int Go.IntKind.i64 0), (Go.Value.int Go.IntKind.u64 0), (Go.Value.int Go.IntKind.i64 0), (Go.Value.int Go.IntKind.u64 0), (Go.Value.bool Bool.false)] [(1, 5, x185), (6, 15, x190)]) fun x191 => S.bd (alv s178 (Go.Value.agg #[(Go.Value.int Go.IntKind.i64 0), (Go.Value.bool Bool.false), (Go.Value.int Go.IntKind.i64 0), (Go.Value.int Go.IntKind.i64 0), (Go.Value.int Go.IntKind.u64 0), (Go.Value.int Go.IntKind.i64 0), (Go.Value.int Go.IntKind.u64 0), (Go.Value.int Go.IntKind.i64 0), (Go.Value.int Go.IntKind.i64 0), (Go.Value.int Go.IntKind.u64 0), (Go.Value.int Go.IntKind.i64 0), (Go.Value.int Go.IntKind.u64 0), (Go.Value.slice Option.none 0 0)])) fun _ => S.bd (leapfroglaw19x_answer.v x184 (xs177.getD 0 undef) x191 s178) fun r192 => S.bd (ldc r192.2 x186) fun x193 => S.cnd (Value.bool (sameV x193 x187)) (S.bd (idx r192.2 2 x187 (xs177.getD 4 undef)) fun x194 => S.cnd (Value.bool (sameV x194 x188)) (S.bd (lda r192.2 2 x188) fun x195 => S.cnd (Value.bool (sameV x195 x189)) (S.bd (alv r192.2 (Go.Value.agg #[(Go.Value.int Go.IntKind.i64 0), (Go.Value.bool Bool.false), (Go.Value.int Go.IntKind.i64 0), (Go.Value.int Go.IntKind.i64 0), (Go.Value.int Go.IntKind.u64 0), (Go.Value.int Go.IntKind.i64 0), (Go.Value.int Go.IntKind.u64 0), (Go.Value.int Go.IntKind.i64 0), (Go.Value.int Go.IntKind.i64 0), (Go.Value.int Go.IntKind.u64 0), (Go.Value.int Go.IntKind.i64 0), (Go.Value.int Go.IntKind.u64 0), (Go.Value.slice Option.none 0 0)])) fun r196 => S.bd (stv r196.2 13 r196.1 r192.1) fun s197 => S.bd (fld 0 r196.1) fun x198 => S.bd (ldc s197 x198) fun x199 => S.bd (eqb [1] false true x199 (Go.Value.int Go.IntKind.i64 1)) fun x200 => S.bd (S.gd x200 false (lal (cellsA (xs177.getD 6 undef)) 1 2)) fun x201 => S.bd (S.gd x200 false (fld 7 r196.1)) fun x202 => S.bd (S.gd x200 false (fld 1 x202)) fun x203 => S.bd (S.gd x200 false (lda s197 2 x203)) fun x204 => S.bd (S.gd x200 false (leapfrogref02x_Less.r x201 x204 s197)) fun x205 => S.bd (S.gd x200 false (un .not x205)) fun x206 => S.bd (pik x200 (Go.Value.bool Bool.true) x206) fun x207 => S.cnd x207 (S.bd (bin .add (xs177.getD 4 undef) (Go.Value.int Go.IntKind.i64 1)) fun x208 => rec179 [(xs177.getD 0 undef), (xs177.getD 1 undef), (xs177.getD 2 undef), (xs177.getD 3 undef), x208, (Value.agg ⟨(cellsA (xs177.getD 5 undef))⟩), (Value.agg ⟨(cellsA (xs177.getD 6 undef))⟩)] s197) (leapfroglaw19x_ProbeFinds.l21.p3 S xs177 r196 s197 rec179)) (none)) (none)) (none)

def leapfroglaw19x_ProbeFinds.l21 (S : Sig) (rec179 : List Value → St → Option Cut) (xs177 : List Value) (s178 : St) : Option Cut :=
  S.bd (fld 5 (xs177.getD 1 undef)) fun x180 => S.bd (ldc s178 x180) fun x181 => S.bd (lenL x181) fun x182 => S.bd (bin .lss (xs177.getD 4 undef) x182) fun x183 => S.cnd x183 (leapfroglaw19x_ProbeFinds.l21.p4 S xs177 s178 rec179) (some (0, [(xs177.getD 2 undef), (xs177.getD 3 undef)], s178))

def leapfroglaw19x_ProbeFinds.t.p1 (S : Sig) (a4 : Value) (r28 : Value × St) (x32 : Value) (c7 : List Value) (c23 : List Value) (r31 : Value × St) : Option (Value × St) :=
  S.bd (S.it (leapfroglaw19x_ProbeFinds.l11 S) [a4, r28.1, x32, (Go.Value.int Go.IntKind.i64 0), (Value.agg ⟨c7⟩), (Value.agg ⟨c23⟩)] r31.2) fun r81 => if r81.1 = 0 then (S.bd (probe_Probe_Next.r (r81.2.1.getD 2 undef) r81.2.2) fun x82 => S.bd (prt 0 1 false x82) fun x83 => S.bd (eqb [1] false true x83 (Go.Value.int Go.IntKind.i64 3)) fun x84 => S.bd (S.gd x84 false (some (r81.2.1.getD 3 undef))) fun x85 => S.bd (S.gd x84 false (fld 5 (r81.2.1.getD 1 undef))) fun x86 => S.bd (S.gd x84 false (ldc r81.2.2 x86)) fun x87 => S.bd (S.gd x84 false (lenL x87)) fun x88 => S.bd (S.gd x84 false (bin .mul (Go.Value.int Go.IntKind.i64 2) x88)) fun x89 => S.bd (S.gd x84 false (bin .gtr x85 x89)) fun x90 => S.bd (pik x84 (Go.Value.bool Bool.true) x90) fun x91 => S.cnd x91 (some ((Go.Value.bool Bool.false), r81.2.2)) (S.bd (S.it (leapfroglaw19x_ProbeFinds.l21 S) [(r81.2.1.getD 0 undef), (r81.2.1.getD 1 undef), (r81.2.1.getD 2 undef), (Go.Value.slice Option.none 0 0), (Go.Value.int Go.IntKind.i64 0), (Value.agg ⟨(cellsA (r81.2.1.getD 4 undef))⟩), (Value.agg ⟨(cellsA (r81.2.1.getD 5 undef))⟩)] r81.2.2) fun r265 => S.bd (probe_Probe_Breaks.v (r265.2.1.getD 0 undef) r265.2.2) fun r266 => S.bd (leapfrogref19x_Same.r r266.1 (r265.2.1.getD 1 undef) r266.2) fun x267 => S.bd (S.gd x267 true (some (r265.2.1.getD 0 undef))) fun x268 => S.bd (S.gd x267 true (probe_Probe_Next.r x268 r266.2)) fun x269 => S.bd (S.gd x267 true (prt 21 15 true x269)) fun x270 => S.bd (S.gd x267 true (prt 14 1 false x270)) fun x271 => S.bd (S.gd x267 true (some (r265.2.1.getD 1 undef))) fun x272 => S.bd (S.gd x267 true (lenL x272)) fun x273 => S.bd (S.gd x267 true (bin .gtr x273 (Go.Value.int Go.IntKind.i64 0))) fun x274 => S.bd (S.gd x267 true (eqb [0] false false x271 x274)) fun x275 => S.bd (pik x267 x275 (Go.Value.bool Bool.false)) fun x276 => some (x276, r266.2))) else (some ((r81.2.1.getD 0 undef), r81.2.2))

def leapfroglaw19x_ProbeFinds.t.p2 (S : Sig) (x11 : Value) (r5 : Value × St) (x9 : Value) (x10 : Value) (a5 : Value) (a4 : Value) (c7 : List Value) : Option (Value × St) :=
  S.bd (S.bd (bls 5 (List.replicate 1 [(Go.Value.int Go.IntKind.i64 0), (Go.Value.int Go.IntKind.i64 0), (Go.Value.int Go.IntKind.u64 0), (Go.Value.int Go.IntKind.i64 0), (Go.Value.int Go.IntKind.u64 0)]) [(0, x11)]) fun rows => als r5.2 5 1 rows) fun r12 => S.bd (app r12.2 5 40 r12.1 x9) fun r13 => S.bd (leapfrogref12x_Tail.r x10 r13.2) fun x14 => S.bd (S.bd (bls 5 (List.replicate 1 [(Go.Value.int Go.IntKind.i64 0), (Go.Value.int Go.IntKind.i64 0), (Go.Value.int Go.IntKind.u64 0), (Go.Value.int Go.IntKind.i64 0), (Go.Value.int Go.IntKind.u64 0)]) [(0, x14)]) fun rows => als r13.2 5 1 rows) fun r15 => S.bd (app r15.2 5 40 r13.1 r15.1) fun r16 => S.bd (cvi .i64 a5) fun x17 => S.bd (lenL r16.1) fun x18 => S.bd (bin .rem x17 x18) fun x19 => S.bd (idx r16.2 5 r16.1 x19) fun x20 => S.bd (lda r16.2 5 x20) fun x21 => S.bd (bx (Go.Value.agg #[(Go.Value.int Go.IntKind.i64 0), (Go.Value.int Go.IntKind.i64 0), (Go.Value.int Go.IntKind.u64 0), (Go.Value.int Go.IntKind.i64 0), (Go.Value.int Go.IntKind.u64 0)])) fun c22 => S.bd (stl c22 0 5 x21) fun c23 => S.bd (lal c23 0 5) fun x24 => S.bd (lal c23 3 2) fun x25 => S.bd (alv r16.2 (Go.Value.agg #[(Go.Value.int Go.IntKind.i64 0), (Go.Value.int Go.IntKind.i64 0), (Go.Value.int Go.IntKind.u64 0), (Go.Value.int Go.IntKind.i64 0), (Go.Value.int Go.IntKind.u64 0), (Go.Value.slice Option.none 0 0)])) fun _ => S.bd (leapfrogref01x_Prefixes.v x25 r16.2) fun r26 => S.bd (bld [(Go.Value.int Go.IntKind.i64 0), (Go.Value.int Go.IntKind.i64 0), (Go.Value.int Go.IntKind.u64 0), (Go.Value.int Go.IntKind.i64 0), (Go.Value.int Go.IntKind.u64 0), (Go.Value.slice Option.none 0 0)] [(0, 5, x24), (5, 1, r26.1)]) fun x27 => S.bd (alv r26.2 (Go.Value.agg #[(Go.Value.int Go.IntKind.i64 0), (Go.Value.int Go.IntKind.i64 0), (Go.Value.int Go.IntKind.u64 0), (Go.Value.int Go.IntKind.i64 0), (Go.Value.int Go.IntKind.u64 0), (Go.Value.slice Option.none 0 0)])) fun r28 => S.bd (stv r28.2 6 r28.1 x27) fun s29 => S.bd (lda s29 6 r28.1) fun x30 => S.bd (probe_New.v x30 s29) fun r31 => S.bd (xtr 0 r31.1) fun x32 => S.bd (xtr 1 r31.1) fun x33 => S.bd (eqb [1] false true x33 (Go.Value.int Go.IntKind.i64 0)) fun x34 => S.bd (S.gd x34 false (some x32)) fun x35 => S.bd (S.gd x34 false (eqb [3] false false x35 (Go.Value.pointer Option.none))) fun x36 => S.bd (pik x34 (Go.Value.bool Bool.true) x36) fun x37 => S.cnd x37 (some ((Go.Value.bool Bool.false), r31.2)) (leapfroglaw19x_ProbeFinds.t.p1 S a4 r28 x32 c7 c23 r31)

def leapfroglaw19x_ProbeFinds.t (S : Sig) (a0 a1 a2 a3 a4 a5 : Value) (s : St) : Option (Value × St) :=
  S.bd (leapfroglaw19x_awakeC.r  s) fun x1 => S.bd (un .not x1) fun x2 => S.cnd x2 (some ((Go.Value.bool Bool.false), s)) (S.bd (cvi .i64 a0) fun x3 => S.bd (bin .rem x3 (Go.Value.int Go.IntKind.i64 4)) fun x4 => S.bd (leapfroglaw12x_Make.v x4 a1 a2 a3 s) fun r5 => S.bd (bx (Go.Value.agg #[(Go.Value.int Go.IntKind.i64 0), (Go.Value.slice Option.none 0 0), (Go.Value.slice Option.none 0 0)])) fun c6 => S.bd (stl c6 0 3 r5.1) fun c7 => S.bd (lcl c7 0) fun x8 => S.bd (lcl c7 1) fun x9 => S.bd (lcl c7 0) fun x10 => S.bd (leapfrogref12x_Head.r x8 r5.2) fun x11 => leapfroglaw19x_ProbeFinds.t.p2 S x11 r5 x9 x10 a5 a4 c7)
def leapfroglaw19x_ProbeFinds.v (a0 a1 a2 a3 a4 a5 : Value) (s : St) : Option (Value × St) := leapfroglaw19x_ProbeFinds.t std a0 a1 a2 a3 a4 a5 s
def leapfroglaw19x_ProbeFinds.w : List Value → St → Option (Value × St)
  | [a0, a1, a2, a3, a4, a5], s => leapfroglaw19x_ProbeFinds.v a0 a1 a2 a3 a4 a5 s
  | _, _ => none
def leapfroglaw19x_ProbeFinds.an : An := ⟨200, false, [13, 15, 20], [(11, ⟨[.v 4, .p 13 13 0, .p 15 15 0, .v 16, .v 17, .v 19, .l 13, .l 15], [(.exit 0, [.v 4, .p 13 13 0, .p 15 15 0, .v 16, .v 17, .v 19, .l 13, .l 15]), (.ret, [.v 12])]⟩), (21, ⟨[.v 4, .p 13 13 0, .p 15 15 0, .v 16, .v 17, .v 21, .v 22, .l 13, .l 15], [(.exit 2, [.v 17, .v 21])]⟩)], [], [(4, [(0, 0, [], []), (1, 105, [], []), (4, 0, [], []), (5, 105, [], []), (7, 0, [], []), (8, 105, [], []), (2, 3, [], []), (3, 3, [], []), (6, 4, [], []), (9, 3, [], []), (10, 3, [], []), (11, 4, [], []), (12, 0, [], [])]), (6, [(0, 121, [], []), (1, 0, [], []), (2, 121, [], []), (3, 4, [], [5]), (4, 0, [], []), (5, 3, [], []), (6, 4, [], [])]), (23, [(0, 105, [], []), (1, 0, [], []), (2, 121, [], []), (3, 0, [], []), (4, 2, [], []), (5, 0, [], []), (6, 2, [], []), (7, 2, [], []), (8, 0, [], []), (9, 0, [], []), (10, 4, [4, 6, 7], [11]), (11, 3, [], []), (12, 4, [], [])]), (25, [(0, 105, [], []), (1, 0, [], []), (2, 0, [], []), (3, 2, [], []), (4, 0, [], []), (5, 2, [], []), (6, 0, [], []), (7, 2, [], []), (8, 2, [], []), (9, 0, [], []), (10, 0, [], []), (11, 4, [3, 5, 7, 8], [12]), (12, 3, [], []), (13, 4, [], [])]), (27, [(0, 0, [], []), (1, 0, [], []), (2, 2, [], []), (3, 0, [], []), (4, 2, [], []), (5, 2, [], []), (6, 0, [], []), (7, 2, [], []), (8, 0, [], []), (9, 3, [], []), (10, 4, [2, 4, 5, 7], []), (11, 0, [], [])]), (29, [(0, 0, [], []), (1, 0, [], []), (2, 2, [], []), (3, 0, [], []), (4, 2, [], []), (5, 2, [], []), (6, 0, [], []), (7, 2, [], []), (8, 0, [], []), (9, 3, [], []), (10, 4, [2, 4, 5, 7], []), (11, 0, [], [])])], [], []⟩
theorem leapfroglaw19x_ProbeFinds.ok (S : Sig) (a0 a1 a2 a3 a4 a5 : Value) (s : St) : evF S Try.prog leapfroglaw19x_ProbeFinds.ctx leapfroglaw19x_ProbeFinds.an Try.f4 [a0, a1, a2, a3, a4, a5] s = leapfroglaw19x_ProbeFinds.t S a0 a1 a2 a3 a4 a5 s := by kernel_rfl
theorem leapfroglaw19x_ProbeFinds.cok : CtxOk Try.prog leapfroglaw19x_ProbeFinds.ctx := .cons leapfroglaw19x_awakeC.sound leapfroglaw19x_awakeC.can <| .cons leapfroglaw12x_Make.sound leapfroglaw12x_Make.can <| .cons leapfrogref12x_Head.sound leapfrogref12x_Head.can <| .cons leapfrogref12x_Tail.sound leapfrogref12x_Tail.can <| .cons leapfrogref01x_Prefixes.sound leapfrogref01x_Prefixes.can <| .cons probe_New.sound probe_New.can <| .cons probe_Probe_Next.sound probe_Probe_Next.can <| .cons leapfroglaw19x_answer.sound leapfroglaw19x_answer.can <| .cons probe_Probe_Tell.sound probe_Probe_Tell.can <| .cons leapfrogref02x_Less.sound leapfrogref02x_Less.can <| .cons probe_Probe_Breaks.sound probe_Probe_Breaks.can <| .cons leapfrogref19x_Same.sound leapfrogref19x_Same.can <| .nil
theorem leapfroglaw19x_ProbeFinds.draws : fnDraws leapfroglaw19x_ProbeFinds.an Try.f4 = true := by kernel_rfl
theorem leapfroglaw19x_ProbeFinds.can : callOk Try.prog 4 = true := by kernel_rfl
theorem leapfroglaw19x_ProbeFinds.sound : FnOk Try.prog 4 (.st leapfroglaw19x_ProbeFinds.w) := FnOk.st_of (evF_ok leapfroglaw19x_ProbeFinds.cok mixed (f := 4) (fn := Try.f4) (by kernel_rfl) leapfroglaw19x_ProbeFinds.draws) fun args s r h => by
  unfold leapfroglaw19x_ProbeFinds.w at h; split at h
  · rw [leapfroglaw19x_ProbeFinds.ok std]; exact h
  · simp at h

/-! ### leapfrog/leapfroglaw19.few: function 19 -/
def leapfroglaw19x_few.ctx : Ctx := []
def leapfroglaw19x_few.t (S : Sig) (a0 : Value) (s : St) : Option Value :=
  S.bd (bx a0) fun c1 => S.bd (bx (Go.Value.agg #[(Go.Value.int Go.IntKind.i64 0), (Go.Value.int Go.IntKind.i64 0), (Go.Value.int Go.IntKind.u64 0), (Go.Value.int Go.IntKind.i64 0), (Go.Value.int Go.IntKind.u64 0), (Go.Value.slice Option.none 0 0)])) fun c2 => S.bd (lcl c1 5) fun x3 => S.bd (lenL x3) fun x4 => S.bd (bin .gtr x4 (Go.Value.int Go.IntKind.i64 100)) fun x5 => S.cnd x5 (S.bd (lcl c1 5) fun x6 => S.bd (slc s 2 x6 none (some (Go.Value.int Go.IntKind.i64 100)) none) fun x7 => S.bd (stl c1 5 1 x7) fun c8 => S.bd (lal c8 0 6) fun x9 => S.bd (stl c2 0 6 x9) fun c10 => S.bd (lal c10 0 6) fun x11 => some (x11)) (S.bd (lal c1 0 6) fun x12 => S.bd (stl c2 0 6 x12) fun c13 => S.bd (lal c13 0 6) fun x14 => some (x14))
def leapfroglaw19x_few.r (a0 : Value) (s : St) : Option Value := leapfroglaw19x_few.t std a0 s
def leapfroglaw19x_few.w : List Value → St → Option Value
  | [a0], s => leapfroglaw19x_few.r a0 s
  | _, _ => none
def leapfroglaw19x_few.an : An := ⟨12, true, [1, 2], [], [], [], [], []⟩
theorem leapfroglaw19x_few.ok (S : Sig) (a0 : Value) (s : St) : evG S Try.prog leapfroglaw19x_few.ctx leapfroglaw19x_few.an Try.f19 [a0] s = leapfroglaw19x_few.t S a0 s := by kernel_rfl
theorem leapfroglaw19x_few.cok : CtxOk Try.prog leapfroglaw19x_few.ctx := .nil
theorem leapfroglaw19x_few.draws : fnDraws leapfroglaw19x_few.an Try.f19 = true := by kernel_rfl
theorem leapfroglaw19x_few.can : callOk Try.prog 19 = true := by kernel_rfl
theorem leapfroglaw19x_few.sound : FnOk Try.prog 19 (.rd leapfroglaw19x_few.w) := FnOk.rd_of (evG_ok leapfroglaw19x_few.cok mixed (f := 19) (fn := Try.f19) (by kernel_rfl) leapfroglaw19x_few.draws) fun args s r h => by
  unfold leapfroglaw19x_few.w at h; split at h
  · rw [leapfroglaw19x_few.ok std]; exact h
  · simp at h

/-! ### leapfrog/leapfrogref02.Check: function 42 -/
def leapfrogref02x_Check.ctx : Ctx := []
def leapfrogref02x_Check.t (S : Sig) (a0 : Value) (s : St) : Option Value :=
  S.bd (bx a0) fun c1 => S.bd (lcl c1 0) fun x2 => S.bd (eqb [1] false false x2 (Go.Value.int Go.IntKind.i64 2)) fun x3 => S.bd (S.gd x3 false (lcl c1 0)) fun x4 => S.bd (S.gd x3 false (eqb [1] false false x4 (Go.Value.int Go.IntKind.i64 1))) fun x5 => S.bd (S.gd x3 false (some x5)) fun x6 => S.bd (S.gd x6 false (lcl c1 0)) fun x7 => S.bd (S.gd x6 false (eqb [1] false false x7 (Go.Value.int Go.IntKind.i64 3))) fun x8 => S.bd (S.gd x3 false (pik x6 (Go.Value.bool Bool.true) x8)) fun x9 => S.bd (S.gd x3 false (some x9)) fun x10 => S.bd (S.gd x10 true (lcl c1 1)) fun x11 => S.bd (S.gd x10 true (eqb [1] false false x11 (Go.Value.int Go.IntKind.u64 0))) fun x12 => S.bd (S.gd x3 false (pik x10 x12 (Go.Value.bool Bool.false))) fun x13 => S.bd (pik x3 (Go.Value.bool Bool.true) x13) fun x14 => S.cnd x14 (some ((Go.Value.int Go.IntKind.i64 0))) (some ((Go.Value.int Go.IntKind.i64 20)))
def leapfrogref02x_Check.r (a0 : Value) (s : St) : Option Value := leapfrogref02x_Check.t std a0 s
def leapfrogref02x_Check.w : List Value → St → Option Value
  | [a0], s => leapfrogref02x_Check.r a0 s
  | _, _ => none
def leapfrogref02x_Check.an : An := ⟨21, true, [1], [], [], [], [], []⟩
theorem leapfrogref02x_Check.ok (S : Sig) (a0 : Value) (s : St) : evG S Try.prog leapfrogref02x_Check.ctx leapfrogref02x_Check.an Try.f42 [a0] s = leapfrogref02x_Check.t S a0 s := by kernel_rfl
theorem leapfrogref02x_Check.cok : CtxOk Try.prog leapfrogref02x_Check.ctx := .nil
theorem leapfrogref02x_Check.draws : fnDraws leapfrogref02x_Check.an Try.f42 = true := by kernel_rfl
theorem leapfrogref02x_Check.can : callOk Try.prog 42 = true := by kernel_rfl
theorem leapfrogref02x_Check.sound : FnOk Try.prog 42 (.rd leapfrogref02x_Check.w) := FnOk.rd_of (evG_ok leapfrogref02x_Check.cok mixed (f := 42) (fn := Try.f42) (by kernel_rfl) leapfrogref02x_Check.draws) fun args s r h => by
  unfold leapfrogref02x_Check.w at h; split at h
  · rw [leapfrogref02x_Check.ok std]; exact h
  · simp at h

/-! ### leapfrog/leapfrogref19.New: function 20 -/
def leapfrogref19x_New.ctx : Ctx := [(42, .rd leapfrogref02x_Check.w), (31, .rd leapfrogref01x_Right.w)]
def leapfrogref19x_New.l4 (S : Sig) (rec24 : List Value → St → Option Cut) (xs22 : List Value) (s23 : St) : Option Cut :=
  S.bd (lcl (cellsA (xs22.getD 1 undef)) 5) fun x25 => S.bd (lenL x25) fun x26 => S.bd (bin .lss (xs22.getD 0 undef) x26) fun x27 => S.cnd x27 (S.bd (lcl (cellsA (xs22.getD 1 undef)) 5) fun x28 => S.bd (idx s23 2 x28 (xs22.getD 0 undef)) fun x29 => S.bd (lda s23 2 x29) fun x30 => S.bd (leapfrogref01x_Right.r x30 s23) fun x31 => S.bd (un .not x31) fun x32 => S.cnd x32 (some (1, [(Go.Value.pointer Option.none), (Go.Value.int Go.IntKind.i64 190)], s23)) (S.bd (bin .add (xs22.getD 0 undef) (Go.Value.int Go.IntKind.i64 1)) fun x33 => rec24 [x33, (Value.agg ⟨(cellsA (xs22.getD 1 undef))⟩)] s23)) (some (0, [(Value.agg ⟨(cellsA (xs22.getD 1 undef))⟩)], s23))

def leapfrogref19x_New.t (S : Sig) (a0 : Value) (s : St) : Option (Value × St) :=
  S.bd (bx a0) fun c1 => S.bd (lal c1 1 2) fun x2 => S.bd (leapfrogref02x_Check.r x2 s) fun x3 => S.bd (eqb [1] false true x3 (Go.Value.int Go.IntKind.i64 0)) fun x4 => S.bd (S.gd x4 false (lal c1 3 2)) fun x5 => S.bd (S.gd x4 false (leapfrogref01x_Right.r x5 s)) fun x6 => S.bd (S.gd x4 false (un .not x6)) fun x7 => S.bd (pik x4 (Go.Value.bool Bool.true) x7) fun x8 => S.bd (S.gd x8 false (lcl c1 5)) fun x9 => S.bd (S.gd x8 false (lenL x9)) fun x10 => S.bd (S.gd x8 false (bin .gtr x10 (Go.Value.int Go.IntKind.i64 1024))) fun x11 => S.bd (pik x8 (Go.Value.bool Bool.true) x11) fun x12 => S.cnd x12 (some ((Value.tuple ⟨[(Go.Value.pointer Option.none), (Go.Value.int Go.IntKind.i64 190)]⟩), s)) (S.bd (S.it (leapfrogref19x_New.l4 S) [(Go.Value.int Go.IntKind.i64 0), (Value.agg ⟨c1⟩)] s) fun r34 => if r34.1 = 0 then (S.bd (S.bd (bls 2 (List.replicate 0 [(Go.Value.int Go.IntKind.i64 0), (Go.Value.int Go.IntKind.u64 0)]) []) fun rows => als r34.2.2 2 0 rows) fun r35 => S.bd (lcl (cellsA (r34.2.1.getD 0 undef)) 5) fun x36 => S.bd (app r35.2 2 16 r35.1 x36) fun r37 => S.bd (stl (cellsA (r34.2.1.getD 0 undef)) 5 1 r37.1) fun c38 => S.bd (lal c38 0 6) fun x39 => S.bd (bld [(Go.Value.int Go.IntKind.i64 0), (Go.Value.int Go.IntKind.i64 0), (Go.Value.int Go.IntKind.u64 0), (Go.Value.int Go.IntKind.i64 0), (Go.Value.int Go.IntKind.u64 0), (Go.Value.slice Option.none 0 0), (Go.Value.int Go.IntKind.i64 0), (Go.Value.bool Bool.false), (Go.Value.int Go.IntKind.i64 0), (Go.Value.int Go.IntKind.i64 0), (Go.Value.int Go.IntKind.u64 0), (Go.Value.int Go.IntKind.i64 0), (Go.Value.int Go.IntKind.u64 0), (Go.Value.slice Option.none 0 0)] [(0, 6, x39)]) fun x40 => S.bd (alv r37.2 x40) fun r41 => some ((Value.tuple ⟨[r41.1, (Go.Value.int Go.IntKind.i64 0)]⟩), r41.2)) else (some ((Value.tuple ⟨[(r34.2.1.getD 0 undef), (r34.2.1.getD 1 undef)]⟩), r34.2.2)))
def leapfrogref19x_New.v (a0 : Value) (s : St) : Option (Value × St) := leapfrogref19x_New.t std a0 s
def leapfrogref19x_New.w : List Value → St → Option (Value × St)
  | [a0], s => leapfrogref19x_New.v a0 s
  | _, _ => none
def leapfrogref19x_New.an : An := ⟨45, false, [1], [(4, ⟨[.p 1 1 0, .v 4, .l 1], [(.exit 0, [.p 1 1 0, .l 1]), (.ret, [.v 2, .v 3])]⟩)], [], [], [], []⟩
theorem leapfrogref19x_New.ok (S : Sig) (a0 : Value) (s : St) : evF S Try.prog leapfrogref19x_New.ctx leapfrogref19x_New.an Try.f20 [a0] s = leapfrogref19x_New.t S a0 s := by kernel_rfl
theorem leapfrogref19x_New.cok : CtxOk Try.prog leapfrogref19x_New.ctx := .cons leapfrogref02x_Check.sound leapfrogref02x_Check.can <| .cons leapfrogref01x_Right.sound leapfrogref01x_Right.can <| .nil
theorem leapfrogref19x_New.draws : fnDraws leapfrogref19x_New.an Try.f20 = true := by kernel_rfl
theorem leapfrogref19x_New.can : callOk Try.prog 20 = true := by kernel_rfl
theorem leapfrogref19x_New.sound : FnOk Try.prog 20 (.st leapfrogref19x_New.w) := FnOk.st_of (evF_ok leapfrogref19x_New.cok mixed (f := 20) (fn := Try.f20) (by kernel_rfl) leapfrogref19x_New.draws) fun args s r h => by
  unfold leapfrogref19x_New.w at h; split at h
  · rw [leapfrogref19x_New.ok std]; exact h
  · simp at h

/-! ### (*leapfrog/leapfrogref19.Probe).Tell: function 21 -/
def leapfrogref19x_Probe_Tell.ctx : Ctx := [(16, .rd leapfrogref02x_Less.w)]
def leapfrogref19x_Probe_Tell.t.p1 (S : Sig) (s : St) (x87 : Value) (x85 : Value) (a0 : Value) (x81 : Value) (x84 : Value) (c1 : List Value) : Option Cut :=
  S.bd (ldc s x87) fun x88 => S.bd (idx s 2 x85 x88) fun x89 => S.bd (lda s 2 x89) fun x90 => S.bd (nck a0) fun x91 => S.bd (fld 8 x91) fun x92 => S.bd (lda s 5 x92) fun x93 => S.bd (bld [(Go.Value.int Go.IntKind.i64 0), (Go.Value.int Go.IntKind.u64 0), (Go.Value.int Go.IntKind.i64 0), (Go.Value.int Go.IntKind.i64 0), (Go.Value.int Go.IntKind.i64 0), (Go.Value.int Go.IntKind.u64 0), (Go.Value.int Go.IntKind.i64 0), (Go.Value.int Go.IntKind.u64 0)] [(0, 2, x90), (2, 1, (Go.Value.int Go.IntKind.i64 1)), (3, 5, x93)]) fun x94 => S.bd (S.bd (bls 8 (List.replicate 1 [(Go.Value.int Go.IntKind.i64 0), (Go.Value.int Go.IntKind.u64 0), (Go.Value.int Go.IntKind.i64 0), (Go.Value.int Go.IntKind.i64 0), (Go.Value.int Go.IntKind.i64 0), (Go.Value.int Go.IntKind.u64 0), (Go.Value.int Go.IntKind.i64 0), (Go.Value.int Go.IntKind.u64 0)]) [(0, x94)]) fun rows => als s 8 1 rows) fun _ => S.bd (S.bd (bls 8 (List.replicate 0 [(Go.Value.int Go.IntKind.i64 0), (Go.Value.int Go.IntKind.u64 0), (Go.Value.int Go.IntKind.i64 0), (Go.Value.int Go.IntKind.i64 0), (Go.Value.int Go.IntKind.i64 0), (Go.Value.int Go.IntKind.u64 0), (Go.Value.int Go.IntKind.i64 0), (Go.Value.int Go.IntKind.u64 0)]) []) fun rows => als s 8 0 rows) fun r95 => S.bd (S.bd (bls 8 (List.replicate 1 [(Go.Value.int Go.IntKind.i64 0), (Go.Value.int Go.IntKind.u64 0), (Go.Value.int Go.IntKind.i64 0), (Go.Value.int Go.IntKind.i64 0), (Go.Value.int Go.IntKind.i64 0), (Go.Value.int Go.IntKind.u64 0), (Go.Value.int Go.IntKind.i64 0), (Go.Value.int Go.IntKind.u64 0)]) [(0, x94)]) fun rows => als r95.2 8 1 rows) fun _ => S.bd (app r95.2 8 64 r95.1 x81) fun r96 => S.bd (ldc r96.2 x84) fun x97 => S.cnd (Value.bool (sameV x97 x85)) (S.bd (ldc r96.2 x87) fun x98 => S.cnd (Value.bool (sameV x98 x88)) (S.bd (idx r96.2 2 x85 x88) fun x99 => S.cnd (Value.bool (sameV x99 x89)) (S.bd (lda r96.2 2 x89) fun x100 => S.cnd (Value.bool (sameV x100 x90)) (S.bd (lda r96.2 5 x92) fun x101 => S.cnd (Value.bool (sameV x101 x93)) (S.bd (S.bd (bls 8 (List.replicate 1 [(Go.Value.int Go.IntKind.i64 0), (Go.Value.int Go.IntKind.u64 0), (Go.Value.int Go.IntKind.i64 0), (Go.Value.int Go.IntKind.i64 0), (Go.Value.int Go.IntKind.i64 0), (Go.Value.int Go.IntKind.u64 0), (Go.Value.int Go.IntKind.i64 0), (Go.Value.int Go.IntKind.u64 0)]) [(0, x94)]) fun rows => als r96.2 8 1 rows) fun r102 => S.bd (app r102.2 8 64 r96.1 r102.1) fun r103 => S.bd (ldc r103.2 x84) fun x104 => S.cnd (Value.bool (sameV x104 x85)) (S.bd (ldc r103.2 x87) fun x105 => S.cnd (Value.bool (sameV x105 x88)) (S.bd (idx r103.2 2 x85 x88) fun x106 => S.cnd (Value.bool (sameV x106 x89)) (S.bd (lda r103.2 2 x89) fun x107 => S.cnd (Value.bool (sameV x107 x90)) (S.bd (lda r103.2 5 x92) fun x108 => S.cnd (Value.bool (sameV x108 x93)) (S.bd (nck a0) fun x109 => S.bd (fld 13 x109) fun x110 => S.bd (stv r103.2 1 x110 r103.1) fun s111 => some (0, [a0, (Value.agg ⟨c1⟩)], s111)) (none)) (none)) (none)) (none)) (none)) (none)) (none)) (none)) (none)) (none)

def leapfrogref19x_Probe_Tell.t.p2 (S : Sig) (x189 : Value) (r190 : Value × St) (x176 : Value) (x179 : Value) (x180 : Value) (x182 : Value) (x183 : Value) (x184 : Value) (x185 : Value) (x187 : Value) (x188 : Value) (r112 : Cut) : Option Cut :=
  S.bd (S.bd (bls 8 (List.replicate 1 [(Go.Value.int Go.IntKind.i64 0), (Go.Value.int Go.IntKind.u64 0), (Go.Value.int Go.IntKind.i64 0), (Go.Value.int Go.IntKind.i64 0), (Go.Value.int Go.IntKind.i64 0), (Go.Value.int Go.IntKind.u64 0), (Go.Value.int Go.IntKind.i64 0), (Go.Value.int Go.IntKind.u64 0)]) [(0, x189)]) fun rows => als r190.2 8 1 rows) fun _ => S.bd (app r190.2 8 64 r190.1 x176) fun r191 => S.bd (ldc r191.2 x179) fun x192 => S.cnd (Value.bool (sameV x192 x180)) (S.bd (ldc r191.2 x182) fun x193 => S.cnd (Value.bool (sameV x193 x183)) (S.bd (idx r191.2 2 x180 x183) fun x194 => S.cnd (Value.bool (sameV x194 x184)) (S.bd (lda r191.2 2 x184) fun x195 => S.cnd (Value.bool (sameV x195 x185)) (S.bd (lda r191.2 5 x187) fun x196 => S.cnd (Value.bool (sameV x196 x188)) (S.bd (S.bd (bls 8 (List.replicate 1 [(Go.Value.int Go.IntKind.i64 0), (Go.Value.int Go.IntKind.u64 0), (Go.Value.int Go.IntKind.i64 0), (Go.Value.int Go.IntKind.i64 0), (Go.Value.int Go.IntKind.i64 0), (Go.Value.int Go.IntKind.u64 0), (Go.Value.int Go.IntKind.i64 0), (Go.Value.int Go.IntKind.u64 0)]) [(0, x189)]) fun rows => als r191.2 8 1 rows) fun r197 => S.bd (app r197.2 8 64 r191.1 r197.1) fun r198 => S.bd (ldc r198.2 x179) fun x199 => S.cnd (Value.bool (sameV x199 x180)) (S.bd (ldc r198.2 x182) fun x200 => S.cnd (Value.bool (sameV x200 x183)) (S.bd (idx r198.2 2 x180 x183) fun x201 => S.cnd (Value.bool (sameV x201 x184)) (S.bd (lda r198.2 2 x184) fun x202 => S.cnd (Value.bool (sameV x202 x185)) (S.bd (lda r198.2 5 x187) fun x203 => S.cnd (Value.bool (sameV x203 x188)) (S.bd (nck (r112.2.1.getD 0 undef)) fun x204 => S.bd (fld 13 x204) fun x205 => S.bd (stv r198.2 1 x205 r198.1) fun s206 => some (0, [(r112.2.1.getD 0 undef)], s206)) (none)) (none)) (none)) (none)) (none)) (none)) (none)) (none)) (none)) (none)

def leapfrogref19x_Probe_Tell.t.p3 (S : Sig) (x165 : Value) (x167 : Value) (r112 : Cut) (x166 : Value) : Option Cut :=
  S.bd (S.gd x165 true (nck x167)) fun x168 => S.bd (S.gd x165 true (fld 0 x168)) fun x169 => S.bd (S.gd x165 true (fld 0 x169)) fun x170 => S.bd (S.gd x165 true (lda r112.2.2 5 x170)) fun x171 => S.bd (S.gd x165 true (eqb [1, 1, 1, 1, 1] true true x166 x171)) fun x172 => S.bd (pik x165 x172 (Go.Value.bool Bool.false)) fun x173 => S.cnd x173 (S.bd (nck (r112.2.1.getD 0 undef)) fun x174 => S.bd (fld 13 x174) fun x175 => S.bd (ldc r112.2.2 x175) fun x176 => S.bd (nck (r112.2.1.getD 0 undef)) fun x177 => S.bd (fld 0 x177) fun x178 => S.bd (fld 5 x178) fun x179 => S.bd (ldc r112.2.2 x179) fun x180 => S.bd (nck (r112.2.1.getD 0 undef)) fun x181 => S.bd (fld 6 x181) fun x182 => S.bd (ldc r112.2.2 x182) fun x183 => S.bd (idx r112.2.2 2 x180 x183) fun x184 => S.bd (lda r112.2.2 2 x184) fun x185 => S.bd (nck (r112.2.1.getD 0 undef)) fun x186 => S.bd (fld 8 x186) fun x187 => S.bd (lda r112.2.2 5 x187) fun x188 => S.bd (bld [(Go.Value.int Go.IntKind.i64 0), (Go.Value.int Go.IntKind.u64 0), (Go.Value.int Go.IntKind.i64 0), (Go.Value.int Go.IntKind.i64 0), (Go.Value.int Go.IntKind.i64 0), (Go.Value.int Go.IntKind.u64 0), (Go.Value.int Go.IntKind.i64 0), (Go.Value.int Go.IntKind.u64 0)] [(0, 2, x185), (2, 1, (Go.Value.int Go.IntKind.i64 2)), (3, 5, x188)]) fun x189 => S.bd (S.bd (bls 8 (List.replicate 1 [(Go.Value.int Go.IntKind.i64 0), (Go.Value.int Go.IntKind.u64 0), (Go.Value.int Go.IntKind.i64 0), (Go.Value.int Go.IntKind.i64 0), (Go.Value.int Go.IntKind.i64 0), (Go.Value.int Go.IntKind.u64 0), (Go.Value.int Go.IntKind.i64 0), (Go.Value.int Go.IntKind.u64 0)]) [(0, x189)]) fun rows => als r112.2.2 8 1 rows) fun _ => S.bd (S.bd (bls 8 (List.replicate 0 [(Go.Value.int Go.IntKind.i64 0), (Go.Value.int Go.IntKind.u64 0), (Go.Value.int Go.IntKind.i64 0), (Go.Value.int Go.IntKind.i64 0), (Go.Value.int Go.IntKind.i64 0), (Go.Value.int Go.IntKind.u64 0), (Go.Value.int Go.IntKind.i64 0), (Go.Value.int Go.IntKind.u64 0)]) []) fun rows => als r112.2.2 8 0 rows) fun r190 => leapfrogref19x_Probe_Tell.t.p2 S x189 r190 x176 x179 x180 x182 x183 x184 x185 x187 x188 r112) (some (0, [(r112.2.1.getD 0 undef)], r112.2.2))

def leapfrogref19x_Probe_Tell.t.p4 (S : Sig) (x17 : Value) (x19 : Value) (s : St) (c1 : List Value) (a0 : Value) : Option (Value × St) :=
  S.bd (S.gd x17 true (fld 0 x19)) fun x20 => S.bd (S.gd x17 true (fld 0 x20)) fun x21 => S.bd (S.gd x17 true (fld 1 x21)) fun x22 => S.bd (S.gd x17 true (lda s 2 x22)) fun x23 => S.bd (S.gd x17 true (lal c1 8 2)) fun x24 => S.bd (S.gd x17 true (leapfrogref02x_Less.r x23 x24 s)) fun x25 => S.bd (pik x17 x25 (Go.Value.bool Bool.false)) fun x26 => S.cnd x26 (S.bd (lal c1 7 5) fun x27 => S.bd (nck a0) fun x28 => S.bd (fld 8 x28) fun x29 => S.bd (stv s 5 x29 x27) fun s30 => S.bd (nck a0) fun x31 => S.bd (fld 7 x31) fun x32 => S.bd (stv s30 1 x32 (Go.Value.bool Bool.true)) fun s33 => some ((Value.tuple ⟨[]⟩), s33)) (S.bd (show Option Cut from S.bd (nck a0) fun x73 => S.bd (fld 7 x73) fun x74 => S.bd (ldc s x74) fun x75 => S.bd (S.gd x75 true (lcl c1 0)) fun x76 => S.bd (S.gd x75 true (eqb [1] false false x76 (Go.Value.int Go.IntKind.i64 3))) fun x77 => S.bd (pik x75 x77 (Go.Value.bool Bool.false)) fun x78 => S.cnd x78 (S.bd (nck a0) fun x79 => S.bd (fld 13 x79) fun x80 => S.bd (ldc s x80) fun x81 => S.bd (nck a0) fun x82 => S.bd (fld 0 x82) fun x83 => S.bd (fld 5 x83) fun x84 => S.bd (ldc s x84) fun x85 => S.bd (nck a0) fun x86 => S.bd (fld 6 x86) fun x87 => leapfrogref19x_Probe_Tell.t.p1 S s x87 x85 a0 x81 x84 c1) (some (0, [a0, (Value.agg ⟨c1⟩)], s))) fun r112 => S.bd (show Option Cut from S.bd (nck (r112.2.1.getD 0 undef)) fun x160 => S.bd (fld 7 x160) fun x161 => S.bd (ldc r112.2.2 x161) fun x162 => S.bd (S.gd x162 true (lcl (cellsA (r112.2.1.getD 1 undef)) 0)) fun x163 => S.bd (S.gd x162 true (eqb [1] false false x163 (Go.Value.int Go.IntKind.i64 1))) fun x164 => S.bd (pik x162 x164 (Go.Value.bool Bool.false)) fun x165 => S.bd (S.gd x165 true (lal (cellsA (r112.2.1.getD 1 undef)) 2 5)) fun x166 => S.bd (S.gd x165 true (some (r112.2.1.getD 0 undef))) fun x167 => leapfrogref19x_Probe_Tell.t.p3 S x165 x167 r112 x166) fun r207 => S.bd (nck (r207.2.1.getD 0 undef)) fun x208 => S.bd (fld 7 x208) fun x209 => S.bd (stv r207.2.2 1 x209 (Go.Value.bool Bool.false)) fun s210 => S.bd (nck (r207.2.1.getD 0 undef)) fun x211 => S.bd (fld 6 x211) fun x212 => S.bd (ldc s210 x212) fun x213 => S.bd (bin .add x213 (Go.Value.int Go.IntKind.i64 1)) fun x214 => S.bd (nck (r207.2.1.getD 0 undef)) fun x215 => S.bd (fld 6 x215) fun x216 => S.bd (stv s210 1 x216 x214) fun s217 => some ((Value.tuple ⟨[]⟩), s217))

def leapfrogref19x_Probe_Tell.t (S : Sig) (a0 a1 : Value) (s : St) : Option (Value × St) :=
  S.bd (bx a1) fun c1 => S.bd (nck a0) fun x2 => S.bd (fld 6 x2) fun x3 => S.bd (ldc s x3) fun x4 => S.bd (nck a0) fun x5 => S.bd (fld 0 x5) fun x6 => S.bd (fld 5 x6) fun x7 => S.bd (ldc s x7) fun x8 => S.bd (lenL x8) fun x9 => S.bd (bin .geq x4 x9) fun x10 => S.cnd x10 (some ((Value.tuple ⟨[]⟩), s)) (S.bd (nck a0) fun x11 => S.bd (fld 7 x11) fun x12 => S.bd (ldc s x12) fun x13 => S.bd (un .not x13) fun x14 => S.bd (S.gd x14 true (lcl c1 0)) fun x15 => S.bd (S.gd x14 true (eqb [1] false false x15 (Go.Value.int Go.IntKind.i64 1))) fun x16 => S.bd (pik x14 x16 (Go.Value.bool Bool.false)) fun x17 => S.bd (S.gd x17 true (some a0)) fun x18 => S.bd (S.gd x17 true (nck x18)) fun x19 => leapfrogref19x_Probe_Tell.t.p4 S x17 x19 s c1 a0)
def leapfrogref19x_Probe_Tell.v (a0 a1 : Value) (s : St) : Option (Value × St) := leapfrogref19x_Probe_Tell.t std a0 a1 s
def leapfrogref19x_Probe_Tell.w : List Value → St → Option (Value × St)
  | [a0, a1], s => leapfrogref19x_Probe_Tell.v a0 a1 s
  | _, _ => none
def leapfrogref19x_Probe_Tell.an : An := ⟨137, false, [3], [], [(6, ⟨[], [(.normal, [.v 0, .p 3 3 0, .l 3])]⟩), (8, ⟨[], [(.normal, [.v 0])]⟩)], [(1, [(0, 0, [], []), (1, 0, [], []), (2, 0, [], []), (3, 2, [], []), (4, 0, [], []), (5, 0, [], []), (6, 0, [], []), (7, 0, [], []), (8, 2, [], []), (9, 2, [], []), (10, 0, [], [])]), (2, [(0, 0, [], []), (1, 0, [], []), (2, 0, [], []), (3, 2, [], []), (4, 0, [], []), (5, 0, [], []), (6, 0, [], []), (7, 25, [], []), (8, 0, [], []), (9, 0, [], []), (10, 0, [], []), (11, 0, [], []), (12, 0, [], []), (13, 0, [], []), (14, 0, [], []), (15, 0, [], []), (16, 2, [], []), (17, 0, [], []), (18, 0, [], []), (19, 25, [], []), (20, 3, [], []), (21, 0, [], [])]), (5, [(0, 0, [], []), (2, 0, [], []), (3, 0, [], []), (4, 0, [], []), (5, 2, [], []), (7, 0, [], []), (8, 0, [], []), (9, 0, [], []), (10, 0, [], []), (11, 2, [], []), (12, 0, [], []), (13, 0, [], []), (14, 0, [], []), (15, 2, [], []), (16, 2, [], []), (17, 2, [], []), (18, 0, [], []), (19, 0, [], []), (20, 0, [], []), (21, 2, [], []), (22, 0, [], []), (1, 3, [], [23]), (6, 4, [11, 15, 16, 17, 21], [23]), (23, 3, [], []), (24, 4, [11, 15, 16, 17, 21], []), (25, 0, [], []), (26, 0, [], []), (27, 4, [], [])]), (6, [(0, 0, [], []), (1, 0, [], []), (2, 0, [], []), (3, 2, [], []), (4, 0, [], []), (5, 0, [], []), (6, 25, [], []), (7, 0, [], []), (8, 0, [], []), (9, 0, [], []), (10, 0, [], []), (11, 25, [], []), (12, 0, [], []), (13, 0, [], []), (14, 0, [], []), (15, 0, [], []), (16, 2, [], []), (17, 0, [], []), (18, 0, [], [])]), (7, [(0, 0, [], []), (2, 0, [], []), (3, 0, [], []), (4, 0, [], []), (5, 2, [], []), (7, 0, [], []), (8, 0, [], []), (9, 0, [], []), (10, 0, [], []), (11, 2, [], []), (12, 0, [], []), (13, 0, [], []), (14, 0, [], []), (15, 2, [], []), (16, 2, [], []), (17, 2, [], []), (18, 0, [], []), (19, 0, [], []), (20, 0, [], []), (21, 2, [], []), (22, 0, [], []), (1, 3, [], [23]), (6, 4, [11, 15, 16, 17, 21], [23]), (23, 3, [], []), (24, 4, [11, 15, 16, 17, 21], []), (25, 0, [], []), (26, 0, [], []), (27, 4, [], [])])], [], []⟩
theorem leapfrogref19x_Probe_Tell.ok (S : Sig) (a0 a1 : Value) (s : St) : evF S Try.prog leapfrogref19x_Probe_Tell.ctx leapfrogref19x_Probe_Tell.an Try.f21 [a0, a1] s = leapfrogref19x_Probe_Tell.t S a0 a1 s := by kernel_rfl
theorem leapfrogref19x_Probe_Tell.cok : CtxOk Try.prog leapfrogref19x_Probe_Tell.ctx := .cons leapfrogref02x_Less.sound leapfrogref02x_Less.can <| .nil
theorem leapfrogref19x_Probe_Tell.draws : fnDraws leapfrogref19x_Probe_Tell.an Try.f21 = true := by kernel_rfl
theorem leapfrogref19x_Probe_Tell.can : callOk Try.prog 21 = true := by kernel_rfl
theorem leapfrogref19x_Probe_Tell.sound : FnOk Try.prog 21 (.st leapfrogref19x_Probe_Tell.w) := FnOk.st_of (evF_ok leapfrogref19x_Probe_Tell.cok mixed (f := 21) (fn := Try.f21) (by kernel_rfl) leapfrogref19x_Probe_Tell.draws) fun args s r h => by
  unfold leapfrogref19x_Probe_Tell.w at h; split at h
  · rw [leapfrogref19x_Probe_Tell.ok std]; exact h
  · simp at h

/-! ### (*leapfrog/probe.Probe).Wake: function 22 -/
def probe_Probe_Wake.ctx : Ctx := []
def probe_Probe_Wake.t (S : Sig) (a0 : Value) (s : St) : Option Value :=
  some ((Value.tuple ⟨[]⟩))
def probe_Probe_Wake.r (a0 : Value) (s : St) : Option Value := probe_Probe_Wake.t std a0 s
def probe_Probe_Wake.w : List Value → St → Option Value
  | [a0], s => probe_Probe_Wake.r a0 s
  | _, _ => none
def probe_Probe_Wake.an : An := ⟨2, true, [], [], [], [], [], []⟩
theorem probe_Probe_Wake.ok (S : Sig) (a0 : Value) (s : St) : evG S Try.prog probe_Probe_Wake.ctx probe_Probe_Wake.an Try.f22 [a0] s = probe_Probe_Wake.t S a0 s := by kernel_rfl
theorem probe_Probe_Wake.cok : CtxOk Try.prog probe_Probe_Wake.ctx := .nil
theorem probe_Probe_Wake.draws : fnDraws probe_Probe_Wake.an Try.f22 = true := by kernel_rfl
theorem probe_Probe_Wake.can : callOk Try.prog 22 = true := by kernel_rfl
theorem probe_Probe_Wake.sound : FnOk Try.prog 22 (.rd probe_Probe_Wake.w) := FnOk.rd_of (evG_ok probe_Probe_Wake.cok mixed (f := 22) (fn := Try.f22) (by kernel_rfl) probe_Probe_Wake.draws) fun args s r h => by
  unfold probe_Probe_Wake.w at h; split at h
  · rw [probe_Probe_Wake.ok std]; exact h
  · simp at h

/-! ### (*leapfrog/leapfrogref19.Probe).Next: function 24 -/
def leapfrogref19x_Probe_Next.ctx : Ctx := []
def leapfrogref19x_Probe_Next.t.p1 (S : Sig) (a0 : Value) (s : St) (c1 : List Value) : Option Value :=
  S.bd (nck a0) fun x11 => S.bd (fld 13 x11) fun x12 => S.bd (ldc s x12) fun x13 => S.bd (lenL x13) fun x14 => S.bd (bin .gtr x14 (Go.Value.int Go.IntKind.i64 0)) fun x15 => S.bd (bld [(Go.Value.int Go.IntKind.i64 0), (Go.Value.int Go.IntKind.u64 0), (Go.Value.slice Option.none 0 0), (Go.Value.slice Option.none 0 0), (Go.Value.int Go.IntKind.i64 0), (Go.Value.int Go.IntKind.i64 0), (Go.Value.int Go.IntKind.u64 0), (Go.Value.int Go.IntKind.i64 0), (Go.Value.int Go.IntKind.u64 0), (Go.Value.int Go.IntKind.i64 0), (Go.Value.int Go.IntKind.i64 0), (Go.Value.int Go.IntKind.u64 0), (Go.Value.int Go.IntKind.i64 0), (Go.Value.int Go.IntKind.u64 0), (Go.Value.bool Bool.false)] [(14, 1, x15)]) fun x16 => S.bd (bld [(Go.Value.int Go.IntKind.i64 0), (Go.Value.int Go.IntKind.i64 0), (Go.Value.int Go.IntKind.i64 0), (Go.Value.int Go.IntKind.u64 0), (Go.Value.int Go.IntKind.i64 0), (Go.Value.int Go.IntKind.u64 0), (Go.Value.int Go.IntKind.i64 0), (Go.Value.int Go.IntKind.i64 0), (Go.Value.int Go.IntKind.u64 0), (Go.Value.int Go.IntKind.i64 0), (Go.Value.int Go.IntKind.i64 0), (Go.Value.int Go.IntKind.u64 0), (Go.Value.int Go.IntKind.i64 0), (Go.Value.int Go.IntKind.u64 0), (Go.Value.int Go.IntKind.i64 0), (Go.Value.int Go.IntKind.i64 0), (Go.Value.int Go.IntKind.u64 0), (Go.Value.int Go.IntKind.i64 0), (Go.Value.int Go.IntKind.u64 0), (Go.Value.int Go.IntKind.i64 0), (Go.Value.int Go.IntKind.i64 0), (Go.Value.int Go.IntKind.i64 0), (Go.Value.int Go.IntKind.u64 0), (Go.Value.slice Option.none 0 0), (Go.Value.slice Option.none 0 0), (Go.Value.int Go.IntKind.i64 0), (Go.Value.int Go.IntKind.i64 0), (Go.Value.int Go.IntKind.u64 0), (Go.Value.int Go.IntKind.i64 0), (Go.Value.int Go.IntKind.u64 0), (Go.Value.int Go.IntKind.i64 0), (Go.Value.int Go.IntKind.i64 0), (Go.Value.int Go.IntKind.u64 0), (Go.Value.int Go.IntKind.i64 0), (Go.Value.int Go.IntKind.u64 0), (Go.Value.bool Bool.false)] [(0, 1, (Go.Value.int Go.IntKind.i64 3)), (21, 15, x16)]) fun x17 => S.bd (stl c1 0 36 x17) fun c18 => S.bd (lal c18 0 36) fun x19 => some (x19)

def leapfrogref19x_Probe_Next.t.p2 (S : Sig) (x28 : Value) (s : St) (x27 : Value) (x23 : Value) (a0 : Value) (c1 : List Value) : Option Value :=
  S.bd (fld 6 x28) fun x29 => S.bd (ldc s x29) fun x30 => S.bd (idx s 2 x27 x30) fun x31 => S.bd (lda s 2 x31) fun x32 => S.bd (bld [(Go.Value.int Go.IntKind.i64 0), (Go.Value.int Go.IntKind.i64 0), (Go.Value.int Go.IntKind.u64 0), (Go.Value.int Go.IntKind.i64 0), (Go.Value.int Go.IntKind.i64 0), (Go.Value.int Go.IntKind.u64 0), (Go.Value.int Go.IntKind.i64 0), (Go.Value.int Go.IntKind.u64 0), (Go.Value.int Go.IntKind.i64 0), (Go.Value.int Go.IntKind.i64 0), (Go.Value.int Go.IntKind.u64 0), (Go.Value.int Go.IntKind.i64 0), (Go.Value.int Go.IntKind.u64 0), (Go.Value.int Go.IntKind.i64 0), (Go.Value.int Go.IntKind.i64 0)] [(0, 1, (Go.Value.int Go.IntKind.i64 1)), (1, 2, x32)]) fun x33 => S.bd (bld [(Go.Value.int Go.IntKind.i64 0), (Go.Value.int Go.IntKind.i64 0), (Go.Value.int Go.IntKind.i64 0), (Go.Value.int Go.IntKind.u64 0), (Go.Value.int Go.IntKind.i64 0), (Go.Value.int Go.IntKind.u64 0), (Go.Value.int Go.IntKind.i64 0), (Go.Value.int Go.IntKind.i64 0), (Go.Value.int Go.IntKind.u64 0), (Go.Value.int Go.IntKind.i64 0), (Go.Value.int Go.IntKind.i64 0), (Go.Value.int Go.IntKind.u64 0), (Go.Value.int Go.IntKind.i64 0), (Go.Value.int Go.IntKind.u64 0), (Go.Value.int Go.IntKind.i64 0), (Go.Value.int Go.IntKind.i64 0), (Go.Value.int Go.IntKind.u64 0), (Go.Value.int Go.IntKind.i64 0), (Go.Value.int Go.IntKind.u64 0), (Go.Value.int Go.IntKind.i64 0), (Go.Value.int Go.IntKind.i64 0), (Go.Value.int Go.IntKind.i64 0), (Go.Value.int Go.IntKind.u64 0), (Go.Value.slice Option.none 0 0), (Go.Value.slice Option.none 0 0), (Go.Value.int Go.IntKind.i64 0), (Go.Value.int Go.IntKind.i64 0), (Go.Value.int Go.IntKind.u64 0), (Go.Value.int Go.IntKind.i64 0), (Go.Value.int Go.IntKind.u64 0), (Go.Value.int Go.IntKind.i64 0), (Go.Value.int Go.IntKind.i64 0), (Go.Value.int Go.IntKind.u64 0), (Go.Value.int Go.IntKind.i64 0), (Go.Value.int Go.IntKind.u64 0), (Go.Value.bool Bool.false)] [(0, 1, (Go.Value.int Go.IntKind.i64 1)), (1, 5, x23), (6, 15, x33)]) fun x34 => S.bd (bx (Go.Value.agg #[(Go.Value.int Go.IntKind.i64 0), (Go.Value.int Go.IntKind.i64 0), (Go.Value.int Go.IntKind.i64 0), (Go.Value.int Go.IntKind.u64 0), (Go.Value.int Go.IntKind.i64 0), (Go.Value.int Go.IntKind.u64 0), (Go.Value.int Go.IntKind.i64 0), (Go.Value.int Go.IntKind.i64 0), (Go.Value.int Go.IntKind.u64 0), (Go.Value.int Go.IntKind.i64 0), (Go.Value.int Go.IntKind.i64 0), (Go.Value.int Go.IntKind.u64 0), (Go.Value.int Go.IntKind.i64 0), (Go.Value.int Go.IntKind.u64 0), (Go.Value.int Go.IntKind.i64 0), (Go.Value.int Go.IntKind.i64 0), (Go.Value.int Go.IntKind.u64 0), (Go.Value.int Go.IntKind.i64 0), (Go.Value.int Go.IntKind.u64 0), (Go.Value.int Go.IntKind.i64 0), (Go.Value.int Go.IntKind.i64 0), (Go.Value.int Go.IntKind.i64 0), (Go.Value.int Go.IntKind.u64 0), (Go.Value.slice Option.none 0 0), (Go.Value.slice Option.none 0 0), (Go.Value.int Go.IntKind.i64 0), (Go.Value.int Go.IntKind.i64 0), (Go.Value.int Go.IntKind.u64 0), (Go.Value.int Go.IntKind.i64 0), (Go.Value.int Go.IntKind.u64 0), (Go.Value.int Go.IntKind.i64 0), (Go.Value.int Go.IntKind.i64 0), (Go.Value.int Go.IntKind.u64 0), (Go.Value.int Go.IntKind.i64 0), (Go.Value.int Go.IntKind.u64 0), (Go.Value.bool Bool.false)])) fun c35 => S.bd (stl c35 0 36 x34) fun c36 => S.bd (nck a0) fun x37 => S.bd (fld 7 x37) fun x38 => S.bd (ldc s x38) fun x39 => S.cnd x39 (S.bd (nck a0) fun x40 => S.bd (fld 8 x40) fun x41 => S.bd (lda s 5 x41) fun x42 => S.bd (stl c36 1 5 x42) fun c43 => S.bd (lal c43 0 36) fun x44 => S.bd (stl c1 0 36 x44) fun c45 => S.bd (lal c45 0 36) fun x46 => some (x46)) (S.bd (lal c36 0 36) fun x47 => S.bd (stl c1 0 36 x47) fun c48 => S.bd (lal c48 0 36) fun x49 => some (x49))

def leapfrogref19x_Probe_Next.t (S : Sig) (a0 : Value) (s : St) : Option Value :=
  S.bd (bx (Go.Value.agg #[(Go.Value.int Go.IntKind.i64 0), (Go.Value.int Go.IntKind.i64 0), (Go.Value.int Go.IntKind.i64 0), (Go.Value.int Go.IntKind.u64 0), (Go.Value.int Go.IntKind.i64 0), (Go.Value.int Go.IntKind.u64 0), (Go.Value.int Go.IntKind.i64 0), (Go.Value.int Go.IntKind.i64 0), (Go.Value.int Go.IntKind.u64 0), (Go.Value.int Go.IntKind.i64 0), (Go.Value.int Go.IntKind.i64 0), (Go.Value.int Go.IntKind.u64 0), (Go.Value.int Go.IntKind.i64 0), (Go.Value.int Go.IntKind.u64 0), (Go.Value.int Go.IntKind.i64 0), (Go.Value.int Go.IntKind.i64 0), (Go.Value.int Go.IntKind.u64 0), (Go.Value.int Go.IntKind.i64 0), (Go.Value.int Go.IntKind.u64 0), (Go.Value.int Go.IntKind.i64 0), (Go.Value.int Go.IntKind.i64 0), (Go.Value.int Go.IntKind.i64 0), (Go.Value.int Go.IntKind.u64 0), (Go.Value.slice Option.none 0 0), (Go.Value.slice Option.none 0 0), (Go.Value.int Go.IntKind.i64 0), (Go.Value.int Go.IntKind.i64 0), (Go.Value.int Go.IntKind.u64 0), (Go.Value.int Go.IntKind.i64 0), (Go.Value.int Go.IntKind.u64 0), (Go.Value.int Go.IntKind.i64 0), (Go.Value.int Go.IntKind.i64 0), (Go.Value.int Go.IntKind.u64 0), (Go.Value.int Go.IntKind.i64 0), (Go.Value.int Go.IntKind.u64 0), (Go.Value.bool Bool.false)])) fun c1 => S.bd (nck a0) fun x2 => S.bd (fld 6 x2) fun x3 => S.bd (ldc s x3) fun x4 => S.bd (nck a0) fun x5 => S.bd (fld 0 x5) fun x6 => S.bd (fld 5 x6) fun x7 => S.bd (ldc s x7) fun x8 => S.bd (lenL x8) fun x9 => S.bd (bin .geq x4 x9) fun x10 => S.cnd x10 (leapfrogref19x_Probe_Next.t.p1 S a0 s c1) (S.bd (nck a0) fun x20 => S.bd (fld 0 x20) fun x21 => S.bd (fld 0 x21) fun x22 => S.bd (lda s 5 x22) fun x23 => S.bd (nck a0) fun x24 => S.bd (fld 0 x24) fun x25 => S.bd (fld 5 x25) fun x26 => S.bd (ldc s x26) fun x27 => S.bd (nck a0) fun x28 => leapfrogref19x_Probe_Next.t.p2 S x28 s x27 x23 a0 c1)
def leapfrogref19x_Probe_Next.r (a0 : Value) (s : St) : Option Value := leapfrogref19x_Probe_Next.t std a0 s
def leapfrogref19x_Probe_Next.w : List Value → St → Option Value
  | [a0], s => leapfrogref19x_Probe_Next.r a0 s
  | _, _ => none
def leapfrogref19x_Probe_Next.an : An := ⟨51, true, [2, 3], [], [], [(1, [(0, 0, [], []), (1, 0, [], []), (2, 0, [], []), (3, 2, [], []), (4, 0, [], []), (5, 0, [], []), (6, 0, [], []), (7, 0, [], []), (8, 2, [], []), (9, 2, [], []), (10, 0, [], [])]), (3, [(0, 0, [], []), (1, 0, [], []), (2, 0, [], []), (3, 0, [], []), (4, 2, [], []), (5, 0, [], []), (6, 0, [], []), (7, 0, [], []), (8, 0, [], []), (9, 2, [], []), (10, 0, [], []), (11, 0, [], []), (12, 0, [], []), (13, 2, [], []), (14, 2, [], []), (15, 2, [], []), (16, 0, [], []), (17, 0, [], []), (18, 6, [], []), (19, 29, [], [])])], [], []⟩
theorem leapfrogref19x_Probe_Next.ok (S : Sig) (a0 : Value) (s : St) : evG S Try.prog leapfrogref19x_Probe_Next.ctx leapfrogref19x_Probe_Next.an Try.f24 [a0] s = leapfrogref19x_Probe_Next.t S a0 s := by kernel_rfl
theorem leapfrogref19x_Probe_Next.cok : CtxOk Try.prog leapfrogref19x_Probe_Next.ctx := .nil
theorem leapfrogref19x_Probe_Next.draws : fnDraws leapfrogref19x_Probe_Next.an Try.f24 = true := by kernel_rfl
theorem leapfrogref19x_Probe_Next.can : callOk Try.prog 24 = true := by kernel_rfl
theorem leapfrogref19x_Probe_Next.sound : FnOk Try.prog 24 (.rd leapfrogref19x_Probe_Next.w) := FnOk.rd_of (evG_ok leapfrogref19x_Probe_Next.cok mixed (f := 24) (fn := Try.f24) (by kernel_rfl) leapfrogref19x_Probe_Next.draws) fun args s r h => by
  unfold leapfrogref19x_Probe_Next.w at h; split at h
  · rw [leapfrogref19x_Probe_Next.ok std]; exact h
  · simp at h

/-! ### leapfrog/leapfrogref12.SameResult: function 43 -/
def leapfrogref12x_SameResult.ctx : Ctx := []
def leapfrogref12x_SameResult.l4 (S : Sig) (rec63 : List Value → St → Option Cut) (xs61 : List Value) (s62 : St) : Option Cut :=
  S.bd (lcl (cellsA (xs61.getD 1 undef)) 3) fun x64 => S.bd (lenL x64) fun x65 => S.bd (bin .lss (xs61.getD 0 undef) x65) fun x66 => S.cnd x66 (S.bd (lcl (cellsA (xs61.getD 1 undef)) 3) fun x67 => S.bd (idx s62 2 x67 (xs61.getD 0 undef)) fun x68 => S.bd (fld 0 x68) fun x69 => S.bd (ldc s62 x69) fun x70 => S.bd (lcl (cellsA (xs61.getD 2 undef)) 3) fun x71 => S.bd (idx s62 2 x71 (xs61.getD 0 undef)) fun x72 => S.bd (fld 0 x72) fun x73 => S.bd (ldc s62 x73) fun x74 => S.bd (eqb [1] false true x70 x74) fun x75 => S.bd (S.gd x75 false (lcl (cellsA (xs61.getD 1 undef)) 3)) fun x76 => S.bd (S.gd x75 false (some (xs61.getD 0 undef))) fun x77 => S.bd (S.gd x75 false (idx s62 2 x76 x77)) fun x78 => S.bd (S.gd x75 false (fld 1 x78)) fun x79 => S.bd (S.gd x75 false (ldc s62 x79)) fun x80 => S.bd (S.gd x75 false (b2s s62 x80)) fun x81 => S.bd (S.gd x75 false (lcl (cellsA (xs61.getD 2 undef)) 3)) fun x82 => S.bd (S.gd x75 false (some (xs61.getD 0 undef))) fun x83 => S.bd (S.gd x75 false (idx s62 2 x82 x83)) fun x84 => S.bd (S.gd x75 false (fld 1 x84)) fun x85 => S.bd (S.gd x75 false (ldc s62 x85)) fun x86 => S.bd (S.gd x75 false (b2s s62 x86)) fun x87 => S.bd (S.gd x75 false (eqb [2] false true x81 x87)) fun x88 => S.bd (pik x75 (Go.Value.bool Bool.true) x88) fun x89 => S.cnd x89 (some (1, [(Go.Value.bool Bool.false)], s62)) (S.bd (bin .add (xs61.getD 0 undef) (Go.Value.int Go.IntKind.i64 1)) fun x90 => rec63 [x90, (Value.agg ⟨(cellsA (xs61.getD 1 undef))⟩), (Value.agg ⟨(cellsA (xs61.getD 2 undef))⟩)] s62)) (some (0, [], s62))

def leapfrogref12x_SameResult.t (S : Sig) (a0 a1 : Value) (s : St) : Option Value :=
  S.bd (bx a0) fun c1 => S.bd (bx a1) fun c2 => S.bd (lcl c1 0) fun x3 => S.bd (lcl c2 0) fun x4 => S.bd (eqb [1] false true x3 x4) fun x5 => S.bd (S.gd x5 false (lcl c1 1)) fun x6 => S.bd (S.gd x5 false (lcl c2 1)) fun x7 => S.bd (S.gd x5 false (eqb [1] false true x6 x7)) fun x8 => S.bd (pik x5 (Go.Value.bool Bool.true) x8) fun x9 => S.bd (S.gd x9 false (lcl c1 2)) fun x10 => S.bd (S.gd x9 false (b2s s x10)) fun x11 => S.bd (S.gd x9 false (lcl c2 2)) fun x12 => S.bd (S.gd x9 false (b2s s x12)) fun x13 => S.bd (S.gd x9 false (eqb [2] false true x11 x13)) fun x14 => S.bd (pik x9 (Go.Value.bool Bool.true) x14) fun x15 => S.bd (S.gd x15 false (lcl c1 3)) fun x16 => S.bd (S.gd x15 false (lenL x16)) fun x17 => S.bd (S.gd x15 false (lcl c2 3)) fun x18 => S.bd (S.gd x15 false (lenL x18)) fun x19 => S.bd (S.gd x15 false (eqb [1] false true x17 x19)) fun x20 => S.bd (pik x15 (Go.Value.bool Bool.true) x20) fun x21 => S.bd (S.gd x21 false (lal c1 4 5)) fun x22 => S.bd (S.gd x21 false (lal c2 4 5)) fun x23 => S.bd (S.gd x21 false (eqb [1, 1, 1, 1, 1] true true x22 x23)) fun x24 => S.bd (pik x21 (Go.Value.bool Bool.true) x24) fun x25 => S.bd (S.gd x25 false (lal c1 9 5)) fun x26 => S.bd (S.gd x25 false (lal c2 9 5)) fun x27 => S.bd (S.gd x25 false (eqb [1, 1, 1, 1, 1] true true x26 x27)) fun x28 => S.bd (pik x25 (Go.Value.bool Bool.true) x28) fun x29 => S.bd (S.gd x29 false (lcl c1 14)) fun x30 => S.bd (S.gd x29 false (lcl c2 14)) fun x31 => S.bd (S.gd x29 false (eqb [0] false true x30 x31)) fun x32 => S.bd (pik x29 (Go.Value.bool Bool.true) x32) fun x33 => S.cnd x33 (some ((Go.Value.bool Bool.false))) (S.bd (S.it (leapfrogref12x_SameResult.l4 S) [(Go.Value.int Go.IntKind.i64 0), (Value.agg ⟨c1⟩), (Value.agg ⟨c2⟩)] s) fun r91 => if r91.1 = 0 then (some ((Go.Value.bool Bool.true))) else (some ((r91.2.1.getD 0 undef))))
def leapfrogref12x_SameResult.r (a0 a1 : Value) (s : St) : Option Value := leapfrogref12x_SameResult.t std a0 a1 s
def leapfrogref12x_SameResult.w : List Value → St → Option Value
  | [a0, a1], s => leapfrogref12x_SameResult.r a0 a1 s
  | _, _ => none
def leapfrogref12x_SameResult.an : An := ⟨94, true, [2, 3], [(4, ⟨[.p 2 2 0, .p 3 3 0, .v 5, .l 2, .l 3], [(.exit 0, []), (.ret, [.v 4])]⟩)], [], [(6, [(0, 0, [], []), (1, 17, [], []), (2, 0, [], []), (3, 2, [], []), (4, 0, [], []), (5, 2, [], []), (6, 0, [], []), (7, 25, [], []), (8, 0, [], []), (9, 2, [], []), (10, 0, [], []), (11, 2, [], []), (12, 0, [], []), (13, 0, [], []), (14, 0, [], []), (15, 17, [], []), (16, 0, [], []), (17, 2, [], []), (18, 0, [], []), (19, 2, [], []), (20, 2, [], []), (21, 0, [], []), (22, 25, [], []), (23, 0, [], []), (24, 2, [], []), (25, 0, [], []), (26, 2, [], []), (27, 2, [], []), (28, 0, [], []), (29, 0, [], [])])], [], []⟩
theorem leapfrogref12x_SameResult.ok (S : Sig) (a0 a1 : Value) (s : St) : evG S Try.prog leapfrogref12x_SameResult.ctx leapfrogref12x_SameResult.an Try.f43 [a0, a1] s = leapfrogref12x_SameResult.t S a0 a1 s := by kernel_rfl
theorem leapfrogref12x_SameResult.cok : CtxOk Try.prog leapfrogref12x_SameResult.ctx := .nil
theorem leapfrogref12x_SameResult.draws : fnDraws leapfrogref12x_SameResult.an Try.f43 = true := by kernel_rfl
theorem leapfrogref12x_SameResult.can : callOk Try.prog 43 = true := by kernel_rfl
theorem leapfrogref12x_SameResult.sound : FnOk Try.prog 43 (.rd leapfrogref12x_SameResult.w) := FnOk.rd_of (evG_ok leapfrogref12x_SameResult.cok mixed (f := 43) (fn := Try.f43) (by kernel_rfl) leapfrogref12x_SameResult.draws) fun args s r h => by
  unfold leapfrogref12x_SameResult.w at h; split at h
  · rw [leapfrogref12x_SameResult.ok std]; exact h
  · simp at h

/-! ### leapfrog/leapfrogref12.SameStep: function 23 -/
def leapfrogref12x_SameStep.ctx : Ctx := [(43, .rd leapfrogref12x_SameResult.w)]
def leapfrogref12x_SameStep.t (S : Sig) (a0 a1 : Value) (s : St) : Option Value :=
  S.bd (bx a0) fun c1 => S.bd (bx a1) fun c2 => S.bd (lcl c1 0) fun x3 => S.bd (lcl c2 0) fun x4 => S.bd (eqb [1] false false x3 x4) fun x5 => S.bd (S.gd x5 true (lal c1 1 5)) fun x6 => S.bd (S.gd x5 true (lal c2 1 5)) fun x7 => S.bd (S.gd x5 true (eqb [1, 1, 1, 1, 1] true false x6 x7)) fun x8 => S.bd (pik x5 x8 (Go.Value.bool Bool.false)) fun x9 => S.bd (S.gd x9 true (lal c1 6 15)) fun x10 => S.bd (S.gd x9 true (lal c2 6 15)) fun x11 => S.bd (S.gd x9 true (eqb [1, 1, 1, 1, 1, 1, 1, 1, 1, 1, 1, 1, 1, 1, 1] true false x10 x11)) fun x12 => S.bd (pik x9 x12 (Go.Value.bool Bool.false)) fun x13 => S.bd (S.gd x13 true (lal c1 21 15)) fun x14 => S.bd (S.gd x13 true (lal c2 21 15)) fun x15 => S.bd (S.gd x13 true (leapfrogref12x_SameResult.r x14 x15 s)) fun x16 => S.bd (pik x13 x16 (Go.Value.bool Bool.false)) fun x17 => some (x17)
def leapfrogref12x_SameStep.r (a0 a1 : Value) (s : St) : Option Value := leapfrogref12x_SameStep.t std a0 a1 s
def leapfrogref12x_SameStep.w : List Value → St → Option Value
  | [a0, a1], s => leapfrogref12x_SameStep.r a0 a1 s
  | _, _ => none
def leapfrogref12x_SameStep.an : An := ⟨31, true, [2, 3], [], [], [], [], []⟩
theorem leapfrogref12x_SameStep.ok (S : Sig) (a0 a1 : Value) (s : St) : evG S Try.prog leapfrogref12x_SameStep.ctx leapfrogref12x_SameStep.an Try.f23 [a0, a1] s = leapfrogref12x_SameStep.t S a0 a1 s := by kernel_rfl
theorem leapfrogref12x_SameStep.cok : CtxOk Try.prog leapfrogref12x_SameStep.ctx := .cons leapfrogref12x_SameResult.sound leapfrogref12x_SameResult.can <| .nil
theorem leapfrogref12x_SameStep.draws : fnDraws leapfrogref12x_SameStep.an Try.f23 = true := by kernel_rfl
theorem leapfrogref12x_SameStep.can : callOk Try.prog 23 = true := by kernel_rfl
theorem leapfrogref12x_SameStep.sound : FnOk Try.prog 23 (.rd leapfrogref12x_SameStep.w) := FnOk.rd_of (evG_ok leapfrogref12x_SameStep.cok mixed (f := 23) (fn := Try.f23) (by kernel_rfl) leapfrogref12x_SameStep.draws) fun args s r h => by
  unfold leapfrogref12x_SameStep.w at h; split at h
  · rw [leapfrogref12x_SameStep.ok std]; exact h
  · simp at h


end
end Go.Proofs.Ytogcfnhbacglfaa
