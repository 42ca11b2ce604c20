/-
  What the functions answer that UnspliceFrees, UnspliceRuns, UnspliceOut reaches (part 0): for each function of the program a plain function over abstract values, and that the model answers as it does.
-/
import Derived.Test.YtkkgegocliobpaaSimZ
import Derived.Test.YtkkgegocliobpaaProg
import Derived.KernelRfl
set_option linter.unusedVariables false
set_option maxRecDepth 100000
namespace Go.Proofs.Ytkkgegocliobpaa
open Go.Sim
noncomputable section
theorem mixed : Try.prog.follows .mixedOrders = true := by kernel_rfl
/-! ### leapfrog/leapfrogref02.At: function 27 -/
def leapfrogref02x_At.ctx : Ctx := []
def leapfrogref02x_At.t (S : Sig) (a0 : Value) (s : St) : Option Value :=
  S.bd (bx (Go.Value.agg #[(Go.Value.int Go.IntKind.i64 0), (Go.Value.int Go.IntKind.u64 0)])) fun c1 => S.bd (bld [(Go.Value.int Go.IntKind.i64 0), (Go.Value.int Go.IntKind.u64 0)] [(0, 1, (Go.Value.int Go.IntKind.i64 2)), (1, 1, a0)]) fun x2 => S.bd (stl c1 0 2 x2) fun c3 => S.bd (lal c3 0 2) fun x4 => some (x4)
def leapfrogref02x_At.r (a0 : Value) (s : St) : Option Value := leapfrogref02x_At.t std a0 s
def leapfrogref02x_At.w : List Value → St → Option Value
  | [a0], s => leapfrogref02x_At.r a0 s
  | _, _ => none
def leapfrogref02x_At.an : An := ⟨5, true, [2], [], [], []⟩
theorem leapfrogref02x_At.ok (S : Sig) (a0 : Value) (s : St) : evG S Try.prog leapfrogref02x_At.ctx leapfrogref02x_At.an Try.f27 [a0] s = leapfrogref02x_At.t S a0 s := by kernel_rfl
theorem leapfrogref02x_At.cok : CtxOk Try.prog leapfrogref02x_At.ctx := .nil
theorem leapfrogref02x_At.draws : fnDraws leapfrogref02x_At.an Try.f27 = true := by kernel_rfl
theorem leapfrogref02x_At.can : callOk Try.prog 27 = true := by kernel_rfl
theorem leapfrogref02x_At.sound : FnOk Try.prog 27 (.rd leapfrogref02x_At.w) := FnOk.rd_of (evG_ok leapfrogref02x_At.cok mixed (f := 27) (fn := Try.f27) (by kernel_rfl) leapfrogref02x_At.draws) fun args s r h => by
  unfold leapfrogref02x_At.w at h; split at h
  · rw [leapfrogref02x_At.ok std]; exact h
  · simp at h

/-! ### leapfrog/leapfroglaw14.One: function 26 -/
def leapfroglaw14x_One.ctx : Ctx := [(27, .rd leapfrogref02x_At.w)]
def leapfroglaw14x_One.t (S : Sig) (a0 : Value) (s : St) : Option Value :=
  S.bd (bx (Go.Value.agg #[(Go.Value.int Go.IntKind.i64 0), (Go.Value.int Go.IntKind.i64 0), (Go.Value.int Go.IntKind.u64 0), (Go.Value.int Go.IntKind.i64 0), (Go.Value.int Go.IntKind.u64 0)])) fun c1 => S.bd (cvi .u64 a0) fun x2 => S.bd (leapfrogref02x_At.r x2 s) fun x3 => S.bd (bld [(Go.Value.int Go.IntKind.i64 0), (Go.Value.int Go.IntKind.i64 0), (Go.Value.int Go.IntKind.u64 0), (Go.Value.int Go.IntKind.i64 0), (Go.Value.int Go.IntKind.u64 0)] [(0, 1, a0), (1, 2, x3)]) fun x4 => S.bd (stl c1 0 5 x4) fun c5 => S.bd (lal c5 0 5) fun x6 => some (x6)
def leapfroglaw14x_One.r (a0 : Value) (s : St) : Option Value := leapfroglaw14x_One.t std a0 s
def leapfroglaw14x_One.w : List Value → St → Option Value
  | [a0], s => leapfroglaw14x_One.r a0 s
  | _, _ => none
def leapfroglaw14x_One.an : An := ⟨8, true, [2], [], [], []⟩
theorem leapfroglaw14x_One.ok (S : Sig) (a0 : Value) (s : St) : evG S Try.prog leapfroglaw14x_One.ctx leapfroglaw14x_One.an Try.f26 [a0] s = leapfroglaw14x_One.t S a0 s := by kernel_rfl
theorem leapfroglaw14x_One.cok : CtxOk Try.prog leapfroglaw14x_One.ctx := .cons leapfrogref02x_At.sound leapfrogref02x_At.can <| .nil
theorem leapfroglaw14x_One.draws : fnDraws leapfroglaw14x_One.an Try.f26 = true := by kernel_rfl
theorem leapfroglaw14x_One.can : callOk Try.prog 26 = true := by kernel_rfl
theorem leapfroglaw14x_One.sound : FnOk Try.prog 26 (.rd leapfroglaw14x_One.w) := FnOk.rd_of (evG_ok leapfroglaw14x_One.cok mixed (f := 26) (fn := Try.f26) (by kernel_rfl) leapfroglaw14x_One.draws) fun args s r h => by
  unfold leapfroglaw14x_One.w at h; split at h
  · rw [leapfroglaw14x_One.ok std]; exact h
  · simp at h

/-! ### leapfrog/leapfroglaw14.Owner: function 10 -/
def leapfroglaw14x_Owner.ctx : Ctx := []
def leapfroglaw14x_Owner.t (S : Sig) (s : St) : Option Value :=
  S.bd (bx (Go.Value.agg #[(Go.Value.int Go.IntKind.i64 0), (Go.Value.int Go.IntKind.i64 0)])) fun c1 => S.bd (bld [(Go.Value.int Go.IntKind.i64 0), (Go.Value.int Go.IntKind.i64 0)] [(0, 1, (Go.Value.int Go.IntKind.i64 1)), (1, 1, (Go.Value.int Go.IntKind.i64 1))]) fun x2 => S.bd (stl c1 0 2 x2) fun c3 => S.bd (lal c3 0 2) fun x4 => some (x4)
def leapfroglaw14x_Owner.r (s : St) : Option Value := leapfroglaw14x_Owner.t std  s
def leapfroglaw14x_Owner.w : List Value → St → Option Value
  | [], s => leapfroglaw14x_Owner.r  s
  | _, _ => none
def leapfroglaw14x_Owner.an : An := ⟨2, true, [0], [], [], []⟩
theorem leapfroglaw14x_Owner.ok (S : Sig) (s : St) : evG S Try.prog leapfroglaw14x_Owner.ctx leapfroglaw14x_Owner.an Try.f10 [] s = leapfroglaw14x_Owner.t S  s := by kernel_rfl
theorem leapfroglaw14x_Owner.cok : CtxOk Try.prog leapfroglaw14x_Owner.ctx := .nil
theorem leapfroglaw14x_Owner.draws : fnDraws leapfroglaw14x_Owner.an Try.f10 = true := by kernel_rfl
theorem leapfroglaw14x_Owner.can : callOk Try.prog 10 = true := by kernel_rfl
theorem leapfroglaw14x_Owner.sound : FnOk Try.prog 10 (.rd leapfroglaw14x_Owner.w) := FnOk.rd_of (evG_ok leapfroglaw14x_Owner.cok mixed (f := 10) (fn := Try.f10) (by kernel_rfl) leapfroglaw14x_Owner.draws) fun args s r h => by
  unfold leapfroglaw14x_Owner.w at h; split at h
  · rw [leapfroglaw14x_Owner.ok std]; exact h
  · simp at h

/-! ### leapfrog/vec.low: function 65 -/
def vec_low.ctx : Ctx := []
def vec_low.t (S : Sig) (a0 : Value) (s : St) : Option Value :=
  S.bd (cvi .u64 a0) fun x1 => S.bd (bin .shl (Go.Value.int Go.IntKind.u64 1) x1) fun x2 => S.bd (bin .sub x2 (Go.Value.int Go.IntKind.u64 1)) fun x3 => some (x3)
def vec_low.r (a0 : Value) (s : St) : Option Value := vec_low.t std a0 s
def vec_low.w : List Value → St → Option Value
  | [a0], s => vec_low.r a0 s
  | _, _ => none
def vec_low.an : An := ⟨7, true, [], [], [], []⟩
theorem vec_low.ok (S : Sig) (a0 : Value) (s : St) : evG S Try.prog vec_low.ctx vec_low.an Try.f65 [a0] s = vec_low.t S a0 s := by kernel_rfl
theorem vec_low.cok : CtxOk Try.prog vec_low.ctx := .nil
theorem vec_low.draws : fnDraws vec_low.an Try.f65 = true := by kernel_rfl
theorem vec_low.can : callOk Try.prog 65 = true := by kernel_rfl
theorem vec_low.sound : FnOk Try.prog 65 (.rd vec_low.w) := FnOk.rd_of (evG_ok vec_low.cok mixed (f := 65) (fn := Try.f65) (by kernel_rfl) vec_low.draws) fun args s r h => by
  unfold vec_low.w at h; split at h
  · rw [vec_low.ok std]; exact h
  · simp at h

/-! ### leapfrog/vec.Right: function 33 -/
def vec_Right.ctx : Ctx := [(65, .rd vec_low.w)]
def vec_Right.t (S : Sig) (a0 : Value) (s : St) : Option Value :=
  S.bd (bx a0) fun c1 => S.bd (lcl c1 0) fun x2 => S.bd (bin .lss x2 (Go.Value.int Go.IntKind.i64 0)) fun x3 => S.bd (S.gd x3 false (lcl c1 0)) fun x4 => S.bd (S.gd x3 false (bin .gtr x4 (Go.Value.int Go.IntKind.i64 32))) fun x5 => S.bd (pik x3 (Go.Value.bool Bool.true) x5) fun x6 => S.bd (S.gd x6 false (lcl c1 1)) fun x7 => S.bd (S.gd x6 false (lcl c1 0)) fun x8 => S.bd (S.gd x6 false (vec_low.r x8 s)) fun x9 => S.bd (S.gd x6 false (bin .gtr x7 x9)) fun x10 => S.bd (pik x6 (Go.Value.bool Bool.true) x10) fun x11 => S.cnd x11 (some ((Go.Value.int Go.IntKind.i64 10))) (some ((Go.Value.int Go.IntKind.i64 0)))
def vec_Right.r (a0 : Value) (s : St) : Option Value := vec_Right.t std a0 s
def vec_Right.w : List Value → St → Option Value
  | [a0], s => vec_Right.r a0 s
  | _, _ => none
def vec_Right.an : An := ⟨19, true, [1], [], [], [(1, [(0, 0, [], []), (1, 9, [], []), (2, 0, [], []), (3, 0, [], []), (4, 0, [], []), (5, 9, [], []), (6, 0, [], []), (7, 0, [], []), (8, 0, [], []), (9, 0, [], []), (10, 9, [], []), (11, 0, [], []), (12, 9, [], []), (13, 3, [], []), (14, 0, [], []), (15, 0, [], [])])]⟩
theorem vec_Right.ok (S : Sig) (a0 : Value) (s : St) : evG S Try.prog vec_Right.ctx vec_Right.an Try.f33 [a0] s = vec_Right.t S a0 s := by kernel_rfl
theorem vec_Right.cok : CtxOk Try.prog vec_Right.ctx := .cons vec_low.sound vec_low.can <| .nil
theorem vec_Right.draws : fnDraws vec_Right.an Try.f33 = true := by kernel_rfl
theorem vec_Right.can : callOk Try.prog 33 = true := by kernel_rfl
theorem vec_Right.sound : FnOk Try.prog 33 (.rd vec_Right.w) := FnOk.rd_of (evG_ok vec_Right.cok mixed (f := 33) (fn := Try.f33) (by kernel_rfl) vec_Right.draws) fun args s r h => by
  unfold vec_Right.w at h; split at h
  · rw [vec_Right.ok std]; exact h
  · simp at h

/-! ### leapfrog/vec.prefix: function 66 -/
def vec_prefix.ctx : Ctx := []
def vec_prefix.t (S : Sig) (a0 a1 : Value) (s : St) : Option Value :=
  S.bd (bx a0) fun c1 => S.bd (bx (Go.Value.agg #[(Go.Value.int Go.IntKind.i64 0), (Go.Value.int Go.IntKind.u64 0)])) fun c2 => S.bd (lcl c1 1) fun x3 => S.bd (lcl c1 0) fun x4 => S.bd (bin .sub x4 a1) fun x5 => S.bd (cvi .u64 x5) fun x6 => S.bd (bin .shr x3 x6) fun x7 => S.bd (bld [(Go.Value.int Go.IntKind.i64 0), (Go.Value.int Go.IntKind.u64 0)] [(0, 1, a1), (1, 1, x7)]) fun x8 => S.bd (stl c2 0 2 x8) fun c9 => S.bd (lal c9 0 2) fun x10 => some (x10)
def vec_prefix.r (a0 a1 : Value) (s : St) : Option Value := vec_prefix.t std a0 a1 s
def vec_prefix.w : List Value → St → Option Value
  | [a0, a1], s => vec_prefix.r a0 a1 s
  | _, _ => none
def vec_prefix.an : An := ⟨15, true, [2, 4], [], [], []⟩
theorem vec_prefix.ok (S : Sig) (a0 a1 : Value) (s : St) : evG S Try.prog vec_prefix.ctx vec_prefix.an Try.f66 [a0, a1] s = vec_prefix.t S a0 a1 s := by kernel_rfl
theorem vec_prefix.cok : CtxOk Try.prog vec_prefix.ctx := .nil
theorem vec_prefix.draws : fnDraws vec_prefix.an Try.f66 = true := by kernel_rfl
theorem vec_prefix.can : callOk Try.prog 66 = true := by kernel_rfl
theorem vec_prefix.sound : FnOk Try.prog 66 (.rd vec_prefix.w) := FnOk.rd_of (evG_ok vec_prefix.cok mixed (f := 66) (fn := Try.f66) (by kernel_rfl) vec_prefix.draws) fun args s r h => by
  unfold vec_prefix.w at h; split at h
  · rw [vec_prefix.ok std]; exact h
  · simp at h

/-! ### leapfrog/vec.Begins: function 34 -/
def vec_Begins.ctx : Ctx := [(33, .rd vec_Right.w), (66, .rd vec_prefix.w)]
def vec_Begins.t (S : Sig) (a0 a1 : Value) (s : St) : Option Value :=
  S.bd (bx a0) fun c1 => S.bd (bx a1) fun c2 => S.bd (lal c1 0 2) fun x3 => S.bd (vec_Right.r x3 s) fun x4 => S.bd (eqb [1] false false x4 (Go.Value.int Go.IntKind.i64 0)) fun x5 => S.bd (S.gd x5 true (lal c2 0 2)) fun x6 => S.bd (S.gd x5 true (vec_Right.r x6 s)) fun x7 => S.bd (S.gd x5 true (eqb [1] false false x7 (Go.Value.int Go.IntKind.i64 0))) fun x8 => S.bd (pik x5 x8 (Go.Value.bool Bool.false)) fun x9 => S.bd (S.gd x9 true (lcl c2 0)) fun x10 => S.bd (S.gd x9 true (lcl c1 0)) fun x11 => S.bd (S.gd x9 true (bin .leq x10 x11)) fun x12 => S.bd (pik x9 x12 (Go.Value.bool Bool.false)) fun x13 => S.bd (S.gd x13 true (lal c1 0 2)) fun x14 => S.bd (S.gd x13 true (lcl c2 0)) fun x15 => S.bd (S.gd x13 true (lal c2 0 2)) fun x16 => S.bd (S.gd x13 true (vec_prefix.r x14 x15 s)) fun x17 => S.bd (S.gd x13 true (eqb [1, 1] true false x17 x16)) fun x18 => S.bd (pik x13 x18 (Go.Value.bool Bool.false)) fun x19 => some (x19)
def vec_Begins.r (a0 a1 : Value) (s : St) : Option Value := vec_Begins.t std a0 a1 s
def vec_Begins.w : List Value → St → Option Value
  | [a0, a1], s => vec_Begins.r a0 a1 s
  | _, _ => none
def vec_Begins.an : An := ⟨28, true, [2, 3], [], [], [(1, [(0, 17, [], []), (1, 3, [], []), (2, 0, [], []), (3, 0, [], []), (4, 25, [], []), (5, 3, [], []), (6, 0, [], []), (7, 0, [], []), (8, 0, [], []), (9, 0, [], []), (10, 25, [], []), (11, 0, [], []), (12, 17, [], []), (13, 0, [], []), (14, 0, [], []), (15, 0, [], []), (16, 17, [], []), (17, 0, [], []), (18, 25, [], []), (20, 25, [], []), (19, 3, [], []), (21, 0, [], []), (22, 0, [], []), (23, 0, [], [])])]⟩
theorem vec_Begins.ok (S : Sig) (a0 a1 : Value) (s : St) : evG S Try.prog vec_Begins.ctx vec_Begins.an Try.f34 [a0, a1] s = vec_Begins.t S a0 a1 s := by kernel_rfl
theorem vec_Begins.cok : CtxOk Try.prog vec_Begins.ctx := .cons vec_Right.sound vec_Right.can <| .cons vec_prefix.sound vec_prefix.can <| .nil
theorem vec_Begins.draws : fnDraws vec_Begins.an Try.f34 = true := by kernel_rfl
theorem vec_Begins.can : callOk Try.prog 34 = true := by kernel_rfl
theorem vec_Begins.sound : FnOk Try.prog 34 (.rd vec_Begins.w) := FnOk.rd_of (evG_ok vec_Begins.cok mixed (f := 34) (fn := Try.f34) (by kernel_rfl) vec_Begins.draws) fun args s r h => by
  unfold vec_Begins.w at h; split at h
  · rw [vec_Begins.ok std]; exact h
  · simp at h

/-! ### leapfrog/lock.Check: function 35 -/
def lock_Check.ctx : Ctx := []
def lock_Check.t (S : Sig) (a0 : Value) (s : St) : Option Value :=
  S.bd (bx a0) fun c1 => S.bd (lcl c1 0) fun x2 => S.bd (bin .lss x2 (Go.Value.int Go.IntKind.i64 0)) fun x3 => S.bd (S.gd x3 false (lcl c1 0)) fun x4 => S.bd (S.gd x3 false (bin .geq x4 (Go.Value.int Go.IntKind.i64 1024))) fun x5 => S.bd (pik x3 (Go.Value.bool Bool.true) x5) fun x6 => S.bd (S.gd x6 false (lcl c1 1)) fun x7 => S.bd (S.gd x6 false (bin .lss x7 (Go.Value.int Go.IntKind.i64 1))) fun x8 => S.bd (pik x6 (Go.Value.bool Bool.true) x8) fun x9 => S.bd (S.gd x9 false (lcl c1 1)) fun x10 => S.bd (S.gd x9 false (bin .gtr x10 (Go.Value.int Go.IntKind.i64 1073741824))) fun x11 => S.bd (pik x9 (Go.Value.bool Bool.true) x11) fun x12 => S.cnd x12 (some ((Go.Value.int Go.IntKind.i64 70))) (some ((Go.Value.int Go.IntKind.i64 0)))
def lock_Check.r (a0 : Value) (s : St) : Option Value := lock_Check.t std a0 s
def lock_Check.w : List Value → St → Option Value
  | [a0], s => lock_Check.r a0 s
  | _, _ => none
def lock_Check.an : An := ⟨21, true, [1], [], [], []⟩
theorem lock_Check.ok (S : Sig) (a0 : Value) (s : St) : evG S Try.prog lock_Check.ctx lock_Check.an Try.f35 [a0] s = lock_Check.t S a0 s := by kernel_rfl
theorem lock_Check.cok : CtxOk Try.prog lock_Check.ctx := .nil
theorem lock_Check.draws : fnDraws lock_Check.an Try.f35 = true := by kernel_rfl
theorem lock_Check.can : callOk Try.prog 35 = true := by kernel_rfl
theorem lock_Check.sound : FnOk Try.prog 35 (.rd lock_Check.w) := FnOk.rd_of (evG_ok lock_Check.cok mixed (f := 35) (fn := Try.f35) (by kernel_rfl) lock_Check.draws) fun args s r h => by
  unfold lock_Check.w at h; split at h
  · rw [lock_Check.ok std]; exact h
  · simp at h

/-! ### leapfrog/unsplice.New: function 9 -/
def unsplice_New.ctx : Ctx := [(33, .rd vec_Right.w), (34, .rd vec_Begins.w), (35, .rd lock_Check.w)]
def unsplice_New.t (S : Sig) (a0 : Value) (s : St) : Option (Value × St) :=
  S.bd (bx a0) fun c1 => S.bd (lcl c1 3) fun x2 => S.bd (eqb [1] false true x2 (Go.Value.int Go.IntKind.i64 2)) fun x3 => S.bd (S.gd x3 false (lal c1 5 2)) fun x4 => S.bd (S.gd x3 false (vec_Right.r x4 s)) fun x5 => S.bd (S.gd x3 false (eqb [1] false true x5 (Go.Value.int Go.IntKind.i64 0))) fun x6 => S.bd (pik x3 (Go.Value.bool Bool.true) x6) fun x7 => S.bd (S.gd x7 false (lal c1 5 2)) fun x8 => S.bd (S.gd x7 false (lal c1 0 2)) fun x9 => S.bd (S.gd x7 false (vec_Begins.r x8 x9 s)) fun x10 => S.bd (S.gd x7 false (un .not x10)) fun x11 => S.bd (pik x7 (Go.Value.bool Bool.true) x11) fun x12 => S.bd (S.gd x12 false (lal c1 7 2)) fun x13 => S.bd (S.gd x12 false (lock_Check.r x13 s)) fun x14 => S.bd (S.gd x12 false (eqb [1] false true x14 (Go.Value.int Go.IntKind.i64 0))) fun x15 => S.bd (pik x12 (Go.Value.bool Bool.true) x15) fun x16 => S.cnd x16 (some ((Value.tuple ⟨[(Go.Value.pointer Option.none), (Go.Value.int Go.IntKind.i64 140)]⟩), s)) (S.bd (lal c1 0 9) fun x17 => S.bd (bld [(Go.Value.int Go.IntKind.i64 0), (Go.Value.int Go.IntKind.u64 0), (Go.Value.int Go.IntKind.i64 0), (Go.Value.int Go.IntKind.i64 0), (Go.Value.int Go.IntKind.u64 0), (Go.Value.int Go.IntKind.i64 0), (Go.Value.int Go.IntKind.u64 0), (Go.Value.int Go.IntKind.i64 0), (Go.Value.int Go.IntKind.i64 0), (Go.Value.int Go.IntKind.i64 0), (Go.Value.int Go.IntKind.i64 0), (Go.Value.int Go.IntKind.i64 0), (Go.Value.int Go.IntKind.i64 0), (Go.Value.int Go.IntKind.u64 0), (Go.Value.int Go.IntKind.i64 0), (Go.Value.int Go.IntKind.u64 0), (Go.Value.int Go.IntKind.i64 0), (Go.Value.int Go.IntKind.i64 0), (Go.Value.int Go.IntKind.u64 0), (Go.Value.int Go.IntKind.i64 0), (Go.Value.int Go.IntKind.u64 0), (Go.Value.int Go.IntKind.i64 0)] [(0, 9, x17), (9, 1, (Go.Value.int Go.IntKind.i64 1))]) fun x18 => S.bd (alv s x18) fun r19 => some ((Value.tuple ⟨[r19.1, (Go.Value.int Go.IntKind.i64 0)]⟩), r19.2))
def unsplice_New.v (a0 : Value) (s : St) : Option (Value × St) := unsplice_New.t std a0 s
def unsplice_New.w : List Value → St → Option (Value × St)
  | [a0], s => unsplice_New.v a0 s
  | _, _ => none
def unsplice_New.an : An := ⟨34, false, [1], [], [], []⟩
theorem unsplice_New.ok (S : Sig) (a0 : Value) (s : St) : evF S Try.prog unsplice_New.ctx unsplice_New.an Try.f9 [a0] s = unsplice_New.t S a0 s := by kernel_rfl
theorem unsplice_New.cok : CtxOk Try.prog unsplice_New.ctx := .cons vec_Right.sound vec_Right.can <| .cons vec_Begins.sound vec_Begins.can <| .cons lock_Check.sound lock_Check.can <| .nil
theorem unsplice_New.draws : fnDraws unsplice_New.an Try.f9 = true := by kernel_rfl
theorem unsplice_New.can : callOk Try.prog 9 = true := by kernel_rfl
theorem unsplice_New.sound : FnOk Try.prog 9 (.st unsplice_New.w) := FnOk.st_of (evF_ok unsplice_New.cok mixed (f := 9) (fn := Try.f9) (by kernel_rfl) unsplice_New.draws) fun args s r h => by
  unfold unsplice_New.w at h; split at h
  · rw [unsplice_New.ok std]; exact h
  · simp at h

/-! ### (*leapfrog/unsplice.Unsplice).is: function 36 -/
def unsplice_Unsplice_is.ctx : Ctx := []
def unsplice_Unsplice_is.t (S : Sig) (a0 : Value) (s : St) : Option Value :=
  S.bd (eqb [3] false true a0 (Go.Value.pointer Option.none)) fun x1 => S.bd (S.gd x1 true (some a0)) fun x2 => S.bd (S.gd x1 true (nck x2)) fun x3 => S.bd (S.gd x1 true (fld 9 x3)) fun x4 => S.bd (S.gd x1 true (ldc s x4)) fun x5 => S.bd (S.gd x1 true (bin .gtr x5 (Go.Value.int Go.IntKind.i64 0))) fun x6 => S.bd (pik x1 x6 (Go.Value.bool Bool.false)) fun x7 => some (x7)
def unsplice_Unsplice_is.r (a0 : Value) (s : St) : Option Value := unsplice_Unsplice_is.t std a0 s
def unsplice_Unsplice_is.w : List Value → St → Option Value
  | [a0], s => unsplice_Unsplice_is.r a0 s
  | _, _ => none
def unsplice_Unsplice_is.an : An := ⟨12, true, [], [], [], []⟩
theorem unsplice_Unsplice_is.ok (S : Sig) (a0 : Value) (s : St) : evG S Try.prog unsplice_Unsplice_is.ctx unsplice_Unsplice_is.an Try.f36 [a0] s = unsplice_Unsplice_is.t S a0 s := by kernel_rfl
theorem unsplice_Unsplice_is.cok : CtxOk Try.prog unsplice_Unsplice_is.ctx := .nil
theorem unsplice_Unsplice_is.draws : fnDraws unsplice_Unsplice_is.an Try.f36 = true := by kernel_rfl
theorem unsplice_Unsplice_is.can : callOk Try.prog 36 = true := by kernel_rfl
theorem unsplice_Unsplice_is.sound : FnOk Try.prog 36 (.rd unsplice_Unsplice_is.w) := FnOk.rd_of (evG_ok unsplice_Unsplice_is.cok mixed (f := 36) (fn := Try.f36) (by kernel_rfl) unsplice_Unsplice_is.draws) fun args s r h => by
  unfold unsplice_Unsplice_is.w at h; split at h
  · rw [unsplice_Unsplice_is.ok std]; exact h
  · simp at h

/-! ### (*leapfrog/unsplice.Unsplice).asks: function 37 -/
def unsplice_Unsplice_asks.ctx : Ctx := []
def unsplice_Unsplice_asks.t.p1 (S : Sig) (x9 : Value) (s : St) (a1 : Value) (x7 : Value) (x8 : Value) (c1 : List Value) (c3 : List Value) : Option Value :=
  S.bd (fld 0 x9) fun x10 => S.bd (fld 7 x10) fun x11 => S.bd (lda s 2 x11) fun x12 => S.bd (bld [(Go.Value.int Go.IntKind.i64 0), (Go.Value.int Go.IntKind.i64 0), (Go.Value.int Go.IntKind.u64 0), (Go.Value.int Go.IntKind.i64 0), (Go.Value.int Go.IntKind.i64 0), (Go.Value.int Go.IntKind.u64 0), (Go.Value.int Go.IntKind.i64 0), (Go.Value.int Go.IntKind.u64 0), (Go.Value.int Go.IntKind.i64 0), (Go.Value.int Go.IntKind.i64 0), (Go.Value.int Go.IntKind.u64 0), (Go.Value.int Go.IntKind.i64 0), (Go.Value.int Go.IntKind.u64 0), (Go.Value.int Go.IntKind.i64 0), (Go.Value.int Go.IntKind.i64 0)] [(0, 1, a1), (1, 2, x7), (3, 5, x8), (13, 2, x12)]) fun x13 => S.bd (bx (Go.Value.agg #[(Go.Value.int Go.IntKind.i64 0), (Go.Value.int Go.IntKind.i64 0), (Go.Value.int Go.IntKind.u64 0), (Go.Value.int Go.IntKind.i64 0), (Go.Value.int Go.IntKind.i64 0), (Go.Value.int Go.IntKind.u64 0), (Go.Value.int Go.IntKind.i64 0), (Go.Value.int Go.IntKind.u64 0), (Go.Value.int Go.IntKind.i64 0), (Go.Value.int Go.IntKind.i64 0), (Go.Value.int Go.IntKind.u64 0), (Go.Value.int Go.IntKind.i64 0), (Go.Value.int Go.IntKind.u64 0), (Go.Value.int Go.IntKind.i64 0), (Go.Value.int Go.IntKind.i64 0)])) fun c14 => S.bd (stl c14 0 15 x13) fun c15 => S.bd (show Option Cut from S.bd (eqb [1] false false a1 (Go.Value.int Go.IntKind.i64 1)) fun x22 => S.bd (S.gd x22 false (some a1)) fun x23 => S.bd (S.gd x22 false (eqb [1] false false x23 (Go.Value.int Go.IntKind.i64 6))) fun x24 => S.bd (pik x22 (Go.Value.bool Bool.true) x24) fun x25 => S.cnd x25 (S.bd (bld [(Go.Value.int Go.IntKind.i64 0), (Go.Value.int Go.IntKind.i64 0)] []) fun x26 => S.bd (stl c15 13 2 x26) fun c27 => some (0, [(Value.agg ⟨c1⟩), (Value.agg ⟨c3⟩), (Value.agg ⟨c27⟩)], s)) (some (0, [(Value.agg ⟨c1⟩), (Value.agg ⟨c3⟩), (Value.agg ⟨c15⟩)], s))) fun r28 => S.bd (lal (cellsA (r28.2.1.getD 0 undef)) 0 5) fun x29 => S.bd (lal (cellsA (r28.2.1.getD 2 undef)) 0 15) fun x30 => S.bd (bld [(Go.Value.int Go.IntKind.i64 0), (Go.Value.int Go.IntKind.i64 0), (Go.Value.int Go.IntKind.i64 0), (Go.Value.int Go.IntKind.u64 0), (Go.Value.int Go.IntKind.i64 0), (Go.Value.int Go.IntKind.u64 0), (Go.Value.int Go.IntKind.i64 0), (Go.Value.int Go.IntKind.i64 0), (Go.Value.int Go.IntKind.u64 0), (Go.Value.int Go.IntKind.i64 0), (Go.Value.int Go.IntKind.i64 0), (Go.Value.int Go.IntKind.u64 0), (Go.Value.int Go.IntKind.i64 0), (Go.Value.int Go.IntKind.u64 0), (Go.Value.int Go.IntKind.i64 0), (Go.Value.int Go.IntKind.i64 0), (Go.Value.int Go.IntKind.u64 0), (Go.Value.int Go.IntKind.i64 0), (Go.Value.int Go.IntKind.u64 0), (Go.Value.int Go.IntKind.i64 0), (Go.Value.int Go.IntKind.i64 0), (Go.Value.int Go.IntKind.i64 0), (Go.Value.int Go.IntKind.u64 0), (Go.Value.slice Option.none 0 0), (Go.Value.slice Option.none 0 0), (Go.Value.int Go.IntKind.i64 0), (Go.Value.int Go.IntKind.i64 0), (Go.Value.int Go.IntKind.u64 0), (Go.Value.int Go.IntKind.i64 0), (Go.Value.int Go.IntKind.u64 0), (Go.Value.int Go.IntKind.i64 0), (Go.Value.int Go.IntKind.i64 0), (Go.Value.int Go.IntKind.u64 0), (Go.Value.int Go.IntKind.i64 0), (Go.Value.int Go.IntKind.u64 0), (Go.Value.bool Bool.false)] [(0, 1, (Go.Value.int Go.IntKind.i64 1)), (1, 5, x29), (6, 15, x30)]) fun x31 => S.bd (stl (cellsA (r28.2.1.getD 1 undef)) 0 36 x31) fun c32 => S.bd (lal c32 0 36) fun x33 => some (x33)

def unsplice_Unsplice_asks.t (S : Sig) (a0 a1 a2 a3 : Value) (s : St) : Option Value :=
  S.bd (bx a2) fun c1 => S.bd (bx a3) fun c2 => S.bd (bx (Go.Value.agg #[(Go.Value.int Go.IntKind.i64 0), (Go.Value.int Go.IntKind.i64 0), (Go.Value.int Go.IntKind.i64 0), (Go.Value.int Go.IntKind.u64 0), (Go.Value.int Go.IntKind.i64 0), (Go.Value.int Go.IntKind.u64 0), (Go.Value.int Go.IntKind.i64 0), (Go.Value.int Go.IntKind.i64 0), (Go.Value.int Go.IntKind.u64 0), (Go.Value.int Go.IntKind.i64 0), (Go.Value.int Go.IntKind.i64 0), (Go.Value.int Go.IntKind.u64 0), (Go.Value.int Go.IntKind.i64 0), (Go.Value.int Go.IntKind.u64 0), (Go.Value.int Go.IntKind.i64 0), (Go.Value.int Go.IntKind.i64 0), (Go.Value.int Go.IntKind.u64 0), (Go.Value.int Go.IntKind.i64 0), (Go.Value.int Go.IntKind.u64 0), (Go.Value.int Go.IntKind.i64 0), (Go.Value.int Go.IntKind.i64 0), (Go.Value.int Go.IntKind.i64 0), (Go.Value.int Go.IntKind.u64 0), (Go.Value.slice Option.none 0 0), (Go.Value.slice Option.none 0 0), (Go.Value.int Go.IntKind.i64 0), (Go.Value.int Go.IntKind.i64 0), (Go.Value.int Go.IntKind.u64 0), (Go.Value.int Go.IntKind.i64 0), (Go.Value.int Go.IntKind.u64 0), (Go.Value.int Go.IntKind.i64 0), (Go.Value.int Go.IntKind.i64 0), (Go.Value.int Go.IntKind.u64 0), (Go.Value.int Go.IntKind.i64 0), (Go.Value.int Go.IntKind.u64 0), (Go.Value.bool Bool.false)])) fun c3 => S.bd (nck a0) fun x4 => S.bd (fld 0 x4) fun x5 => S.bd (fld 0 x5) fun x6 => S.bd (lda s 2 x6) fun x7 => S.bd (lal c2 0 5) fun x8 => S.bd (nck a0) fun x9 => unsplice_Unsplice_asks.t.p1 S x9 s a1 x7 x8 c1 c3
def unsplice_Unsplice_asks.r (a0 a1 a2 a3 : Value) (s : St) : Option Value := unsplice_Unsplice_asks.t std a0 a1 a2 a3 s
def unsplice_Unsplice_asks.w : List Value → St → Option Value
  | [a0, a1, a2, a3], s => unsplice_Unsplice_asks.r a0 a1 a2 a3 s
  | _, _ => none
def unsplice_Unsplice_asks.an : An := ⟨34, true, [6, 7, 8, 9], [], [(4, ⟨[], [(.normal, [.p 6 6 0, .p 8 8 0, .p 9 9 0, .l 6, .l 8, .l 9])]⟩)], [(1, [(0, 0, [], []), (1, 0, [], []), (2, 0, [], []), (3, 0, [], []), (4, 0, [], []), (5, 2, [], []), (6, 57, [], []), (7, 0, [], []), (8, 0, [], []), (9, 0, [], []), (10, 0, [], []), (11, 2, [], []), (12, 0, [], []), (13, 6, [], []), (14, 77, [], [])])]⟩
theorem unsplice_Unsplice_asks.ok (S : Sig) (a0 a1 a2 a3 : Value) (s : St) : evG S Try.prog unsplice_Unsplice_asks.ctx unsplice_Unsplice_asks.an Try.f37 [a0, a1, a2, a3] s = unsplice_Unsplice_asks.t S a0 a1 a2 a3 s := by kernel_rfl
theorem unsplice_Unsplice_asks.cok : CtxOk Try.prog unsplice_Unsplice_asks.ctx := .nil
theorem unsplice_Unsplice_asks.draws : fnDraws unsplice_Unsplice_asks.an Try.f37 = true := by kernel_rfl
theorem unsplice_Unsplice_asks.can : callOk Try.prog 37 = true := by kernel_rfl
theorem unsplice_Unsplice_asks.sound : FnOk Try.prog 37 (.rd unsplice_Unsplice_asks.w) := FnOk.rd_of (evG_ok unsplice_Unsplice_asks.cok mixed (f := 37) (fn := Try.f37) (by kernel_rfl) unsplice_Unsplice_asks.draws) fun args s r h => by
  unfold unsplice_Unsplice_asks.w at h; split at h
  · rw [unsplice_Unsplice_asks.ok std]; exact h
  · simp at h

/-! ### (*leapfrog/unsplice.Unsplice).Next: function 11 -/
def unsplice_Unsplice_Next.ctx : Ctx := [(36, .rd unsplice_Unsplice_is.w), (37, .rd unsplice_Unsplice_asks.w)]
def unsplice_Unsplice_Next.t.p1 (S : Sig) (a0 : Value) (s : St) (c1 : List Value) : Option Value :=
  S.bd (nck a0) fun x86 => S.bd (fld 21 x86) fun x87 => S.bd (ldc s x87) fun x88 => S.bd (bld [(Go.Value.int Go.IntKind.i64 0), (Go.Value.int Go.IntKind.u64 0), (Go.Value.slice Option.none 0 0), (Go.Value.slice Option.none 0 0), (Go.Value.int Go.IntKind.i64 0), (Go.Value.int Go.IntKind.i64 0), (Go.Value.int Go.IntKind.u64 0), (Go.Value.int Go.IntKind.i64 0), (Go.Value.int Go.IntKind.u64 0), (Go.Value.int Go.IntKind.i64 0), (Go.Value.int Go.IntKind.i64 0), (Go.Value.int Go.IntKind.u64 0), (Go.Value.int Go.IntKind.i64 0), (Go.Value.int Go.IntKind.u64 0), (Go.Value.bool Bool.false)] [(0, 1, x88)]) fun x89 => S.bd (bld [(Go.Value.int Go.IntKind.i64 0), (Go.Value.int Go.IntKind.i64 0), (Go.Value.int Go.IntKind.i64 0), (Go.Value.int Go.IntKind.u64 0), (Go.Value.int Go.IntKind.i64 0), (Go.Value.int Go.IntKind.u64 0), (Go.Value.int Go.IntKind.i64 0), (Go.Value.int Go.IntKind.i64 0), (Go.Value.int Go.IntKind.u64 0), (Go.Value.int Go.IntKind.i64 0), (Go.Value.int Go.IntKind.i64 0), (Go.Value.int Go.IntKind.u64 0), (Go.Value.int Go.IntKind.i64 0), (Go.Value.int Go.IntKind.u64 0), (Go.Value.int Go.IntKind.i64 0), (Go.Value.int Go.IntKind.i64 0), (Go.Value.int Go.IntKind.u64 0), (Go.Value.int Go.IntKind.i64 0), (Go.Value.int Go.IntKind.u64 0), (Go.Value.int Go.IntKind.i64 0), (Go.Value.int Go.IntKind.i64 0), (Go.Value.int Go.IntKind.i64 0), (Go.Value.int Go.IntKind.u64 0), (Go.Value.slice Option.none 0 0), (Go.Value.slice Option.none 0 0), (Go.Value.int Go.IntKind.i64 0), (Go.Value.int Go.IntKind.i64 0), (Go.Value.int Go.IntKind.u64 0), (Go.Value.int Go.IntKind.i64 0), (Go.Value.int Go.IntKind.u64 0), (Go.Value.int Go.IntKind.i64 0), (Go.Value.int Go.IntKind.i64 0), (Go.Value.int Go.IntKind.u64 0), (Go.Value.int Go.IntKind.i64 0), (Go.Value.int Go.IntKind.u64 0), (Go.Value.bool Bool.false)] [(0, 1, (Go.Value.int Go.IntKind.i64 3)), (21, 15, x89)]) fun x90 => S.bd (stl c1 0 36 x90) fun c91 => S.bd (lal c91 0 36) fun x92 => some (x92)

def unsplice_Unsplice_Next.t.p2 (S : Sig) (x9 : Value) (a0 : Value) (s : St) (c1 : List Value) : Option Value :=
  S.bd (eqb [1] false false x9 (Go.Value.int Go.IntKind.i64 8)) fun x74 => S.cnd x74 (S.bd (nck a0) fun x75 => S.bd (fld 11 x75) fun x76 => S.bd (lda s 5 x76) fun x77 => S.bd (bld [(Go.Value.int Go.IntKind.i64 0), (Go.Value.int Go.IntKind.i64 0), (Go.Value.int Go.IntKind.u64 0), (Go.Value.int Go.IntKind.i64 0), (Go.Value.int Go.IntKind.u64 0)] []) fun x78 => S.bd (unsplice_Unsplice_asks.r a0 (Go.Value.int Go.IntKind.i64 4) x77 x78 s) fun x79 => S.bd (stl c1 0 36 x79) fun c80 => S.bd (lal c80 0 36) fun x81 => some (x81)) (S.bd (eqb [1] false false x9 (Go.Value.int Go.IntKind.i64 9)) fun x82 => S.cnd x82 (S.bd (bld [(Go.Value.int Go.IntKind.i64 0), (Go.Value.int Go.IntKind.i64 0), (Go.Value.int Go.IntKind.i64 0), (Go.Value.int Go.IntKind.u64 0), (Go.Value.int Go.IntKind.i64 0), (Go.Value.int Go.IntKind.u64 0), (Go.Value.int Go.IntKind.i64 0), (Go.Value.int Go.IntKind.i64 0), (Go.Value.int Go.IntKind.u64 0), (Go.Value.int Go.IntKind.i64 0), (Go.Value.int Go.IntKind.i64 0), (Go.Value.int Go.IntKind.u64 0), (Go.Value.int Go.IntKind.i64 0), (Go.Value.int Go.IntKind.u64 0), (Go.Value.int Go.IntKind.i64 0), (Go.Value.int Go.IntKind.i64 0), (Go.Value.int Go.IntKind.u64 0), (Go.Value.int Go.IntKind.i64 0), (Go.Value.int Go.IntKind.u64 0), (Go.Value.int Go.IntKind.i64 0), (Go.Value.int Go.IntKind.i64 0), (Go.Value.int Go.IntKind.i64 0), (Go.Value.int Go.IntKind.u64 0), (Go.Value.slice Option.none 0 0), (Go.Value.slice Option.none 0 0), (Go.Value.int Go.IntKind.i64 0), (Go.Value.int Go.IntKind.i64 0), (Go.Value.int Go.IntKind.u64 0), (Go.Value.int Go.IntKind.i64 0), (Go.Value.int Go.IntKind.u64 0), (Go.Value.int Go.IntKind.i64 0), (Go.Value.int Go.IntKind.i64 0), (Go.Value.int Go.IntKind.u64 0), (Go.Value.int Go.IntKind.i64 0), (Go.Value.int Go.IntKind.u64 0), (Go.Value.bool Bool.false)] [(0, 1, (Go.Value.int Go.IntKind.i64 2))]) fun x83 => S.bd (stl c1 0 36 x83) fun c84 => S.bd (lal c84 0 36) fun x85 => some (x85)) (unsplice_Unsplice_Next.t.p1 S a0 s c1))

def unsplice_Unsplice_Next.t.p3 (S : Sig) (x9 : Value) (a0 : Value) (s : St) (c1 : List Value) : Option Value :=
  S.bd (eqb [1] false false x9 (Go.Value.int Go.IntKind.i64 4)) fun x36 => S.cnd x36 (S.bd (nck a0) fun x37 => S.bd (fld 11 x37) fun x38 => S.bd (lda s 5 x38) fun x39 => S.bd (nck a0) fun x40 => S.bd (fld 16 x40) fun x41 => S.bd (lda s 5 x41) fun x42 => S.bd (unsplice_Unsplice_asks.r a0 (Go.Value.int Go.IntKind.i64 5) x39 x42 s) fun x43 => S.bd (stl c1 0 36 x43) fun c44 => S.bd (lal c44 0 36) fun x45 => some (x45)) (S.bd (eqb [1] false false x9 (Go.Value.int Go.IntKind.i64 5)) fun x46 => S.cnd x46 (S.bd (nck a0) fun x47 => S.bd (fld 16 x47) fun x48 => S.bd (lda s 5 x48) fun x49 => S.bd (nck a0) fun x50 => S.bd (fld 11 x50) fun x51 => S.bd (lda s 5 x51) fun x52 => S.bd (unsplice_Unsplice_asks.r a0 (Go.Value.int Go.IntKind.i64 6) x49 x52 s) fun x53 => S.bd (stl c1 0 36 x53) fun c54 => S.bd (lal c54 0 36) fun x55 => some (x55)) (S.bd (eqb [1] false false x9 (Go.Value.int Go.IntKind.i64 6)) fun x56 => S.cnd x56 (S.bd (nck a0) fun x57 => S.bd (fld 0 x57) fun x58 => S.bd (fld 2 x58) fun x59 => S.bd (lda s 5 x59) fun x60 => S.bd (bld [(Go.Value.int Go.IntKind.i64 0), (Go.Value.int Go.IntKind.i64 0), (Go.Value.int Go.IntKind.u64 0), (Go.Value.int Go.IntKind.i64 0), (Go.Value.int Go.IntKind.u64 0)] []) fun x61 => S.bd (unsplice_Unsplice_asks.r a0 (Go.Value.int Go.IntKind.i64 8) x60 x61 s) fun x62 => S.bd (stl c1 0 36 x62) fun c63 => S.bd (lal c63 0 36) fun x64 => some (x64)) (S.bd (eqb [1] false false x9 (Go.Value.int Go.IntKind.i64 7)) fun x65 => S.cnd x65 (S.bd (nck a0) fun x66 => S.bd (fld 0 x66) fun x67 => S.bd (fld 2 x67) fun x68 => S.bd (lda s 5 x68) fun x69 => S.bd (bld [(Go.Value.int Go.IntKind.i64 0), (Go.Value.int Go.IntKind.i64 0), (Go.Value.int Go.IntKind.u64 0), (Go.Value.int Go.IntKind.i64 0), (Go.Value.int Go.IntKind.u64 0)] []) fun x70 => S.bd (unsplice_Unsplice_asks.r a0 (Go.Value.int Go.IntKind.i64 4) x69 x70 s) fun x71 => S.bd (stl c1 0 36 x71) fun c72 => S.bd (lal c72 0 36) fun x73 => some (x73)) (unsplice_Unsplice_Next.t.p2 S x9 a0 s c1))))

def unsplice_Unsplice_Next.t (S : Sig) (a0 : Value) (s : St) : Option Value :=
  S.bd (bx (Go.Value.agg #[(Go.Value.int Go.IntKind.i64 0), (Go.Value.int Go.IntKind.i64 0), (Go.Value.int Go.IntKind.i64 0), (Go.Value.int Go.IntKind.u64 0), (Go.Value.int Go.IntKind.i64 0), (Go.Value.int Go.IntKind.u64 0), (Go.Value.int Go.IntKind.i64 0), (Go.Value.int Go.IntKind.i64 0), (Go.Value.int Go.IntKind.u64 0), (Go.Value.int Go.IntKind.i64 0), (Go.Value.int Go.IntKind.i64 0), (Go.Value.int Go.IntKind.u64 0), (Go.Value.int Go.IntKind.i64 0), (Go.Value.int Go.IntKind.u64 0), (Go.Value.int Go.IntKind.i64 0), (Go.Value.int Go.IntKind.i64 0), (Go.Value.int Go.IntKind.u64 0), (Go.Value.int Go.IntKind.i64 0), (Go.Value.int Go.IntKind.u64 0), (Go.Value.int Go.IntKind.i64 0), (Go.Value.int Go.IntKind.i64 0), (Go.Value.int Go.IntKind.i64 0), (Go.Value.int Go.IntKind.u64 0), (Go.Value.slice Option.none 0 0), (Go.Value.slice Option.none 0 0), (Go.Value.int Go.IntKind.i64 0), (Go.Value.int Go.IntKind.i64 0), (Go.Value.int Go.IntKind.u64 0), (Go.Value.int Go.IntKind.i64 0), (Go.Value.int Go.IntKind.u64 0), (Go.Value.int Go.IntKind.i64 0), (Go.Value.int Go.IntKind.i64 0), (Go.Value.int Go.IntKind.u64 0), (Go.Value.int Go.IntKind.i64 0), (Go.Value.int Go.IntKind.u64 0), (Go.Value.bool Bool.false)])) fun c1 => S.bd (unsplice_Unsplice_is.r a0 s) fun x2 => S.bd (un .not x2) fun x3 => S.cnd x3 (S.bd (bld [(Go.Value.int Go.IntKind.i64 0), (Go.Value.int Go.IntKind.i64 0), (Go.Value.int Go.IntKind.i64 0), (Go.Value.int Go.IntKind.u64 0), (Go.Value.int Go.IntKind.i64 0), (Go.Value.int Go.IntKind.u64 0), (Go.Value.int Go.IntKind.i64 0), (Go.Value.int Go.IntKind.i64 0), (Go.Value.int Go.IntKind.u64 0), (Go.Value.int Go.IntKind.i64 0), (Go.Value.int Go.IntKind.i64 0), (Go.Value.int Go.IntKind.u64 0), (Go.Value.int Go.IntKind.i64 0), (Go.Value.int Go.IntKind.u64 0), (Go.Value.int Go.IntKind.i64 0), (Go.Value.int Go.IntKind.i64 0), (Go.Value.int Go.IntKind.u64 0), (Go.Value.int Go.IntKind.i64 0), (Go.Value.int Go.IntKind.u64 0), (Go.Value.int Go.IntKind.i64 0), (Go.Value.int Go.IntKind.i64 0), (Go.Value.int Go.IntKind.i64 0), (Go.Value.int Go.IntKind.u64 0), (Go.Value.slice Option.none 0 0), (Go.Value.slice Option.none 0 0), (Go.Value.int Go.IntKind.i64 0), (Go.Value.int Go.IntKind.i64 0), (Go.Value.int Go.IntKind.u64 0), (Go.Value.int Go.IntKind.i64 0), (Go.Value.int Go.IntKind.u64 0), (Go.Value.int Go.IntKind.i64 0), (Go.Value.int Go.IntKind.i64 0), (Go.Value.int Go.IntKind.u64 0), (Go.Value.int Go.IntKind.i64 0), (Go.Value.int Go.IntKind.u64 0), (Go.Value.bool Bool.false)] []) fun x4 => S.bd (stl c1 0 36 x4) fun c5 => S.bd (lal c5 0 36) fun x6 => some (x6)) (S.bd (nck a0) fun x7 => S.bd (fld 9 x7) fun x8 => S.bd (ldc s x8) fun x9 => S.bd (eqb [1] false false x9 (Go.Value.int Go.IntKind.i64 1)) fun x10 => S.cnd x10 (S.bd (nck a0) fun x11 => S.bd (fld 0 x11) fun x12 => S.bd (fld 2 x12) fun x13 => S.bd (lda s 5 x13) fun x14 => S.bd (bld [(Go.Value.int Go.IntKind.i64 0), (Go.Value.int Go.IntKind.i64 0), (Go.Value.int Go.IntKind.u64 0), (Go.Value.int Go.IntKind.i64 0), (Go.Value.int Go.IntKind.u64 0)] []) fun x15 => S.bd (unsplice_Unsplice_asks.r a0 (Go.Value.int Go.IntKind.i64 1) x14 x15 s) fun x16 => S.bd (stl c1 0 36 x16) fun c17 => S.bd (lal c17 0 36) fun x18 => some (x18)) (S.bd (eqb [1] false false x9 (Go.Value.int Go.IntKind.i64 2)) fun x19 => S.cnd x19 (S.bd (nck a0) fun x20 => S.bd (fld 11 x20) fun x21 => S.bd (lda s 5 x21) fun x22 => S.bd (bld [(Go.Value.int Go.IntKind.i64 0), (Go.Value.int Go.IntKind.i64 0), (Go.Value.int Go.IntKind.u64 0), (Go.Value.int Go.IntKind.i64 0), (Go.Value.int Go.IntKind.u64 0)] []) fun x23 => S.bd (unsplice_Unsplice_asks.r a0 (Go.Value.int Go.IntKind.i64 3) x22 x23 s) fun x24 => S.bd (stl c1 0 36 x24) fun c25 => S.bd (lal c25 0 36) fun x26 => some (x26)) (S.bd (eqb [1] false false x9 (Go.Value.int Go.IntKind.i64 3)) fun x27 => S.cnd x27 (S.bd (nck a0) fun x28 => S.bd (fld 0 x28) fun x29 => S.bd (fld 2 x29) fun x30 => S.bd (lda s 5 x30) fun x31 => S.bd (bld [(Go.Value.int Go.IntKind.i64 0), (Go.Value.int Go.IntKind.i64 0), (Go.Value.int Go.IntKind.u64 0), (Go.Value.int Go.IntKind.i64 0), (Go.Value.int Go.IntKind.u64 0)] []) fun x32 => S.bd (unsplice_Unsplice_asks.r a0 (Go.Value.int Go.IntKind.i64 3) x31 x32 s) fun x33 => S.bd (stl c1 0 36 x33) fun c34 => S.bd (lal c34 0 36) fun x35 => some (x35)) (unsplice_Unsplice_Next.t.p3 S x9 a0 s c1))))
def unsplice_Unsplice_Next.r (a0 : Value) (s : St) : Option Value := unsplice_Unsplice_Next.t std a0 s
def unsplice_Unsplice_Next.w : List Value → St → Option Value
  | [a0], s => unsplice_Unsplice_Next.r a0 s
  | _, _ => none
def unsplice_Unsplice_Next.an : An := ⟨102, true, [2], [], [], [(11, [(0, 0, [], []), (1, 0, [], []), (2, 0, [], []), (3, 0, [], []), (4, 2, [], []), (5, 0, [], []), (6, 0, [], []), (7, 0, [], []), (8, 2, [], []), (9, 3, [], []), (10, 21, [], [])]), (13, [(0, 0, [], []), (1, 0, [], []), (2, 0, [], []), (3, 0, [], []), (4, 2, [], []), (5, 0, [], []), (6, 0, [], []), (7, 0, [], []), (8, 2, [], []), (9, 3, [], []), (10, 21, [], [])])]⟩
theorem unsplice_Unsplice_Next.ok (S : Sig) (a0 : Value) (s : St) : evG S Try.prog unsplice_Unsplice_Next.ctx unsplice_Unsplice_Next.an Try.f11 [a0] s = unsplice_Unsplice_Next.t S a0 s := by kernel_rfl
theorem unsplice_Unsplice_Next.cok : CtxOk Try.prog unsplice_Unsplice_Next.ctx := .cons unsplice_Unsplice_is.sound unsplice_Unsplice_is.can <| .cons unsplice_Unsplice_asks.sound unsplice_Unsplice_asks.can <| .nil
theorem unsplice_Unsplice_Next.draws : fnDraws unsplice_Unsplice_Next.an Try.f11 = true := by kernel_rfl
theorem unsplice_Unsplice_Next.can : callOk Try.prog 11 = true := by kernel_rfl
theorem unsplice_Unsplice_Next.sound : FnOk Try.prog 11 (.rd unsplice_Unsplice_Next.w) := FnOk.rd_of (evG_ok unsplice_Unsplice_Next.cok mixed (f := 11) (fn := Try.f11) (by kernel_rfl) unsplice_Unsplice_Next.draws) fun args s r h => by
  unfold unsplice_Unsplice_Next.w at h; split at h
  · rw [unsplice_Unsplice_Next.ok std]; exact h
  · simp at h

/-! ### cmp.isNaN[leapfrog/api.Rank]: function 93 -/
def cmp_isNaN_api_Rank.ctx : Ctx := []
def cmp_isNaN_api_Rank.t (S : Sig) (a0 : Value) (s : St) : Option Value :=
  S.bd (eqb [1] false true a0 a0) fun x1 => some (x1)
def cmp_isNaN_api_Rank.r (a0 : Value) (s : St) : Option Value := cmp_isNaN_api_Rank.t std a0 s
def cmp_isNaN_api_Rank.w : List Value → St → Option Value
  | [a0], s => cmp_isNaN_api_Rank.r a0 s
  | _, _ => none
def cmp_isNaN_api_Rank.an : An := ⟨6, true, [], [], [], []⟩
theorem cmp_isNaN_api_Rank.ok (S : Sig) (a0 : Value) (s : St) : evG S Try.prog cmp_isNaN_api_Rank.ctx cmp_isNaN_api_Rank.an Try.f93 [a0] s = cmp_isNaN_api_Rank.t S a0 s := by kernel_rfl
theorem cmp_isNaN_api_Rank.cok : CtxOk Try.prog cmp_isNaN_api_Rank.ctx := .nil
theorem cmp_isNaN_api_Rank.draws : fnDraws cmp_isNaN_api_Rank.an Try.f93 = true := by kernel_rfl
theorem cmp_isNaN_api_Rank.can : callOk Try.prog 93 = true := by kernel_rfl
theorem cmp_isNaN_api_Rank.sound : FnOk Try.prog 93 (.rd cmp_isNaN_api_Rank.w) := FnOk.rd_of (evG_ok cmp_isNaN_api_Rank.cok mixed (f := 93) (fn := Try.f93) (by kernel_rfl) cmp_isNaN_api_Rank.draws) fun args s r h => by
  unfold cmp_isNaN_api_Rank.w at h; split at h
  · rw [cmp_isNaN_api_Rank.ok std]; exact h
  · simp at h

/-! ### cmp.Compare[leapfrog/api.Rank]: function 91 -/
def cmp_Compare_api_Rank.ctx : Ctx := [(93, .rd cmp_isNaN_api_Rank.w)]
def cmp_Compare_api_Rank.t (S : Sig) (a0 a1 : Value) (s : St) : Option Value :=
  S.bd (cmp_isNaN_api_Rank.r a0 s) fun x1 => S.bd (cmp_isNaN_api_Rank.r a1 s) fun x2 => S.cnd x1 (S.cnd x2 (some ((Go.Value.int Go.IntKind.i64 0))) (some ((Go.Value.int Go.IntKind.i64 (-1))))) (S.cnd x2 (some ((Go.Value.int Go.IntKind.i64 1))) (S.bd (bin .lss a0 a1) fun x3 => S.cnd x3 (some ((Go.Value.int Go.IntKind.i64 (-1)))) (S.bd (bin .gtr a0 a1) fun x4 => S.cnd x4 (some ((Go.Value.int Go.IntKind.i64 1))) (some ((Go.Value.int Go.IntKind.i64 0))))))
def cmp_Compare_api_Rank.r (a0 a1 : Value) (s : St) : Option Value := cmp_Compare_api_Rank.t std a0 a1 s
def cmp_Compare_api_Rank.w : List Value → St → Option Value
  | [a0, a1], s => cmp_Compare_api_Rank.r a0 a1 s
  | _, _ => none
def cmp_Compare_api_Rank.an : An := ⟨20, true, [], [], [], []⟩
theorem cmp_Compare_api_Rank.ok (S : Sig) (a0 a1 : Value) (s : St) : evG S Try.prog cmp_Compare_api_Rank.ctx cmp_Compare_api_Rank.an Try.f91 [a0, a1] s = cmp_Compare_api_Rank.t S a0 a1 s := by kernel_rfl
theorem cmp_Compare_api_Rank.cok : CtxOk Try.prog cmp_Compare_api_Rank.ctx := .cons cmp_isNaN_api_Rank.sound cmp_isNaN_api_Rank.can <| .nil
theorem cmp_Compare_api_Rank.draws : fnDraws cmp_Compare_api_Rank.an Try.f91 = true := by kernel_rfl
theorem cmp_Compare_api_Rank.can : callOk Try.prog 91 = true := by kernel_rfl
theorem cmp_Compare_api_Rank.sound : FnOk Try.prog 91 (.rd cmp_Compare_api_Rank.w) := FnOk.rd_of (evG_ok cmp_Compare_api_Rank.cok mixed (f := 91) (fn := Try.f91) (by kernel_rfl) cmp_Compare_api_Rank.draws) fun args s r h => by
  unfold cmp_Compare_api_Rank.w at h; split at h
  · rw [cmp_Compare_api_Rank.ok std]; exact h
  · simp at h

/-! ### cmp.isNaN[uint64]: function 94 -/
def cmp_isNaN_uint64.ctx : Ctx := []
def cmp_isNaN_uint64.t (S : Sig) (a0 : Value) (s : St) : Option Value :=
  S.bd (eqb [1] false true a0 a0) fun x1 => some (x1)
def cmp_isNaN_uint64.r (a0 : Value) (s : St) : Option Value := cmp_isNaN_uint64.t std a0 s
def cmp_isNaN_uint64.w : List Value → St → Option Value
  | [a0], s => cmp_isNaN_uint64.r a0 s
  | _, _ => none
def cmp_isNaN_uint64.an : An := ⟨6, true, [], [], [], []⟩
theorem cmp_isNaN_uint64.ok (S : Sig) (a0 : Value) (s : St) : evG S Try.prog cmp_isNaN_uint64.ctx cmp_isNaN_uint64.an Try.f94 [a0] s = cmp_isNaN_uint64.t S a0 s := by kernel_rfl
theorem cmp_isNaN_uint64.cok : CtxOk Try.prog cmp_isNaN_uint64.ctx := .nil
theorem cmp_isNaN_uint64.draws : fnDraws cmp_isNaN_uint64.an Try.f94 = true := by kernel_rfl
theorem cmp_isNaN_uint64.can : callOk Try.prog 94 = true := by kernel_rfl
theorem cmp_isNaN_uint64.sound : FnOk Try.prog 94 (.rd cmp_isNaN_uint64.w) := FnOk.rd_of (evG_ok cmp_isNaN_uint64.cok mixed (f := 94) (fn := Try.f94) (by kernel_rfl) cmp_isNaN_uint64.draws) fun args s r h => by
  unfold cmp_isNaN_uint64.w at h; split at h
  · rw [cmp_isNaN_uint64.ok std]; exact h
  · simp at h

/-! ### cmp.Compare[uint64]: function 92 -/
def cmp_Compare_uint64.ctx : Ctx := [(94, .rd cmp_isNaN_uint64.w)]
def cmp_Compare_uint64.t (S : Sig) (a0 a1 : Value) (s : St) : Option Value :=
  S.bd (cmp_isNaN_uint64.r a0 s) fun x1 => S.bd (cmp_isNaN_uint64.r a1 s) fun x2 => S.cnd x1 (S.cnd x2 (some ((Go.Value.int Go.IntKind.i64 0))) (some ((Go.Value.int Go.IntKind.i64 (-1))))) (S.cnd x2 (some ((Go.Value.int Go.IntKind.i64 1))) (S.bd (bin .lss a0 a1) fun x3 => S.cnd x3 (some ((Go.Value.int Go.IntKind.i64 (-1)))) (S.bd (bin .gtr a0 a1) fun x4 => S.cnd x4 (some ((Go.Value.int Go.IntKind.i64 1))) (some ((Go.Value.int Go.IntKind.i64 0))))))
def cmp_Compare_uint64.r (a0 a1 : Value) (s : St) : Option Value := cmp_Compare_uint64.t std a0 a1 s
def cmp_Compare_uint64.w : List Value → St → Option Value
  | [a0, a1], s => cmp_Compare_uint64.r a0 a1 s
  | _, _ => none
def cmp_Compare_uint64.an : An := ⟨20, true, [], [], [], []⟩
theorem cmp_Compare_uint64.ok (S : Sig) (a0 a1 : Value) (s : St) : evG S Try.prog cmp_Compare_uint64.ctx cmp_Compare_uint64.an Try.f92 [a0, a1] s = cmp_Compare_uint64.t S a0 a1 s := by kernel_rfl
theorem cmp_Compare_uint64.cok : CtxOk Try.prog cmp_Compare_uint64.ctx := .cons cmp_isNaN_uint64.sound cmp_isNaN_uint64.can <| .nil
theorem cmp_Compare_uint64.draws : fnDraws cmp_Compare_uint64.an Try.f92 = true := by kernel_rfl
theorem cmp_Compare_uint64.can : callOk Try.prog 92 = true := by kernel_rfl
theorem cmp_Compare_uint64.sound : FnOk Try.prog 92 (.rd cmp_Compare_uint64.w) := FnOk.rd_of (evG_ok cmp_Compare_uint64.cok mixed (f := 92) (fn := Try.f92) (by kernel_rfl) cmp_Compare_uint64.draws) fun args s r h => by
  unfold cmp_Compare_uint64.w at h; split at h
  · rw [cmp_Compare_uint64.ok std]; exact h
  · simp at h

/-! ### cmp.Or[int]: function 90 -/
def cmp_Or_int.ctx : Ctx := []
def cmp_Or_int.l3 (S : Sig) (rec9 : List Value → St → Option Cut) (xs7 : List Value) (s8 : St) : Option Cut :=
  S.bd (bin .lss (xs7.getD 3 undef) (xs7.getD 2 undef)) fun x10 => S.cnd x10 (S.bd (idx s8 1 (xs7.getD 1 undef) (xs7.getD 3 undef)) fun x11 => S.bd (ldc s8 x11) fun x12 => S.bd (eqb [1] false true x12 (xs7.getD 0 undef)) fun x13 => S.cnd x13 (some (1, [x12], s8)) (S.bd (bin .add (xs7.getD 3 undef) (Go.Value.int Go.IntKind.i64 1)) fun x14 => rec9 [(xs7.getD 0 undef), (xs7.getD 1 undef), (xs7.getD 2 undef), x14] s8)) (some (0, [(xs7.getD 0 undef)], s8))

def cmp_Or_int.t (S : Sig) (a0 : Value) (s : St) : Option Value :=
  S.bd (lenL a0) fun x1 => S.bd (S.it (cmp_Or_int.l3 S) [(Go.Value.int Go.IntKind.i64 0), a0, x1, (Go.Value.int Go.IntKind.i64 0)] s) fun r15 => if r15.1 = 0 then (some ((r15.2.1.getD 0 undef))) else (some ((r15.2.1.getD 0 undef)))
def cmp_Or_int.r (a0 : Value) (s : St) : Option Value := cmp_Or_int.t std a0 s
def cmp_Or_int.w : List Value → St → Option Value
  | [a0], s => cmp_Or_int.r a0 s
  | _, _ => none
def cmp_Or_int.an : An := ⟨18, true, [], [(3, ⟨[.v 3, .v 6, .v 7, .v 8], [(.exit 0, [.v 3]), (.ret, [.v 2])]⟩)], [], []⟩
theorem cmp_Or_int.ok (S : Sig) (a0 : Value) (s : St) : evG S Try.prog cmp_Or_int.ctx cmp_Or_int.an Try.f90 [a0] s = cmp_Or_int.t S a0 s := by kernel_rfl
theorem cmp_Or_int.cok : CtxOk Try.prog cmp_Or_int.ctx := .nil
theorem cmp_Or_int.draws : fnDraws cmp_Or_int.an Try.f90 = true := by kernel_rfl
theorem cmp_Or_int.can : callOk Try.prog 90 = true := by kernel_rfl
theorem cmp_Or_int.sound : FnOk Try.prog 90 (.rd cmp_Or_int.w) := FnOk.rd_of (evG_ok cmp_Or_int.cok mixed (f := 90) (fn := Try.f90) (by kernel_rfl) cmp_Or_int.draws) fun args s r h => by
  unfold cmp_Or_int.w at h; split at h
  · rw [cmp_Or_int.ok std]; exact h
  · simp at h

/-! ### leapfrog/key.Compare: function 89 -/
def key_Compare.ctx : Ctx := [(91, .rd cmp_Compare_api_Rank.w), (92, .rd cmp_Compare_uint64.w), (90, .rd cmp_Or_int.w)]
def key_Compare.t (S : Sig) (a0 a1 : Value) (s : St) : Option (Value × St) :=
  S.bd (bx a0) fun c1 => S.bd (bx a1) fun c2 => S.bd (lcl c1 0) fun x3 => S.bd (lcl c2 0) fun x4 => S.bd (lcl c1 1) fun x5 => S.bd (lcl c2 1) fun x6 => S.bd (cmp_Compare_api_Rank.r x3 x4 s) fun x7 => S.bd (cmp_Compare_uint64.r x5 x6 s) fun x8 => S.bd (S.bd (bls 1 (List.replicate 2 [(Go.Value.int Go.IntKind.i64 0)]) [(0, x7), (1, x8)]) fun rows => als s 1 2 rows) fun r9 => S.bd (cmp_Or_int.r r9.1 r9.2) fun x10 => some (x10, r9.2)
def key_Compare.v (a0 a1 : Value) (s : St) : Option (Value × St) := key_Compare.t std a0 a1 s
def key_Compare.w : List Value → St → Option (Value × St)
  | [a0, a1], s => key_Compare.v a0 a1 s
  | _, _ => none
def key_Compare.an : An := ⟨17, false, [2, 3], [], [], [(1, [(0, 0, [], []), (1, 17, [], []), (2, 0, [], []), (3, 25, [], []), (5, 0, [], []), (6, 17, [], []), (7, 0, [], []), (8, 25, [], []), (4, 3, [], []), (9, 3, [], []), (10, 3, [], []), (11, 3, [], []), (12, 0, [], [])])]⟩
theorem key_Compare.ok (S : Sig) (a0 a1 : Value) (s : St) : evF S Try.prog key_Compare.ctx key_Compare.an Try.f89 [a0, a1] s = key_Compare.t S a0 a1 s := by kernel_rfl
theorem key_Compare.cok : CtxOk Try.prog key_Compare.ctx := .cons cmp_Compare_api_Rank.sound cmp_Compare_api_Rank.can <| .cons cmp_Compare_uint64.sound cmp_Compare_uint64.can <| .cons cmp_Or_int.sound cmp_Or_int.can <| .nil
theorem key_Compare.draws : fnDraws key_Compare.an Try.f89 = true := by kernel_rfl
theorem key_Compare.can : callOk Try.prog 89 = true := by kernel_rfl
theorem key_Compare.sound : FnOk Try.prog 89 (.st key_Compare.w) := FnOk.st_of (evF_ok key_Compare.cok mixed (f := 89) (fn := Try.f89) (by kernel_rfl) key_Compare.draws) fun args s r h => by
  unfold key_Compare.w at h; split at h
  · rw [key_Compare.ok std]; exact h
  · simp at h

/-! ### leapfrog/key.Compare: function 89, as a reading -/
def key_CompareQ.r (a0 a1 : Value) (s : St) : Option Value := frzR (fun s => key_Compare.v a0 a1 s) s
def key_CompareQ.w : List Value → St → Option Value := fun args s => frzR (key_Compare.w args) s
theorem key_CompareQ.can : callOk Try.prog 89 = true := key_Compare.can
theorem key_CompareQ.sound : FnOk Try.prog 89 (.rd key_CompareQ.w) := FnOk.frozen key_Compare.sound

/-! ### leapfrog/key.Less: function 81 -/
def key_Less.ctx : Ctx := [(89, .rd key_CompareQ.w)]
def key_Less.t (S : Sig) (a0 a1 : Value) (s : St) : Option Value :=
  S.bd (bx a0) fun c1 => S.bd (bx a1) fun c2 => S.bd (lal c1 0 2) fun x3 => S.bd (lal c2 0 2) fun x4 => S.bd (key_CompareQ.r x3 x4 s) fun x5 => S.bd (bin .lss x5 (Go.Value.int Go.IntKind.i64 0)) fun x6 => some (x6)
def key_Less.r (a0 a1 : Value) (s : St) : Option Value := key_Less.t std a0 a1 s
def key_Less.w : List Value → St → Option Value
  | [a0, a1], s => key_Less.r a0 a1 s
  | _, _ => none
def key_Less.an : An := ⟨9, true, [2, 3], [], [], []⟩
theorem key_Less.ok (S : Sig) (a0 a1 : Value) (s : St) : evG S Try.prog key_Less.ctx key_Less.an Try.f81 [a0, a1] s = key_Less.t S a0 a1 s := by kernel_rfl
theorem key_Less.cok : CtxOk Try.prog key_Less.ctx := .cons key_CompareQ.sound key_CompareQ.can <| .nil
theorem key_Less.draws : fnDraws key_Less.an Try.f81 = true := by kernel_rfl
theorem key_Less.can : callOk Try.prog 81 = true := by kernel_rfl
theorem key_Less.sound : FnOk Try.prog 81 (.rd key_Less.w) := FnOk.rd_of (evG_ok key_Less.cok mixed (f := 81) (fn := Try.f81) (by kernel_rfl) key_Less.draws) fun args s r h => by
  unfold key_Less.w at h; split at h
  · rw [key_Less.ok std]; exact h
  · simp at h

/-! ### (*leapfrog/unsplice.Unsplice).ends: function 82 -/
def unsplice_Unsplice_ends.ctx : Ctx := []
def unsplice_Unsplice_ends.t (S : Sig) (a0 a1 : Value) (s : St) : Option (Value × St) :=
  S.bd (nck a0) fun x1 => S.bd (fld 9 x1) fun x2 => S.bd (stv s 1 x2 (Go.Value.int Go.IntKind.i64 10)) fun s3 => S.bd (nck a0) fun x4 => S.bd (fld 21 x4) fun x5 => S.bd (stv s3 1 x5 a1) fun s6 => some ((Value.tuple ⟨[]⟩), s6)
def unsplice_Unsplice_ends.v (a0 a1 : Value) (s : St) : Option (Value × St) := unsplice_Unsplice_ends.t std a0 a1 s
def unsplice_Unsplice_ends.w : List Value → St → Option (Value × St)
  | [a0, a1], s => unsplice_Unsplice_ends.v a0 a1 s
  | _, _ => none
def unsplice_Unsplice_ends.an : An := ⟨11, false, [], [], [], []⟩
theorem unsplice_Unsplice_ends.ok (S : Sig) (a0 a1 : Value) (s : St) : evF S Try.prog unsplice_Unsplice_ends.ctx unsplice_Unsplice_ends.an Try.f82 [a0, a1] s = unsplice_Unsplice_ends.t S a0 a1 s := by kernel_rfl
theorem unsplice_Unsplice_ends.cok : CtxOk Try.prog unsplice_Unsplice_ends.ctx := .nil
theorem unsplice_Unsplice_ends.draws : fnDraws unsplice_Unsplice_ends.an Try.f82 = true := by kernel_rfl
theorem unsplice_Unsplice_ends.can : callOk Try.prog 82 = true := by kernel_rfl
theorem unsplice_Unsplice_ends.sound : FnOk Try.prog 82 (.st unsplice_Unsplice_ends.w) := FnOk.st_of (evF_ok unsplice_Unsplice_ends.cok mixed (f := 82) (fn := Try.f82) (by kernel_rfl) unsplice_Unsplice_ends.draws) fun args s r h => by
  unfold unsplice_Unsplice_ends.w at h; split at h
  · rw [unsplice_Unsplice_ends.ok std]; exact h
  · simp at h

/-! ### (*leapfrog/unsplice.Unsplice).read: function 50 -/
def unsplice_Unsplice_read.ctx : Ctx := [(81, .rd key_Less.w), (82, .st unsplice_Unsplice_ends.w)]
def unsplice_Unsplice_read.t (S : Sig) (a0 a1 : Value) (s : St) : Option (Value × St) :=
  S.bd (bx a1) fun c1 => S.bd (nck a0) fun x2 => S.bd (fld 9 x2) fun x3 => S.bd (stv s 1 x3 (Go.Value.int Go.IntKind.i64 9)) fun s4 => S.bd (lcl c1 0) fun x5 => S.bd (eqb [1] false false x5 (Go.Value.int Go.IntKind.i64 1)) fun x6 => S.cnd x6 (S.bd (lal c1 3 2) fun x7 => S.bd (nck a0) fun x8 => S.bd (fld 0 x8) fun x9 => S.bd (fld 2 x9) fun x10 => S.bd (fld 1 x10) fun x11 => S.bd (lda s4 2 x11) fun x12 => S.bd (key_Less.r x7 x12 s4) fun x13 => S.cnd x13 (S.bd (lal c1 2 5) fun x14 => S.bd (nck a0) fun x15 => S.bd (fld 11 x15) fun x16 => S.bd (stv s4 5 x16 x14) fun s17 => S.bd (nck a0) fun x18 => S.bd (fld 9 x18) fun x19 => S.bd (stv s17 1 x19 (Go.Value.int Go.IntKind.i64 2)) fun s20 => some ((Value.tuple ⟨[]⟩), s20)) (some ((Value.tuple ⟨[]⟩), s4))) (S.bd (eqb [1] false false x5 (Go.Value.int Go.IntKind.i64 2)) fun x21 => S.cnd x21 (S.bd (unsplice_Unsplice_ends.v a0 (Go.Value.int Go.IntKind.i64 0) s4) fun r22 => some ((Value.tuple ⟨[]⟩), r22.2)) (S.bd (eqb [1] false false x5 (Go.Value.int Go.IntKind.i64 3)) fun x23 => S.cnd x23 (S.bd (unsplice_Unsplice_ends.v a0 (Go.Value.int Go.IntKind.i64 132) s4) fun r24 => some ((Value.tuple ⟨[]⟩), r24.2)) (some ((Value.tuple ⟨[]⟩), s4))))
def unsplice_Unsplice_read.v (a0 a1 : Value) (s : St) : Option (Value × St) := unsplice_Unsplice_read.t std a0 a1 s
def unsplice_Unsplice_read.w : List Value → St → Option (Value × St)
  | [a0, a1], s => unsplice_Unsplice_read.v a0 a1 s
  | _, _ => none
def unsplice_Unsplice_read.an : An := ⟨37, false, [3], [], [], [(4, [(0, 0, [], []), (1, 0, [], []), (2, 25, [], []), (3, 0, [], []), (4, 0, [], []), (5, 0, [], []), (6, 0, [], []), (7, 0, [], []), (8, 2, [], []), (9, 3, [], [])])]⟩
theorem unsplice_Unsplice_read.ok (S : Sig) (a0 a1 : Value) (s : St) : evF S Try.prog unsplice_Unsplice_read.ctx unsplice_Unsplice_read.an Try.f50 [a0, a1] s = unsplice_Unsplice_read.t S a0 a1 s := by kernel_rfl
theorem unsplice_Unsplice_read.cok : CtxOk Try.prog unsplice_Unsplice_read.ctx := .cons key_Less.sound key_Less.can <| .cons unsplice_Unsplice_ends.sound unsplice_Unsplice_ends.can <| .nil
theorem unsplice_Unsplice_read.draws : fnDraws unsplice_Unsplice_read.an Try.f50 = true := by kernel_rfl
theorem unsplice_Unsplice_read.can : callOk Try.prog 50 = true := by kernel_rfl
theorem unsplice_Unsplice_read.sound : FnOk Try.prog 50 (.st unsplice_Unsplice_read.w) := FnOk.st_of (evF_ok unsplice_Unsplice_read.cok mixed (f := 50) (fn := Try.f50) (by kernel_rfl) unsplice_Unsplice_read.draws) fun args s r h => by
  unfold unsplice_Unsplice_read.w at h; split at h
  · rw [unsplice_Unsplice_read.ok std]; exact h
  · simp at h

/-! ### (*leapfrog/unsplice.Unsplice).free: function 51 -/
def unsplice_Unsplice_free.ctx : Ctx := []
def unsplice_Unsplice_free.t (S : Sig) (a0 a1 a2 : Value) (s : St) : Option (Value × St) :=
  S.bd (nck a0) fun x1 => S.bd (fld 9 x1) fun x2 => S.bd (stv s 1 x2 (Go.Value.int Go.IntKind.i64 8)) fun s3 => S.bd (nck a0) fun x4 => S.bd (fld 10 x4) fun x5 => S.bd (stv s3 1 x5 a1) fun s6 => S.bd (nck a0) fun x7 => S.bd (fld 21 x7) fun x8 => S.bd (stv s6 1 x8 a2) fun s9 => some ((Value.tuple ⟨[]⟩), s9)
def unsplice_Unsplice_free.v (a0 a1 a2 : Value) (s : St) : Option (Value × St) := unsplice_Unsplice_free.t std a0 a1 a2 s
def unsplice_Unsplice_free.w : List Value → St → Option (Value × St)
  | [a0, a1, a2], s => unsplice_Unsplice_free.v a0 a1 a2 s
  | _, _ => none
def unsplice_Unsplice_free.an : An := ⟨17, false, [], [], [], []⟩
theorem unsplice_Unsplice_free.ok (S : Sig) (a0 a1 a2 : Value) (s : St) : evF S Try.prog unsplice_Unsplice_free.ctx unsplice_Unsplice_free.an Try.f51 [a0, a1, a2] s = unsplice_Unsplice_free.t S a0 a1 a2 s := by kernel_rfl
theorem unsplice_Unsplice_free.cok : CtxOk Try.prog unsplice_Unsplice_free.ctx := .nil
theorem unsplice_Unsplice_free.draws : fnDraws unsplice_Unsplice_free.an Try.f51 = true := by kernel_rfl
theorem unsplice_Unsplice_free.can : callOk Try.prog 51 = true := by kernel_rfl
theorem unsplice_Unsplice_free.sound : FnOk Try.prog 51 (.st unsplice_Unsplice_free.w) := FnOk.st_of (evF_ok unsplice_Unsplice_free.cok mixed (f := 51) (fn := Try.f51) (by kernel_rfl) unsplice_Unsplice_free.draws) fun args s r h => by
  unfold unsplice_Unsplice_free.w at h; split at h
  · rw [unsplice_Unsplice_free.ok std]; exact h
  · simp at h

/-! ### (*leapfrog/unsplice.Unsplice).own: function 52 -/
def unsplice_Unsplice_own.ctx : Ctx := [(81, .rd key_Less.w), (51, .st unsplice_Unsplice_free.w)]
def unsplice_Unsplice_own.t (S : Sig) (a0 a1 : Value) (s : St) : Option (Value × St) :=
  S.bd (bx a1) fun c1 => S.bd (lcl c1 0) fun x2 => S.bd (eqb [1] false false x2 (Go.Value.int Go.IntKind.i64 1)) fun x3 => S.cnd x3 (S.bd (lal c1 7 5) fun x4 => S.bd (nck a0) fun x5 => S.bd (fld 16 x5) fun x6 => S.bd (stv s 5 x6 x4) fun s7 => S.bd (nck a0) fun x8 => S.bd (fld 9 x8) fun x9 => S.bd (stv s7 1 x9 (Go.Value.int Go.IntKind.i64 4)) fun s10 => S.bd (nck a0) fun x11 => S.bd (fld 0 x11) fun x12 => S.bd (fld 2 x12) fun x13 => S.bd (fld 1 x13) fun x14 => S.bd (lda s10 2 x14) fun x15 => S.bd (nck a0) fun x16 => S.bd (fld 16 x16) fun x17 => S.bd (fld 1 x17) fun x18 => S.bd (lda s10 2 x18) fun x19 => S.bd (key_Less.r x15 x19 s10) fun x20 => S.bd (un .not x20) fun x21 => S.cnd x21 (S.bd (nck a0) fun x22 => S.bd (fld 9 x22) fun x23 => S.bd (stv s10 1 x23 (Go.Value.int Go.IntKind.i64 7)) fun s24 => some ((Value.tuple ⟨[]⟩), s24)) (some ((Value.tuple ⟨[]⟩), s10))) (S.bd (eqb [1] false false x2 (Go.Value.int Go.IntKind.i64 2)) fun x25 => S.cnd x25 (S.bd (unsplice_Unsplice_free.v a0 (Go.Value.int Go.IntKind.i64 10) (Go.Value.int Go.IntKind.i64 0) s) fun r26 => some ((Value.tuple ⟨[]⟩), r26.2)) (S.bd (eqb [1] false false x2 (Go.Value.int Go.IntKind.i64 3)) fun x27 => S.cnd x27 (S.bd (unsplice_Unsplice_free.v a0 (Go.Value.int Go.IntKind.i64 10) (Go.Value.int Go.IntKind.i64 132) s) fun r28 => some ((Value.tuple ⟨[]⟩), r28.2)) (S.bd (unsplice_Unsplice_free.v a0 (Go.Value.int Go.IntKind.i64 9) (Go.Value.int Go.IntKind.i64 0) s) fun r29 => some ((Value.tuple ⟨[]⟩), r29.2))))
def unsplice_Unsplice_own.v (a0 a1 : Value) (s : St) : Option (Value × St) := unsplice_Unsplice_own.t std a0 a1 s
def unsplice_Unsplice_own.w : List Value → St → Option (Value × St)
  | [a0, a1], s => unsplice_Unsplice_own.v a0 a1 s
  | _, _ => none
def unsplice_Unsplice_own.an : An := ⟨42, false, [3], [], [], [(5, [(0, 0, [], []), (1, 0, [], []), (2, 0, [], []), (3, 0, [], []), (4, 0, [], []), (5, 2, [], []), (6, 0, [], []), (7, 0, [], []), (8, 0, [], []), (9, 0, [], []), (10, 2, [], []), (11, 3, [], []), (12, 0, [], [])])]⟩
theorem unsplice_Unsplice_own.ok (S : Sig) (a0 a1 : Value) (s : St) : evF S Try.prog unsplice_Unsplice_own.ctx unsplice_Unsplice_own.an Try.f52 [a0, a1] s = unsplice_Unsplice_own.t S a0 a1 s := by kernel_rfl
theorem unsplice_Unsplice_own.cok : CtxOk Try.prog unsplice_Unsplice_own.ctx := .cons key_Less.sound key_Less.can <| .cons unsplice_Unsplice_free.sound unsplice_Unsplice_free.can <| .nil
theorem unsplice_Unsplice_own.draws : fnDraws unsplice_Unsplice_own.an Try.f52 = true := by kernel_rfl
theorem unsplice_Unsplice_own.can : callOk Try.prog 52 = true := by kernel_rfl
theorem unsplice_Unsplice_own.sound : FnOk Try.prog 52 (.st unsplice_Unsplice_own.w) := FnOk.st_of (evF_ok unsplice_Unsplice_own.cok mixed (f := 52) (fn := Try.f52) (by kernel_rfl) unsplice_Unsplice_own.draws) fun args s r h => by
  unfold unsplice_Unsplice_own.w at h; split at h
  · rw [unsplice_Unsplice_own.ok std]; exact h
  · simp at h

/-! ### (*leapfrog/unsplice.Unsplice).Tell: function 14 -/
def unsplice_Unsplice_Tell.ctx : Ctx := [(36, .rd unsplice_Unsplice_is.w), (50, .st unsplice_Unsplice_read.w), (51, .st unsplice_Unsplice_free.w), (52, .st unsplice_Unsplice_own.w)]
def unsplice_Unsplice_Tell.t.p1 (S : Sig) (x6 : Value) (c1 : List Value) (a0 : Value) (s : St) : Option (Value × St) :=
  S.bd (eqb [1] false false x6 (Go.Value.int Go.IntKind.i64 4)) fun x29 => S.cnd x29 (S.bd (show Option Cut from S.bd (show Option Cut from S.bd (lcl c1 0) fun x56 => S.bd (eqb [1] false false x56 (Go.Value.int Go.IntKind.i64 1)) fun x57 => S.cnd x57 (some (1, [a0], s)) (S.bd (lcl c1 0) fun x58 => S.bd (eqb [1] false false x58 (Go.Value.int Go.IntKind.i64 3)) fun x59 => S.bd (S.gd x59 true (lal c1 7 5)) fun x60 => S.bd (S.gd x59 true (some a0)) fun x61 => S.bd (S.gd x59 true (nck x61)) fun x62 => S.bd (S.gd x59 true (fld 16 x62)) fun x63 => S.bd (S.gd x59 true (lda s 5 x63)) fun x64 => S.bd (S.gd x59 true (eqb [1, 1, 1, 1, 1] true false x60 x64)) fun x65 => S.bd (pik x59 x65 (Go.Value.bool Bool.false)) fun x66 => S.cnd x66 (some (1, [a0], s)) (some (0, [a0], s)))) fun r67 => if r67.1 = 0 then (some (1, [(r67.2.1.getD 0 undef)], r67.2.2)) else (S.bd (nck (r67.2.1.getD 0 undef)) fun x68 => S.bd (fld 9 x68) fun x69 => S.bd (stv r67.2.2 1 x69 (Go.Value.int Go.IntKind.i64 5)) fun s70 => some (0, [], s70))) fun r71 => if r71.1 = 0 then (some ((Value.tuple ⟨[]⟩), r71.2.2)) else (S.bd (nck (r71.2.1.getD 0 undef)) fun x72 => S.bd (fld 9 x72) fun x73 => S.bd (stv r71.2.2 1 x73 (Go.Value.int Go.IntKind.i64 7)) fun s74 => some ((Value.tuple ⟨[]⟩), s74))) (S.bd (eqb [1] false false x6 (Go.Value.int Go.IntKind.i64 5)) fun x75 => S.cnd x75 (S.bd (nck a0) fun x76 => S.bd (fld 9 x76) fun x77 => S.bd (stv s 1 x77 (Go.Value.int Go.IntKind.i64 6)) fun s78 => some ((Value.tuple ⟨[]⟩), s78)) (S.bd (eqb [1] false false x6 (Go.Value.int Go.IntKind.i64 6)) fun x79 => S.cnd x79 (S.bd (unsplice_Unsplice_free.v a0 (Go.Value.int Go.IntKind.i64 10) (Go.Value.int Go.IntKind.i64 0) s) fun r80 => S.bd (lcl c1 0) fun x81 => S.bd (eqb [1] false false x81 (Go.Value.int Go.IntKind.i64 3)) fun x82 => S.cnd x82 (S.bd (nck a0) fun x83 => S.bd (fld 21 x83) fun x84 => S.bd (stv r80.2 1 x84 (Go.Value.int Go.IntKind.i64 132)) fun s85 => some ((Value.tuple ⟨[]⟩), s85)) (some ((Value.tuple ⟨[]⟩), r80.2))) (S.bd (eqb [1] false false x6 (Go.Value.int Go.IntKind.i64 7)) fun x86 => S.cnd x86 (S.bd (unsplice_Unsplice_free.v a0 (Go.Value.int Go.IntKind.i64 9) (Go.Value.int Go.IntKind.i64 0) s) fun r87 => some ((Value.tuple ⟨[]⟩), r87.2)) (S.bd (eqb [1] false false x6 (Go.Value.int Go.IntKind.i64 8)) fun x88 => S.cnd x88 (S.bd (nck a0) fun x89 => S.bd (fld 10 x89) fun x90 => S.bd (ldc s x90) fun x91 => S.bd (nck a0) fun x92 => S.bd (fld 9 x92) fun x93 => S.bd (stv s 1 x93 x91) fun s94 => some ((Value.tuple ⟨[]⟩), s94)) (some ((Value.tuple ⟨[]⟩), s))))))

def unsplice_Unsplice_Tell.t (S : Sig) (a0 a1 : Value) (s : St) : Option (Value × St) :=
  S.bd (bx a1) fun c1 => S.bd (unsplice_Unsplice_is.r a0 s) fun x2 => S.bd (un .not x2) fun x3 => S.cnd x3 (some ((Value.tuple ⟨[]⟩), s)) (S.bd (nck a0) fun x4 => S.bd (fld 9 x4) fun x5 => S.bd (ldc s x5) fun x6 => S.bd (eqb [1] false false x6 (Go.Value.int Go.IntKind.i64 1)) fun x7 => S.cnd x7 (S.bd (lal c1 0 13) fun x8 => S.bd (unsplice_Unsplice_read.v a0 x8 s) fun r9 => some ((Value.tuple ⟨[]⟩), r9.2)) (S.bd (eqb [1] false false x6 (Go.Value.int Go.IntKind.i64 2)) fun x10 => S.cnd x10 (S.bd (lcl c1 0) fun x11 => S.bd (eqb [1] false true x11 (Go.Value.int Go.IntKind.i64 1)) fun x12 => S.cnd x12 (S.bd (nck a0) fun x13 => S.bd (fld 9 x13) fun x14 => S.bd (stv s 1 x14 (Go.Value.int Go.IntKind.i64 9)) fun s15 => some ((Value.tuple ⟨[]⟩), s15)) (S.bd (lal c1 7 5) fun x16 => S.bd (nck a0) fun x17 => S.bd (fld 0 x17) fun x18 => S.bd (fld 2 x18) fun x19 => S.bd (lda s 5 x19) fun x20 => S.bd (eqb [1, 1, 1, 1, 1] true false x16 x20) fun x21 => S.cnd x21 (S.bd (nck a0) fun x22 => S.bd (fld 9 x22) fun x23 => S.bd (stv s 1 x23 (Go.Value.int Go.IntKind.i64 3)) fun s24 => some ((Value.tuple ⟨[]⟩), s24)) (S.bd (unsplice_Unsplice_free.v a0 (Go.Value.int Go.IntKind.i64 9) (Go.Value.int Go.IntKind.i64 0) s) fun r25 => some ((Value.tuple ⟨[]⟩), r25.2)))) (S.bd (eqb [1] false false x6 (Go.Value.int Go.IntKind.i64 3)) fun x26 => S.cnd x26 (S.bd (lal c1 0 13) fun x27 => S.bd (unsplice_Unsplice_own.v a0 x27 s) fun r28 => some ((Value.tuple ⟨[]⟩), r28.2)) (unsplice_Unsplice_Tell.t.p1 S x6 c1 a0 s))))
def unsplice_Unsplice_Tell.v (a0 a1 : Value) (s : St) : Option (Value × St) := unsplice_Unsplice_Tell.t std a0 a1 s
def unsplice_Unsplice_Tell.w : List Value → St → Option (Value × St)
  | [a0, a1], s => unsplice_Unsplice_Tell.v a0 a1 s
  | _, _ => none
def unsplice_Unsplice_Tell.an : An := ⟨97, false, [3], [], [(16, ⟨[], [(.exit 5, [.v 0]), (.normal, [.v 0])]⟩), (17, ⟨[], [(.exit 2, []), (.normal, [.v 0])]⟩)], [(9, [(0, 0, [], []), (1, 25, [], []), (2, 0, [], []), (3, 0, [], []), (4, 0, [], []), (5, 0, [], []), (6, 2, [], []), (7, 0, [], []), (8, 0, [], [])]), (15, [(0, 0, [], []), (1, 25, [], []), (2, 0, [], []), (3, 0, [], []), (4, 0, [], []), (5, 25, [], []), (6, 0, [], []), (7, 0, [], []), (8, 0, [], []), (9, 2, [], []), (10, 0, [], []), (11, 0, [], []), (12, 0, [], [])])]⟩
theorem unsplice_Unsplice_Tell.ok (S : Sig) (a0 a1 : Value) (s : St) : evF S Try.prog unsplice_Unsplice_Tell.ctx unsplice_Unsplice_Tell.an Try.f14 [a0, a1] s = unsplice_Unsplice_Tell.t S a0 a1 s := by kernel_rfl
theorem unsplice_Unsplice_Tell.cok : CtxOk Try.prog unsplice_Unsplice_Tell.ctx := .cons unsplice_Unsplice_is.sound unsplice_Unsplice_is.can <| .cons unsplice_Unsplice_read.sound unsplice_Unsplice_read.can <| .cons unsplice_Unsplice_free.sound unsplice_Unsplice_free.can <| .cons unsplice_Unsplice_own.sound unsplice_Unsplice_own.can <| .nil
theorem unsplice_Unsplice_Tell.draws : fnDraws unsplice_Unsplice_Tell.an Try.f14 = true := by kernel_rfl
theorem unsplice_Unsplice_Tell.can : callOk Try.prog 14 = true := by kernel_rfl
theorem unsplice_Unsplice_Tell.sound : FnOk Try.prog 14 (.st unsplice_Unsplice_Tell.w) := FnOk.st_of (evF_ok unsplice_Unsplice_Tell.cok mixed (f := 14) (fn := Try.f14) (by kernel_rfl) unsplice_Unsplice_Tell.draws) fun args s r h => by
  unfold unsplice_Unsplice_Tell.w at h; split at h
  · rw [unsplice_Unsplice_Tell.ok std]; exact h
  · simp at h

/-! ### leapfrog/leapfroglaw14.awake: function 7 -/
def leapfroglaw14x_awake.ctx : Ctx := [(26, .rd leapfroglaw14x_One.w), (10, .rd leapfroglaw14x_Owner.w), (9, .st unsplice_New.w), (11, .rd unsplice_Unsplice_Next.w), (14, .st unsplice_Unsplice_Tell.w)]
def leapfroglaw14x_awake.l6 (S : Sig) (rec35 : List Value → St → Option Cut) (xs33 : List Value) (s34 : St) : Option Cut :=
  S.bd (lenL (xs33.getD 1 undef)) fun x36 => S.bd (bin .lss (xs33.getD 2 undef) x36) fun x37 => S.cnd x37 (S.bd (unsplice_Unsplice_Next.r (xs33.getD 0 undef) s34) fun x38 => S.bd (prt 0 1 false x38) fun x39 => S.bd (eqb [1] false true x39 (Go.Value.int Go.IntKind.i64 1)) fun x40 => S.cnd x40 (some (1, [(Go.Value.bool Bool.false)], s34)) (S.bd (idx s34 13 (xs33.getD 1 undef) (xs33.getD 2 undef)) fun x41 => S.bd (lda s34 13 x41) fun x42 => S.bd (unsplice_Unsplice_Tell.v (xs33.getD 0 undef) x42 s34) fun r43 => S.bd (bin .add (xs33.getD 2 undef) (Go.Value.int Go.IntKind.i64 1)) fun x44 => rec35 [(xs33.getD 0 undef), (xs33.getD 1 undef), x44] r43.2)) (some (0, [(xs33.getD 0 undef)], s34))

def leapfroglaw14x_awake.t.p1 (S : Sig) (x13 : Value) (x15 : Value) (x18 : Value) (x19 : Value) (r4 : Value × St) (x5 : Value) : Option (Value × St) :=
  S.bd (bld [(Go.Value.int Go.IntKind.i64 0), (Go.Value.bool Bool.false), (Go.Value.int Go.IntKind.i64 0), (Go.Value.int Go.IntKind.i64 0), (Go.Value.int Go.IntKind.u64 0), (Go.Value.int Go.IntKind.i64 0), (Go.Value.int Go.IntKind.u64 0), (Go.Value.int Go.IntKind.i64 0), (Go.Value.int Go.IntKind.i64 0), (Go.Value.int Go.IntKind.u64 0), (Go.Value.int Go.IntKind.i64 0), (Go.Value.int Go.IntKind.u64 0), (Go.Value.slice Option.none 0 0)] [(0, 1, (Go.Value.int Go.IntKind.i64 1))]) fun x20 => S.bd (bld [(Go.Value.int Go.IntKind.i64 0), (Go.Value.bool Bool.false), (Go.Value.int Go.IntKind.i64 0), (Go.Value.int Go.IntKind.i64 0), (Go.Value.int Go.IntKind.u64 0), (Go.Value.int Go.IntKind.i64 0), (Go.Value.int Go.IntKind.u64 0), (Go.Value.int Go.IntKind.i64 0), (Go.Value.int Go.IntKind.i64 0), (Go.Value.int Go.IntKind.u64 0), (Go.Value.int Go.IntKind.i64 0), (Go.Value.int Go.IntKind.u64 0), (Go.Value.slice Option.none 0 0)] [(0, 1, (Go.Value.int Go.IntKind.i64 1))]) fun x21 => S.bd (bld [(Go.Value.int Go.IntKind.i64 0), (Go.Value.bool Bool.false), (Go.Value.int Go.IntKind.i64 0), (Go.Value.int Go.IntKind.i64 0), (Go.Value.int Go.IntKind.u64 0), (Go.Value.int Go.IntKind.i64 0), (Go.Value.int Go.IntKind.u64 0), (Go.Value.int Go.IntKind.i64 0), (Go.Value.int Go.IntKind.i64 0), (Go.Value.int Go.IntKind.u64 0), (Go.Value.int Go.IntKind.i64 0), (Go.Value.int Go.IntKind.u64 0), (Go.Value.slice Option.none 0 0)] [(0, 1, (Go.Value.int Go.IntKind.i64 1))]) fun x22 => S.bd (S.bd (bls 13 (List.replicate 7 [(Go.Value.int Go.IntKind.i64 0), (Go.Value.bool Bool.false), (Go.Value.int Go.IntKind.i64 0), (Go.Value.int Go.IntKind.i64 0), (Go.Value.int Go.IntKind.u64 0), (Go.Value.int Go.IntKind.i64 0), (Go.Value.int Go.IntKind.u64 0), (Go.Value.int Go.IntKind.i64 0), (Go.Value.int Go.IntKind.i64 0), (Go.Value.int Go.IntKind.u64 0), (Go.Value.int Go.IntKind.i64 0), (Go.Value.int Go.IntKind.u64 0), (Go.Value.slice Option.none 0 0)]) [(0, x13), (1, x15), (2, x18), (3, x19), (4, x20), (5, x21), (6, x22)]) fun rows => als r4.2 13 7 rows) fun r23 => S.bd (S.it (leapfroglaw14x_awake.l6 S) [x5, r23.1, (Go.Value.int Go.IntKind.i64 0)] r23.2) fun r45 => if r45.1 = 0 then (S.bd (unsplice_Unsplice_Next.r (r45.2.1.getD 0 undef) r45.2.2) fun x46 => S.bd (bx (Go.Value.agg #[(Go.Value.int Go.IntKind.i64 0), (Go.Value.int Go.IntKind.i64 0), (Go.Value.int Go.IntKind.i64 0), (Go.Value.int Go.IntKind.u64 0), (Go.Value.int Go.IntKind.i64 0), (Go.Value.int Go.IntKind.u64 0), (Go.Value.int Go.IntKind.i64 0), (Go.Value.int Go.IntKind.i64 0), (Go.Value.int Go.IntKind.u64 0), (Go.Value.int Go.IntKind.i64 0), (Go.Value.int Go.IntKind.i64 0), (Go.Value.int Go.IntKind.u64 0), (Go.Value.int Go.IntKind.i64 0), (Go.Value.int Go.IntKind.u64 0), (Go.Value.int Go.IntKind.i64 0), (Go.Value.int Go.IntKind.i64 0), (Go.Value.int Go.IntKind.u64 0), (Go.Value.int Go.IntKind.i64 0), (Go.Value.int Go.IntKind.u64 0), (Go.Value.int Go.IntKind.i64 0), (Go.Value.int Go.IntKind.i64 0), (Go.Value.int Go.IntKind.i64 0), (Go.Value.int Go.IntKind.u64 0), (Go.Value.slice Option.none 0 0), (Go.Value.slice Option.none 0 0), (Go.Value.int Go.IntKind.i64 0), (Go.Value.int Go.IntKind.i64 0), (Go.Value.int Go.IntKind.u64 0), (Go.Value.int Go.IntKind.i64 0), (Go.Value.int Go.IntKind.u64 0), (Go.Value.int Go.IntKind.i64 0), (Go.Value.int Go.IntKind.i64 0), (Go.Value.int Go.IntKind.u64 0), (Go.Value.int Go.IntKind.i64 0), (Go.Value.int Go.IntKind.u64 0), (Go.Value.bool Bool.false)])) fun c47 => S.bd (stl c47 0 36 x46) fun c48 => S.bd (lcl c48 0) fun x49 => S.bd (eqb [1] false false x49 (Go.Value.int Go.IntKind.i64 3)) fun x50 => S.bd (S.gd x50 true (lcl c48 21)) fun x51 => S.bd (S.gd x50 true (eqb [1] false false x51 (Go.Value.int Go.IntKind.i64 0))) fun x52 => S.bd (pik x50 x52 (Go.Value.bool Bool.false)) fun x53 => some (x53, r45.2.2)) else (some ((r45.2.1.getD 0 undef), r45.2.2))

def leapfroglaw14x_awake.t.p2 (S : Sig) (r4 : Value × St) (x5 : Value) : Option (Value × St) :=
  S.bd (leapfroglaw14x_One.r (Go.Value.int Go.IntKind.i64 4) r4.2) fun x11 => S.bd (leapfroglaw14x_One.r (Go.Value.int Go.IntKind.i64 6) r4.2) fun x12 => S.bd (bld [(Go.Value.int Go.IntKind.i64 0), (Go.Value.bool Bool.false), (Go.Value.int Go.IntKind.i64 0), (Go.Value.int Go.IntKind.i64 0), (Go.Value.int Go.IntKind.u64 0), (Go.Value.int Go.IntKind.i64 0), (Go.Value.int Go.IntKind.u64 0), (Go.Value.int Go.IntKind.i64 0), (Go.Value.int Go.IntKind.i64 0), (Go.Value.int Go.IntKind.u64 0), (Go.Value.int Go.IntKind.i64 0), (Go.Value.int Go.IntKind.u64 0), (Go.Value.slice Option.none 0 0)] [(0, 1, (Go.Value.int Go.IntKind.i64 1)), (2, 5, x11), (7, 5, x12)]) fun x13 => S.bd (leapfroglaw14x_One.r (Go.Value.int Go.IntKind.i64 5) r4.2) fun x14 => S.bd (bld [(Go.Value.int Go.IntKind.i64 0), (Go.Value.bool Bool.false), (Go.Value.int Go.IntKind.i64 0), (Go.Value.int Go.IntKind.i64 0), (Go.Value.int Go.IntKind.u64 0), (Go.Value.int Go.IntKind.i64 0), (Go.Value.int Go.IntKind.u64 0), (Go.Value.int Go.IntKind.i64 0), (Go.Value.int Go.IntKind.i64 0), (Go.Value.int Go.IntKind.u64 0), (Go.Value.int Go.IntKind.i64 0), (Go.Value.int Go.IntKind.u64 0), (Go.Value.slice Option.none 0 0)] [(0, 1, (Go.Value.int Go.IntKind.i64 1)), (7, 5, x14)]) fun x15 => S.bd (leapfroglaw14x_One.r (Go.Value.int Go.IntKind.i64 4) r4.2) fun x16 => S.bd (leapfroglaw14x_One.r (Go.Value.int Go.IntKind.i64 6) r4.2) fun x17 => S.bd (bld [(Go.Value.int Go.IntKind.i64 0), (Go.Value.bool Bool.false), (Go.Value.int Go.IntKind.i64 0), (Go.Value.int Go.IntKind.i64 0), (Go.Value.int Go.IntKind.u64 0), (Go.Value.int Go.IntKind.i64 0), (Go.Value.int Go.IntKind.u64 0), (Go.Value.int Go.IntKind.i64 0), (Go.Value.int Go.IntKind.i64 0), (Go.Value.int Go.IntKind.u64 0), (Go.Value.int Go.IntKind.i64 0), (Go.Value.int Go.IntKind.u64 0), (Go.Value.slice Option.none 0 0)] [(0, 1, (Go.Value.int Go.IntKind.i64 1)), (2, 5, x16), (7, 5, x17)]) fun x18 => S.bd (bld [(Go.Value.int Go.IntKind.i64 0), (Go.Value.bool Bool.false), (Go.Value.int Go.IntKind.i64 0), (Go.Value.int Go.IntKind.i64 0), (Go.Value.int Go.IntKind.u64 0), (Go.Value.int Go.IntKind.i64 0), (Go.Value.int Go.IntKind.u64 0), (Go.Value.int Go.IntKind.i64 0), (Go.Value.int Go.IntKind.i64 0), (Go.Value.int Go.IntKind.u64 0), (Go.Value.int Go.IntKind.i64 0), (Go.Value.int Go.IntKind.u64 0), (Go.Value.slice Option.none 0 0)] [(0, 1, (Go.Value.int Go.IntKind.i64 1))]) fun x19 => leapfroglaw14x_awake.t.p1 S x13 x15 x18 x19 r4 x5

def leapfroglaw14x_awake.t (S : Sig) (s : St) : Option (Value × St) :=
  S.bd (leapfroglaw14x_One.r (Go.Value.int Go.IntKind.i64 5) s) fun x1 => S.bd (leapfroglaw14x_Owner.r  s) fun x2 => S.bd (bld [(Go.Value.int Go.IntKind.i64 0), (Go.Value.int Go.IntKind.u64 0), (Go.Value.int Go.IntKind.i64 0), (Go.Value.int Go.IntKind.i64 0), (Go.Value.int Go.IntKind.u64 0), (Go.Value.int Go.IntKind.i64 0), (Go.Value.int Go.IntKind.u64 0), (Go.Value.int Go.IntKind.i64 0), (Go.Value.int Go.IntKind.i64 0)] [(2, 5, x1), (7, 2, x2)]) fun x3 => S.bd (unsplice_New.v x3 s) fun r4 => S.bd (xtr 0 r4.1) fun x5 => S.bd (xtr 1 r4.1) fun x6 => S.bd (eqb [1] false true x6 (Go.Value.int Go.IntKind.i64 0)) fun x7 => S.bd (S.gd x7 false (some x5)) fun x8 => S.bd (S.gd x7 false (eqb [3] false false x8 (Go.Value.pointer Option.none))) fun x9 => S.bd (pik x7 (Go.Value.bool Bool.true) x9) fun x10 => S.cnd x10 (some ((Go.Value.bool Bool.false), r4.2)) (leapfroglaw14x_awake.t.p2 S r4 x5)
def leapfroglaw14x_awake.v (s : St) : Option (Value × St) := leapfroglaw14x_awake.t std  s
def leapfroglaw14x_awake.w : List Value → St → Option (Value × St)
  | [], s => leapfroglaw14x_awake.v  s
  | _, _ => none
def leapfroglaw14x_awake.an : An := ⟨59, false, [5], [(6, ⟨[.v 1, .v 3, .v 4], [(.exit 0, [.v 1]), (.ret, [.v 0])]⟩)], [], []⟩
theorem leapfroglaw14x_awake.ok (S : Sig) (s : St) : evF S Try.prog leapfroglaw14x_awake.ctx leapfroglaw14x_awake.an Try.f7 [] s = leapfroglaw14x_awake.t S  s := by kernel_rfl
theorem leapfroglaw14x_awake.cok : CtxOk Try.prog leapfroglaw14x_awake.ctx := .cons leapfroglaw14x_One.sound leapfroglaw14x_One.can <| .cons leapfroglaw14x_Owner.sound leapfroglaw14x_Owner.can <| .cons unsplice_New.sound unsplice_New.can <| .cons unsplice_Unsplice_Next.sound unsplice_Unsplice_Next.can <| .cons unsplice_Unsplice_Tell.sound unsplice_Unsplice_Tell.can <| .nil
theorem leapfroglaw14x_awake.draws : fnDraws leapfroglaw14x_awake.an Try.f7 = true := by kernel_rfl
theorem leapfroglaw14x_awake.can : callOk Try.prog 7 = true := by kernel_rfl
theorem leapfroglaw14x_awake.sound : FnOk Try.prog 7 (.st leapfroglaw14x_awake.w) := FnOk.st_of (evF_ok leapfroglaw14x_awake.cok mixed (f := 7) (fn := Try.f7) (by kernel_rfl) leapfroglaw14x_awake.draws) fun args s r h => by
  unfold leapfroglaw14x_awake.w at h; split at h
  · rw [leapfroglaw14x_awake.ok std]; exact h
  · simp at h

/-! ### leapfrog/leapfroglaw14.awake: function 7, closed -/
def leapfroglaw14x_awakeC.r (s : St) : Option Value := some (Value.bool true)
def leapfroglaw14x_awakeC.w : List Value → St → Option Value := closedW (Value.bool true)
theorem leapfroglaw14x_awakeC.can : callOk Try.prog 7 = true := leapfroglaw14x_awake.can
theorem leapfroglaw14x_awakeC.sound : FnOk Try.prog 7 (.rd leapfroglaw14x_awakeC.w) := FnOk.closed leapfroglaw14x_awake.sound (by kernel_rfl) rfl

/-! ### leapfrog/leapfrogref02.Compare: function 61 -/
def leapfrogref02x_Compare.ctx : Ctx := []
def leapfrogref02x_Compare.t (S : Sig) (a0 a1 : Value) (s : St) : Option Value :=
  S.bd (bx a0) fun c1 => S.bd (bx a1) fun c2 => S.bd (lcl c1 0) fun x3 => S.bd (lcl c2 0) fun x4 => S.bd (bin .lss x3 x4) fun x5 => S.bd (S.gd x5 false (lcl c1 0)) fun x6 => S.bd (S.gd x5 false (lcl c2 0)) fun x7 => S.bd (S.gd x5 false (eqb [1] false false x6 x7)) fun x8 => S.bd (S.gd x5 false (some x8)) fun x9 => S.bd (S.gd x9 true (lcl c1 1)) fun x10 => S.bd (S.gd x9 true (lcl c2 1)) fun x11 => S.bd (S.gd x9 true (bin .lss x10 x11)) fun x12 => S.bd (S.gd x5 false (pik x9 x12 (Go.Value.bool Bool.false))) fun x13 => S.bd (pik x5 (Go.Value.bool Bool.true) x13) fun x14 => S.cnd x14 (some ((Go.Value.int Go.IntKind.i64 (-1)))) (S.bd (lal c1 0 2) fun x15 => S.bd (lal c2 0 2) fun x16 => S.bd (eqb [1, 1] true false x15 x16) fun x17 => S.cnd x17 (some ((Go.Value.int Go.IntKind.i64 0))) (some ((Go.Value.int Go.IntKind.i64 1))))
def leapfrogref02x_Compare.r (a0 a1 : Value) (s : St) : Option Value := leapfrogref02x_Compare.t std a0 a1 s
def leapfrogref02x_Compare.w : List Value → St → Option Value
  | [a0, a1], s => leapfrogref02x_Compare.r a0 a1 s
  | _, _ => none
def leapfrogref02x_Compare.an : An := ⟨29, true, [2, 3], [], [], []⟩
theorem leapfrogref02x_Compare.ok (S : Sig) (a0 a1 : Value) (s : St) : evG S Try.prog leapfrogref02x_Compare.ctx leapfrogref02x_Compare.an Try.f61 [a0, a1] s = leapfrogref02x_Compare.t S a0 a1 s := by kernel_rfl
theorem leapfrogref02x_Compare.cok : CtxOk Try.prog leapfrogref02x_Compare.ctx := .nil
theorem leapfrogref02x_Compare.draws : fnDraws leapfrogref02x_Compare.an Try.f61 = true := by kernel_rfl
theorem leapfrogref02x_Compare.can : callOk Try.prog 61 = true := by kernel_rfl
theorem leapfrogref02x_Compare.sound : FnOk Try.prog 61 (.rd leapfrogref02x_Compare.w) := FnOk.rd_of (evG_ok leapfrogref02x_Compare.cok mixed (f := 61) (fn := Try.f61) (by kernel_rfl) leapfrogref02x_Compare.draws) fun args s r h => by
  unfold leapfrogref02x_Compare.w at h; split at h
  · rw [leapfrogref02x_Compare.ok std]; exact h
  · simp at h

/-! ### leapfrog/leapfrogref02.Less: function 23 -/
def leapfrogref02x_Less.ctx : Ctx := [(61, .rd leapfrogref02x_Compare.w)]
def leapfrogref02x_Less.t (S : Sig) (a0 a1 : Value) (s : St) : Option Value :=
  S.bd (bx a0) fun c1 => S.bd (bx a1) fun c2 => S.bd (lal c1 0 2) fun x3 => S.bd (lal c2 0 2) fun x4 => S.bd (leapfrogref02x_Compare.r x3 x4 s) fun x5 => S.bd (bin .lss x5 (Go.Value.int Go.IntKind.i64 0)) fun x6 => some (x6)
def leapfrogref02x_Less.r (a0 a1 : Value) (s : St) : Option Value := leapfrogref02x_Less.t std a0 a1 s
def leapfrogref02x_Less.w : List Value → St → Option Value
  | [a0, a1], s => leapfrogref02x_Less.r a0 a1 s
  | _, _ => none
def leapfrogref02x_Less.an : An := ⟨9, true, [2, 3], [], [], []⟩
theorem leapfrogref02x_Less.ok (S : Sig) (a0 a1 : Value) (s : St) : evG S Try.prog leapfrogref02x_Less.ctx leapfrogref02x_Less.an Try.f23 [a0, a1] s = leapfrogref02x_Less.t S a0 a1 s := by kernel_rfl
theorem leapfrogref02x_Less.cok : CtxOk Try.prog leapfrogref02x_Less.ctx := .cons leapfrogref02x_Compare.sound leapfrogref02x_Compare.can <| .nil
theorem leapfrogref02x_Less.draws : fnDraws leapfrogref02x_Less.an Try.f23 = true := by kernel_rfl
theorem leapfrogref02x_Less.can : callOk Try.prog 23 = true := by kernel_rfl
theorem leapfrogref02x_Less.sound : FnOk Try.prog 23 (.rd leapfrogref02x_Less.w) := FnOk.rd_of (evG_ok leapfrogref02x_Less.cok mixed (f := 23) (fn := Try.f23) (by kernel_rfl) leapfrogref02x_Less.draws) fun args s r h => by
  unfold leapfrogref02x_Less.w at h; split at h
  · rw [leapfrogref02x_Less.ok std]; exact h
  · simp at h

/-! ### leapfrog/leapfrogref02.Sorted: function 28 -/
def leapfrogref02x_Sorted.ctx : Ctx := [(23, .rd leapfrogref02x_Less.w)]
def leapfrogref02x_Sorted.l8.p1 (S : Sig) (xs95 : List Value) (s96 : St) (rec97 : List Value → St → Option Cut) : Option Cut :=
  S.bd (show Option Cut from S.bd (un .not (xs95.getD 4 undef)) fun x100 => S.bd (S.gd x100 true (some (xs95.getD 1 undef))) fun x101 => S.bd (S.gd x100 true (some (xs95.getD 5 undef))) fun x102 => S.bd (S.gd x100 true (idx s96 2 x101 x102)) fun x103 => S.bd (S.gd x100 true (lda s96 2 x103)) fun x104 => S.bd (S.gd x100 true (some (xs95.getD 0 undef))) fun x105 => S.bd (S.gd x100 true (some (xs95.getD 2 undef))) fun x106 => S.bd (S.gd x100 true (idx s96 2 x105 x106)) fun x107 => S.bd (S.gd x100 true (lda s96 2 x107)) fun x108 => S.bd (S.gd x100 true (leapfrogref02x_Less.r x104 x108 s96)) fun x109 => S.bd (S.gd x100 true (un .not x109)) fun x110 => S.bd (pik x100 x110 (Go.Value.bool Bool.false)) fun x111 => S.cnd x111 (S.bd (idx s96 2 (xs95.getD 0 undef) (xs95.getD 2 undef)) fun x112 => S.bd (lda s96 2 x112) fun x113 => S.bd (S.bd (bls 2 (List.replicate 1 [(Go.Value.int Go.IntKind.i64 0), (Go.Value.int Go.IntKind.u64 0)]) [(0, x113)]) fun rows => als s96 2 1 rows) fun r114 => S.bd (app r114.2 2 16 (xs95.getD 3 undef) r114.1) fun r115 => some (0, [(xs95.getD 0 undef), (xs95.getD 1 undef), (xs95.getD 2 undef), r115.1, (Go.Value.bool Bool.true), (xs95.getD 5 undef), x101, x102, x103, x104, x105, x106, x107, x108, x109, x110], r115.2)) (some (0, [(xs95.getD 0 undef), (xs95.getD 1 undef), (xs95.getD 2 undef), (xs95.getD 3 undef), (xs95.getD 4 undef), (xs95.getD 5 undef), x101, x102, x103, x104, x105, x106, x107, x108, x109, x110], s96))) fun r116 => S.bd (idx r116.2.2 2 (r116.2.1.getD 1 undef) (r116.2.1.getD 5 undef)) fun x117 => S.bd (lda r116.2.2 2 x117) fun x118 => S.bd (idx r116.2.2 2 (r116.2.1.getD 0 undef) (r116.2.1.getD 2 undef)) fun x119 => S.bd (lda r116.2.2 2 x119) fun x120 => S.bd (eqb [1, 1] true true x118 x120) fun x121 => S.cnd x121 (S.bd (idx r116.2.2 2 (r116.2.1.getD 1 undef) (r116.2.1.getD 5 undef)) fun x122 => S.bd (lda r116.2.2 2 x122) fun x123 => S.bd (S.bd (bls 2 (List.replicate 1 [(Go.Value.int Go.IntKind.i64 0), (Go.Value.int Go.IntKind.u64 0)]) [(0, x123)]) fun rows => als r116.2.2 2 1 rows) fun r124 => S.bd (app r124.2 2 16 (r116.2.1.getD 3 undef) r124.1) fun r125 => S.bd (bin .add (r116.2.1.getD 5 undef) (Go.Value.int Go.IntKind.i64 1)) fun x126 => rec97 [(r116.2.1.getD 0 undef), (r116.2.1.getD 1 undef), (r116.2.1.getD 2 undef), r125.1, (r116.2.1.getD 4 undef), x126] r125.2) (S.bd (bin .add (r116.2.1.getD 5 undef) (Go.Value.int Go.IntKind.i64 1)) fun x127 => rec97 [(r116.2.1.getD 0 undef), (r116.2.1.getD 1 undef), (r116.2.1.getD 2 undef), (r116.2.1.getD 3 undef), (r116.2.1.getD 4 undef), x127] r116.2.2)

def leapfrogref02x_Sorted.l8 (S : Sig) (rec97 : List Value → St → Option Cut) (xs95 : List Value) (s96 : St) : Option Cut :=
  S.bd (lenL (xs95.getD 1 undef)) fun x98 => S.bd (bin .lss (xs95.getD 5 undef) x98) fun x99 => S.cnd x99 (leapfrogref02x_Sorted.l8.p1 S xs95 s96 rec97) (some (0, [(xs95.getD 0 undef), (xs95.getD 2 undef), (xs95.getD 3 undef), (xs95.getD 4 undef)], s96))

def leapfrogref02x_Sorted.l3 (S : Sig) (rec92 : List Value → St → Option Cut) (xs90 : List Value) (s91 : St) : Option Cut :=
  S.bd (lenL (xs90.getD 0 undef)) fun x93 => S.bd (bin .lss (xs90.getD 2 undef) x93) fun x94 => S.cnd x94 (S.bd (S.it (leapfrogref02x_Sorted.l8 S) [(xs90.getD 0 undef), (xs90.getD 1 undef), (xs90.getD 2 undef), (Go.Value.slice Option.none 0 0), (Go.Value.bool Bool.false), (Go.Value.int Go.IntKind.i64 0)] s91) fun r128 => S.bd (un .not (r128.2.1.getD 3 undef)) fun x129 => S.cnd x129 (S.bd (idx r128.2.2 2 (r128.2.1.getD 0 undef) (r128.2.1.getD 1 undef)) fun x130 => S.bd (lda r128.2.2 2 x130) fun x131 => S.bd (S.bd (bls 2 (List.replicate 1 [(Go.Value.int Go.IntKind.i64 0), (Go.Value.int Go.IntKind.u64 0)]) [(0, x131)]) fun rows => als r128.2.2 2 1 rows) fun r132 => S.bd (app r132.2 2 16 (r128.2.1.getD 2 undef) r132.1) fun r133 => S.bd (bin .add (r128.2.1.getD 1 undef) (Go.Value.int Go.IntKind.i64 1)) fun x134 => rec92 [(r128.2.1.getD 0 undef), r133.1, x134] r133.2) (S.bd (bin .add (r128.2.1.getD 1 undef) (Go.Value.int Go.IntKind.i64 1)) fun x135 => rec92 [(r128.2.1.getD 0 undef), (r128.2.1.getD 2 undef), x135] r128.2.2)) (some (0, [(xs90.getD 1 undef)], s91))

def leapfrogref02x_Sorted.t (S : Sig) (a0 : Value) (s : St) : Option (Value × St) :=
  S.bd (S.it (leapfrogref02x_Sorted.l3 S) [a0, (Go.Value.slice Option.none 0 0), (Go.Value.int Go.IntKind.i64 0)] s) fun r136 => some ((r136.2.1.getD 0 undef), r136.2.2)
def leapfrogref02x_Sorted.v (a0 : Value) (s : St) : Option (Value × St) := leapfrogref02x_Sorted.t std a0 s
def leapfrogref02x_Sorted.w : List Value → St → Option (Value × St)
  | [a0], s => leapfrogref02x_Sorted.v a0 s
  | _, _ => none
def leapfrogref02x_Sorted.an : An := ⟨68, false, [], [(8, ⟨[.v 0, .v 3, .v 4, .v 5, .v 6, .v 7], [(.exit 2, [.v 0, .v 4, .v 5, .v 6])]⟩), (3, ⟨[.v 0, .v 3, .v 4], [(.exit 0, [.v 3])]⟩)], [(13, ⟨[], [(.normal, [.v 0, .v 3, .v 4, .v 5, .v 6, .v 7, .v 23, .v 24, .v 25, .v 26, .v 27, .v 28, .v 29, .v 30, .v 31, .v 32])]⟩)], [(10, [(0, 0, [], []), (1, 0, [], []), (2, 0, [], []), (3, 0, [], []), (4, 0, [], []), (5, 2, [], []), (6, 2, [], []), (7, 0, [], []), (8, 0, [], []), (9, 2, [], []), (10, 2, [], []), (11, 3, [], []), (12, 0, [], []), (13, 0, [], [])]), (13, [(0, 0, [], []), (1, 0, [], []), (2, 2, [], []), (3, 2, [], []), (4, 0, [], []), (5, 0, [], []), (6, 2, [], []), (7, 2, [], []), (8, 0, [], [])])]⟩
theorem leapfrogref02x_Sorted.ok (S : Sig) (a0 : Value) (s : St) : evF S Try.prog leapfrogref02x_Sorted.ctx leapfrogref02x_Sorted.an Try.f28 [a0] s = leapfrogref02x_Sorted.t S a0 s := by kernel_rfl
theorem leapfrogref02x_Sorted.cok : CtxOk Try.prog leapfrogref02x_Sorted.ctx := .cons leapfrogref02x_Less.sound leapfrogref02x_Less.can <| .nil
theorem leapfrogref02x_Sorted.draws : fnDraws leapfrogref02x_Sorted.an Try.f28 = true := by kernel_rfl
theorem leapfrogref02x_Sorted.can : callOk Try.prog 28 = true := by kernel_rfl
theorem leapfrogref02x_Sorted.sound : FnOk Try.prog 28 (.st leapfrogref02x_Sorted.w) := FnOk.st_of (evF_ok leapfrogref02x_Sorted.cok mixed (f := 28) (fn := Try.f28) (by kernel_rfl) leapfrogref02x_Sorted.draws) fun args s r h => by
  unfold leapfrogref02x_Sorted.w at h; split at h
  · rw [leapfrogref02x_Sorted.ok std]; exact h
  · simp at h

/-! ### leapfrog/leapfrogref12.Head: function 29 -/
def leapfrogref12x_Head.ctx : Ctx := []
def leapfrogref12x_Head.t (S : Sig) (a0 : Value) (s : St) : Option Value :=
  S.bd (bx (Go.Value.agg #[(Go.Value.int Go.IntKind.i64 0), (Go.Value.int Go.IntKind.i64 0), (Go.Value.int Go.IntKind.u64 0), (Go.Value.int Go.IntKind.i64 0), (Go.Value.int Go.IntKind.u64 0)])) fun c1 => S.bd (bld [(Go.Value.int Go.IntKind.i64 0), (Go.Value.int Go.IntKind.u64 0)] [(0, 1, (Go.Value.int Go.IntKind.i64 1))]) fun x2 => S.bd (bld [(Go.Value.int Go.IntKind.i64 0), (Go.Value.int Go.IntKind.u64 0)] [(0, 1, a0)]) fun x3 => S.bd (bld [(Go.Value.int Go.IntKind.i64 0), (Go.Value.int Go.IntKind.i64 0), (Go.Value.int Go.IntKind.u64 0), (Go.Value.int Go.IntKind.i64 0), (Go.Value.int Go.IntKind.u64 0)] [(1, 2, x2), (3, 2, x3)]) fun x4 => S.bd (stl c1 0 5 x4) fun c5 => S.bd (lal c5 0 5) fun x6 => some (x6)
def leapfrogref12x_Head.r (a0 : Value) (s : St) : Option Value := leapfrogref12x_Head.t std a0 s
def leapfrogref12x_Head.w : List Value → St → Option Value
  | [a0], s => leapfrogref12x_Head.r a0 s
  | _, _ => none
def leapfrogref12x_Head.an : An := ⟨7, true, [2], [], [], []⟩
theorem leapfrogref12x_Head.ok (S : Sig) (a0 : Value) (s : St) : evG S Try.prog leapfrogref12x_Head.ctx leapfrogref12x_Head.an Try.f29 [a0] s = leapfrogref12x_Head.t S a0 s := by kernel_rfl
theorem leapfrogref12x_Head.cok : CtxOk Try.prog leapfrogref12x_Head.ctx := .nil
theorem leapfrogref12x_Head.draws : fnDraws leapfrogref12x_Head.an Try.f29 = true := by kernel_rfl
theorem leapfrogref12x_Head.can : callOk Try.prog 29 = true := by kernel_rfl
theorem leapfrogref12x_Head.sound : FnOk Try.prog 29 (.rd leapfrogref12x_Head.w) := FnOk.rd_of (evG_ok leapfrogref12x_Head.cok mixed (f := 29) (fn := Try.f29) (by kernel_rfl) leapfrogref12x_Head.draws) fun args s r h => by
  unfold leapfrogref12x_Head.w at h; split at h
  · rw [leapfrogref12x_Head.ok std]; exact h
  · simp at h

/-! ### leapfrog/leapfrogref12.Tail: function 30 -/
def leapfrogref12x_Tail.ctx : Ctx := []
def leapfrogref12x_Tail.t (S : Sig) (a0 : Value) (s : St) : Option Value :=
  S.bd (bx (Go.Value.agg #[(Go.Value.int Go.IntKind.i64 0), (Go.Value.int Go.IntKind.i64 0), (Go.Value.int Go.IntKind.u64 0), (Go.Value.int Go.IntKind.i64 0), (Go.Value.int Go.IntKind.u64 0)])) fun c1 => S.bd (bld [(Go.Value.int Go.IntKind.i64 0), (Go.Value.int Go.IntKind.u64 0)] [(0, 1, (Go.Value.int Go.IntKind.i64 3))]) fun x2 => S.bd (bld [(Go.Value.int Go.IntKind.i64 0), (Go.Value.int Go.IntKind.u64 0)] [(0, 1, a0)]) fun x3 => S.bd (bld [(Go.Value.int Go.IntKind.i64 0), (Go.Value.int Go.IntKind.i64 0), (Go.Value.int Go.IntKind.u64 0), (Go.Value.int Go.IntKind.i64 0), (Go.Value.int Go.IntKind.u64 0)] [(0, 1, (Go.Value.int Go.IntKind.i64 1)), (1, 2, x2), (3, 2, x3)]) fun x4 => S.bd (stl c1 0 5 x4) fun c5 => S.bd (lal c5 0 5) fun x6 => some (x6)
def leapfrogref12x_Tail.r (a0 : Value) (s : St) : Option Value := leapfrogref12x_Tail.t std a0 s
def leapfrogref12x_Tail.w : List Value → St → Option Value
  | [a0], s => leapfrogref12x_Tail.r a0 s
  | _, _ => none
def leapfrogref12x_Tail.an : An := ⟨7, true, [2], [], [], []⟩
theorem leapfrogref12x_Tail.ok (S : Sig) (a0 : Value) (s : St) : evG S Try.prog leapfrogref12x_Tail.ctx leapfrogref12x_Tail.an Try.f30 [a0] s = leapfrogref12x_Tail.t S a0 s := by kernel_rfl
theorem leapfrogref12x_Tail.cok : CtxOk Try.prog leapfrogref12x_Tail.ctx := .nil
theorem leapfrogref12x_Tail.draws : fnDraws leapfrogref12x_Tail.an Try.f30 = true := by kernel_rfl
theorem leapfrogref12x_Tail.can : callOk Try.prog 30 = true := by kernel_rfl
theorem leapfrogref12x_Tail.sound : FnOk Try.prog 30 (.rd leapfrogref12x_Tail.w) := FnOk.rd_of (evG_ok leapfrogref12x_Tail.cok mixed (f := 30) (fn := Try.f30) (by kernel_rfl) leapfrogref12x_Tail.draws) fun args s r h => by
  unfold leapfrogref12x_Tail.w at h; split at h
  · rw [leapfrogref12x_Tail.ok std]; exact h
  · simp at h

/-! ### leapfrog/leapfrogref01.Power: function 62 -/
def leapfrogref01x_Power.ctx : Ctx := []
def leapfrogref01x_Power.l2 (S : Sig) (rec6 : List Value → St → Option Cut) (xs4 : List Value) (s5 : St) : Option Cut :=
  S.bd (bin .gtr (xs4.getD 0 undef) (Go.Value.int Go.IntKind.i64 0)) fun x7 => S.cnd x7 (S.bd (bin .mul (xs4.getD 1 undef) (Go.Value.int Go.IntKind.u64 2)) fun x8 => S.bd (bin .sub (xs4.getD 0 undef) (Go.Value.int Go.IntKind.i64 1)) fun x9 => rec6 [x9, x8] s5) (some (0, [(xs4.getD 1 undef)], s5))

def leapfrogref01x_Power.t (S : Sig) (a0 : Value) (s : St) : Option Value :=
  S.bd (S.it (leapfrogref01x_Power.l2 S) [a0, (Go.Value.int Go.IntKind.u64 1)] s) fun r10 => some ((r10.2.1.getD 0 undef))
def leapfrogref01x_Power.r (a0 : Value) (s : St) : Option Value := leapfrogref01x_Power.t std a0 s
def leapfrogref01x_Power.w : List Value → St → Option Value
  | [a0], s => leapfrogref01x_Power.r a0 s
  | _, _ => none
def leapfrogref01x_Power.an : An := ⟨11, true, [], [(2, ⟨[.v 0, .v 3], [(.exit 0, [.v 3])]⟩)], [], []⟩
theorem leapfrogref01x_Power.ok (S : Sig) (a0 : Value) (s : St) : evG S Try.prog leapfrogref01x_Power.ctx leapfrogref01x_Power.an Try.f62 [a0] s = leapfrogref01x_Power.t S a0 s := by kernel_rfl
theorem leapfrogref01x_Power.cok : CtxOk Try.prog leapfrogref01x_Power.ctx := .nil
theorem leapfrogref01x_Power.draws : fnDraws leapfrogref01x_Power.an Try.f62 = true := by kernel_rfl
theorem leapfrogref01x_Power.can : callOk Try.prog 62 = true := by kernel_rfl
theorem leapfrogref01x_Power.sound : FnOk Try.prog 62 (.rd leapfrogref01x_Power.w) := FnOk.rd_of (evG_ok leapfrogref01x_Power.cok mixed (f := 62) (fn := Try.f62) (by kernel_rfl) leapfrogref01x_Power.draws) fun args s r h => by
  unfold leapfrogref01x_Power.w at h; split at h
  · rw [leapfrogref01x_Power.ok std]; exact h
  · simp at h

/-! ### leapfrog/leapfrogref01.Right: function 25 -/
def leapfrogref01x_Right.ctx : Ctx := [(62, .rd leapfrogref01x_Power.w)]
def leapfrogref01x_Right.t (S : Sig) (a0 : Value) (s : St) : Option Value :=
  S.bd (bx a0) fun c1 => S.bd (lcl c1 0) fun x2 => S.bd (bin .geq x2 (Go.Value.int Go.IntKind.i64 0)) fun x3 => S.bd (S.gd x3 true (lcl c1 0)) fun x4 => S.bd (S.gd x3 true (bin .leq x4 (Go.Value.int Go.IntKind.i64 32))) fun x5 => S.bd (pik x3 x5 (Go.Value.bool Bool.false)) fun x6 => S.bd (S.gd x6 true (lcl c1 1)) fun x7 => S.bd (S.gd x6 true (lcl c1 0)) fun x8 => S.bd (S.gd x6 true (leapfrogref01x_Power.r x8 s)) fun x9 => S.bd (S.gd x6 true (bin .lss x7 x9)) fun x10 => S.bd (pik x6 x10 (Go.Value.bool Bool.false)) fun x11 => some (x11)
def leapfrogref01x_Right.r (a0 : Value) (s : St) : Option Value := leapfrogref01x_Right.t std a0 s
def leapfrogref01x_Right.w : List Value → St → Option Value
  | [a0], s => leapfrogref01x_Right.r a0 s
  | _, _ => none
def leapfrogref01x_Right.an : An := ⟨19, true, [1], [], [], [(1, [(0, 0, [], []), (1, 9, [], []), (2, 0, [], []), (3, 0, [], []), (4, 0, [], []), (5, 9, [], []), (6, 0, [], []), (7, 0, [], []), (8, 0, [], []), (9, 0, [], []), (10, 9, [], []), (11, 0, [], []), (12, 9, [], []), (13, 3, [], []), (14, 0, [], []), (15, 0, [], []), (16, 0, [], [])])]⟩
theorem leapfrogref01x_Right.ok (S : Sig) (a0 : Value) (s : St) : evG S Try.prog leapfrogref01x_Right.ctx leapfrogref01x_Right.an Try.f25 [a0] s = leapfrogref01x_Right.t S a0 s := by kernel_rfl
theorem leapfrogref01x_Right.cok : CtxOk Try.prog leapfrogref01x_Right.ctx := .cons leapfrogref01x_Power.sound leapfrogref01x_Power.can <| .nil
theorem leapfrogref01x_Right.draws : fnDraws leapfrogref01x_Right.an Try.f25 = true := by kernel_rfl
theorem leapfrogref01x_Right.can : callOk Try.prog 25 = true := by kernel_rfl
theorem leapfrogref01x_Right.sound : FnOk Try.prog 25 (.rd leapfrogref01x_Right.w) := FnOk.rd_of (evG_ok leapfrogref01x_Right.cok mixed (f := 25) (fn := Try.f25) (by kernel_rfl) leapfrogref01x_Right.draws) fun args s r h => by
  unfold leapfrogref01x_Right.w at h; split at h
  · rw [leapfrogref01x_Right.ok std]; exact h
  · simp at h

/-! ### leapfrog/leapfrogref09.New: function 31 -/
def leapfrogref09x_New.ctx : Ctx := [(25, .rd leapfrogref01x_Right.w)]
def leapfrogref09x_New.t (S : Sig) (a0 a1 : Value) (s : St) : Option (Value × St) :=
  S.bd (bx a0) fun c1 => S.bd (lcl c1 1) fun x2 => S.bd (eqb [1] false true x2 (Go.Value.int Go.IntKind.i64 2)) fun x3 => S.bd (S.gd x3 false (lal c1 3 2)) fun x4 => S.bd (S.gd x3 false (leapfrogref01x_Right.r x4 s)) fun x5 => S.bd (S.gd x3 false (un .not x5)) fun x6 => S.bd (pik x3 (Go.Value.bool Bool.true) x6) fun x7 => S.bd (S.gd x7 false (lcl c1 0)) fun x8 => S.bd (S.gd x7 false (bin .lss x8 (Go.Value.int Go.IntKind.i64 2))) fun x9 => S.bd (pik x7 (Go.Value.bool Bool.true) x9) fun x10 => S.bd (S.gd x10 false (lcl c1 0)) fun x11 => S.bd (S.gd x10 false (bin .geq x11 (Go.Value.int Go.IntKind.i64 1024))) fun x12 => S.bd (pik x10 (Go.Value.bool Bool.true) x12) fun x13 => S.bd (S.gd x13 false (some a1)) fun x14 => S.bd (S.gd x13 false (lenL x14)) fun x15 => S.bd (S.gd x13 false (bin .gtr x15 (Go.Value.int Go.IntKind.i64 1024))) fun x16 => S.bd (pik x13 (Go.Value.bool Bool.true) x16) fun x17 => S.cnd x17 (some ((Value.tuple ⟨[(Go.Value.pointer Option.none), (Go.Value.int Go.IntKind.i64 90)]⟩), s)) (S.bd (lal c1 0 5) fun x18 => S.bd (S.bd (bls 1 (List.replicate 0 [(Go.Value.int Go.IntKind.u8 0)]) []) fun rows => als s 1 0 rows) fun r19 => S.bd (app r19.2 1 1 r19.1 a1) fun r20 => S.bd (bld [(Go.Value.int Go.IntKind.i64 0), (Go.Value.int Go.IntKind.i64 0), (Go.Value.int Go.IntKind.u64 0), (Go.Value.int Go.IntKind.i64 0), (Go.Value.int Go.IntKind.u64 0), (Go.Value.slice Option.none 0 0), (Go.Value.bool Bool.false), (Go.Value.bool Bool.false), (Go.Value.bool Bool.false), (Go.Value.slice Option.none 0 0), (Go.Value.slice Option.none 0 0)] [(0, 5, x18), (5, 1, r20.1)]) fun x21 => S.bd (alv r20.2 x21) fun r22 => some ((Value.tuple ⟨[r22.1, (Go.Value.int Go.IntKind.i64 0)]⟩), r22.2))
def leapfrogref09x_New.v (a0 a1 : Value) (s : St) : Option (Value × St) := leapfrogref09x_New.t std a0 a1 s
def leapfrogref09x_New.w : List Value → St → Option (Value × St)
  | [a0, a1], s => leapfrogref09x_New.v a0 a1 s
  | _, _ => none
def leapfrogref09x_New.an : An := ⟨37, false, [2], [], [], [(3, [(0, 17, [], []), (2, 0, [], []), (1, 3, [], []), (3, 4, [], []), (4, 0, [], []), (5, 3, [], []), (6, 0, [], []), (7, 0, [], [])])]⟩
theorem leapfrogref09x_New.ok (S : Sig) (a0 a1 : Value) (s : St) : evF S Try.prog leapfrogref09x_New.ctx leapfrogref09x_New.an Try.f31 [a0, a1] s = leapfrogref09x_New.t S a0 a1 s := by kernel_rfl
theorem leapfrogref09x_New.cok : CtxOk Try.prog leapfrogref09x_New.ctx := .cons leapfrogref01x_Right.sound leapfrogref01x_Right.can <| .nil
theorem leapfrogref09x_New.draws : fnDraws leapfrogref09x_New.an Try.f31 = true := by kernel_rfl
theorem leapfrogref09x_New.can : callOk Try.prog 31 = true := by kernel_rfl
theorem leapfrogref09x_New.sound : FnOk Try.prog 31 (.st leapfrogref09x_New.w) := FnOk.st_of (evF_ok leapfrogref09x_New.cok mixed (f := 31) (fn := Try.f31) (by kernel_rfl) leapfrogref09x_New.draws) fun args s r h => by
  unfold leapfrogref09x_New.w at h; split at h
  · rw [leapfrogref09x_New.ok std]; exact h
  · simp at h

/-! ### leapfrog/leapfrogref09.Head: function 63 -/
def leapfrogref09x_Head.ctx : Ctx := []
def leapfrogref09x_Head.t (S : Sig) (a0 : Value) (s : St) : Option Value :=
  S.bd (bx (Go.Value.agg #[(Go.Value.int Go.IntKind.i64 0), (Go.Value.int Go.IntKind.i64 0), (Go.Value.int Go.IntKind.u64 0), (Go.Value.int Go.IntKind.i64 0), (Go.Value.int Go.IntKind.u64 0)])) fun c1 => S.bd (bin .lss a0 (Go.Value.int Go.IntKind.i64 0)) fun x2 => S.bd (S.gd x2 false (some a0)) fun x3 => S.bd (S.gd x2 false (bin .gtr x3 (Go.Value.int Go.IntKind.i64 32))) fun x4 => S.bd (pik x2 (Go.Value.bool Bool.true) x4) fun x5 => S.cnd x5 (S.bd (bld [(Go.Value.int Go.IntKind.i64 0), (Go.Value.int Go.IntKind.i64 0), (Go.Value.int Go.IntKind.u64 0), (Go.Value.int Go.IntKind.i64 0), (Go.Value.int Go.IntKind.u64 0)] []) fun x6 => S.bd (stl c1 0 5 x6) fun c7 => S.bd (lal c7 0 5) fun x8 => some ((Value.tuple ⟨[x8, (Go.Value.int Go.IntKind.i64 90)]⟩))) (S.bd (bld [(Go.Value.int Go.IntKind.i64 0), (Go.Value.int Go.IntKind.u64 0)] [(0, 1, (Go.Value.int Go.IntKind.i64 1))]) fun x9 => S.bd (bld [(Go.Value.int Go.IntKind.i64 0), (Go.Value.int Go.IntKind.u64 0)] [(0, 1, a0)]) fun x10 => S.bd (bld [(Go.Value.int Go.IntKind.i64 0), (Go.Value.int Go.IntKind.i64 0), (Go.Value.int Go.IntKind.u64 0), (Go.Value.int Go.IntKind.i64 0), (Go.Value.int Go.IntKind.u64 0)] [(0, 1, (Go.Value.int Go.IntKind.i64 0)), (1, 2, x9), (3, 2, x10)]) fun x11 => S.bd (stl c1 0 5 x11) fun c12 => S.bd (lal c12 0 5) fun x13 => some ((Value.tuple ⟨[x13, (Go.Value.int Go.IntKind.i64 0)]⟩)))
def leapfrogref09x_Head.r (a0 : Value) (s : St) : Option Value := leapfrogref09x_Head.t std a0 s
def leapfrogref09x_Head.w : List Value → St → Option Value
  | [a0], s => leapfrogref09x_Head.r a0 s
  | _, _ => none
def leapfrogref09x_Head.an : An := ⟨15, true, [2], [], [], []⟩
theorem leapfrogref09x_Head.ok (S : Sig) (a0 : Value) (s : St) : evG S Try.prog leapfrogref09x_Head.ctx leapfrogref09x_Head.an Try.f63 [a0] s = leapfrogref09x_Head.t S a0 s := by kernel_rfl
theorem leapfrogref09x_Head.cok : CtxOk Try.prog leapfrogref09x_Head.ctx := .nil
theorem leapfrogref09x_Head.draws : fnDraws leapfrogref09x_Head.an Try.f63 = true := by kernel_rfl
theorem leapfrogref09x_Head.can : callOk Try.prog 63 = true := by kernel_rfl
theorem leapfrogref09x_Head.sound : FnOk Try.prog 63 (.rd leapfrogref09x_Head.w) := FnOk.rd_of (evG_ok leapfrogref09x_Head.cok mixed (f := 63) (fn := Try.f63) (by kernel_rfl) leapfrogref09x_Head.draws) fun args s r h => by
  unfold leapfrogref09x_Head.w at h; split at h
  · rw [leapfrogref09x_Head.ok std]; exact h
  · simp at h

/-! ### leapfrog/leapfrogref09.Tail: function 64 -/
def leapfrogref09x_Tail.ctx : Ctx := []
def leapfrogref09x_Tail.t (S : Sig) (a0 : Value) (s : St) : Option Value :=
  S.bd (bx (Go.Value.agg #[(Go.Value.int Go.IntKind.i64 0), (Go.Value.int Go.IntKind.i64 0), (Go.Value.int Go.IntKind.u64 0), (Go.Value.int Go.IntKind.i64 0), (Go.Value.int Go.IntKind.u64 0)])) fun c1 => S.bd (bin .lss a0 (Go.Value.int Go.IntKind.i64 0)) fun x2 => S.bd (S.gd x2 false (some a0)) fun x3 => S.bd (S.gd x2 false (bin .gtr x3 (Go.Value.int Go.IntKind.i64 32))) fun x4 => S.bd (pik x2 (Go.Value.bool Bool.true) x4) fun x5 => S.cnd x5 (S.bd (bld [(Go.Value.int Go.IntKind.i64 0), (Go.Value.int Go.IntKind.i64 0), (Go.Value.int Go.IntKind.u64 0), (Go.Value.int Go.IntKind.i64 0), (Go.Value.int Go.IntKind.u64 0)] []) fun x6 => S.bd (stl c1 0 5 x6) fun c7 => S.bd (lal c7 0 5) fun x8 => some ((Value.tuple ⟨[x8, (Go.Value.int Go.IntKind.i64 90)]⟩))) (S.bd (bld [(Go.Value.int Go.IntKind.i64 0), (Go.Value.int Go.IntKind.u64 0)] [(0, 1, (Go.Value.int Go.IntKind.i64 3))]) fun x9 => S.bd (bld [(Go.Value.int Go.IntKind.i64 0), (Go.Value.int Go.IntKind.u64 0)] [(0, 1, a0)]) fun x10 => S.bd (bld [(Go.Value.int Go.IntKind.i64 0), (Go.Value.int Go.IntKind.i64 0), (Go.Value.int Go.IntKind.u64 0), (Go.Value.int Go.IntKind.i64 0), (Go.Value.int Go.IntKind.u64 0)] [(0, 1, (Go.Value.int Go.IntKind.i64 1)), (1, 2, x9), (3, 2, x10)]) fun x11 => S.bd (stl c1 0 5 x11) fun c12 => S.bd (lal c12 0 5) fun x13 => some ((Value.tuple ⟨[x13, (Go.Value.int Go.IntKind.i64 0)]⟩)))
def leapfrogref09x_Tail.r (a0 : Value) (s : St) : Option Value := leapfrogref09x_Tail.t std a0 s
def leapfrogref09x_Tail.w : List Value → St → Option Value
  | [a0], s => leapfrogref09x_Tail.r a0 s
  | _, _ => none
def leapfrogref09x_Tail.an : An := ⟨15, true, [2], [], [], []⟩
theorem leapfrogref09x_Tail.ok (S : Sig) (a0 : Value) (s : St) : evG S Try.prog leapfrogref09x_Tail.ctx leapfrogref09x_Tail.an Try.f64 [a0] s = leapfrogref09x_Tail.t S a0 s := by kernel_rfl
theorem leapfrogref09x_Tail.cok : CtxOk Try.prog leapfrogref09x_Tail.ctx := .nil
theorem leapfrogref09x_Tail.draws : fnDraws leapfrogref09x_Tail.an Try.f64 = true := by kernel_rfl
theorem leapfrogref09x_Tail.can : callOk Try.prog 64 = true := by kernel_rfl
theorem leapfrogref09x_Tail.sound : FnOk Try.prog 64 (.rd leapfrogref09x_Tail.w) := FnOk.rd_of (evG_ok leapfrogref09x_Tail.cok mixed (f := 64) (fn := Try.f64) (by kernel_rfl) leapfrogref09x_Tail.draws) fun args s r h => by
  unfold leapfrogref09x_Tail.w at h; split at h
  · rw [leapfrogref09x_Tail.ok std]; exact h
  · simp at h

/-! ### leapfrog/leapfrogref09.NewEnd: function 32 -/
def leapfrogref09x_NewEnd.ctx : Ctx := [(63, .rd leapfrogref09x_Head.w), (64, .rd leapfrogref09x_Tail.w)]
def leapfrogref09x_NewEnd.t (S : Sig) (a0 a1 : Value) (s : St) : Option (Value × St) :=
  S.bd (leapfrogref09x_Head.r a1 s) fun x1 => S.bd (xtr 0 x1) fun x2 => S.bd (xtr 1 x1) fun x3 => S.bd (bx (Go.Value.agg #[(Go.Value.int Go.IntKind.i64 0), (Go.Value.int Go.IntKind.i64 0), (Go.Value.int Go.IntKind.u64 0), (Go.Value.int Go.IntKind.i64 0), (Go.Value.int Go.IntKind.u64 0)])) fun c4 => S.bd (stl c4 0 5 x2) fun c5 => S.bd (show Option Cut from S.cnd a0 (S.bd (leapfrogref09x_Tail.r a1 s) fun x10 => S.bd (xtr 0 x10) fun x11 => S.bd (xtr 1 x10) fun x12 => S.bd (stl c5 0 5 x11) fun c13 => some (0, [x12, (Value.agg ⟨c13⟩)], s)) (some (0, [x3, (Value.agg ⟨c5⟩)], s))) fun r14 => S.bd (eqb [1] false true (r14.2.1.getD 0 undef) (Go.Value.int Go.IntKind.i64 0)) fun x15 => S.cnd x15 (some ((Value.tuple ⟨[(Go.Value.pointer Option.none), (r14.2.1.getD 0 undef)]⟩), r14.2.2)) (S.bd (lal (cellsA (r14.2.1.getD 1 undef)) 0 5) fun x16 => S.bd (bld [(Go.Value.int Go.IntKind.i64 0), (Go.Value.int Go.IntKind.i64 0), (Go.Value.int Go.IntKind.u64 0), (Go.Value.int Go.IntKind.i64 0), (Go.Value.int Go.IntKind.u64 0), (Go.Value.slice Option.none 0 0), (Go.Value.bool Bool.false), (Go.Value.bool Bool.false), (Go.Value.bool Bool.false), (Go.Value.slice Option.none 0 0), (Go.Value.slice Option.none 0 0)] [(0, 5, x16), (6, 1, (Go.Value.bool Bool.true)), (7, 1, (Go.Value.bool Bool.true))]) fun x17 => S.bd (alv r14.2.2 x17) fun r18 => some ((Value.tuple ⟨[r18.1, (Go.Value.int Go.IntKind.i64 0)]⟩), r18.2))
def leapfrogref09x_NewEnd.v (a0 a1 : Value) (s : St) : Option (Value × St) := leapfrogref09x_NewEnd.t std a0 a1 s
def leapfrogref09x_NewEnd.w : List Value → St → Option (Value × St)
  | [a0, a1], s => leapfrogref09x_NewEnd.v a0 a1 s
  | _, _ => none
def leapfrogref09x_NewEnd.an : An := ⟨25, false, [6], [], [(4, ⟨[], [(.normal, [.p 6 6 0, .v 7, .l 6])]⟩)], []⟩
theorem leapfrogref09x_NewEnd.ok (S : Sig) (a0 a1 : Value) (s : St) : evF S Try.prog leapfrogref09x_NewEnd.ctx leapfrogref09x_NewEnd.an Try.f32 [a0, a1] s = leapfrogref09x_NewEnd.t S a0 a1 s := by kernel_rfl
theorem leapfrogref09x_NewEnd.cok : CtxOk Try.prog leapfrogref09x_NewEnd.ctx := .cons leapfrogref09x_Head.sound leapfrogref09x_Head.can <| .cons leapfrogref09x_Tail.sound leapfrogref09x_Tail.can <| .nil
theorem leapfrogref09x_NewEnd.draws : fnDraws leapfrogref09x_NewEnd.an Try.f32 = true := by kernel_rfl
theorem leapfrogref09x_NewEnd.can : callOk Try.prog 32 = true := by kernel_rfl
theorem leapfrogref09x_NewEnd.sound : FnOk Try.prog 32 (.st leapfrogref09x_NewEnd.w) := FnOk.st_of (evF_ok leapfrogref09x_NewEnd.cok mixed (f := 32) (fn := Try.f32) (by kernel_rfl) leapfrogref09x_NewEnd.draws) fun args s r h => by
  unfold leapfrogref09x_NewEnd.w at h; split at h
  · rw [leapfrogref09x_NewEnd.ok std]; exact h
  · simp at h

/-! ### leapfrog/leapfrogref04.has: function 67 -/
def leapfrogref04x_has.ctx : Ctx := []
def leapfrogref04x_has.t (S : Sig) (a0 : Value) (s : St) : Option Value :=
  S.bd (eqb [1] false false a0 (Go.Value.int Go.IntKind.i64 5)) fun x1 => S.bd (S.gd x1 false (some a0)) fun x2 => S.bd (S.gd x1 false (eqb [1] false false x2 (Go.Value.int Go.IntKind.i64 6))) fun x3 => S.bd (pik x1 (Go.Value.bool Bool.true) x3) fun x4 => S.bd (S.gd x4 false (some a0)) fun x5 => S.bd (S.gd x4 false (eqb [1] false false x5 (Go.Value.int Go.IntKind.i64 7))) fun x6 => S.bd (pik x4 (Go.Value.bool Bool.true) x6) fun x7 => S.bd (eqb [1] false false a0 (Go.Value.int Go.IntKind.i64 3)) fun x8 => S.bd (S.gd x8 false (some a0)) fun x9 => S.bd (S.gd x8 false (eqb [1] false false x9 (Go.Value.int Go.IntKind.i64 4))) fun x10 => S.bd (pik x8 (Go.Value.bool Bool.true) x10) fun x11 => S.bd (S.gd x11 false (some a0)) fun x12 => S.bd (S.gd x11 false (eqb [1] false false x12 (Go.Value.int Go.IntKind.i64 8))) fun x13 => S.bd (pik x11 (Go.Value.bool Bool.true) x13) fun x14 => S.bd (S.gd x14 false (some a0)) fun x15 => S.bd (S.gd x14 false (eqb [1] false false x15 (Go.Value.int Go.IntKind.i64 5))) fun x16 => S.bd (pik x14 (Go.Value.bool Bool.true) x16) fun x17 => S.bd (S.gd x17 false (some a0)) fun x18 => S.bd (S.gd x17 false (eqb [1] false false x18 (Go.Value.int Go.IntKind.i64 7))) fun x19 => S.bd (pik x17 (Go.Value.bool Bool.true) x19) fun x20 => S.bd (eqb [1] false false a0 (Go.Value.int Go.IntKind.i64 1)) fun x21 => S.bd (S.gd x21 false (some x7)) fun x22 => S.bd (pik x21 (Go.Value.bool Bool.true) x22) fun x23 => S.bd (S.gd x23 false (some x20)) fun x24 => S.bd (pik x23 (Go.Value.bool Bool.true) x24) fun x25 => S.bd (eqb [1] false false a0 (Go.Value.int Go.IntKind.i64 7)) fun x26 => some ((Value.tuple ⟨[x25, x7, x26, x20]⟩))
def leapfrogref04x_has.r (a0 : Value) (s : St) : Option Value := leapfrogref04x_has.t std a0 s
def leapfrogref04x_has.w : List Value → St → Option Value
  | [a0], s => leapfrogref04x_has.r a0 s
  | _, _ => none
def leapfrogref04x_has.an : An := ⟨48, true, [], [], [], []⟩
theorem leapfrogref04x_has.ok (S : Sig) (a0 : Value) (s : St) : evG S Try.prog leapfrogref04x_has.ctx leapfrogref04x_has.an Try.f67 [a0] s = leapfrogref04x_has.t S a0 s := by kernel_rfl
theorem leapfrogref04x_has.cok : CtxOk Try.prog leapfrogref04x_has.ctx := .nil
theorem leapfrogref04x_has.draws : fnDraws leapfrogref04x_has.an Try.f67 = true := by kernel_rfl
theorem leapfrogref04x_has.can : callOk Try.prog 67 = true := by kernel_rfl
theorem leapfrogref04x_has.sound : FnOk Try.prog 67 (.rd leapfrogref04x_has.w) := FnOk.rd_of (evG_ok leapfrogref04x_has.cok mixed (f := 67) (fn := Try.f67) (by kernel_rfl) leapfrogref04x_has.draws) fun args s r h => by
  unfold leapfrogref04x_has.w at h; split at h
  · rw [leapfrogref04x_has.ok std]; exact h
  · simp at h

/-! ### leapfrog/leapfrogref04.only: function 68 -/
def leapfrogref04x_only.ctx : Ctx := []
def leapfrogref04x_only.t.p1 (S : Sig) (r20 : Cut) : Option Value :=
  S.bd (eqb [1] false false (r20.2.1.getD 0 undef) (Go.Value.int Go.IntKind.i64 5)) fun x28 => S.cnd x28 (S.bd (lal (cellsA (r20.2.1.getD 2 undef)) 1 2) fun x29 => S.bd (lal (cellsA (r20.2.1.getD 2 undef)) 3 5) fun x30 => S.bd (lal (cellsA (r20.2.1.getD 2 undef)) 13 2) fun x31 => S.bd (stl (cellsA (r20.2.1.getD 4 undef)) 1 2 x29) fun c32 => S.bd (stl c32 3 5 x30) fun c33 => S.bd (stl c33 13 2 x31) fun c34 => S.bd (lal c34 0 15) fun x35 => S.bd (stl (cellsA (r20.2.1.getD 3 undef)) 0 15 x35) fun c36 => S.bd (lal c36 0 15) fun x37 => some (x37)) (S.bd (eqb [1] false false (r20.2.1.getD 0 undef) (Go.Value.int Go.IntKind.i64 6)) fun x38 => S.cnd x38 (S.bd (lal (cellsA (r20.2.1.getD 2 undef)) 1 2) fun x39 => S.bd (lal (cellsA (r20.2.1.getD 2 undef)) 3 5) fun x40 => S.bd (stl (cellsA (r20.2.1.getD 4 undef)) 1 2 x39) fun c41 => S.bd (stl c41 3 5 x40) fun c42 => S.bd (lal c42 0 15) fun x43 => S.bd (stl (cellsA (r20.2.1.getD 3 undef)) 0 15 x43) fun c44 => S.bd (lal c44 0 15) fun x45 => some (x45)) (S.bd (eqb [1] false false (r20.2.1.getD 0 undef) (Go.Value.int Go.IntKind.i64 7)) fun x46 => S.cnd x46 (S.bd (lal (cellsA (r20.2.1.getD 2 undef)) 1 2) fun x47 => S.bd (lal (cellsA (r20.2.1.getD 2 undef)) 3 5) fun x48 => S.bd (lal (cellsA (r20.2.1.getD 2 undef)) 8 5) fun x49 => S.bd (lal (cellsA (r20.2.1.getD 2 undef)) 13 2) fun x50 => S.bd (stl (cellsA (r20.2.1.getD 4 undef)) 1 2 x47) fun c51 => S.bd (stl c51 3 5 x48) fun c52 => S.bd (stl c52 8 5 x49) fun c53 => S.bd (stl c53 13 2 x50) fun c54 => S.bd (lal c54 0 15) fun x55 => S.bd (stl (cellsA (r20.2.1.getD 3 undef)) 0 15 x55) fun c56 => S.bd (lal c56 0 15) fun x57 => some (x57)) (S.bd (lal (cellsA (r20.2.1.getD 4 undef)) 0 15) fun x58 => S.bd (stl (cellsA (r20.2.1.getD 3 undef)) 0 15 x58) fun c59 => S.bd (lal c59 0 15) fun x60 => some (x60))))

def leapfrogref04x_only.t (S : Sig) (a0 : Value) (s : St) : Option Value :=
  S.bd (bx a0) fun c1 => S.bd (bx (Go.Value.agg #[(Go.Value.int Go.IntKind.i64 0), (Go.Value.int Go.IntKind.i64 0), (Go.Value.int Go.IntKind.u64 0), (Go.Value.int Go.IntKind.i64 0), (Go.Value.int Go.IntKind.i64 0), (Go.Value.int Go.IntKind.u64 0), (Go.Value.int Go.IntKind.i64 0), (Go.Value.int Go.IntKind.u64 0), (Go.Value.int Go.IntKind.i64 0), (Go.Value.int Go.IntKind.i64 0), (Go.Value.int Go.IntKind.u64 0), (Go.Value.int Go.IntKind.i64 0), (Go.Value.int Go.IntKind.u64 0), (Go.Value.int Go.IntKind.i64 0), (Go.Value.int Go.IntKind.i64 0)])) fun c2 => S.bd (lcl c1 0) fun x3 => S.bd (bld [(Go.Value.int Go.IntKind.i64 0), (Go.Value.int Go.IntKind.i64 0), (Go.Value.int Go.IntKind.u64 0), (Go.Value.int Go.IntKind.i64 0), (Go.Value.int Go.IntKind.i64 0), (Go.Value.int Go.IntKind.u64 0), (Go.Value.int Go.IntKind.i64 0), (Go.Value.int Go.IntKind.u64 0), (Go.Value.int Go.IntKind.i64 0), (Go.Value.int Go.IntKind.i64 0), (Go.Value.int Go.IntKind.u64 0), (Go.Value.int Go.IntKind.i64 0), (Go.Value.int Go.IntKind.u64 0), (Go.Value.int Go.IntKind.i64 0), (Go.Value.int Go.IntKind.i64 0)] [(0, 1, x3)]) fun x4 => S.bd (bx (Go.Value.agg #[(Go.Value.int Go.IntKind.i64 0), (Go.Value.int Go.IntKind.i64 0), (Go.Value.int Go.IntKind.u64 0), (Go.Value.int Go.IntKind.i64 0), (Go.Value.int Go.IntKind.i64 0), (Go.Value.int Go.IntKind.u64 0), (Go.Value.int Go.IntKind.i64 0), (Go.Value.int Go.IntKind.u64 0), (Go.Value.int Go.IntKind.i64 0), (Go.Value.int Go.IntKind.i64 0), (Go.Value.int Go.IntKind.u64 0), (Go.Value.int Go.IntKind.i64 0), (Go.Value.int Go.IntKind.u64 0), (Go.Value.int Go.IntKind.i64 0), (Go.Value.int Go.IntKind.i64 0)])) fun c5 => S.bd (stl c5 0 15 x4) fun c6 => S.bd (lcl c1 0) fun x7 => S.bd (eqb [1] false false x7 (Go.Value.int Go.IntKind.i64 1)) fun x8 => S.cnd x8 (S.bd (lal c1 1 2) fun x9 => S.bd (stl c6 1 2 x9) fun c10 => S.bd (lal c10 0 15) fun x11 => S.bd (stl c2 0 15 x11) fun c12 => S.bd (lal c12 0 15) fun x13 => some (x13)) (S.bd (show Option Cut from S.bd (eqb [1] false false x7 (Go.Value.int Go.IntKind.i64 3)) fun x17 => S.cnd x17 (some (0, [x7, x17, (Value.agg ⟨c1⟩), (Value.agg ⟨c2⟩), (Value.agg ⟨c6⟩)], s)) (S.bd (eqb [1] false false x7 (Go.Value.int Go.IntKind.i64 4)) fun x18 => S.cnd x18 (some (0, [x7, x18, (Value.agg ⟨c1⟩), (Value.agg ⟨c2⟩), (Value.agg ⟨c6⟩)], s)) (S.bd (eqb [1] false false x7 (Go.Value.int Go.IntKind.i64 8)) fun x19 => some (0, [x7, x19, (Value.agg ⟨c1⟩), (Value.agg ⟨c2⟩), (Value.agg ⟨c6⟩)], s)))) fun r20 => S.cnd (r20.2.1.getD 1 undef) (S.bd (lal (cellsA (r20.2.1.getD 2 undef)) 1 2) fun x21 => S.bd (lal (cellsA (r20.2.1.getD 2 undef)) 13 2) fun x22 => S.bd (stl (cellsA (r20.2.1.getD 4 undef)) 1 2 x21) fun c23 => S.bd (stl c23 13 2 x22) fun c24 => S.bd (lal c24 0 15) fun x25 => S.bd (stl (cellsA (r20.2.1.getD 3 undef)) 0 15 x25) fun c26 => S.bd (lal c26 0 15) fun x27 => some (x27)) (leapfrogref04x_only.t.p1 S r20))
def leapfrogref04x_only.r (a0 : Value) (s : St) : Option Value := leapfrogref04x_only.t std a0 s
def leapfrogref04x_only.w : List Value → St → Option Value
  | [a0], s => leapfrogref04x_only.r a0 s
  | _, _ => none
def leapfrogref04x_only.an : An := ⟨59, true, [1, 2, 3], [], [(9, ⟨[], [(.normal, [.p 1 1 0, .p 2 2 0, .p 3 3 0, .v 8, .v 15, .l 1, .l 2, .l 3])]⟩)], [(9, [(0, 0, [], []), (1, 9, [], []), (2, 0, [], []), (3, 9, [], []), (4, 0, [], []), (5, 29, [], []), (6, 0, [], []), (7, 29, [], [])]), (11, [(0, 0, [], []), (1, 9, [], []), (2, 0, [], []), (3, 9, [], []), (4, 0, [], []), (5, 9, [], []), (6, 0, [], []), (7, 29, [], []), (8, 0, [], []), (9, 29, [], []), (10, 0, [], []), (11, 29, [], [])]), (13, [(0, 0, [], []), (1, 9, [], []), (2, 0, [], []), (3, 9, [], []), (4, 0, [], []), (5, 29, [], []), (6, 0, [], []), (7, 29, [], [])]), (15, [(0, 0, [], []), (1, 9, [], []), (2, 0, [], []), (3, 9, [], []), (4, 0, [], []), (5, 9, [], []), (6, 0, [], []), (7, 9, [], []), (8, 0, [], []), (9, 29, [], []), (10, 0, [], []), (11, 29, [], []), (12, 0, [], []), (13, 29, [], []), (14, 0, [], []), (15, 29, [], [])])]⟩
theorem leapfrogref04x_only.ok (S : Sig) (a0 : Value) (s : St) : evG S Try.prog leapfrogref04x_only.ctx leapfrogref04x_only.an Try.f68 [a0] s = leapfrogref04x_only.t S a0 s := by kernel_rfl
theorem leapfrogref04x_only.cok : CtxOk Try.prog leapfrogref04x_only.ctx := .nil
theorem leapfrogref04x_only.draws : fnDraws leapfrogref04x_only.an Try.f68 = true := by kernel_rfl
theorem leapfrogref04x_only.can : callOk Try.prog 68 = true := by kernel_rfl
theorem leapfrogref04x_only.sound : FnOk Try.prog 68 (.rd leapfrogref04x_only.w) := FnOk.rd_of (evG_ok leapfrogref04x_only.cok mixed (f := 68) (fn := Try.f68) (by kernel_rfl) leapfrogref04x_only.draws) fun args s r h => by
  unfold leapfrogref04x_only.w at h; split at h
  · rw [leapfrogref04x_only.ok std]; exact h
  · simp at h

/-! ### leapfrog/leapfrogref03.IsKey: function 85 -/
def leapfrogref03x_IsKey.ctx : Ctx := []
def leapfrogref03x_IsKey.t (S : Sig) (a0 : Value) (s : St) : Option Value :=
  S.bd (bx a0) fun c1 => S.bd (lcl c1 0) fun x2 => S.bd (eqb [1] false false x2 (Go.Value.int Go.IntKind.i64 2)) fun x3 => S.bd (S.gd x3 false (lcl c1 1)) fun x4 => S.bd (S.gd x3 false (eqb [1] false false x4 (Go.Value.int Go.IntKind.u64 0))) fun x5 => S.bd (S.gd x3 false (some x5)) fun x6 => S.bd (S.gd x6 true (lcl c1 0)) fun x7 => S.bd (S.gd x6 true (eqb [1] false false x7 (Go.Value.int Go.IntKind.i64 1))) fun x8 => S.bd (S.gd x6 true (some x8)) fun x9 => S.bd (S.gd x9 false (lcl c1 0)) fun x10 => S.bd (S.gd x9 false (eqb [1] false false x10 (Go.Value.int Go.IntKind.i64 3))) fun x11 => S.bd (S.gd x6 true (pik x9 (Go.Value.bool Bool.true) x11)) fun x12 => S.bd (S.gd x3 false (pik x6 x12 (Go.Value.bool Bool.false))) fun x13 => S.bd (pik x3 (Go.Value.bool Bool.true) x13) fun x14 => some (x14)
def leapfrogref03x_IsKey.r (a0 : Value) (s : St) : Option Value := leapfrogref03x_IsKey.t std a0 s
def leapfrogref03x_IsKey.w : List Value → St → Option Value
  | [a0], s => leapfrogref03x_IsKey.r a0 s
  | _, _ => none
def leapfrogref03x_IsKey.an : An := ⟨21, true, [1], [], [], []⟩
theorem leapfrogref03x_IsKey.ok (S : Sig) (a0 : Value) (s : St) : evG S Try.prog leapfrogref03x_IsKey.ctx leapfrogref03x_IsKey.an Try.f85 [a0] s = leapfrogref03x_IsKey.t S a0 s := by kernel_rfl
theorem leapfrogref03x_IsKey.cok : CtxOk Try.prog leapfrogref03x_IsKey.ctx := .nil
theorem leapfrogref03x_IsKey.draws : fnDraws leapfrogref03x_IsKey.an Try.f85 = true := by kernel_rfl
theorem leapfrogref03x_IsKey.can : callOk Try.prog 85 = true := by kernel_rfl
theorem leapfrogref03x_IsKey.sound : FnOk Try.prog 85 (.rd leapfrogref03x_IsKey.w) := FnOk.rd_of (evG_ok leapfrogref03x_IsKey.cok mixed (f := 85) (fn := Try.f85) (by kernel_rfl) leapfrogref03x_IsKey.draws) fun args s r h => by
  unfold leapfrogref03x_IsKey.w at h; split at h
  · rw [leapfrogref03x_IsKey.ok std]; exact h
  · simp at h

/-! ### leapfrog/leapfrogref04.isRef: function 69 -/
def leapfrogref04x_isRef.ctx : Ctx := [(85, .rd leapfrogref03x_IsKey.w), (25, .rd leapfrogref01x_Right.w)]
def leapfrogref04x_isRef.t (S : Sig) (a0 : Value) (s : St) : Option Value :=
  S.bd (bx a0) fun c1 => S.bd (lal c1 1 2) fun x2 => S.bd (leapfrogref03x_IsKey.r x2 s) fun x3 => S.bd (S.gd x3 true (lal c1 3 2)) fun x4 => S.bd (S.gd x3 true (leapfrogref01x_Right.r x4 s)) fun x5 => S.bd (pik x3 x5 (Go.Value.bool Bool.false)) fun x6 => some (x6)
def leapfrogref04x_isRef.r (a0 : Value) (s : St) : Option Value := leapfrogref04x_isRef.t std a0 s
def leapfrogref04x_isRef.w : List Value → St → Option Value
  | [a0], s => leapfrogref04x_isRef.r a0 s
  | _, _ => none
def leapfrogref04x_isRef.an : An := ⟨11, true, [1], [], [], []⟩
theorem leapfrogref04x_isRef.ok (S : Sig) (a0 : Value) (s : St) : evG S Try.prog leapfrogref04x_isRef.ctx leapfrogref04x_isRef.an Try.f69 [a0] s = leapfrogref04x_isRef.t S a0 s := by kernel_rfl
theorem leapfrogref04x_isRef.cok : CtxOk Try.prog leapfrogref04x_isRef.ctx := .cons leapfrogref03x_IsKey.sound leapfrogref03x_IsKey.can <| .cons leapfrogref01x_Right.sound leapfrogref01x_Right.can <| .nil
theorem leapfrogref04x_isRef.draws : fnDraws leapfrogref04x_isRef.an Try.f69 = true := by kernel_rfl
theorem leapfrogref04x_isRef.can : callOk Try.prog 69 = true := by kernel_rfl
theorem leapfrogref04x_isRef.sound : FnOk Try.prog 69 (.rd leapfrogref04x_isRef.w) := FnOk.rd_of (evG_ok leapfrogref04x_isRef.cok mixed (f := 69) (fn := Try.f69) (by kernel_rfl) leapfrogref04x_isRef.draws) fun args s r h => by
  unfold leapfrogref04x_isRef.w at h; split at h
  · rw [leapfrogref04x_isRef.ok std]; exact h
  · simp at h

/-! ### leapfrog/leapfrogref04.CheckAsk: function 38 -/
def leapfrogref04x_CheckAsk.ctx : Ctx := [(67, .rd leapfrogref04x_has.w), (68, .rd leapfrogref04x_only.w), (25, .rd leapfrogref01x_Right.w), (69, .rd leapfrogref04x_isRef.w)]
def leapfrogref04x_CheckAsk.t (S : Sig) (a0 : Value) (s : St) : Option Value :=
  S.bd (bx a0) fun c1 => S.bd (lcl c1 0) fun x2 => S.bd (leapfrogref04x_has.r x2 s) fun x3 => S.bd (xtr 0 x3) fun x4 => S.bd (xtr 1 x3) fun x5 => S.bd (xtr 2 x3) fun x6 => S.bd (xtr 3 x3) fun x7 => S.bd (lcl c1 0) fun x8 => S.bd (bin .lss x8 (Go.Value.int Go.IntKind.i64 1)) fun x9 => S.bd (S.gd x9 false (lcl c1 0)) fun x10 => S.bd (S.gd x9 false (bin .gtr x10 (Go.Value.int Go.IntKind.i64 10))) fun x11 => S.bd (pik x9 (Go.Value.bool Bool.true) x11) fun x12 => S.bd (S.gd x12 false (lal c1 0 15)) fun x13 => S.bd (S.gd x12 false (lal c1 0 15)) fun x14 => S.bd (S.gd x12 false (leapfrogref04x_only.r x14 s)) fun x15 => S.bd (S.gd x12 false (eqb [1, 1, 1, 1, 1, 1, 1, 1, 1, 1, 1, 1, 1, 1, 1] true true x13 x15)) fun x16 => S.bd (pik x12 (Go.Value.bool Bool.true) x16) fun x17 => S.bd (S.gd x17 false (some x4)) fun x18 => S.bd (S.gd x17 false (some x18)) fun x19 => S.bd (S.gd x19 true (lal c1 1 2)) fun x20 => S.bd (S.gd x19 true (leapfrogref01x_Right.r x20 s)) fun x21 => S.bd (S.gd x19 true (un .not x21)) fun x22 => S.bd (S.gd x17 false (pik x19 x22 (Go.Value.bool Bool.false))) fun x23 => S.bd (pik x17 (Go.Value.bool Bool.true) x23) fun x24 => S.bd (S.gd x24 false (some x5)) fun x25 => S.bd (S.gd x24 false (some x25)) fun x26 => S.bd (S.gd x26 true (lal c1 3 5)) fun x27 => S.bd (S.gd x26 true (leapfrogref04x_isRef.r x27 s)) fun x28 => S.bd (S.gd x26 true (un .not x28)) fun x29 => S.bd (S.gd x24 false (pik x26 x29 (Go.Value.bool Bool.false))) fun x30 => S.bd (pik x24 (Go.Value.bool Bool.true) x30) fun x31 => S.bd (S.gd x31 false (some x6)) fun x32 => S.bd (S.gd x31 false (some x32)) fun x33 => S.bd (S.gd x33 true (lal c1 8 5)) fun x34 => S.bd (S.gd x33 true (leapfrogref04x_isRef.r x34 s)) fun x35 => S.bd (S.gd x33 true (un .not x35)) fun x36 => S.bd (S.gd x31 false (pik x33 x36 (Go.Value.bool Bool.false))) fun x37 => S.bd (pik x31 (Go.Value.bool Bool.true) x37) fun x38 => S.cnd x38 (some ((Go.Value.int Go.IntKind.i64 40))) (some ((Go.Value.int Go.IntKind.i64 0)))
def leapfrogref04x_CheckAsk.r (a0 : Value) (s : St) : Option Value := leapfrogref04x_CheckAsk.t std a0 s
def leapfrogref04x_CheckAsk.w : List Value → St → Option Value
  | [a0], s => leapfrogref04x_CheckAsk.r a0 s
  | _, _ => none
def leapfrogref04x_CheckAsk.an : An := ⟨56, true, [1], [], [], [(2, [(0, 0, [], []), (1, 9, [], []), (2, 0, [], []), (3, 0, [], []), (4, 0, [], []), (5, 9, [], []), (6, 0, [], []), (7, 0, [], []), (8, 0, [], []), (9, 9, [], []), (10, 9, [], []), (11, 3, [], []), (12, 0, [], []), (13, 0, [], []), (14, 0, [], []), (15, 0, [], []), (16, 0, [], []), (17, 0, [], []), (18, 9, [], []), (19, 3, [], []), (20, 0, [], []), (21, 0, [], []), (22, 0, [], []), (23, 0, [], []), (24, 0, [], []), (25, 0, [], []), (26, 0, [], []), (27, 9, [], []), (28, 3, [], []), (29, 0, [], []), (30, 0, [], []), (31, 0, [], []), (32, 0, [], []), (33, 0, [], []), (34, 0, [], []), (35, 0, [], []), (36, 9, [], []), (37, 3, [], []), (38, 0, [], []), (39, 0, [], []), (40, 0, [], [])])]⟩
theorem leapfrogref04x_CheckAsk.ok (S : Sig) (a0 : Value) (s : St) : evG S Try.prog leapfrogref04x_CheckAsk.ctx leapfrogref04x_CheckAsk.an Try.f38 [a0] s = leapfrogref04x_CheckAsk.t S a0 s := by kernel_rfl
theorem leapfrogref04x_CheckAsk.cok : CtxOk Try.prog leapfrogref04x_CheckAsk.ctx := .cons leapfrogref04x_has.sound leapfrogref04x_has.can <| .cons leapfrogref04x_only.sound leapfrogref04x_only.can <| .cons leapfrogref01x_Right.sound leapfrogref01x_Right.can <| .cons leapfrogref04x_isRef.sound leapfrogref04x_isRef.can <| .nil
theorem leapfrogref04x_CheckAsk.draws : fnDraws leapfrogref04x_CheckAsk.an Try.f38 = true := by kernel_rfl
theorem leapfrogref04x_CheckAsk.can : callOk Try.prog 38 = true := by kernel_rfl
theorem leapfrogref04x_CheckAsk.sound : FnOk Try.prog 38 (.rd leapfrogref04x_CheckAsk.w) := FnOk.rd_of (evG_ok leapfrogref04x_CheckAsk.cok mixed (f := 38) (fn := Try.f38) (by kernel_rfl) leapfrogref04x_CheckAsk.draws) fun args s r h => by
  unfold leapfrogref04x_CheckAsk.w at h; split at h
  · rw [leapfrogref04x_CheckAsk.ok std]; exact h
  · simp at h

/-! ### leapfrog/leapfrogref01.Bits: function 84 -/
def leapfrogref01x_Bits.ctx : Ctx := []
def leapfrogref01x_Bits.l4 (S : Sig) (rec16 : List Value → St → Option Cut) (xs14 : List Value) (s15 : St) : Option Cut :=
  S.bd (bin .geq (xs14.getD 2 undef) (Go.Value.int Go.IntKind.i64 0)) fun x17 => S.cnd x17 (S.bd (bin .rem (xs14.getD 1 undef) (Go.Value.int Go.IntKind.u64 2)) fun x18 => S.bd (cvi .i64 x18) fun x19 => S.bd (idx s15 1 (xs14.getD 0 undef) (xs14.getD 2 undef)) fun x20 => S.bd (stv s15 1 x20 x19) fun s21 => S.bd (bin .quo (xs14.getD 1 undef) (Go.Value.int Go.IntKind.u64 2)) fun x22 => S.bd (bin .sub (xs14.getD 2 undef) (Go.Value.int Go.IntKind.i64 1)) fun x23 => rec16 [(xs14.getD 0 undef), x22, x23] s21) (some (0, [(xs14.getD 0 undef)], s15))

def leapfrogref01x_Bits.t (S : Sig) (a0 : Value) (s : St) : Option (Value × St) :=
  S.bd (bx a0) fun c1 => S.bd (lcl c1 0) fun x2 => S.bd (mks s 1 8 [(Go.Value.int Go.IntKind.i64 0)] x2 x2) fun r3 => S.bd (lcl c1 1) fun x4 => S.bd (lcl c1 0) fun x5 => S.bd (bin .sub x5 (Go.Value.int Go.IntKind.i64 1)) fun x6 => S.bd (S.it (leapfrogref01x_Bits.l4 S) [r3.1, x4, x6] r3.2) fun r24 => some ((r24.2.1.getD 0 undef), r24.2.2)
def leapfrogref01x_Bits.v (a0 : Value) (s : St) : Option (Value × St) := leapfrogref01x_Bits.t std a0 s
def leapfrogref01x_Bits.w : List Value → St → Option (Value × St)
  | [a0], s => leapfrogref01x_Bits.v a0 s
  | _, _ => none
def leapfrogref01x_Bits.an : An := ⟨27, false, [1], [(4, ⟨[.v 3, .v 4, .v 5], [(.exit 0, [.v 3])]⟩)], [], []⟩
theorem leapfrogref01x_Bits.ok (S : Sig) (a0 : Value) (s : St) : evF S Try.prog leapfrogref01x_Bits.ctx leapfrogref01x_Bits.an Try.f84 [a0] s = leapfrogref01x_Bits.t S a0 s := by kernel_rfl
theorem leapfrogref01x_Bits.cok : CtxOk Try.prog leapfrogref01x_Bits.ctx := .nil
theorem leapfrogref01x_Bits.draws : fnDraws leapfrogref01x_Bits.an Try.f84 = true := by kernel_rfl
theorem leapfrogref01x_Bits.can : callOk Try.prog 84 = true := by kernel_rfl
theorem leapfrogref01x_Bits.sound : FnOk Try.prog 84 (.st leapfrogref01x_Bits.w) := FnOk.st_of (evF_ok leapfrogref01x_Bits.cok mixed (f := 84) (fn := Try.f84) (by kernel_rfl) leapfrogref01x_Bits.draws) fun args s r h => by
  unfold leapfrogref01x_Bits.w at h; split at h
  · rw [leapfrogref01x_Bits.ok std]; exact h
  · simp at h

/-! ### leapfrog/leapfrogref01.common: function 83 -/
def leapfrogref01x_common.ctx : Ctx := []
def leapfrogref01x_common.l2 (S : Sig) (rec21 : List Value → St → Option Cut) (xs19 : List Value) (s20 : St) : Option Cut :=
  S.bd (lenL (xs19.getD 0 undef)) fun x22 => S.bd (bin .lss (xs19.getD 2 undef) x22) fun x23 => S.bd (S.gd x23 true (some (xs19.getD 2 undef))) fun x24 => S.bd (S.gd x23 true (some (xs19.getD 1 undef))) fun x25 => S.bd (S.gd x23 true (lenL x25)) fun x26 => S.bd (S.gd x23 true (bin .lss x24 x26)) fun x27 => S.bd (pik x23 x27 (Go.Value.bool Bool.false)) fun x28 => S.bd (S.gd x28 true (some (xs19.getD 0 undef))) fun x29 => S.bd (S.gd x28 true (some (xs19.getD 2 undef))) fun x30 => S.bd (S.gd x28 true (idx s20 1 x29 x30)) fun x31 => S.bd (S.gd x28 true (ldc s20 x31)) fun x32 => S.bd (S.gd x28 true (some (xs19.getD 1 undef))) fun x33 => S.bd (S.gd x28 true (some (xs19.getD 2 undef))) fun x34 => S.bd (S.gd x28 true (idx s20 1 x33 x34)) fun x35 => S.bd (S.gd x28 true (ldc s20 x35)) fun x36 => S.bd (S.gd x28 true (eqb [1] false false x32 x36)) fun x37 => S.bd (pik x28 x37 (Go.Value.bool Bool.false)) fun x38 => S.cnd x38 (S.bd (bin .add (xs19.getD 2 undef) (Go.Value.int Go.IntKind.i64 1)) fun x39 => rec21 [(xs19.getD 0 undef), (xs19.getD 1 undef), x39] s20) (some (0, [(xs19.getD 2 undef)], s20))

def leapfrogref01x_common.t (S : Sig) (a0 a1 : Value) (s : St) : Option Value :=
  S.bd (S.it (leapfrogref01x_common.l2 S) [a0, a1, (Go.Value.int Go.IntKind.i64 0)] s) fun r40 => some ((r40.2.1.getD 0 undef))
def leapfrogref01x_common.r (a0 a1 : Value) (s : St) : Option Value := leapfrogref01x_common.t std a0 a1 s
def leapfrogref01x_common.w : List Value → St → Option Value
  | [a0, a1], s => leapfrogref01x_common.r a0 a1 s
  | _, _ => none
def leapfrogref01x_common.an : An := ⟨30, true, [], [(2, ⟨[.v 0, .v 1, .v 5], [(.exit 0, [.v 5])]⟩)], [], [(2, [(0, 0, [], []), (1, 0, [], []), (2, 2, [], []), (3, 0, [], []), (4, 0, [], []), (5, 0, [], []), (6, 0, [], []), (7, 2, [], []), (8, 0, [], []), (9, 0, [], []), (10, 0, [], []), (11, 0, [], []), (12, 0, [], []), (13, 2, [], []), (14, 2, [], []), (15, 0, [], []), (16, 0, [], []), (17, 2, [], []), (18, 2, [], []), (19, 0, [], []), (20, 0, [], [])])]⟩
theorem leapfrogref01x_common.ok (S : Sig) (a0 a1 : Value) (s : St) : evG S Try.prog leapfrogref01x_common.ctx leapfrogref01x_common.an Try.f83 [a0, a1] s = leapfrogref01x_common.t S a0 a1 s := by kernel_rfl
theorem leapfrogref01x_common.cok : CtxOk Try.prog leapfrogref01x_common.ctx := .nil
theorem leapfrogref01x_common.draws : fnDraws leapfrogref01x_common.an Try.f83 = true := by kernel_rfl
theorem leapfrogref01x_common.can : callOk Try.prog 83 = true := by kernel_rfl
theorem leapfrogref01x_common.sound : FnOk Try.prog 83 (.rd leapfrogref01x_common.w) := FnOk.rd_of (evG_ok leapfrogref01x_common.cok mixed (f := 83) (fn := Try.f83) (by kernel_rfl) leapfrogref01x_common.draws) fun args s r h => by
  unfold leapfrogref01x_common.w at h; split at h
  · rw [leapfrogref01x_common.ok std]; exact h
  · simp at h

/-! ### leapfrog/leapfrogref01.Begins: function 54 -/
def leapfrogref01x_Begins.ctx : Ctx := [(25, .rd leapfrogref01x_Right.w), (84, .st leapfrogref01x_Bits.w), (83, .rd leapfrogref01x_common.w)]
def leapfrogref01x_Begins.t (S : Sig) (a0 a1 : Value) (s : St) : Option (Value × St) :=
  S.bd (bx a0) fun c1 => S.bd (bx a1) fun c2 => S.bd (lal c1 0 2) fun x3 => S.bd (leapfrogref01x_Right.r x3 s) fun x4 => S.bd (S.gd x4 true (lal c2 0 2)) fun x5 => S.bd (S.gd x4 true (leapfrogref01x_Right.r x5 s)) fun x6 => S.bd (pik x4 x6 (Go.Value.bool Bool.false)) fun x7 => S.bd (S.gd x7 true (lal c1 0 2)) fun x8 => S.bd (S.gd x7 true (lal c2 0 2)) fun x9 => S.bd (S.gd x7 true (lcl c2 0)) fun x10 => S.bd (S.gdS x7 true (leapfrogref01x_Bits.v x8 s) s) fun r11 => S.bd (S.gdS x7 true (leapfrogref01x_Bits.v x9 r11.2) r11.2) fun r12 => S.bd (S.gd x7 true (leapfrogref01x_common.r r11.1 r12.1 r12.2)) fun x13 => S.bd (S.gd x7 true (eqb [1] false false x13 x10)) fun x14 => S.bd (pik x7 x14 (Go.Value.bool Bool.false)) fun x15 => some (x15, r12.2)
def leapfrogref01x_Begins.v (a0 a1 : Value) (s : St) : Option (Value × St) := leapfrogref01x_Begins.t std a0 a1 s
def leapfrogref01x_Begins.w : List Value → St → Option (Value × St)
  | [a0, a1], s => leapfrogref01x_Begins.v a0 a1 s
  | _, _ => none
def leapfrogref01x_Begins.an : An := ⟨21, false, [2, 3], [], [], [(1, [(0, 17, [], []), (1, 3, [], []), (2, 0, [], []), (3, 25, [], []), (4, 3, [], []), (5, 0, [], []), (6, 0, [], []), (7, 17, [], []), (9, 25, [], []), (12, 0, [], []), (13, 25, [], []), (8, 4, [], []), (10, 4, [], []), (11, 3, [], []), (14, 0, [], []), (15, 0, [], []), (16, 0, [], [])])]⟩
theorem leapfrogref01x_Begins.ok (S : Sig) (a0 a1 : Value) (s : St) : evF S Try.prog leapfrogref01x_Begins.ctx leapfrogref01x_Begins.an Try.f54 [a0, a1] s = leapfrogref01x_Begins.t S a0 a1 s := by kernel_rfl
theorem leapfrogref01x_Begins.cok : CtxOk Try.prog leapfrogref01x_Begins.ctx := .cons leapfrogref01x_Right.sound leapfrogref01x_Right.can <| .cons leapfrogref01x_Bits.sound leapfrogref01x_Bits.can <| .cons leapfrogref01x_common.sound leapfrogref01x_common.can <| .nil
theorem leapfrogref01x_Begins.draws : fnDraws leapfrogref01x_Begins.an Try.f54 = true := by kernel_rfl
theorem leapfrogref01x_Begins.can : callOk Try.prog 54 = true := by kernel_rfl
theorem leapfrogref01x_Begins.sound : FnOk Try.prog 54 (.st leapfrogref01x_Begins.w) := FnOk.st_of (evF_ok leapfrogref01x_Begins.cok mixed (f := 54) (fn := Try.f54) (by kernel_rfl) leapfrogref01x_Begins.draws) fun args s r h => by
  unfold leapfrogref01x_Begins.w at h; split at h
  · rw [leapfrogref01x_Begins.ok std]; exact h
  · simp at h

/-! ### leapfrog/leapfrogref01.Begins: function 54, as a reading -/
def leapfrogref01x_BeginsQ.r (a0 a1 : Value) (s : St) : Option Value := frzR (fun s => leapfrogref01x_Begins.v a0 a1 s) s
def leapfrogref01x_BeginsQ.w : List Value → St → Option Value := fun args s => frzR (leapfrogref01x_Begins.w args) s
theorem leapfrogref01x_BeginsQ.can : callOk Try.prog 54 = true := leapfrogref01x_Begins.can
theorem leapfrogref01x_BeginsQ.sound : FnOk Try.prog 54 (.rd leapfrogref01x_BeginsQ.w) := FnOk.frozen leapfrogref01x_Begins.sound

/-! ### (*leapfrog/leapfrogref09.Peer).list: function 70 -/
def leapfrogref09x_Peer_list.ctx : Ctx := [(25, .rd leapfrogref01x_Right.w), (54, .rd leapfrogref01x_BeginsQ.w)]
def leapfrogref09x_Peer_list.t (S : Sig) (a0 a1 : Value) (s : St) : Option Value :=
  S.bd (bx a1) fun c1 => S.bd (nck a0) fun x2 => S.bd (fld 6 x2) fun x3 => S.bd (ldc s x3) fun x4 => S.cnd x4 (S.bd (lal c1 0 2) fun x5 => S.bd (leapfrogref01x_Right.r x5 s) fun x6 => S.bd (S.gd x6 true (lcl c1 0)) fun x7 => S.bd (S.gd x6 true (some a0)) fun x8 => S.bd (S.gd x6 true (nck x8)) fun x9 => S.bd (S.gd x6 true (fld 0 x9)) fun x10 => S.bd (S.gd x6 true (fld 3 x10)) fun x11 => S.bd (S.gd x6 true (fld 0 x11)) fun x12 => S.bd (S.gd x6 true (ldc s x12)) fun x13 => S.bd (S.gd x6 true (bin .leq x7 x13)) fun x14 => S.bd (pik x6 x14 (Go.Value.bool Bool.false)) fun x15 => some (x15)) (S.bd (nck a0) fun x16 => S.bd (fld 0 x16) fun x17 => S.bd (fld 3 x17) fun x18 => S.bd (lda s 2 x18) fun x19 => S.bd (lal c1 0 2) fun x20 => S.bd (leapfrogref01x_BeginsQ.r x19 x20 s) fun x21 => some (x21))
def leapfrogref09x_Peer_list.r (a0 a1 : Value) (s : St) : Option Value := leapfrogref09x_Peer_list.t std a0 a1 s
def leapfrogref09x_Peer_list.w : List Value → St → Option Value
  | [a0, a1], s => leapfrogref09x_Peer_list.r a0 a1 s
  | _, _ => none
def leapfrogref09x_Peer_list.an : An := ⟨29, true, [3], [], [], [(2, [(0, 25, [], []), (1, 3, [], []), (2, 0, [], []), (3, 0, [], []), (4, 25, [], []), (5, 0, [], []), (6, 0, [], []), (7, 0, [], []), (8, 0, [], []), (9, 0, [], []), (10, 2, [], []), (11, 0, [], []), (12, 0, [], []), (13, 0, [], [])]), (3, [(0, 0, [], []), (1, 0, [], []), (2, 0, [], []), (3, 0, [], []), (4, 2, [], []), (5, 25, [], []), (6, 3, [], []), (7, 0, [], [])])]⟩
theorem leapfrogref09x_Peer_list.ok (S : Sig) (a0 a1 : Value) (s : St) : evG S Try.prog leapfrogref09x_Peer_list.ctx leapfrogref09x_Peer_list.an Try.f70 [a0, a1] s = leapfrogref09x_Peer_list.t S a0 a1 s := by kernel_rfl
theorem leapfrogref09x_Peer_list.cok : CtxOk Try.prog leapfrogref09x_Peer_list.ctx := .cons leapfrogref01x_Right.sound leapfrogref01x_Right.can <| .cons leapfrogref01x_BeginsQ.sound leapfrogref01x_BeginsQ.can <| .nil
theorem leapfrogref09x_Peer_list.draws : fnDraws leapfrogref09x_Peer_list.an Try.f70 = true := by kernel_rfl
theorem leapfrogref09x_Peer_list.can : callOk Try.prog 70 = true := by kernel_rfl
theorem leapfrogref09x_Peer_list.sound : FnOk Try.prog 70 (.rd leapfrogref09x_Peer_list.w) := FnOk.rd_of (evG_ok leapfrogref09x_Peer_list.cok mixed (f := 70) (fn := Try.f70) (by kernel_rfl) leapfrogref09x_Peer_list.draws) fun args s r h => by
  unfold leapfrogref09x_Peer_list.w at h; split at h
  · rw [leapfrogref09x_Peer_list.ok std]; exact h
  · simp at h

/-! ### (*leapfrog/leapfrogref09.Peer).first: function 71 -/
def leapfrogref09x_Peer_first.ctx : Ctx := [(64, .rd leapfrogref09x_Tail.w), (63, .rd leapfrogref09x_Head.w)]
def leapfrogref09x_Peer_first.t (S : Sig) (a0 a1 : Value) (s : St) : Option Value :=
  S.bd (bx a1) fun c1 => S.bd (bx (Go.Value.agg #[(Go.Value.int Go.IntKind.i64 0), (Go.Value.int Go.IntKind.u64 0), (Go.Value.int Go.IntKind.i64 0), (Go.Value.int Go.IntKind.i64 0), (Go.Value.int Go.IntKind.u64 0), (Go.Value.int Go.IntKind.i64 0), (Go.Value.int Go.IntKind.u64 0), (Go.Value.int Go.IntKind.i64 0), (Go.Value.int Go.IntKind.i64 0), (Go.Value.int Go.IntKind.u64 0), (Go.Value.int Go.IntKind.i64 0), (Go.Value.int Go.IntKind.u64 0), (Go.Value.bool Bool.false), (Go.Value.int Go.IntKind.i64 0), (Go.Value.int Go.IntKind.i64 0), (Go.Value.slice Option.none 0 0)])) fun c2 => S.bd (lal c1 0 2) fun x3 => S.bd (bld [(Go.Value.int Go.IntKind.i64 0), (Go.Value.int Go.IntKind.u64 0), (Go.Value.int Go.IntKind.i64 0), (Go.Value.int Go.IntKind.i64 0), (Go.Value.int Go.IntKind.u64 0), (Go.Value.int Go.IntKind.i64 0), (Go.Value.int Go.IntKind.u64 0), (Go.Value.int Go.IntKind.i64 0), (Go.Value.int Go.IntKind.i64 0), (Go.Value.int Go.IntKind.u64 0), (Go.Value.int Go.IntKind.i64 0), (Go.Value.int Go.IntKind.u64 0), (Go.Value.bool Bool.false), (Go.Value.int Go.IntKind.i64 0), (Go.Value.int Go.IntKind.i64 0), (Go.Value.slice Option.none 0 0)] [(0, 2, x3)]) fun x4 => S.bd (bx (Go.Value.agg #[(Go.Value.int Go.IntKind.i64 0), (Go.Value.int Go.IntKind.u64 0), (Go.Value.int Go.IntKind.i64 0), (Go.Value.int Go.IntKind.i64 0), (Go.Value.int Go.IntKind.u64 0), (Go.Value.int Go.IntKind.i64 0), (Go.Value.int Go.IntKind.u64 0), (Go.Value.int Go.IntKind.i64 0), (Go.Value.int Go.IntKind.i64 0), (Go.Value.int Go.IntKind.u64 0), (Go.Value.int Go.IntKind.i64 0), (Go.Value.int Go.IntKind.u64 0), (Go.Value.bool Bool.false), (Go.Value.int Go.IntKind.i64 0), (Go.Value.int Go.IntKind.i64 0), (Go.Value.slice Option.none 0 0)])) fun c5 => S.bd (stl c5 0 16 x4) fun c6 => S.bd (nck a0) fun x7 => S.bd (fld 0 x7) fun x8 => S.bd (fld 1 x8) fun x9 => S.bd (fld 0 x9) fun x10 => S.bd (ldc s x10) fun x11 => S.bd (eqb [1] false false x11 (Go.Value.int Go.IntKind.i64 1)) fun x12 => S.cnd x12 (S.bd (nck a0) fun x13 => S.bd (fld 0 x13) fun x14 => S.bd (fld 3 x14) fun x15 => S.bd (fld 0 x15) fun x16 => S.bd (ldc s x16) fun x17 => S.bd (leapfrogref09x_Tail.r x17 s) fun x18 => S.bd (xtr 0 x18) fun x19 => S.bd (xtr 1 x18) fun x20 => S.bd (stl c6 7 5 x19) fun c21 => S.bd (lal c21 0 16) fun x22 => S.bd (stl c2 0 16 x22) fun c23 => S.bd (lal c23 0 16) fun x24 => some (x24)) (S.bd (nck a0) fun x25 => S.bd (fld 0 x25) fun x26 => S.bd (fld 3 x26) fun x27 => S.bd (fld 0 x27) fun x28 => S.bd (ldc s x28) fun x29 => S.bd (leapfrogref09x_Head.r x29 s) fun x30 => S.bd (xtr 0 x30) fun x31 => S.bd (xtr 1 x30) fun x32 => S.bd (stl c6 2 5 x31) fun c33 => S.bd (lal c33 0 16) fun x34 => S.bd (stl c2 0 16 x34) fun c35 => S.bd (lal c35 0 16) fun x36 => some (x36))
def leapfrogref09x_Peer_first.r (a0 a1 : Value) (s : St) : Option Value := leapfrogref09x_Peer_first.t std a0 a1 s
def leapfrogref09x_Peer_first.w : List Value → St → Option Value
  | [a0, a1], s => leapfrogref09x_Peer_first.r a0 a1 s
  | _, _ => none
def leapfrogref09x_Peer_first.an : An := ⟨38, true, [3, 4, 5], [], [], []⟩
theorem leapfrogref09x_Peer_first.ok (S : Sig) (a0 a1 : Value) (s : St) : evG S Try.prog leapfrogref09x_Peer_first.ctx leapfrogref09x_Peer_first.an Try.f71 [a0, a1] s = leapfrogref09x_Peer_first.t S a0 a1 s := by kernel_rfl
theorem leapfrogref09x_Peer_first.cok : CtxOk Try.prog leapfrogref09x_Peer_first.ctx := .cons leapfrogref09x_Tail.sound leapfrogref09x_Tail.can <| .cons leapfrogref09x_Head.sound leapfrogref09x_Head.can <| .nil
theorem leapfrogref09x_Peer_first.draws : fnDraws leapfrogref09x_Peer_first.an Try.f71 = true := by kernel_rfl
theorem leapfrogref09x_Peer_first.can : callOk Try.prog 71 = true := by kernel_rfl
theorem leapfrogref09x_Peer_first.sound : FnOk Try.prog 71 (.rd leapfrogref09x_Peer_first.w) := FnOk.rd_of (evG_ok leapfrogref09x_Peer_first.cok mixed (f := 71) (fn := Try.f71) (by kernel_rfl) leapfrogref09x_Peer_first.draws) fun args s r h => by
  unfold leapfrogref09x_Peer_first.w at h; split at h
  · rw [leapfrogref09x_Peer_first.ok std]; exact h
  · simp at h

/-! ### (*leapfrog/leapfrogref09.Peer).rec: function 39 -/
def leapfrogref09x_Peer_rec.ctx : Ctx := [(70, .rd leapfrogref09x_Peer_list.w), (71, .rd leapfrogref09x_Peer_first.w)]
def leapfrogref09x_Peer_rec.l2 (S : Sig) (rec25 : List Value → St → Option Cut) (xs23 : List Value) (s24 : St) : Option Cut :=
  S.bd (nck (xs23.getD 0 undef)) fun x26 => S.bd (fld 9 x26) fun x27 => S.bd (ldc s24 x27) fun x28 => S.bd (lenL x28) fun x29 => S.bd (bin .lss (xs23.getD 1 undef) x29) fun x30 => S.cnd x30 (S.bd (nck (xs23.getD 0 undef)) fun x31 => S.bd (fld 9 x31) fun x32 => S.bd (ldc s24 x32) fun x33 => S.bd (idx s24 16 x33 (xs23.getD 1 undef)) fun x34 => S.bd (fld 0 x34) fun x35 => S.bd (lda s24 2 x35) fun x36 => S.bd (lal (cellsA (xs23.getD 2 undef)) 0 2) fun x37 => S.bd (eqb [1, 1] true false x36 x37) fun x38 => S.cnd x38 (S.bd (nck (xs23.getD 0 undef)) fun x39 => S.bd (fld 9 x39) fun x40 => S.bd (ldc s24 x40) fun x41 => S.bd (idx s24 16 x41 (xs23.getD 1 undef)) fun x42 => S.bd (lda s24 16 x42) fun x43 => S.bd (stl (cellsA (xs23.getD 3 undef)) 0 16 x43) fun c44 => some (1, [(Go.Value.bool Bool.true), (Value.agg ⟨c44⟩)], s24)) (S.bd (bin .add (xs23.getD 1 undef) (Go.Value.int Go.IntKind.i64 1)) fun x45 => rec25 [(xs23.getD 0 undef), x45, (Value.agg ⟨(cellsA (xs23.getD 2 undef))⟩), (Value.agg ⟨(cellsA (xs23.getD 3 undef))⟩)] s24)) (some (0, [(xs23.getD 0 undef), (Value.agg ⟨(cellsA (xs23.getD 2 undef))⟩), (Value.agg ⟨(cellsA (xs23.getD 3 undef))⟩)], s24))

def leapfrogref09x_Peer_rec.t (S : Sig) (a0 a1 : Value) (s : St) : Option Value :=
  S.bd (bx a1) fun c1 => S.bd (bx (Go.Value.agg #[(Go.Value.int Go.IntKind.i64 0), (Go.Value.int Go.IntKind.u64 0), (Go.Value.int Go.IntKind.i64 0), (Go.Value.int Go.IntKind.i64 0), (Go.Value.int Go.IntKind.u64 0), (Go.Value.int Go.IntKind.i64 0), (Go.Value.int Go.IntKind.u64 0), (Go.Value.int Go.IntKind.i64 0), (Go.Value.int Go.IntKind.i64 0), (Go.Value.int Go.IntKind.u64 0), (Go.Value.int Go.IntKind.i64 0), (Go.Value.int Go.IntKind.u64 0), (Go.Value.bool Bool.false), (Go.Value.int Go.IntKind.i64 0), (Go.Value.int Go.IntKind.i64 0), (Go.Value.slice Option.none 0 0)])) fun c2 => S.bd (S.it (leapfrogref09x_Peer_rec.l2 S) [a0, (Go.Value.int Go.IntKind.i64 0), (Value.agg ⟨c1⟩), (Value.agg ⟨c2⟩)] s) fun r46 => if r46.1 = 0 then (S.bd (nck (r46.2.1.getD 0 undef)) fun x48 => S.bd (fld 6 x48) fun x49 => S.bd (ldc r46.2.2 x49) fun x50 => S.bd (S.gd x50 true (some (r46.2.1.getD 0 undef))) fun x51 => S.bd (S.gd x50 true (lal (cellsA (r46.2.1.getD 1 undef)) 0 2)) fun x52 => S.bd (S.gd x50 true (leapfrogref09x_Peer_list.r x51 x52 r46.2.2)) fun x53 => S.bd (pik x50 x53 (Go.Value.bool Bool.false)) fun x54 => S.cnd x54 (S.bd (lal (cellsA (r46.2.1.getD 1 undef)) 0 2) fun x55 => S.bd (leapfrogref09x_Peer_first.r (r46.2.1.getD 0 undef) x55 r46.2.2) fun x56 => S.bd (stl (cellsA (r46.2.1.getD 2 undef)) 0 16 x56) fun c57 => S.bd (lal c57 0 16) fun x58 => some ((Value.tuple ⟨[x58, (Go.Value.bool Bool.true)]⟩))) (S.bd (bld [(Go.Value.int Go.IntKind.i64 0), (Go.Value.int Go.IntKind.u64 0), (Go.Value.int Go.IntKind.i64 0), (Go.Value.int Go.IntKind.i64 0), (Go.Value.int Go.IntKind.u64 0), (Go.Value.int Go.IntKind.i64 0), (Go.Value.int Go.IntKind.u64 0), (Go.Value.int Go.IntKind.i64 0), (Go.Value.int Go.IntKind.i64 0), (Go.Value.int Go.IntKind.u64 0), (Go.Value.int Go.IntKind.i64 0), (Go.Value.int Go.IntKind.u64 0), (Go.Value.bool Bool.false), (Go.Value.int Go.IntKind.i64 0), (Go.Value.int Go.IntKind.i64 0), (Go.Value.slice Option.none 0 0)] []) fun x59 => S.bd (stl (cellsA (r46.2.1.getD 2 undef)) 0 16 x59) fun c60 => S.bd (lal c60 0 16) fun x61 => some ((Value.tuple ⟨[x61, (Go.Value.bool Bool.false)]⟩)))) else (S.bd (lal (cellsA (r46.2.1.getD 1 undef)) 0 16) fun x47 => some ((Value.tuple ⟨[x47, (r46.2.1.getD 0 undef)]⟩)))
def leapfrogref09x_Peer_rec.r (a0 a1 : Value) (s : St) : Option Value := leapfrogref09x_Peer_rec.t std a0 a1 s
def leapfrogref09x_Peer_rec.w : List Value → St → Option Value
  | [a0, a1], s => leapfrogref09x_Peer_rec.r a0 a1 s
  | _, _ => none
def leapfrogref09x_Peer_rec.an : An := ⟨46, true, [3, 4], [(2, ⟨[.v 0, .p 3 3 0, .p 4 4 0, .v 6, .l 3, .l 4], [(.exit 0, [.v 0, .p 3 3 0, .p 4 4 0, .l 3, .l 4]), (.ret, [.p 4 4 0, .v 5, .l 4])]⟩)], [], [(4, [(0, 0, [], []), (1, 0, [], []), (2, 0, [], []), (3, 2, [], []), (4, 0, [], []), (5, 2, [], []), (6, 0, [], []), (7, 2, [], []), (8, 25, [], []), (9, 0, [], [])])]⟩
theorem leapfrogref09x_Peer_rec.ok (S : Sig) (a0 a1 : Value) (s : St) : evG S Try.prog leapfrogref09x_Peer_rec.ctx leapfrogref09x_Peer_rec.an Try.f39 [a0, a1] s = leapfrogref09x_Peer_rec.t S a0 a1 s := by kernel_rfl
theorem leapfrogref09x_Peer_rec.cok : CtxOk Try.prog leapfrogref09x_Peer_rec.ctx := .cons leapfrogref09x_Peer_list.sound leapfrogref09x_Peer_list.can <| .cons leapfrogref09x_Peer_first.sound leapfrogref09x_Peer_first.can <| .nil
theorem leapfrogref09x_Peer_rec.draws : fnDraws leapfrogref09x_Peer_rec.an Try.f39 = true := by kernel_rfl
theorem leapfrogref09x_Peer_rec.can : callOk Try.prog 39 = true := by kernel_rfl
theorem leapfrogref09x_Peer_rec.sound : FnOk Try.prog 39 (.rd leapfrogref09x_Peer_rec.w) := FnOk.rd_of (evG_ok leapfrogref09x_Peer_rec.cok mixed (f := 39) (fn := Try.f39) (by kernel_rfl) leapfrogref09x_Peer_rec.draws) fun args s r h => by
  unfold leapfrogref09x_Peer_rec.w at h; split at h
  · rw [leapfrogref09x_Peer_rec.ok std]; exact h
  · simp at h

/-! ### leapfrog/leapfrogref09.gone: function 41 -/
def leapfrogref09x_gone.ctx : Ctx := []
def leapfrogref09x_gone.t (S : Sig) (s : St) : Option Value :=
  S.bd (bx (Go.Value.agg #[(Go.Value.int Go.IntKind.i64 0), (Go.Value.bool Bool.false), (Go.Value.int Go.IntKind.i64 0), (Go.Value.int Go.IntKind.i64 0), (Go.Value.int Go.IntKind.u64 0), (Go.Value.int Go.IntKind.i64 0), (Go.Value.int Go.IntKind.u64 0), (Go.Value.int Go.IntKind.i64 0), (Go.Value.int Go.IntKind.i64 0), (Go.Value.int Go.IntKind.u64 0), (Go.Value.int Go.IntKind.i64 0), (Go.Value.int Go.IntKind.u64 0), (Go.Value.slice Option.none 0 0)])) fun c1 => S.bd (bld [(Go.Value.int Go.IntKind.i64 0), (Go.Value.bool Bool.false), (Go.Value.int Go.IntKind.i64 0), (Go.Value.int Go.IntKind.i64 0), (Go.Value.int Go.IntKind.u64 0), (Go.Value.int Go.IntKind.i64 0), (Go.Value.int Go.IntKind.u64 0), (Go.Value.int Go.IntKind.i64 0), (Go.Value.int Go.IntKind.i64 0), (Go.Value.int Go.IntKind.u64 0), (Go.Value.int Go.IntKind.i64 0), (Go.Value.int Go.IntKind.u64 0), (Go.Value.slice Option.none 0 0)] [(0, 1, (Go.Value.int Go.IntKind.i64 2))]) fun x2 => S.bd (stl c1 0 13 x2) fun c3 => S.bd (lal c3 0 13) fun x4 => some (x4)
def leapfrogref09x_gone.r (s : St) : Option Value := leapfrogref09x_gone.t std  s
def leapfrogref09x_gone.w : List Value → St → Option Value
  | [], s => leapfrogref09x_gone.r  s
  | _, _ => none
def leapfrogref09x_gone.an : An := ⟨2, true, [0], [], [], []⟩
theorem leapfrogref09x_gone.ok (S : Sig) (s : St) : evG S Try.prog leapfrogref09x_gone.ctx leapfrogref09x_gone.an Try.f41 [] s = leapfrogref09x_gone.t S  s := by kernel_rfl
theorem leapfrogref09x_gone.cok : CtxOk Try.prog leapfrogref09x_gone.ctx := .nil
theorem leapfrogref09x_gone.draws : fnDraws leapfrogref09x_gone.an Try.f41 = true := by kernel_rfl
theorem leapfrogref09x_gone.can : callOk Try.prog 41 = true := by kernel_rfl
theorem leapfrogref09x_gone.sound : FnOk Try.prog 41 (.rd leapfrogref09x_gone.w) := FnOk.rd_of (evG_ok leapfrogref09x_gone.cok mixed (f := 41) (fn := Try.f41) (by kernel_rfl) leapfrogref09x_gone.draws) fun args s r h => by
  unfold leapfrogref09x_gone.w at h; split at h
  · rw [leapfrogref09x_gone.ok std]; exact h
  · simp at h

/-! ### leapfrog/leapfrogref09.told: function 40 -/
def leapfrogref09x_told.ctx : Ctx := []
def leapfrogref09x_told.t (S : Sig) (a0 a1 : Value) (s : St) : Option (Value × St) :=
  S.bd (bx a1) fun c1 => S.bd (lal c1 0 13) fun x2 => S.bd (bld [(Go.Value.int Go.IntKind.i64 0), (Go.Value.int Go.IntKind.i64 0), (Go.Value.bool Bool.false), (Go.Value.int Go.IntKind.i64 0), (Go.Value.int Go.IntKind.i64 0), (Go.Value.int Go.IntKind.u64 0), (Go.Value.int Go.IntKind.i64 0), (Go.Value.int Go.IntKind.u64 0), (Go.Value.int Go.IntKind.i64 0), (Go.Value.int Go.IntKind.i64 0), (Go.Value.int Go.IntKind.u64 0), (Go.Value.int Go.IntKind.i64 0), (Go.Value.int Go.IntKind.u64 0), (Go.Value.slice Option.none 0 0)] [(0, 1, a0), (1, 13, x2)]) fun x3 => S.bd (S.bd (bls 14 (List.replicate 1 [(Go.Value.int Go.IntKind.i64 0), (Go.Value.int Go.IntKind.i64 0), (Go.Value.bool Bool.false), (Go.Value.int Go.IntKind.i64 0), (Go.Value.int Go.IntKind.i64 0), (Go.Value.int Go.IntKind.u64 0), (Go.Value.int Go.IntKind.i64 0), (Go.Value.int Go.IntKind.u64 0), (Go.Value.int Go.IntKind.i64 0), (Go.Value.int Go.IntKind.i64 0), (Go.Value.int Go.IntKind.u64 0), (Go.Value.int Go.IntKind.i64 0), (Go.Value.int Go.IntKind.u64 0), (Go.Value.slice Option.none 0 0)]) [(0, x3)]) fun rows => als s 14 1 rows) fun r4 => some (r4.1, r4.2)
def leapfrogref09x_told.v (a0 a1 : Value) (s : St) : Option (Value × St) := leapfrogref09x_told.t std a0 a1 s
def leapfrogref09x_told.w : List Value → St → Option (Value × St)
  | [a0, a1], s => leapfrogref09x_told.v a0 a1 s
  | _, _ => none
def leapfrogref09x_told.an : An := ⟨9, false, [3], [], [], []⟩
theorem leapfrogref09x_told.ok (S : Sig) (a0 a1 : Value) (s : St) : evF S Try.prog leapfrogref09x_told.ctx leapfrogref09x_told.an Try.f40 [a0, a1] s = leapfrogref09x_told.t S a0 a1 s := by kernel_rfl
theorem leapfrogref09x_told.cok : CtxOk Try.prog leapfrogref09x_told.ctx := .nil
theorem leapfrogref09x_told.draws : fnDraws leapfrogref09x_told.an Try.f40 = true := by kernel_rfl
theorem leapfrogref09x_told.can : callOk Try.prog 40 = true := by kernel_rfl
theorem leapfrogref09x_told.sound : FnOk Try.prog 40 (.st leapfrogref09x_told.w) := FnOk.st_of (evF_ok leapfrogref09x_told.cok mixed (f := 40) (fn := Try.f40) (by kernel_rfl) leapfrogref09x_told.draws) fun args s r h => by
  unfold leapfrogref09x_told.w at h; split at h
  · rw [leapfrogref09x_told.ok std]; exact h
  · simp at h

/-! ### (*leapfrog/leapfrogref09.Peer).of: function 42 -/
def leapfrogref09x_Peer_of.ctx : Ctx := []
def leapfrogref09x_Peer_of.t (S : Sig) (a0 a1 : Value) (s : St) : Option Value :=
  S.bd (bx a1) fun c1 => S.bd (bx (Go.Value.agg #[(Go.Value.int Go.IntKind.i64 0), (Go.Value.bool Bool.false), (Go.Value.int Go.IntKind.i64 0), (Go.Value.int Go.IntKind.i64 0), (Go.Value.int Go.IntKind.u64 0), (Go.Value.int Go.IntKind.i64 0), (Go.Value.int Go.IntKind.u64 0), (Go.Value.int Go.IntKind.i64 0), (Go.Value.int Go.IntKind.i64 0), (Go.Value.int Go.IntKind.u64 0), (Go.Value.int Go.IntKind.i64 0), (Go.Value.int Go.IntKind.u64 0), (Go.Value.slice Option.none 0 0)])) fun c2 => S.bd (nck a0) fun x3 => S.bd (fld 8 x3) fun x4 => S.bd (ldc s x4) fun x5 => S.bd (lal c1 2 5) fun x6 => S.bd (lal c1 7 5) fun x7 => S.bd (bld [(Go.Value.int Go.IntKind.i64 0), (Go.Value.bool Bool.false), (Go.Value.int Go.IntKind.i64 0), (Go.Value.int Go.IntKind.i64 0), (Go.Value.int Go.IntKind.u64 0), (Go.Value.int Go.IntKind.i64 0), (Go.Value.int Go.IntKind.u64 0), (Go.Value.int Go.IntKind.i64 0), (Go.Value.int Go.IntKind.i64 0), (Go.Value.int Go.IntKind.u64 0), (Go.Value.int Go.IntKind.i64 0), (Go.Value.int Go.IntKind.u64 0), (Go.Value.slice Option.none 0 0)] [(0, 1, (Go.Value.int Go.IntKind.i64 1)), (1, 1, x5), (2, 5, x6), (7, 5, x7)]) fun x8 => S.bd (stl c2 0 13 x8) fun c9 => S.bd (lal c9 0 13) fun x10 => some (x10)
def leapfrogref09x_Peer_of.r (a0 a1 : Value) (s : St) : Option Value := leapfrogref09x_Peer_of.t std a0 a1 s
def leapfrogref09x_Peer_of.w : List Value → St → Option Value
  | [a0, a1], s => leapfrogref09x_Peer_of.r a0 a1 s
  | _, _ => none
def leapfrogref09x_Peer_of.an : An := ⟨14, true, [3, 4], [], [], [(1, [(0, 0, [], []), (1, 0, [], []), (2, 0, [], []), (3, 2, [], []), (4, 0, [], []), (5, 25, [], []), (6, 0, [], []), (7, 25, [], []), (8, 0, [], []), (9, 37, [], [])])]⟩
theorem leapfrogref09x_Peer_of.ok (S : Sig) (a0 a1 : Value) (s : St) : evG S Try.prog leapfrogref09x_Peer_of.ctx leapfrogref09x_Peer_of.an Try.f42 [a0, a1] s = leapfrogref09x_Peer_of.t S a0 a1 s := by kernel_rfl
theorem leapfrogref09x_Peer_of.cok : CtxOk Try.prog leapfrogref09x_Peer_of.ctx := .nil
theorem leapfrogref09x_Peer_of.draws : fnDraws leapfrogref09x_Peer_of.an Try.f42 = true := by kernel_rfl
theorem leapfrogref09x_Peer_of.can : callOk Try.prog 42 = true := by kernel_rfl
theorem leapfrogref09x_Peer_of.sound : FnOk Try.prog 42 (.rd leapfrogref09x_Peer_of.w) := FnOk.rd_of (evG_ok leapfrogref09x_Peer_of.cok mixed (f := 42) (fn := Try.f42) (by kernel_rfl) leapfrogref09x_Peer_of.draws) fun args s r h => by
  unfold leapfrogref09x_Peer_of.w at h; split at h
  · rw [leapfrogref09x_Peer_of.ok std]; exact h
  · simp at h

/-! ### leapfrog/leapfrogref07.IsOwner: function 55 -/
def leapfrogref07x_IsOwner.ctx : Ctx := []
def leapfrogref07x_IsOwner.t (S : Sig) (a0 : Value) (s : St) : Option Value :=
  S.bd (bx a0) fun c1 => S.bd (lcl c1 0) fun x2 => S.bd (bin .geq x2 (Go.Value.int Go.IntKind.i64 0)) fun x3 => S.bd (S.gd x3 true (lcl c1 0)) fun x4 => S.bd (S.gd x3 true (bin .lss x4 (Go.Value.int Go.IntKind.i64 1024))) fun x5 => S.bd (pik x3 x5 (Go.Value.bool Bool.false)) fun x6 => S.bd (S.gd x6 true (lcl c1 1)) fun x7 => S.bd (S.gd x6 true (bin .geq x7 (Go.Value.int Go.IntKind.i64 1))) fun x8 => S.bd (pik x6 x8 (Go.Value.bool Bool.false)) fun x9 => S.bd (S.gd x9 true (lcl c1 1)) fun x10 => S.bd (S.gd x9 true (bin .leq x10 (Go.Value.int Go.IntKind.i64 1073741824))) fun x11 => S.bd (pik x9 x11 (Go.Value.bool Bool.false)) fun x12 => some (x12)
def leapfrogref07x_IsOwner.r (a0 : Value) (s : St) : Option Value := leapfrogref07x_IsOwner.t std a0 s
def leapfrogref07x_IsOwner.w : List Value → St → Option Value
  | [a0], s => leapfrogref07x_IsOwner.r a0 s
  | _, _ => none
def leapfrogref07x_IsOwner.an : An := ⟨21, true, [1], [], [], []⟩
theorem leapfrogref07x_IsOwner.ok (S : Sig) (a0 : Value) (s : St) : evG S Try.prog leapfrogref07x_IsOwner.ctx leapfrogref07x_IsOwner.an Try.f55 [a0] s = leapfrogref07x_IsOwner.t S a0 s := by kernel_rfl
theorem leapfrogref07x_IsOwner.cok : CtxOk Try.prog leapfrogref07x_IsOwner.ctx := .nil
theorem leapfrogref07x_IsOwner.draws : fnDraws leapfrogref07x_IsOwner.an Try.f55 = true := by kernel_rfl
theorem leapfrogref07x_IsOwner.can : callOk Try.prog 55 = true := by kernel_rfl
theorem leapfrogref07x_IsOwner.sound : FnOk Try.prog 55 (.rd leapfrogref07x_IsOwner.w) := FnOk.rd_of (evG_ok leapfrogref07x_IsOwner.cok mixed (f := 55) (fn := Try.f55) (by kernel_rfl) leapfrogref07x_IsOwner.draws) fun args s r h => by
  unfold leapfrogref07x_IsOwner.w at h; split at h
  · rw [leapfrogref07x_IsOwner.ok std]; exact h
  · simp at h

/-! ### (*leapfrog/leapfrogref07.Lock).place: function 86 -/
def leapfrogref07x_Lock_place.ctx : Ctx := []
def leapfrogref07x_Lock_place.l2 (S : Sig) (rec17 : List Value → St → Option Cut) (xs15 : List Value) (s16 : St) : Option Cut :=
  S.bd (nck (xs15.getD 0 undef)) fun x18 => S.bd (fld 3 x18) fun x19 => S.bd (ldc s16 x19) fun x20 => S.bd (lenL x20) fun x21 => S.bd (bin .lss (xs15.getD 1 undef) x21) fun x22 => S.cnd x22 (S.bd (nck (xs15.getD 0 undef)) fun x23 => S.bd (fld 3 x23) fun x24 => S.bd (ldc s16 x24) fun x25 => S.bd (idx s16 2 x25 (xs15.getD 1 undef)) fun x26 => S.bd (lda s16 2 x26) fun x27 => S.bd (lal (cellsA (xs15.getD 2 undef)) 0 2) fun x28 => S.bd (eqb [1, 1] true false x27 x28) fun x29 => S.cnd x29 (some (1, [(xs15.getD 1 undef)], s16)) (S.bd (bin .add (xs15.getD 1 undef) (Go.Value.int Go.IntKind.i64 1)) fun x30 => rec17 [(xs15.getD 0 undef), x30, (Value.agg ⟨(cellsA (xs15.getD 2 undef))⟩)] s16)) (some (0, [], s16))

def leapfrogref07x_Lock_place.t (S : Sig) (a0 a1 : Value) (s : St) : Option Value :=
  S.bd (bx a1) fun c1 => S.bd (S.it (leapfrogref07x_Lock_place.l2 S) [a0, (Go.Value.int Go.IntKind.i64 0), (Value.agg ⟨c1⟩)] s) fun r31 => if r31.1 = 0 then (some ((Go.Value.int Go.IntKind.i64 (-1)))) else (some ((r31.2.1.getD 0 undef)))
def leapfrogref07x_Lock_place.r (a0 a1 : Value) (s : St) : Option Value := leapfrogref07x_Lock_place.t std a0 a1 s
def leapfrogref07x_Lock_place.w : List Value → St → Option Value
  | [a0, a1], s => leapfrogref07x_Lock_place.r a0 a1 s
  | _, _ => none
def leapfrogref07x_Lock_place.an : An := ⟨25, true, [3], [(2, ⟨[.v 0, .p 3 3 0, .v 5, .l 3], [(.exit 0, []), (.ret, [.v 4])]⟩)], [], [(4, [(0, 0, [], []), (1, 0, [], []), (2, 0, [], []), (3, 2, [], []), (4, 0, [], []), (5, 2, [], []), (6, 2, [], []), (7, 25, [], []), (8, 0, [], [])])]⟩
theorem leapfrogref07x_Lock_place.ok (S : Sig) (a0 a1 : Value) (s : St) : evG S Try.prog leapfrogref07x_Lock_place.ctx leapfrogref07x_Lock_place.an Try.f86 [a0, a1] s = leapfrogref07x_Lock_place.t S a0 a1 s := by kernel_rfl
theorem leapfrogref07x_Lock_place.cok : CtxOk Try.prog leapfrogref07x_Lock_place.ctx := .nil
theorem leapfrogref07x_Lock_place.draws : fnDraws leapfrogref07x_Lock_place.an Try.f86 = true := by kernel_rfl
theorem leapfrogref07x_Lock_place.can : callOk Try.prog 86 = true := by kernel_rfl
theorem leapfrogref07x_Lock_place.sound : FnOk Try.prog 86 (.rd leapfrogref07x_Lock_place.w) := FnOk.rd_of (evG_ok leapfrogref07x_Lock_place.cok mixed (f := 86) (fn := Try.f86) (by kernel_rfl) leapfrogref07x_Lock_place.draws) fun args s r h => by
  unfold leapfrogref07x_Lock_place.w at h; split at h
  · rw [leapfrogref07x_Lock_place.ok std]; exact h
  · simp at h

/-! ### (*leapfrog/leapfrogref07.Lock).Ask: function 72 -/
def leapfrogref07x_Lock_Ask.ctx : Ctx := [(55, .rd leapfrogref07x_IsOwner.w), (86, .rd leapfrogref07x_Lock_place.w)]
def leapfrogref07x_Lock_Ask.t.p1 (S : Sig) (c1 : List Value) (a0 : Value) (s : St) : Option (Value × St) :=
  S.bd (lal c1 0 2) fun x15 => S.bd (leapfrogref07x_Lock_place.r a0 x15 s) fun x16 => S.bd (bin .geq x16 (Go.Value.int Go.IntKind.i64 0)) fun x17 => S.cnd x17 (some ((Value.tuple ⟨[(Go.Value.bool Bool.false), (Go.Value.int Go.IntKind.i64 0)]⟩), s)) (S.bd (nck a0) fun x18 => S.bd (fld 0 x18) fun x19 => S.bd (ldc s x19) fun x20 => S.bd (un .not x20) fun x21 => S.cnd x21 (S.bd (lal c1 0 2) fun x22 => S.bd (nck a0) fun x23 => S.bd (fld 0 x23) fun x24 => S.bd (stv s 1 x24 (Go.Value.bool Bool.true)) fun s25 => S.bd (nck a0) fun x26 => S.bd (fld 1 x26) fun x27 => S.bd (stv s25 2 x27 x22) fun s28 => some ((Value.tuple ⟨[(Go.Value.bool Bool.true), (Go.Value.int Go.IntKind.i64 0)]⟩), s28)) (S.bd (nck a0) fun x29 => S.bd (fld 3 x29) fun x30 => S.bd (ldc s x30) fun x31 => S.bd (lenL x31) fun x32 => S.bd (bin .geq x32 (Go.Value.int Go.IntKind.i64 64)) fun x33 => S.cnd x33 (some ((Value.tuple ⟨[(Go.Value.bool Bool.false), (Go.Value.int Go.IntKind.i64 3)]⟩), s)) (S.bd (nck a0) fun x34 => S.bd (fld 3 x34) fun x35 => S.bd (ldc s x35) fun x36 => S.bd (lal c1 0 2) fun x37 => S.bd (S.bd (bls 2 (List.replicate 1 [(Go.Value.int Go.IntKind.i64 0), (Go.Value.int Go.IntKind.i64 0)]) [(0, x37)]) fun rows => als s 2 1 rows) fun _ => S.bd (S.bd (bls 2 (List.replicate 0 [(Go.Value.int Go.IntKind.i64 0), (Go.Value.int Go.IntKind.i64 0)]) []) fun rows => als s 2 0 rows) fun r38 => S.bd (S.bd (bls 2 (List.replicate 1 [(Go.Value.int Go.IntKind.i64 0), (Go.Value.int Go.IntKind.i64 0)]) [(0, x37)]) fun rows => als r38.2 2 1 rows) fun _ => S.bd (app r38.2 2 16 r38.1 x36) fun r39 => S.bd (S.bd (bls 2 (List.replicate 1 [(Go.Value.int Go.IntKind.i64 0), (Go.Value.int Go.IntKind.i64 0)]) [(0, x37)]) fun rows => als r39.2 2 1 rows) fun r40 => S.bd (app r40.2 2 16 r39.1 r40.1) fun r41 => S.bd (nck a0) fun x42 => S.bd (fld 3 x42) fun x43 => S.bd (stv r41.2 1 x43 r41.1) fun s44 => some ((Value.tuple ⟨[(Go.Value.bool Bool.false), (Go.Value.int Go.IntKind.i64 0)]⟩), s44))))

def leapfrogref07x_Lock_Ask.t (S : Sig) (a0 a1 : Value) (s : St) : Option (Value × St) :=
  S.bd (bx a1) fun c1 => S.bd (lal c1 0 2) fun x2 => S.bd (leapfrogref07x_IsOwner.r x2 s) fun x3 => S.bd (un .not x3) fun x4 => S.cnd x4 (some ((Value.tuple ⟨[(Go.Value.bool Bool.false), (Go.Value.int Go.IntKind.i64 70)]⟩), s)) (S.bd (nck a0) fun x5 => S.bd (fld 0 x5) fun x6 => S.bd (ldc s x6) fun x7 => S.bd (S.gd x7 true (some a0)) fun x8 => S.bd (S.gd x7 true (nck x8)) fun x9 => S.bd (S.gd x7 true (fld 1 x9)) fun x10 => S.bd (S.gd x7 true (lda s 2 x10)) fun x11 => S.bd (S.gd x7 true (lal c1 0 2)) fun x12 => S.bd (S.gd x7 true (eqb [1, 1] true false x11 x12)) fun x13 => S.bd (pik x7 x13 (Go.Value.bool Bool.false)) fun x14 => S.cnd x14 (some ((Value.tuple ⟨[(Go.Value.bool Bool.true), (Go.Value.int Go.IntKind.i64 0)]⟩), s)) (leapfrogref07x_Lock_Ask.t.p1 S c1 a0 s))
def leapfrogref07x_Lock_Ask.v (a0 a1 : Value) (s : St) : Option (Value × St) := leapfrogref07x_Lock_Ask.t std a0 a1 s
def leapfrogref07x_Lock_Ask.w : List Value → St → Option (Value × St)
  | [a0, a1], s => leapfrogref07x_Lock_Ask.v a0 a1 s
  | _, _ => none
def leapfrogref07x_Lock_Ask.an : An := ⟨60, false, [3], [], [], [(3, [(0, 0, [], []), (1, 0, [], []), (2, 0, [], []), (3, 2, [], []), (4, 0, [], []), (5, 0, [], []), (6, 0, [], []), (7, 0, [], []), (8, 2, [], []), (9, 25, [], []), (10, 0, [], []), (11, 0, [], []), (12, 0, [], [])]), (8, [(0, 0, [], []), (1, 0, [], []), (2, 25, [], []), (3, 0, [], []), (4, 0, [], []), (5, 4, [], []), (6, 0, [], []), (7, 0, [], []), (8, 4, [], [])]), (12, [(0, 0, [], []), (2, 0, [], []), (3, 0, [], []), (4, 0, [], []), (5, 2, [], []), (7, 25, [], []), (1, 3, [], [8]), (6, 4, [], [8]), (8, 3, [], []), (9, 4, [], []), (10, 0, [], []), (11, 0, [], []), (12, 4, [], [])])]⟩
theorem leapfrogref07x_Lock_Ask.ok (S : Sig) (a0 a1 : Value) (s : St) : evF S Try.prog leapfrogref07x_Lock_Ask.ctx leapfrogref07x_Lock_Ask.an Try.f72 [a0, a1] s = leapfrogref07x_Lock_Ask.t S a0 a1 s := by kernel_rfl
theorem leapfrogref07x_Lock_Ask.cok : CtxOk Try.prog leapfrogref07x_Lock_Ask.ctx := .cons leapfrogref07x_IsOwner.sound leapfrogref07x_IsOwner.can <| .cons leapfrogref07x_Lock_place.sound leapfrogref07x_Lock_place.can <| .nil
theorem leapfrogref07x_Lock_Ask.draws : fnDraws leapfrogref07x_Lock_Ask.an Try.f72 = true := by kernel_rfl
theorem leapfrogref07x_Lock_Ask.can : callOk Try.prog 72 = true := by kernel_rfl
theorem leapfrogref07x_Lock_Ask.sound : FnOk Try.prog 72 (.st leapfrogref07x_Lock_Ask.w) := FnOk.st_of (evF_ok leapfrogref07x_Lock_Ask.cok mixed (f := 72) (fn := Try.f72) (by kernel_rfl) leapfrogref07x_Lock_Ask.draws) fun args s r h => by
  unfold leapfrogref07x_Lock_Ask.w at h; split at h
  · rw [leapfrogref07x_Lock_Ask.ok std]; exact h
  · simp at h

/-! ### leapfrog/leapfrogref09.no: function 73 -/
def leapfrogref09x_no.ctx : Ctx := []
def leapfrogref09x_no.t (S : Sig) (s : St) : Option Value :=
  S.bd (bx (Go.Value.agg #[(Go.Value.int Go.IntKind.i64 0), (Go.Value.bool Bool.false), (Go.Value.int Go.IntKind.i64 0), (Go.Value.int Go.IntKind.i64 0), (Go.Value.int Go.IntKind.u64 0), (Go.Value.int Go.IntKind.i64 0), (Go.Value.int Go.IntKind.u64 0), (Go.Value.int Go.IntKind.i64 0), (Go.Value.int Go.IntKind.i64 0), (Go.Value.int Go.IntKind.u64 0), (Go.Value.int Go.IntKind.i64 0), (Go.Value.int Go.IntKind.u64 0), (Go.Value.slice Option.none 0 0)])) fun c1 => S.bd (bld [(Go.Value.int Go.IntKind.i64 0), (Go.Value.bool Bool.false), (Go.Value.int Go.IntKind.i64 0), (Go.Value.int Go.IntKind.i64 0), (Go.Value.int Go.IntKind.u64 0), (Go.Value.int Go.IntKind.i64 0), (Go.Value.int Go.IntKind.u64 0), (Go.Value.int Go.IntKind.i64 0), (Go.Value.int Go.IntKind.i64 0), (Go.Value.int Go.IntKind.u64 0), (Go.Value.int Go.IntKind.i64 0), (Go.Value.int Go.IntKind.u64 0), (Go.Value.slice Option.none 0 0)] [(0, 1, (Go.Value.int Go.IntKind.i64 4))]) fun x2 => S.bd (stl c1 0 13 x2) fun c3 => S.bd (lal c3 0 13) fun x4 => some (x4)
def leapfrogref09x_no.r (s : St) : Option Value := leapfrogref09x_no.t std  s
def leapfrogref09x_no.w : List Value → St → Option Value
  | [], s => leapfrogref09x_no.r  s
  | _, _ => none
def leapfrogref09x_no.an : An := ⟨2, true, [0], [], [], []⟩
theorem leapfrogref09x_no.ok (S : Sig) (s : St) : evG S Try.prog leapfrogref09x_no.ctx leapfrogref09x_no.an Try.f73 [] s = leapfrogref09x_no.t S  s := by kernel_rfl
theorem leapfrogref09x_no.cok : CtxOk Try.prog leapfrogref09x_no.ctx := .nil
theorem leapfrogref09x_no.draws : fnDraws leapfrogref09x_no.an Try.f73 = true := by kernel_rfl
theorem leapfrogref09x_no.can : callOk Try.prog 73 = true := by kernel_rfl
theorem leapfrogref09x_no.sound : FnOk Try.prog 73 (.rd leapfrogref09x_no.w) := FnOk.rd_of (evG_ok leapfrogref09x_no.cok mixed (f := 73) (fn := Try.f73) (by kernel_rfl) leapfrogref09x_no.draws) fun args s r h => by
  unfold leapfrogref09x_no.w at h; split at h
  · rw [leapfrogref09x_no.ok std]; exact h
  · simp at h

/-! ### (*leapfrog/leapfrogref09.Peer).plain: function 87 -/
def leapfrogref09x_Peer_plain.ctx : Ctx := [(71, .rd leapfrogref09x_Peer_first.w)]
def leapfrogref09x_Peer_plain.t (S : Sig) (a0 a1 : Value) (s : St) : Option Value :=
  S.bd (bx a1) fun c1 => S.bd (lal c1 0 2) fun x2 => S.bd (leapfrogref09x_Peer_first.r a0 x2 s) fun x3 => S.bd (bx (Go.Value.agg #[(Go.Value.int Go.IntKind.i64 0), (Go.Value.int Go.IntKind.u64 0), (Go.Value.int Go.IntKind.i64 0), (Go.Value.int Go.IntKind.i64 0), (Go.Value.int Go.IntKind.u64 0), (Go.Value.int Go.IntKind.i64 0), (Go.Value.int Go.IntKind.u64 0), (Go.Value.int Go.IntKind.i64 0), (Go.Value.int Go.IntKind.i64 0), (Go.Value.int Go.IntKind.u64 0), (Go.Value.int Go.IntKind.i64 0), (Go.Value.int Go.IntKind.u64 0), (Go.Value.bool Bool.false), (Go.Value.int Go.IntKind.i64 0), (Go.Value.int Go.IntKind.i64 0), (Go.Value.slice Option.none 0 0)])) fun c4 => S.bd (stl c4 0 16 x3) fun c5 => S.bd (nck a0) fun x6 => S.bd (fld 6 x6) fun x7 => S.bd (ldc s x7) fun x8 => S.bd (S.gd x8 true (lal c1 2 5)) fun x9 => S.bd (S.gd x8 true (lal c5 2 5)) fun x10 => S.bd (S.gd x8 true (eqb [1, 1, 1, 1, 1] true false x9 x10)) fun x11 => S.bd (pik x8 x11 (Go.Value.bool Bool.false)) fun x12 => S.bd (S.gd x12 true (lal c1 7 5)) fun x13 => S.bd (S.gd x12 true (lal c5 7 5)) fun x14 => S.bd (S.gd x12 true (eqb [1, 1, 1, 1, 1] true false x13 x14)) fun x15 => S.bd (pik x12 x15 (Go.Value.bool Bool.false)) fun x16 => S.bd (S.gd x16 true (lcl c1 12)) fun x17 => S.bd (S.gd x16 true (un .not x17)) fun x18 => S.bd (pik x16 x18 (Go.Value.bool Bool.false)) fun x19 => some (x19)
def leapfrogref09x_Peer_plain.r (a0 a1 : Value) (s : St) : Option Value := leapfrogref09x_Peer_plain.t std a0 a1 s
def leapfrogref09x_Peer_plain.w : List Value → St → Option Value
  | [a0, a1], s => leapfrogref09x_Peer_plain.r a0 a1 s
  | _, _ => none
def leapfrogref09x_Peer_plain.an : An := ⟨34, true, [3, 5], [], [], []⟩
theorem leapfrogref09x_Peer_plain.ok (S : Sig) (a0 a1 : Value) (s : St) : evG S Try.prog leapfrogref09x_Peer_plain.ctx leapfrogref09x_Peer_plain.an Try.f87 [a0, a1] s = leapfrogref09x_Peer_plain.t S a0 a1 s := by kernel_rfl
theorem leapfrogref09x_Peer_plain.cok : CtxOk Try.prog leapfrogref09x_Peer_plain.ctx := .cons leapfrogref09x_Peer_first.sound leapfrogref09x_Peer_first.can <| .nil
theorem leapfrogref09x_Peer_plain.draws : fnDraws leapfrogref09x_Peer_plain.an Try.f87 = true := by kernel_rfl
theorem leapfrogref09x_Peer_plain.can : callOk Try.prog 87 = true := by kernel_rfl
theorem leapfrogref09x_Peer_plain.sound : FnOk Try.prog 87 (.rd leapfrogref09x_Peer_plain.w) := FnOk.rd_of (evG_ok leapfrogref09x_Peer_plain.cok mixed (f := 87) (fn := Try.f87) (by kernel_rfl) leapfrogref09x_Peer_plain.draws) fun args s r h => by
  unfold leapfrogref09x_Peer_plain.w at h; split at h
  · rw [leapfrogref09x_Peer_plain.ok std]; exact h
  · simp at h

/-! ### leapfrog/leapfrogref01.Compare: function 88 -/
def leapfrogref01x_Compare.ctx : Ctx := [(25, .rd leapfrogref01x_Right.w), (84, .st leapfrogref01x_Bits.w), (83, .rd leapfrogref01x_common.w)]
def leapfrogref01x_Compare.t (S : Sig) (a0 a1 : Value) (s : St) : Option (Value × St) :=
  S.bd (bx a0) fun c1 => S.bd (bx a1) fun c2 => S.bd (lal c1 0 2) fun x3 => S.bd (leapfrogref01x_Right.r x3 s) fun x4 => S.bd (un .not x4) fun x5 => S.bd (S.gd x5 false (lal c2 0 2)) fun x6 => S.bd (S.gd x5 false (leapfrogref01x_Right.r x6 s)) fun x7 => S.bd (S.gd x5 false (un .not x7)) fun x8 => S.bd (pik x5 (Go.Value.bool Bool.true) x8) fun x9 => S.cnd x9 (some ((Value.tuple ⟨[(Go.Value.int Go.IntKind.i64 0), (Go.Value.int Go.IntKind.i64 10)]⟩), s)) (S.bd (lal c1 0 2) fun x10 => S.bd (lal c2 0 2) fun x11 => S.bd (leapfrogref01x_Bits.v x10 s) fun r12 => S.bd (leapfrogref01x_Bits.v x11 r12.2) fun r13 => S.bd (leapfrogref01x_common.r r12.1 r13.1 r13.2) fun x14 => S.bd (lenL r12.1) fun x15 => S.bd (eqb [1] false false x14 x15) fun x16 => S.bd (S.gd x16 true (some x14)) fun x17 => S.bd (S.gd x16 true (some r13.1)) fun x18 => S.bd (S.gd x16 true (lenL x18)) fun x19 => S.bd (S.gd x16 true (eqb [1] false false x17 x19)) fun x20 => S.bd (pik x16 x20 (Go.Value.bool Bool.false)) fun x21 => S.cnd x21 (some ((Value.tuple ⟨[(Go.Value.int Go.IntKind.i64 0), (Go.Value.int Go.IntKind.i64 0)]⟩), r13.2)) (S.bd (lenL r12.1) fun x22 => S.bd (eqb [1] false false x14 x22) fun x23 => S.cnd x23 (some ((Value.tuple ⟨[(Go.Value.int Go.IntKind.i64 (-1)), (Go.Value.int Go.IntKind.i64 0)]⟩), r13.2)) (S.bd (lenL r13.1) fun x24 => S.bd (eqb [1] false false x14 x24) fun x25 => S.cnd x25 (some ((Value.tuple ⟨[(Go.Value.int Go.IntKind.i64 1), (Go.Value.int Go.IntKind.i64 0)]⟩), r13.2)) (S.bd (idx r13.2 1 r12.1 x14) fun x26 => S.bd (ldc r13.2 x26) fun x27 => S.bd (idx r13.2 1 r13.1 x14) fun x28 => S.bd (ldc r13.2 x28) fun x29 => S.bd (bin .lss x27 x29) fun x30 => S.cnd x30 (some ((Value.tuple ⟨[(Go.Value.int Go.IntKind.i64 (-1)), (Go.Value.int Go.IntKind.i64 0)]⟩), r13.2)) (some ((Value.tuple ⟨[(Go.Value.int Go.IntKind.i64 1), (Go.Value.int Go.IntKind.i64 0)]⟩), r13.2))))))
def leapfrogref01x_Compare.v (a0 a1 : Value) (s : St) : Option (Value × St) := leapfrogref01x_Compare.t std a0 a1 s
def leapfrogref01x_Compare.w : List Value → St → Option (Value × St)
  | [a0, a1], s => leapfrogref01x_Compare.v a0 a1 s
  | _, _ => none
def leapfrogref01x_Compare.an : An := ⟨55, false, [2, 3], [], [], [(3, [(0, 17, [], []), (2, 25, [], []), (1, 4, [], []), (3, 4, [], []), (4, 0, [], []), (5, 0, [], [])]), (11, [(0, 0, [], []), (1, 0, [], []), (2, 2, [], []), (3, 2, [], []), (4, 0, [], []), (5, 0, [], []), (6, 2, [], []), (7, 2, [], []), (8, 0, [], []), (9, 0, [], [])])]⟩
theorem leapfrogref01x_Compare.ok (S : Sig) (a0 a1 : Value) (s : St) : evF S Try.prog leapfrogref01x_Compare.ctx leapfrogref01x_Compare.an Try.f88 [a0, a1] s = leapfrogref01x_Compare.t S a0 a1 s := by kernel_rfl
theorem leapfrogref01x_Compare.cok : CtxOk Try.prog leapfrogref01x_Compare.ctx := .cons leapfrogref01x_Right.sound leapfrogref01x_Right.can <| .cons leapfrogref01x_Bits.sound leapfrogref01x_Bits.can <| .cons leapfrogref01x_common.sound leapfrogref01x_common.can <| .nil
theorem leapfrogref01x_Compare.draws : fnDraws leapfrogref01x_Compare.an Try.f88 = true := by kernel_rfl
theorem leapfrogref01x_Compare.can : callOk Try.prog 88 = true := by kernel_rfl
theorem leapfrogref01x_Compare.sound : FnOk Try.prog 88 (.st leapfrogref01x_Compare.w) := FnOk.st_of (evF_ok leapfrogref01x_Compare.cok mixed (f := 88) (fn := Try.f88) (by kernel_rfl) leapfrogref01x_Compare.draws) fun args s r h => by
  unfold leapfrogref01x_Compare.w at h; split at h
  · rw [leapfrogref01x_Compare.ok std]; exact h
  · simp at h

/-! ### leapfrog/leapfrogref01.Compare: function 88, as a reading -/
def leapfrogref01x_CompareQ.r (a0 a1 : Value) (s : St) : Option Value := frzR (fun s => leapfrogref01x_Compare.v a0 a1 s) s
def leapfrogref01x_CompareQ.w : List Value → St → Option Value := fun args s => frzR (leapfrogref01x_Compare.w args) s
theorem leapfrogref01x_CompareQ.can : callOk Try.prog 88 = true := leapfrogref01x_Compare.can
theorem leapfrogref01x_CompareQ.sound : FnOk Try.prog 88 (.rd leapfrogref01x_CompareQ.w) := FnOk.frozen leapfrogref01x_Compare.sound

/-! ### (*leapfrog/leapfrogref09.Peer).set: function 74 -/
def leapfrogref09x_Peer_set.ctx : Ctx := [(87, .rd leapfrogref09x_Peer_plain.w), (88, .rd leapfrogref01x_CompareQ.w)]
def leapfrogref09x_Peer_set.l4.p1 (S : Sig) (x75 : Value) (x76 : Value) (xs60 : List Value) (s61 : St) (rec62 : List Value → St → Option Cut) : Option Cut :=
  S.bd (xtr 1 x75) fun x77 => S.bd (show Option Cut from S.bd (bin .gtr x76 (Go.Value.int Go.IntKind.i64 0)) fun x78 => S.bd (S.gd x78 true (some (xs60.getD 2 undef))) fun x79 => S.bd (S.gd x78 true (un .not x79)) fun x80 => S.bd (pik x78 x80 (Go.Value.bool Bool.false)) fun x81 => S.cnd x81 (S.bd (lal (cellsA (xs60.getD 4 undef)) 0 16) fun x82 => S.bd (S.bd (bls 16 (List.replicate 1 [(Go.Value.int Go.IntKind.i64 0), (Go.Value.int Go.IntKind.u64 0), (Go.Value.int Go.IntKind.i64 0), (Go.Value.int Go.IntKind.i64 0), (Go.Value.int Go.IntKind.u64 0), (Go.Value.int Go.IntKind.i64 0), (Go.Value.int Go.IntKind.u64 0), (Go.Value.int Go.IntKind.i64 0), (Go.Value.int Go.IntKind.i64 0), (Go.Value.int Go.IntKind.u64 0), (Go.Value.int Go.IntKind.i64 0), (Go.Value.int Go.IntKind.u64 0), (Go.Value.bool Bool.false), (Go.Value.int Go.IntKind.i64 0), (Go.Value.int Go.IntKind.i64 0), (Go.Value.slice Option.none 0 0)]) [(0, x82)]) fun rows => als s61 16 1 rows) fun r83 => S.bd (app r83.2 16 144 (xs60.getD 1 undef) r83.1) fun r84 => some (0, [(xs60.getD 0 undef), r84.1, (Go.Value.bool Bool.true), (xs60.getD 3 undef), x76, x79, x80, (Value.agg ⟨(cellsA (xs60.getD 4 undef))⟩)], r84.2)) (some (0, [(xs60.getD 0 undef), (xs60.getD 1 undef), (xs60.getD 2 undef), (xs60.getD 3 undef), x76, x79, x80, (Value.agg ⟨(cellsA (xs60.getD 4 undef))⟩)], s61))) fun r85 => S.bd (show Option Cut from S.bd (eqb [1] false true (r85.2.1.getD 4 undef) (Go.Value.int Go.IntKind.i64 0)) fun x86 => S.cnd x86 (S.bd (nck (r85.2.1.getD 0 undef)) fun x87 => S.bd (fld 9 x87) fun x88 => S.bd (ldc r85.2.2 x88) fun x89 => S.bd (idx r85.2.2 16 x89 (r85.2.1.getD 3 undef)) fun x90 => S.bd (lda r85.2.2 16 x90) fun x91 => S.bd (S.bd (bls 16 (List.replicate 1 [(Go.Value.int Go.IntKind.i64 0), (Go.Value.int Go.IntKind.u64 0), (Go.Value.int Go.IntKind.i64 0), (Go.Value.int Go.IntKind.i64 0), (Go.Value.int Go.IntKind.u64 0), (Go.Value.int Go.IntKind.i64 0), (Go.Value.int Go.IntKind.u64 0), (Go.Value.int Go.IntKind.i64 0), (Go.Value.int Go.IntKind.i64 0), (Go.Value.int Go.IntKind.u64 0), (Go.Value.int Go.IntKind.i64 0), (Go.Value.int Go.IntKind.u64 0), (Go.Value.bool Bool.false), (Go.Value.int Go.IntKind.i64 0), (Go.Value.int Go.IntKind.i64 0), (Go.Value.slice Option.none 0 0)]) [(0, x91)]) fun rows => als r85.2.2 16 1 rows) fun r92 => S.bd (app r92.2 16 144 (r85.2.1.getD 1 undef) r92.1) fun r93 => some (0, [(r85.2.1.getD 0 undef), r93.1, (r85.2.1.getD 2 undef), (r85.2.1.getD 3 undef), (r85.2.1.getD 4 undef), (r85.2.1.getD 5 undef), (r85.2.1.getD 6 undef), (Value.agg ⟨(cellsA (r85.2.1.getD 7 undef))⟩)], r93.2)) (some (0, [(r85.2.1.getD 0 undef), (r85.2.1.getD 1 undef), (r85.2.1.getD 2 undef), (r85.2.1.getD 3 undef), (r85.2.1.getD 4 undef), (r85.2.1.getD 5 undef), (r85.2.1.getD 6 undef), (Value.agg ⟨(cellsA (r85.2.1.getD 7 undef))⟩)], r85.2.2))) fun r94 => S.bd (eqb [1] false false (r94.2.1.getD 4 undef) (Go.Value.int Go.IntKind.i64 0)) fun x95 => S.bd (S.gd x95 true (some (r94.2.1.getD 2 undef))) fun x96 => S.bd (S.gd x95 true (un .not x96)) fun x97 => S.bd (pik x95 x97 (Go.Value.bool Bool.false)) fun x98 => S.cnd x98 (S.bd (lal (cellsA (r94.2.1.getD 7 undef)) 0 16) fun x99 => S.bd (S.bd (bls 16 (List.replicate 1 [(Go.Value.int Go.IntKind.i64 0), (Go.Value.int Go.IntKind.u64 0), (Go.Value.int Go.IntKind.i64 0), (Go.Value.int Go.IntKind.i64 0), (Go.Value.int Go.IntKind.u64 0), (Go.Value.int Go.IntKind.i64 0), (Go.Value.int Go.IntKind.u64 0), (Go.Value.int Go.IntKind.i64 0), (Go.Value.int Go.IntKind.i64 0), (Go.Value.int Go.IntKind.u64 0), (Go.Value.int Go.IntKind.i64 0), (Go.Value.int Go.IntKind.u64 0), (Go.Value.bool Bool.false), (Go.Value.int Go.IntKind.i64 0), (Go.Value.int Go.IntKind.i64 0), (Go.Value.slice Option.none 0 0)]) [(0, x99)]) fun rows => als r94.2.2 16 1 rows) fun r100 => S.bd (app r100.2 16 144 (r94.2.1.getD 1 undef) r100.1) fun r101 => S.bd (bin .add (r94.2.1.getD 3 undef) (Go.Value.int Go.IntKind.i64 1)) fun x102 => rec62 [(r94.2.1.getD 0 undef), r101.1, (Go.Value.bool Bool.true), x102, (Value.agg ⟨(cellsA (r94.2.1.getD 7 undef))⟩)] r101.2) (S.bd (bin .add (r94.2.1.getD 3 undef) (Go.Value.int Go.IntKind.i64 1)) fun x103 => rec62 [(r94.2.1.getD 0 undef), (r94.2.1.getD 1 undef), (r94.2.1.getD 2 undef), x103, (Value.agg ⟨(cellsA (r94.2.1.getD 7 undef))⟩)] r94.2.2)

def leapfrogref09x_Peer_set.l4 (S : Sig) (rec62 : List Value → St → Option Cut) (xs60 : List Value) (s61 : St) : Option Cut :=
  S.bd (nck (xs60.getD 0 undef)) fun x63 => S.bd (fld 9 x63) fun x64 => S.bd (ldc s61 x64) fun x65 => S.bd (lenL x65) fun x66 => S.bd (bin .lss (xs60.getD 3 undef) x66) fun x67 => S.cnd x67 (S.bd (nck (xs60.getD 0 undef)) fun x68 => S.bd (fld 9 x68) fun x69 => S.bd (ldc s61 x69) fun x70 => S.bd (idx s61 16 x70 (xs60.getD 3 undef)) fun x71 => S.bd (fld 0 x71) fun x72 => S.bd (lda s61 2 x72) fun x73 => S.bd (lal (cellsA (xs60.getD 4 undef)) 0 2) fun x74 => S.bd (leapfrogref01x_CompareQ.r x73 x74 s61) fun x75 => S.bd (xtr 0 x75) fun x76 => leapfrogref09x_Peer_set.l4.p1 S x75 x76 xs60 s61 rec62) (some (0, [(xs60.getD 0 undef), (xs60.getD 1 undef), (xs60.getD 2 undef), (Value.agg ⟨(cellsA (xs60.getD 4 undef))⟩)], s61))

def leapfrogref09x_Peer_set.t (S : Sig) (a0 a1 : Value) (s : St) : Option (Value × St) :=
  S.bd (bx a1) fun c1 => S.bd (lal c1 0 16) fun x2 => S.bd (leapfrogref09x_Peer_plain.r a0 x2 s) fun x3 => S.bd (S.it (leapfrogref09x_Peer_set.l4 S) [a0, (Go.Value.slice Option.none 0 0), x3, (Go.Value.int Go.IntKind.i64 0), (Value.agg ⟨c1⟩)] s) fun r104 => S.bd (show Option Cut from S.bd (un .not (r104.2.1.getD 2 undef)) fun x109 => S.cnd x109 (S.bd (lal (cellsA (r104.2.1.getD 3 undef)) 0 16) fun x110 => S.bd (S.bd (bls 16 (List.replicate 1 [(Go.Value.int Go.IntKind.i64 0), (Go.Value.int Go.IntKind.u64 0), (Go.Value.int Go.IntKind.i64 0), (Go.Value.int Go.IntKind.i64 0), (Go.Value.int Go.IntKind.u64 0), (Go.Value.int Go.IntKind.i64 0), (Go.Value.int Go.IntKind.u64 0), (Go.Value.int Go.IntKind.i64 0), (Go.Value.int Go.IntKind.i64 0), (Go.Value.int Go.IntKind.u64 0), (Go.Value.int Go.IntKind.i64 0), (Go.Value.int Go.IntKind.u64 0), (Go.Value.bool Bool.false), (Go.Value.int Go.IntKind.i64 0), (Go.Value.int Go.IntKind.i64 0), (Go.Value.slice Option.none 0 0)]) [(0, x110)]) fun rows => als r104.2.2 16 1 rows) fun r111 => S.bd (app r111.2 16 144 (r104.2.1.getD 1 undef) r111.1) fun r112 => some (0, [(r104.2.1.getD 0 undef), r112.1], r112.2)) (some (0, [(r104.2.1.getD 0 undef), (r104.2.1.getD 1 undef)], r104.2.2))) fun r113 => S.bd (nck (r113.2.1.getD 0 undef)) fun x114 => S.bd (fld 9 x114) fun x115 => S.bd (stv r113.2.2 1 x115 (r113.2.1.getD 1 undef)) fun s116 => some ((Value.tuple ⟨[]⟩), s116)
def leapfrogref09x_Peer_set.v (a0 a1 : Value) (s : St) : Option (Value × St) := leapfrogref09x_Peer_set.t std a0 a1 s
def leapfrogref09x_Peer_set.w : List Value → St → Option (Value × St)
  | [a0, a1], s => leapfrogref09x_Peer_set.v a0 a1 s
  | _, _ => none
def leapfrogref09x_Peer_set.an : An := ⟨77, false, [3], [(4, ⟨[.v 0, .p 3 3 0, .v 4, .v 5, .v 6, .l 3], [(.exit 0, [.v 0, .p 3 3 0, .v 4, .v 5, .l 3])]⟩)], [(10, ⟨[], [(.normal, [.v 0, .p 3 3 0, .v 4, .v 5, .v 6, .v 7, .v 38, .v 39, .l 3])]⟩), (12, ⟨[], [(.normal, [.v 0, .p 3 3 0, .v 4, .v 5, .v 6, .v 7, .v 38, .v 39, .l 3])]⟩), (17, ⟨[], [(.normal, [.v 0, .v 4])]⟩)], [(6, [(0, 0, [], []), (1, 0, [], []), (2, 0, [], []), (3, 2, [], []), (4, 0, [], []), (5, 2, [], []), (6, 0, [], []), (7, 2, [], []), (8, 0, [], []), (9, 25, [], []), (10, 3, [], []), (11, 0, [], []), (12, 0, [], []), (13, 0, [], []), (14, 0, [], []), (15, 0, [], [])])]⟩
theorem leapfrogref09x_Peer_set.ok (S : Sig) (a0 a1 : Value) (s : St) : evF S Try.prog leapfrogref09x_Peer_set.ctx leapfrogref09x_Peer_set.an Try.f74 [a0, a1] s = leapfrogref09x_Peer_set.t S a0 a1 s := by kernel_rfl
theorem leapfrogref09x_Peer_set.cok : CtxOk Try.prog leapfrogref09x_Peer_set.ctx := .cons leapfrogref09x_Peer_plain.sound leapfrogref09x_Peer_plain.can <| .cons leapfrogref01x_CompareQ.sound leapfrogref01x_CompareQ.can <| .nil
theorem leapfrogref09x_Peer_set.draws : fnDraws leapfrogref09x_Peer_set.an Try.f74 = true := by kernel_rfl
theorem leapfrogref09x_Peer_set.can : callOk Try.prog 74 = true := by kernel_rfl
theorem leapfrogref09x_Peer_set.sound : FnOk Try.prog 74 (.st leapfrogref09x_Peer_set.w) := FnOk.st_of (evF_ok leapfrogref09x_Peer_set.cok mixed (f := 74) (fn := Try.f74) (by kernel_rfl) leapfrogref09x_Peer_set.draws) fun args s r h => by
  unfold leapfrogref09x_Peer_set.w at h; split at h
  · rw [leapfrogref09x_Peer_set.ok std]; exact h
  · simp at h

/-! ### (*leapfrog/leapfrogref09.Peer).lock: function 43 -/
def leapfrogref09x_Peer_lock.ctx : Ctx := [(39, .rd leapfrogref09x_Peer_rec.w), (41, .rd leapfrogref09x_gone.w), (40, .st leapfrogref09x_told.w), (72, .st leapfrogref07x_Lock_Ask.w), (73, .rd leapfrogref09x_no.w), (74, .st leapfrogref09x_Peer_set.w), (42, .rd leapfrogref09x_Peer_of.w)]
def leapfrogref09x_Peer_lock.t.p1 (S : Sig) (r17 : Value × St) (r6 : Value × St) (a0 : Value) (x18 : Value) (a1 : Value) (c1 : List Value) : Option (Value × St) :=
  S.bd (lda r17.2 16 r6.1) fun x34 => S.bd (leapfrogref09x_Peer_set.v a0 x34 r17.2) fun r35 => S.cnd x18 (S.bd (lda r35.2 16 r6.1) fun x36 => S.bd (leapfrogref09x_Peer_of.r a0 x36 r35.2) fun x37 => S.bd (leapfrogref09x_told.v a1 x37 r35.2) fun r38 => some (r38.1, r38.2)) (S.bd (nck a0) fun x39 => S.bd (fld 10 x39) fun x40 => S.bd (ldc r35.2 x40) fun x41 => S.bd (lal c1 1 2) fun x42 => S.bd (lal c1 13 2) fun x43 => S.bd (bld [(Go.Value.int Go.IntKind.i64 0), (Go.Value.bool Bool.false), (Go.Value.int Go.IntKind.i64 0), (Go.Value.int Go.IntKind.u64 0), (Go.Value.int Go.IntKind.i64 0), (Go.Value.int Go.IntKind.i64 0)] [(0, 1, a1), (2, 2, x42), (4, 2, x43)]) fun x44 => S.bd (S.bd (bls 6 (List.replicate 1 [(Go.Value.int Go.IntKind.i64 0), (Go.Value.bool Bool.false), (Go.Value.int Go.IntKind.i64 0), (Go.Value.int Go.IntKind.u64 0), (Go.Value.int Go.IntKind.i64 0), (Go.Value.int Go.IntKind.i64 0)]) [(0, x44)]) fun rows => als r35.2 6 1 rows) fun _ => S.bd (S.bd (bls 6 (List.replicate 0 [(Go.Value.int Go.IntKind.i64 0), (Go.Value.bool Bool.false), (Go.Value.int Go.IntKind.i64 0), (Go.Value.int Go.IntKind.u64 0), (Go.Value.int Go.IntKind.i64 0), (Go.Value.int Go.IntKind.i64 0)]) []) fun rows => als r35.2 6 0 rows) fun r45 => S.bd (S.bd (bls 6 (List.replicate 1 [(Go.Value.int Go.IntKind.i64 0), (Go.Value.bool Bool.false), (Go.Value.int Go.IntKind.i64 0), (Go.Value.int Go.IntKind.u64 0), (Go.Value.int Go.IntKind.i64 0), (Go.Value.int Go.IntKind.i64 0)]) [(0, x44)]) fun rows => als r45.2 6 1 rows) fun _ => S.bd (app r45.2 6 48 r45.1 x41) fun r46 => S.bd (S.bd (bls 6 (List.replicate 1 [(Go.Value.int Go.IntKind.i64 0), (Go.Value.bool Bool.false), (Go.Value.int Go.IntKind.i64 0), (Go.Value.int Go.IntKind.u64 0), (Go.Value.int Go.IntKind.i64 0), (Go.Value.int Go.IntKind.i64 0)]) [(0, x44)]) fun rows => als r46.2 6 1 rows) fun r47 => S.bd (app r47.2 6 48 r46.1 r47.1) fun r48 => S.bd (nck a0) fun x49 => S.bd (fld 10 x49) fun x50 => S.bd (stv r48.2 1 x50 r48.1) fun s51 => some ((Go.Value.slice Option.none 0 0), s51))

def leapfrogref09x_Peer_lock.t (S : Sig) (a0 a1 a2 : Value) (s : St) : Option (Value × St) :=
  S.bd (bx a2) fun c1 => S.bd (lal c1 1 2) fun x2 => S.bd (leapfrogref09x_Peer_rec.r a0 x2 s) fun x3 => S.bd (xtr 0 x3) fun x4 => S.bd (xtr 1 x3) fun x5 => S.bd (alv s (Go.Value.agg #[(Go.Value.int Go.IntKind.i64 0), (Go.Value.int Go.IntKind.u64 0), (Go.Value.int Go.IntKind.i64 0), (Go.Value.int Go.IntKind.i64 0), (Go.Value.int Go.IntKind.u64 0), (Go.Value.int Go.IntKind.i64 0), (Go.Value.int Go.IntKind.u64 0), (Go.Value.int Go.IntKind.i64 0), (Go.Value.int Go.IntKind.i64 0), (Go.Value.int Go.IntKind.u64 0), (Go.Value.int Go.IntKind.i64 0), (Go.Value.int Go.IntKind.u64 0), (Go.Value.bool Bool.false), (Go.Value.int Go.IntKind.i64 0), (Go.Value.int Go.IntKind.i64 0), (Go.Value.slice Option.none 0 0)])) fun r6 => S.bd (stv r6.2 16 r6.1 x4) fun s7 => S.bd (un .not x5) fun x8 => S.cnd x8 (S.bd (leapfrogref09x_gone.r  s7) fun x9 => S.bd (leapfrogref09x_told.v a1 x9 s7) fun r10 => some (r10.1, r10.2)) (S.bd (fld 12 r6.1) fun x11 => S.bd (fld 3 x11) fun x12 => S.bd (ldc s7 x12) fun x13 => S.bd (lenL x13) fun x14 => S.bd (fld 12 r6.1) fun x15 => S.bd (lal c1 13 2) fun x16 => S.bd (leapfrogref07x_Lock_Ask.v x15 x16 s7) fun r17 => S.bd (xtr 0 r17.1) fun x18 => S.bd (xtr 1 r17.1) fun x19 => S.bd (eqb [1] false true x19 (Go.Value.int Go.IntKind.i64 0)) fun x20 => S.bd (S.gd x20 false (some x18)) fun x21 => S.bd (S.gd x20 false (un .not x21)) fun x22 => S.bd (S.gd x20 false (some x22)) fun x23 => S.bd (S.gd x23 true (fld 12 r6.1)) fun x24 => S.bd (S.gd x23 true (fld 3 x24)) fun x25 => S.bd (S.gd x23 true (ldc r17.2 x25)) fun x26 => S.bd (S.gd x23 true (lenL x26)) fun x27 => S.bd (S.gd x23 true (some x14)) fun x28 => S.bd (S.gd x23 true (eqb [1] false false x27 x28)) fun x29 => S.bd (S.gd x20 false (pik x23 x29 (Go.Value.bool Bool.false))) fun x30 => S.bd (pik x20 (Go.Value.bool Bool.true) x30) fun x31 => S.cnd x31 (S.bd (leapfrogref09x_no.r  r17.2) fun x32 => S.bd (leapfrogref09x_told.v a1 x32 r17.2) fun r33 => some (r33.1, r33.2)) (leapfrogref09x_Peer_lock.t.p1 S r17 r6 a0 x18 a1 c1))
def leapfrogref09x_Peer_lock.v (a0 a1 a2 : Value) (s : St) : Option (Value × St) := leapfrogref09x_Peer_lock.t std a0 a1 a2 s
def leapfrogref09x_Peer_lock.w : List Value → St → Option (Value × St)
  | [a0, a1, a2], s => leapfrogref09x_Peer_lock.v a0 a1 a2 s
  | _, _ => none
def leapfrogref09x_Peer_lock.an : An := ⟨78, false, [5], [], [], [(11, [(0, 0, [], []), (2, 0, [], []), (3, 0, [], []), (4, 0, [], []), (5, 2, [], []), (7, 0, [], []), (8, 0, [], []), (9, 41, [], []), (10, 0, [], []), (11, 41, [], []), (12, 0, [], []), (1, 3, [], [13]), (6, 4, [], [13]), (13, 3, [], []), (14, 4, [], []), (15, 0, [], []), (16, 0, [], []), (17, 4, [], [])])]⟩
theorem leapfrogref09x_Peer_lock.ok (S : Sig) (a0 a1 a2 : Value) (s : St) : evF S Try.prog leapfrogref09x_Peer_lock.ctx leapfrogref09x_Peer_lock.an Try.f43 [a0, a1, a2] s = leapfrogref09x_Peer_lock.t S a0 a1 a2 s := by kernel_rfl
theorem leapfrogref09x_Peer_lock.cok : CtxOk Try.prog leapfrogref09x_Peer_lock.ctx := .cons leapfrogref09x_Peer_rec.sound leapfrogref09x_Peer_rec.can <| .cons leapfrogref09x_gone.sound leapfrogref09x_gone.can <| .cons leapfrogref09x_told.sound leapfrogref09x_told.can <| .cons leapfrogref07x_Lock_Ask.sound leapfrogref07x_Lock_Ask.can <| .cons leapfrogref09x_no.sound leapfrogref09x_no.can <| .cons leapfrogref09x_Peer_set.sound leapfrogref09x_Peer_set.can <| .cons leapfrogref09x_Peer_of.sound leapfrogref09x_Peer_of.can <| .nil
theorem leapfrogref09x_Peer_lock.draws : fnDraws leapfrogref09x_Peer_lock.an Try.f43 = true := by kernel_rfl
theorem leapfrogref09x_Peer_lock.can : callOk Try.prog 43 = true := by kernel_rfl
theorem leapfrogref09x_Peer_lock.sound : FnOk Try.prog 43 (.st leapfrogref09x_Peer_lock.w) := FnOk.st_of (evF_ok leapfrogref09x_Peer_lock.cok mixed (f := 43) (fn := Try.f43) (by kernel_rfl) leapfrogref09x_Peer_lock.draws) fun args s r h => by
  unfold leapfrogref09x_Peer_lock.w at h; split at h
  · rw [leapfrogref09x_Peer_lock.ok std]; exact h
  · simp at h

/-! ### (*leapfrog/leapfrogref07.Lock).Free: function 75 -/
def leapfrogref07x_Lock_Free.ctx : Ctx := [(55, .rd leapfrogref07x_IsOwner.w)]
def leapfrogref07x_Lock_Free.t.p1 (S : Sig) (x12 : Value) (x16 : Value) (x17 : Value) (c2 : List Value) (s : St) (a0 : Value) : Option (Value × St) :=
  S.bd (S.gd x12 false (eqb [1, 1] true true x16 x17)) fun x18 => S.bd (pik x12 (Go.Value.bool Bool.true) x18) fun x19 => S.cnd x19 (S.bd (bld [(Go.Value.int Go.IntKind.i64 0), (Go.Value.int Go.IntKind.i64 0)] []) fun x20 => S.bd (stl c2 0 2 x20) fun c21 => S.bd (lal c21 0 2) fun x22 => some ((Value.tuple ⟨[x22, (Go.Value.bool Bool.false), (Go.Value.int Go.IntKind.i64 71)]⟩), s)) (S.bd (nck a0) fun x23 => S.bd (fld 3 x23) fun x24 => S.bd (ldc s x24) fun x25 => S.bd (lenL x25) fun x26 => S.bd (eqb [1] false false x26 (Go.Value.int Go.IntKind.i64 0)) fun x27 => S.cnd x27 (S.bd (bld [(Go.Value.int Go.IntKind.i64 0), (Go.Value.int Go.IntKind.i64 0)] []) fun x28 => S.bd (nck a0) fun x29 => S.bd (fld 0 x29) fun x30 => S.bd (stv s 1 x30 (Go.Value.bool Bool.false)) fun s31 => S.bd (nck a0) fun x32 => S.bd (fld 1 x32) fun x33 => S.bd (stv s31 2 x33 x28) fun s34 => S.bd (bld [(Go.Value.int Go.IntKind.i64 0), (Go.Value.int Go.IntKind.i64 0)] []) fun x35 => S.bd (stl c2 0 2 x35) fun c36 => S.bd (lal c36 0 2) fun x37 => some ((Value.tuple ⟨[x37, (Go.Value.bool Bool.false), (Go.Value.int Go.IntKind.i64 0)]⟩), s34)) (S.bd (nck a0) fun x38 => S.bd (fld 3 x38) fun x39 => S.bd (ldc s x39) fun x40 => S.bd (idx s 2 x40 (Go.Value.int Go.IntKind.i64 0)) fun x41 => S.bd (lda s 2 x41) fun x42 => S.bd (nck a0) fun x43 => S.bd (fld 1 x43) fun x44 => S.bd (stv s 2 x44 x42) fun s45 => S.bd (S.bd (bls 2 (List.replicate 0 [(Go.Value.int Go.IntKind.i64 0), (Go.Value.int Go.IntKind.i64 0)]) []) fun rows => als s45 2 0 rows) fun r46 => S.bd (nck a0) fun x47 => S.bd (fld 3 x47) fun x48 => S.bd (ldc r46.2 x48) fun x49 => S.bd (slc r46.2 2 x49 (some (Go.Value.int Go.IntKind.i64 1)) none none) fun x50 => S.bd (app r46.2 2 16 r46.1 x50) fun r51 => S.bd (nck a0) fun x52 => S.bd (fld 3 x52) fun x53 => S.bd (stv r51.2 1 x53 r51.1) fun s54 => S.bd (nck a0) fun x55 => S.bd (fld 1 x55) fun x56 => S.bd (lda s54 2 x56) fun x57 => S.bd (stl c2 0 2 x57) fun c58 => S.bd (lal c58 0 2) fun x59 => some ((Value.tuple ⟨[x59, (Go.Value.bool Bool.true), (Go.Value.int Go.IntKind.i64 0)]⟩), s54)))

def leapfrogref07x_Lock_Free.t (S : Sig) (a0 a1 : Value) (s : St) : Option (Value × St) :=
  S.bd (bx a1) fun c1 => S.bd (bx (Go.Value.agg #[(Go.Value.int Go.IntKind.i64 0), (Go.Value.int Go.IntKind.i64 0)])) fun c2 => S.bd (lal c1 0 2) fun x3 => S.bd (leapfrogref07x_IsOwner.r x3 s) fun x4 => S.bd (un .not x4) fun x5 => S.cnd x5 (S.bd (bld [(Go.Value.int Go.IntKind.i64 0), (Go.Value.int Go.IntKind.i64 0)] []) fun x6 => S.bd (stl c2 0 2 x6) fun c7 => S.bd (lal c7 0 2) fun x8 => some ((Value.tuple ⟨[x8, (Go.Value.bool Bool.false), (Go.Value.int Go.IntKind.i64 70)]⟩), s)) (S.bd (nck a0) fun x9 => S.bd (fld 0 x9) fun x10 => S.bd (ldc s x10) fun x11 => S.bd (un .not x11) fun x12 => S.bd (S.gd x12 false (some a0)) fun x13 => S.bd (S.gd x12 false (nck x13)) fun x14 => S.bd (S.gd x12 false (fld 1 x14)) fun x15 => S.bd (S.gd x12 false (lda s 2 x15)) fun x16 => S.bd (S.gd x12 false (lal c1 0 2)) fun x17 => leapfrogref07x_Lock_Free.t.p1 S x12 x16 x17 c2 s a0)
def leapfrogref07x_Lock_Free.v (a0 a1 : Value) (s : St) : Option (Value × St) := leapfrogref07x_Lock_Free.t std a0 a1 s
def leapfrogref07x_Lock_Free.w : List Value → St → Option (Value × St)
  | [a0, a1], s => leapfrogref07x_Lock_Free.v a0 a1 s
  | _, _ => none
def leapfrogref07x_Lock_Free.an : An := ⟨62, false, [3, 4], [], [], [(3, [(0, 0, [], []), (1, 0, [], []), (2, 0, [], []), (3, 2, [], []), (4, 0, [], []), (5, 0, [], []), (6, 0, [], []), (7, 0, [], []), (8, 0, [], []), (9, 2, [], []), (10, 25, [], []), (11, 0, [], []), (12, 0, [], [])])]⟩
theorem leapfrogref07x_Lock_Free.ok (S : Sig) (a0 a1 : Value) (s : St) : evF S Try.prog leapfrogref07x_Lock_Free.ctx leapfrogref07x_Lock_Free.an Try.f75 [a0, a1] s = leapfrogref07x_Lock_Free.t S a0 a1 s := by kernel_rfl
theorem leapfrogref07x_Lock_Free.cok : CtxOk Try.prog leapfrogref07x_Lock_Free.ctx := .cons leapfrogref07x_IsOwner.sound leapfrogref07x_IsOwner.can <| .nil
theorem leapfrogref07x_Lock_Free.draws : fnDraws leapfrogref07x_Lock_Free.an Try.f75 = true := by kernel_rfl
theorem leapfrogref07x_Lock_Free.can : callOk Try.prog 75 = true := by kernel_rfl
theorem leapfrogref07x_Lock_Free.sound : FnOk Try.prog 75 (.st leapfrogref07x_Lock_Free.w) := FnOk.st_of (evF_ok leapfrogref07x_Lock_Free.cok mixed (f := 75) (fn := Try.f75) (by kernel_rfl) leapfrogref07x_Lock_Free.draws) fun args s r h => by
  unfold leapfrogref07x_Lock_Free.w at h; split at h
  · rw [leapfrogref07x_Lock_Free.ok std]; exact h
  · simp at h

/-! ### leapfrog/leapfrogref09.ok: function 76 -/
def leapfrogref09x_ok.ctx : Ctx := []
def leapfrogref09x_ok.t (S : Sig) (s : St) : Option Value :=
  S.bd (bx (Go.Value.agg #[(Go.Value.int Go.IntKind.i64 0), (Go.Value.bool Bool.false), (Go.Value.int Go.IntKind.i64 0), (Go.Value.int Go.IntKind.i64 0), (Go.Value.int Go.IntKind.u64 0), (Go.Value.int Go.IntKind.i64 0), (Go.Value.int Go.IntKind.u64 0), (Go.Value.int Go.IntKind.i64 0), (Go.Value.int Go.IntKind.i64 0), (Go.Value.int Go.IntKind.u64 0), (Go.Value.int Go.IntKind.i64 0), (Go.Value.int Go.IntKind.u64 0), (Go.Value.slice Option.none 0 0)])) fun c1 => S.bd (bld [(Go.Value.int Go.IntKind.i64 0), (Go.Value.bool Bool.false), (Go.Value.int Go.IntKind.i64 0), (Go.Value.int Go.IntKind.i64 0), (Go.Value.int Go.IntKind.u64 0), (Go.Value.int Go.IntKind.i64 0), (Go.Value.int Go.IntKind.u64 0), (Go.Value.int Go.IntKind.i64 0), (Go.Value.int Go.IntKind.i64 0), (Go.Value.int Go.IntKind.u64 0), (Go.Value.int Go.IntKind.i64 0), (Go.Value.int Go.IntKind.u64 0), (Go.Value.slice Option.none 0 0)] [(0, 1, (Go.Value.int Go.IntKind.i64 1))]) fun x2 => S.bd (stl c1 0 13 x2) fun c3 => S.bd (lal c3 0 13) fun x4 => some (x4)
def leapfrogref09x_ok.r (s : St) : Option Value := leapfrogref09x_ok.t std  s
def leapfrogref09x_ok.w : List Value → St → Option Value
  | [], s => leapfrogref09x_ok.r  s
  | _, _ => none
def leapfrogref09x_ok.an : An := ⟨2, true, [0], [], [], []⟩
theorem leapfrogref09x_ok.ok (S : Sig) (s : St) : evG S Try.prog leapfrogref09x_ok.ctx leapfrogref09x_ok.an Try.f76 [] s = leapfrogref09x_ok.t S  s := by kernel_rfl
theorem leapfrogref09x_ok.cok : CtxOk Try.prog leapfrogref09x_ok.ctx := .nil
theorem leapfrogref09x_ok.draws : fnDraws leapfrogref09x_ok.an Try.f76 = true := by kernel_rfl
theorem leapfrogref09x_ok.can : callOk Try.prog 76 = true := by kernel_rfl
theorem leapfrogref09x_ok.sound : FnOk Try.prog 76 (.rd leapfrogref09x_ok.w) := FnOk.rd_of (evG_ok leapfrogref09x_ok.cok mixed (f := 76) (fn := Try.f76) (by kernel_rfl) leapfrogref09x_ok.draws) fun args s r h => by
  unfold leapfrogref09x_ok.w at h; split at h
  · rw [leapfrogref09x_ok.ok std]; exact h
  · simp at h

/-! ### (*leapfrog/leapfrogref09.Peer).answer: function 77 -/
def leapfrogref09x_Peer_answer.ctx : Ctx := []
def leapfrogref09x_Peer_answer.l4.p1 (S : Sig) (x52 : Value) (c50 : List Value) (xs36 : List Value) (s37 : St) (rec38 : List Value → St → Option Cut) : Option Cut :=
  S.bd (S.gd x52 true (lal c50 2 2)) fun x53 => S.bd (S.gd x52 true (lal (cellsA (xs36.getD 4 undef)) 0 2)) fun x54 => S.bd (S.gd x52 true (eqb [1, 1] true false x53 x54)) fun x55 => S.bd (pik x52 x55 (Go.Value.bool Bool.false)) fun x56 => S.bd (S.gd x56 true (lal c50 4 2)) fun x57 => S.bd (S.gd x56 true (lal (cellsA (xs36.getD 5 undef)) 0 2)) fun x58 => S.bd (S.gd x56 true (eqb [1, 1] true false x57 x58)) fun x59 => S.bd (pik x56 x59 (Go.Value.bool Bool.false)) fun x60 => S.cnd x60 (S.bd (lcl c50 0) fun x61 => S.bd (lal (cellsA (xs36.getD 6 undef)) 0 13) fun x62 => S.bd (bld [(Go.Value.int Go.IntKind.i64 0), (Go.Value.int Go.IntKind.i64 0), (Go.Value.bool Bool.false), (Go.Value.int Go.IntKind.i64 0), (Go.Value.int Go.IntKind.i64 0), (Go.Value.int Go.IntKind.u64 0), (Go.Value.int Go.IntKind.i64 0), (Go.Value.int Go.IntKind.u64 0), (Go.Value.int Go.IntKind.i64 0), (Go.Value.int Go.IntKind.i64 0), (Go.Value.int Go.IntKind.u64 0), (Go.Value.int Go.IntKind.i64 0), (Go.Value.int Go.IntKind.u64 0), (Go.Value.slice Option.none 0 0)] [(0, 1, x61), (1, 13, x62)]) fun x63 => S.bd (S.bd (bls 14 (List.replicate 1 [(Go.Value.int Go.IntKind.i64 0), (Go.Value.int Go.IntKind.i64 0), (Go.Value.bool Bool.false), (Go.Value.int Go.IntKind.i64 0), (Go.Value.int Go.IntKind.i64 0), (Go.Value.int Go.IntKind.u64 0), (Go.Value.int Go.IntKind.i64 0), (Go.Value.int Go.IntKind.u64 0), (Go.Value.int Go.IntKind.i64 0), (Go.Value.int Go.IntKind.i64 0), (Go.Value.int Go.IntKind.u64 0), (Go.Value.int Go.IntKind.i64 0), (Go.Value.int Go.IntKind.u64 0), (Go.Value.slice Option.none 0 0)]) [(0, x63)]) fun rows => als s37 14 1 rows) fun r64 => S.bd (app r64.2 14 128 (xs36.getD 2 undef) r64.1) fun r65 => S.bd (bin .add (xs36.getD 3 undef) (Go.Value.int Go.IntKind.i64 1)) fun x66 => rec38 [(xs36.getD 0 undef), (xs36.getD 1 undef), r65.1, x66, (Value.agg ⟨(cellsA (xs36.getD 4 undef))⟩), (Value.agg ⟨(cellsA (xs36.getD 5 undef))⟩), (Value.agg ⟨(cellsA (xs36.getD 6 undef))⟩)] r65.2) (S.bd (lal c50 0 6) fun x67 => S.bd (S.bd (bls 6 (List.replicate 1 [(Go.Value.int Go.IntKind.i64 0), (Go.Value.bool Bool.false), (Go.Value.int Go.IntKind.i64 0), (Go.Value.int Go.IntKind.u64 0), (Go.Value.int Go.IntKind.i64 0), (Go.Value.int Go.IntKind.i64 0)]) [(0, x67)]) fun rows => als s37 6 1 rows) fun r68 => S.bd (app r68.2 6 48 (xs36.getD 1 undef) r68.1) fun r69 => S.bd (bin .add (xs36.getD 3 undef) (Go.Value.int Go.IntKind.i64 1)) fun x70 => rec38 [(xs36.getD 0 undef), r69.1, (xs36.getD 2 undef), x70, (Value.agg ⟨(cellsA (xs36.getD 4 undef))⟩), (Value.agg ⟨(cellsA (xs36.getD 5 undef))⟩), (Value.agg ⟨(cellsA (xs36.getD 6 undef))⟩)] r69.2)

def leapfrogref09x_Peer_answer.l4 (S : Sig) (rec38 : List Value → St → Option Cut) (xs36 : List Value) (s37 : St) : Option Cut :=
  S.bd (nck (xs36.getD 0 undef)) fun x39 => S.bd (fld 10 x39) fun x40 => S.bd (ldc s37 x40) fun x41 => S.bd (lenL x41) fun x42 => S.bd (bin .lss (xs36.getD 3 undef) x42) fun x43 => S.cnd x43 (S.bd (nck (xs36.getD 0 undef)) fun x44 => S.bd (fld 10 x44) fun x45 => S.bd (ldc s37 x45) fun x46 => S.bd (idx s37 6 x46 (xs36.getD 3 undef)) fun x47 => S.bd (lda s37 6 x47) fun x48 => S.bd (bx (Go.Value.agg #[(Go.Value.int Go.IntKind.i64 0), (Go.Value.bool Bool.false), (Go.Value.int Go.IntKind.i64 0), (Go.Value.int Go.IntKind.u64 0), (Go.Value.int Go.IntKind.i64 0), (Go.Value.int Go.IntKind.i64 0)])) fun c49 => S.bd (stl c49 0 6 x48) fun c50 => S.bd (lcl c50 1) fun x51 => S.bd (un .not x51) fun x52 => leapfrogref09x_Peer_answer.l4.p1 S x52 c50 xs36 s37 rec38) (some (0, [(xs36.getD 0 undef), (xs36.getD 1 undef), (xs36.getD 2 undef)], s37))

def leapfrogref09x_Peer_answer.t (S : Sig) (a0 a1 a2 a3 : Value) (s : St) : Option (Value × St) :=
  S.bd (bx a1) fun c1 => S.bd (bx a2) fun c2 => S.bd (bx a3) fun c3 => S.bd (S.it (leapfrogref09x_Peer_answer.l4 S) [a0, (Go.Value.slice Option.none 0 0), (Go.Value.slice Option.none 0 0), (Go.Value.int Go.IntKind.i64 0), (Value.agg ⟨c1⟩), (Value.agg ⟨c2⟩), (Value.agg ⟨c3⟩)] s) fun r71 => S.bd (nck (r71.2.1.getD 0 undef)) fun x72 => S.bd (fld 10 x72) fun x73 => S.bd (stv r71.2.2 1 x73 (r71.2.1.getD 1 undef)) fun s74 => some ((r71.2.1.getD 2 undef), s74)
def leapfrogref09x_Peer_answer.v (a0 a1 a2 a3 : Value) (s : St) : Option (Value × St) := leapfrogref09x_Peer_answer.t std a0 a1 a2 a3 s
def leapfrogref09x_Peer_answer.w : List Value → St → Option (Value × St)
  | [a0, a1, a2, a3], s => leapfrogref09x_Peer_answer.v a0 a1 a2 a3 s
  | _, _ => none
def leapfrogref09x_Peer_answer.an : An := ⟨60, false, [5, 6, 7, 12], [(4, ⟨[.v 0, .p 5 5 0, .p 6 6 0, .p 7 7 0, .v 9, .v 10, .v 11, .l 5, .l 6, .l 7], [(.exit 0, [.v 0, .v 9, .v 10])]⟩)], [], []⟩
theorem leapfrogref09x_Peer_answer.ok (S : Sig) (a0 a1 a2 a3 : Value) (s : St) : evF S Try.prog leapfrogref09x_Peer_answer.ctx leapfrogref09x_Peer_answer.an Try.f77 [a0, a1, a2, a3] s = leapfrogref09x_Peer_answer.t S a0 a1 a2 a3 s := by kernel_rfl
theorem leapfrogref09x_Peer_answer.cok : CtxOk Try.prog leapfrogref09x_Peer_answer.ctx := .nil
theorem leapfrogref09x_Peer_answer.draws : fnDraws leapfrogref09x_Peer_answer.an Try.f77 = true := by kernel_rfl
theorem leapfrogref09x_Peer_answer.can : callOk Try.prog 77 = true := by kernel_rfl
theorem leapfrogref09x_Peer_answer.sound : FnOk Try.prog 77 (.st leapfrogref09x_Peer_answer.w) := FnOk.st_of (evF_ok leapfrogref09x_Peer_answer.cok mixed (f := 77) (fn := Try.f77) (by kernel_rfl) leapfrogref09x_Peer_answer.draws) fun args s r h => by
  unfold leapfrogref09x_Peer_answer.w at h; split at h
  · rw [leapfrogref09x_Peer_answer.ok std]; exact h
  · simp at h

/-! ### (*leapfrog/leapfrogref09.Peer).free: function 44 -/
def leapfrogref09x_Peer_free.ctx : Ctx := [(39, .rd leapfrogref09x_Peer_rec.w), (73, .rd leapfrogref09x_no.w), (40, .st leapfrogref09x_told.w), (75, .st leapfrogref07x_Lock_Free.w), (74, .st leapfrogref09x_Peer_set.w), (76, .rd leapfrogref09x_ok.w), (42, .rd leapfrogref09x_Peer_of.w), (77, .st leapfrogref09x_Peer_answer.w)]
def leapfrogref09x_Peer_free.t (S : Sig) (a0 a1 a2 : Value) (s : St) : Option (Value × St) :=
  S.bd (bx a2) fun c1 => S.bd (lal c1 1 2) fun x2 => S.bd (leapfrogref09x_Peer_rec.r a0 x2 s) fun x3 => S.bd (xtr 0 x3) fun x4 => S.bd (xtr 1 x3) fun x5 => S.bd (alv s (Go.Value.agg #[(Go.Value.int Go.IntKind.i64 0), (Go.Value.int Go.IntKind.u64 0), (Go.Value.int Go.IntKind.i64 0), (Go.Value.int Go.IntKind.i64 0), (Go.Value.int Go.IntKind.u64 0), (Go.Value.int Go.IntKind.i64 0), (Go.Value.int Go.IntKind.u64 0), (Go.Value.int Go.IntKind.i64 0), (Go.Value.int Go.IntKind.i64 0), (Go.Value.int Go.IntKind.u64 0), (Go.Value.int Go.IntKind.i64 0), (Go.Value.int Go.IntKind.u64 0), (Go.Value.bool Bool.false), (Go.Value.int Go.IntKind.i64 0), (Go.Value.int Go.IntKind.i64 0), (Go.Value.slice Option.none 0 0)])) fun r6 => S.bd (stv r6.2 16 r6.1 x4) fun s7 => S.bd (un .not x5) fun x8 => S.cnd x8 (S.bd (leapfrogref09x_no.r  s7) fun x9 => S.bd (leapfrogref09x_told.v a1 x9 s7) fun r10 => some (r10.1, r10.2)) (S.bd (fld 12 r6.1) fun x11 => S.bd (lal c1 13 2) fun x12 => S.bd (leapfrogref07x_Lock_Free.v x11 x12 s7) fun r13 => S.bd (xtr 0 r13.1) fun x14 => S.bd (xtr 1 r13.1) fun x15 => S.bd (xtr 2 r13.1) fun x16 => S.bd (bx (Go.Value.agg #[(Go.Value.int Go.IntKind.i64 0), (Go.Value.int Go.IntKind.i64 0)])) fun c17 => S.bd (stl c17 0 2 x14) fun c18 => S.bd (eqb [1] false true x16 (Go.Value.int Go.IntKind.i64 0)) fun x19 => S.cnd x19 (S.bd (leapfrogref09x_no.r  r13.2) fun x20 => S.bd (leapfrogref09x_told.v a1 x20 r13.2) fun r21 => some (r21.1, r21.2)) (S.bd (lda r13.2 16 r6.1) fun x22 => S.bd (leapfrogref09x_Peer_set.v a0 x22 r13.2) fun r23 => S.bd (leapfrogref09x_ok.r  r23.2) fun x24 => S.bd (leapfrogref09x_told.v a1 x24 r23.2) fun r25 => S.cnd x15 (S.bd (lal c1 1 2) fun x26 => S.bd (lal c18 0 2) fun x27 => S.bd (lda r25.2 16 r6.1) fun x28 => S.bd (leapfrogref09x_Peer_of.r a0 x28 r25.2) fun x29 => S.bd (leapfrogref09x_Peer_answer.v a0 x26 x27 x29 r25.2) fun r30 => S.bd (app r30.2 14 128 r25.1 r30.1) fun r31 => some (r31.1, r31.2)) (some (r25.1, r25.2))))
def leapfrogref09x_Peer_free.v (a0 a1 a2 : Value) (s : St) : Option (Value × St) := leapfrogref09x_Peer_free.t std a0 a1 a2 s
def leapfrogref09x_Peer_free.w : List Value → St → Option (Value × St)
  | [a0, a1, a2], s => leapfrogref09x_Peer_free.v a0 a1 a2 s
  | _, _ => none
def leapfrogref09x_Peer_free.an : An := ⟨56, false, [5, 9], [], [], [(10, [(0, 0, [], []), (1, 0, [], []), (2, 0, [], []), (3, 41, [], []), (4, 73, [], []), (5, 0, [], []), (6, 2, [], []), (7, 3, [], []), (8, 4, [], []), (9, 4, [], []), (10, 0, [], [])])]⟩
theorem leapfrogref09x_Peer_free.ok (S : Sig) (a0 a1 a2 : Value) (s : St) : evF S Try.prog leapfrogref09x_Peer_free.ctx leapfrogref09x_Peer_free.an Try.f44 [a0, a1, a2] s = leapfrogref09x_Peer_free.t S a0 a1 a2 s := by kernel_rfl
theorem leapfrogref09x_Peer_free.cok : CtxOk Try.prog leapfrogref09x_Peer_free.ctx := .cons leapfrogref09x_Peer_rec.sound leapfrogref09x_Peer_rec.can <| .cons leapfrogref09x_no.sound leapfrogref09x_no.can <| .cons leapfrogref09x_told.sound leapfrogref09x_told.can <| .cons leapfrogref07x_Lock_Free.sound leapfrogref07x_Lock_Free.can <| .cons leapfrogref09x_Peer_set.sound leapfrogref09x_Peer_set.can <| .cons leapfrogref09x_ok.sound leapfrogref09x_ok.can <| .cons leapfrogref09x_Peer_of.sound leapfrogref09x_Peer_of.can <| .cons leapfrogref09x_Peer_answer.sound leapfrogref09x_Peer_answer.can <| .nil
theorem leapfrogref09x_Peer_free.draws : fnDraws leapfrogref09x_Peer_free.an Try.f44 = true := by kernel_rfl
theorem leapfrogref09x_Peer_free.can : callOk Try.prog 44 = true := by kernel_rfl
theorem leapfrogref09x_Peer_free.sound : FnOk Try.prog 44 (.st leapfrogref09x_Peer_free.w) := FnOk.st_of (evF_ok leapfrogref09x_Peer_free.cok mixed (f := 44) (fn := Try.f44) (by kernel_rfl) leapfrogref09x_Peer_free.draws) fun args s r h => by
  unfold leapfrogref09x_Peer_free.w at h; split at h
  · rw [leapfrogref09x_Peer_free.ok std]; exact h
  · simp at h

/-! ### leapfrog/leapfrogref09.Less: function 78 -/
def leapfrogref09x_Less.ctx : Ctx := []
def leapfrogref09x_Less.t (S : Sig) (a0 a1 : Value) (s : St) : Option Value :=
  S.bd (bx a0) fun c1 => S.bd (bx a1) fun c2 => S.bd (lcl c1 0) fun x3 => S.bd (lcl c2 0) fun x4 => S.bd (bin .lss x3 x4) fun x5 => S.bd (S.gd x5 false (lcl c1 0)) fun x6 => S.bd (S.gd x5 false (lcl c2 0)) fun x7 => S.bd (S.gd x5 false (eqb [1] false false x6 x7)) fun x8 => S.bd (S.gd x5 false (some x8)) fun x9 => S.bd (S.gd x9 true (lcl c1 1)) fun x10 => S.bd (S.gd x9 true (lcl c2 1)) fun x11 => S.bd (S.gd x9 true (bin .lss x10 x11)) fun x12 => S.bd (S.gd x5 false (pik x9 x12 (Go.Value.bool Bool.false))) fun x13 => S.bd (pik x5 (Go.Value.bool Bool.true) x13) fun x14 => some (x14)
def leapfrogref09x_Less.r (a0 a1 : Value) (s : St) : Option Value := leapfrogref09x_Less.t std a0 a1 s
def leapfrogref09x_Less.w : List Value → St → Option Value
  | [a0, a1], s => leapfrogref09x_Less.r a0 a1 s
  | _, _ => none
def leapfrogref09x_Less.an : An := ⟨24, true, [2, 3], [], [], []⟩
theorem leapfrogref09x_Less.ok (S : Sig) (a0 a1 : Value) (s : St) : evG S Try.prog leapfrogref09x_Less.ctx leapfrogref09x_Less.an Try.f78 [a0, a1] s = leapfrogref09x_Less.t S a0 a1 s := by kernel_rfl
theorem leapfrogref09x_Less.cok : CtxOk Try.prog leapfrogref09x_Less.ctx := .nil
theorem leapfrogref09x_Less.draws : fnDraws leapfrogref09x_Less.an Try.f78 = true := by kernel_rfl
theorem leapfrogref09x_Less.can : callOk Try.prog 78 = true := by kernel_rfl
theorem leapfrogref09x_Less.sound : FnOk Try.prog 78 (.rd leapfrogref09x_Less.w) := FnOk.rd_of (evG_ok leapfrogref09x_Less.cok mixed (f := 78) (fn := Try.f78) (by kernel_rfl) leapfrogref09x_Less.draws) fun args s r h => by
  unfold leapfrogref09x_Less.w at h; split at h
  · rw [leapfrogref09x_Less.ok std]; exact h
  · simp at h

/-! ### (*leapfrog/leapfrogref09.Peer).beside: function 45 -/
def leapfrogref09x_Peer_beside.ctx : Ctx := [(39, .rd leapfrogref09x_Peer_rec.w), (41, .rd leapfrogref09x_gone.w), (78, .rd leapfrogref09x_Less.w), (73, .rd leapfrogref09x_no.w), (74, .st leapfrogref09x_Peer_set.w), (76, .rd leapfrogref09x_ok.w)]
def leapfrogref09x_Peer_beside.t.p1 (S : Sig) (x9 : Value) (x6 : Value) (s : St) (c2 : List Value) (c1 : List Value) (a0 : Value) (c8 : List Value) : Option (Value × St) :=
  S.bd (eqb [1] false false x9 (Go.Value.int Go.IntKind.i64 6)) fun x10 => S.cnd x10 (S.bd (un .not x6) fun x11 => S.cnd x11 (S.bd (leapfrogref09x_gone.r  s) fun x12 => S.bd (stl c2 0 13 x12) fun c13 => S.bd (lal c13 0 13) fun x14 => some (x14, s)) (S.bd (lal c1 4 2) fun x15 => S.bd (nck a0) fun x16 => S.bd (fld 0 x16) fun x17 => S.bd (fld 1 x17) fun x18 => S.bd (lda s 2 x18) fun x19 => S.bd (leapfrogref09x_Less.r x15 x19 s) fun x20 => S.bd (un .not x20) fun x21 => S.cnd x21 (S.bd (leapfrogref09x_no.r  s) fun x22 => S.bd (stl c2 0 13 x22) fun c23 => S.bd (lal c23 0 13) fun x24 => some (x24, s)) (S.bd (lal c1 3 5) fun x25 => S.bd (stl c8 2 5 x25) fun c26 => S.bd (lal c26 0 16) fun x27 => S.bd (leapfrogref09x_Peer_set.v a0 x27 s) fun r28 => S.bd (leapfrogref09x_ok.r  r28.2) fun x29 => S.bd (stl c2 0 13 x29) fun c30 => S.bd (lal c30 0 13) fun x31 => some (x31, r28.2)))) (S.bd (un .not x6) fun x32 => S.bd (S.gd x32 false (lcl c8 12)) fun x33 => S.bd (S.gd x32 false (un .not x33)) fun x34 => S.bd (pik x32 (Go.Value.bool Bool.true) x34) fun x35 => S.bd (S.gd x35 false (lal c8 13 2)) fun x36 => S.bd (S.gd x35 false (lal c1 13 2)) fun x37 => S.bd (S.gd x35 false (eqb [1, 1] true true x36 x37)) fun x38 => S.bd (pik x35 (Go.Value.bool Bool.true) x38) fun x39 => S.bd (S.gd x39 false (some a0)) fun x40 => S.bd (S.gd x39 false (nck x40)) fun x41 => S.bd (S.gd x39 false (fld 0 x41)) fun x42 => S.bd (S.gd x39 false (fld 1 x42)) fun x43 => S.bd (S.gd x39 false (lda s 2 x43)) fun x44 => S.bd (S.gd x39 false (lal c1 4 2)) fun x45 => S.bd (S.gd x39 false (leapfrogref09x_Less.r x44 x45 s)) fun x46 => S.bd (S.gd x39 false (un .not x46)) fun x47 => S.bd (pik x39 (Go.Value.bool Bool.true) x47) fun x48 => S.cnd x48 (S.bd (leapfrogref09x_no.r  s) fun x49 => S.bd (stl c2 0 13 x49) fun c50 => S.bd (lal c50 0 13) fun x51 => some (x51, s)) (S.bd (lal c1 3 5) fun x52 => S.bd (stl c8 7 5 x52) fun c53 => S.bd (lal c53 0 16) fun x54 => S.bd (leapfrogref09x_Peer_set.v a0 x54 s) fun r55 => S.bd (leapfrogref09x_ok.r  r55.2) fun x56 => S.bd (stl c2 0 13 x56) fun c57 => S.bd (lal c57 0 13) fun x58 => some (x58, r55.2)))

def leapfrogref09x_Peer_beside.t (S : Sig) (a0 a1 : Value) (s : St) : Option (Value × St) :=
  S.bd (bx a1) fun c1 => S.bd (bx (Go.Value.agg #[(Go.Value.int Go.IntKind.i64 0), (Go.Value.bool Bool.false), (Go.Value.int Go.IntKind.i64 0), (Go.Value.int Go.IntKind.i64 0), (Go.Value.int Go.IntKind.u64 0), (Go.Value.int Go.IntKind.i64 0), (Go.Value.int Go.IntKind.u64 0), (Go.Value.int Go.IntKind.i64 0), (Go.Value.int Go.IntKind.i64 0), (Go.Value.int Go.IntKind.u64 0), (Go.Value.int Go.IntKind.i64 0), (Go.Value.int Go.IntKind.u64 0), (Go.Value.slice Option.none 0 0)])) fun c2 => S.bd (lal c1 1 2) fun x3 => S.bd (leapfrogref09x_Peer_rec.r a0 x3 s) fun x4 => S.bd (xtr 0 x4) fun x5 => S.bd (xtr 1 x4) fun x6 => S.bd (bx (Go.Value.agg #[(Go.Value.int Go.IntKind.i64 0), (Go.Value.int Go.IntKind.u64 0), (Go.Value.int Go.IntKind.i64 0), (Go.Value.int Go.IntKind.i64 0), (Go.Value.int Go.IntKind.u64 0), (Go.Value.int Go.IntKind.i64 0), (Go.Value.int Go.IntKind.u64 0), (Go.Value.int Go.IntKind.i64 0), (Go.Value.int Go.IntKind.i64 0), (Go.Value.int Go.IntKind.u64 0), (Go.Value.int Go.IntKind.i64 0), (Go.Value.int Go.IntKind.u64 0), (Go.Value.bool Bool.false), (Go.Value.int Go.IntKind.i64 0), (Go.Value.int Go.IntKind.i64 0), (Go.Value.slice Option.none 0 0)])) fun c7 => S.bd (stl c7 0 16 x5) fun c8 => S.bd (lcl c1 0) fun x9 => leapfrogref09x_Peer_beside.t.p1 S x9 x6 s c2 c1 a0 c8
def leapfrogref09x_Peer_beside.v (a0 a1 : Value) (s : St) : Option (Value × St) := leapfrogref09x_Peer_beside.t std a0 a1 s
def leapfrogref09x_Peer_beside.w : List Value → St → Option (Value × St)
  | [a0, a1], s => leapfrogref09x_Peer_beside.v a0 a1 s
  | _, _ => none
def leapfrogref09x_Peer_beside.an : An := ⟨74, false, [3, 4, 5], [], [], [(5, [(0, 0, [], []), (1, 0, [], []), (2, 25, [], []), (3, 0, [], []), (4, 0, [], []), (5, 0, [], []), (6, 0, [], []), (7, 2, [], []), (8, 3, [], []), (9, 0, [], [])]), (10, [(0, 0, [], []), (1, 0, [], []), (2, 0, [], []), (3, 0, [], []), (4, 0, [], []), (5, 41, [], []), (6, 0, [], []), (7, 0, [], []), (8, 0, [], []), (9, 0, [], []), (10, 0, [], []), (11, 41, [], []), (12, 0, [], []), (13, 25, [], []), (14, 0, [], []), (15, 0, [], []), (16, 0, [], []), (17, 0, [], []), (18, 0, [], []), (19, 0, [], []), (20, 0, [], []), (21, 2, [], []), (22, 0, [], []), (23, 0, [], []), (24, 25, [], []), (25, 3, [], []), (26, 0, [], []), (27, 0, [], [])])]⟩
theorem leapfrogref09x_Peer_beside.ok (S : Sig) (a0 a1 : Value) (s : St) : evF S Try.prog leapfrogref09x_Peer_beside.ctx leapfrogref09x_Peer_beside.an Try.f45 [a0, a1] s = leapfrogref09x_Peer_beside.t S a0 a1 s := by kernel_rfl
theorem leapfrogref09x_Peer_beside.cok : CtxOk Try.prog leapfrogref09x_Peer_beside.ctx := .cons leapfrogref09x_Peer_rec.sound leapfrogref09x_Peer_rec.can <| .cons leapfrogref09x_gone.sound leapfrogref09x_gone.can <| .cons leapfrogref09x_Less.sound leapfrogref09x_Less.can <| .cons leapfrogref09x_no.sound leapfrogref09x_no.can <| .cons leapfrogref09x_Peer_set.sound leapfrogref09x_Peer_set.can <| .cons leapfrogref09x_ok.sound leapfrogref09x_ok.can <| .nil
theorem leapfrogref09x_Peer_beside.draws : fnDraws leapfrogref09x_Peer_beside.an Try.f45 = true := by kernel_rfl
theorem leapfrogref09x_Peer_beside.can : callOk Try.prog 45 = true := by kernel_rfl
theorem leapfrogref09x_Peer_beside.sound : FnOk Try.prog 45 (.st leapfrogref09x_Peer_beside.w) := FnOk.st_of (evF_ok leapfrogref09x_Peer_beside.cok mixed (f := 45) (fn := Try.f45) (by kernel_rfl) leapfrogref09x_Peer_beside.draws) fun args s r h => by
  unfold leapfrogref09x_Peer_beside.w at h; split at h
  · rw [leapfrogref09x_Peer_beside.ok std]; exact h
  · simp at h

/-! ### (*leapfrog/leapfrogref09.Peer).enter: function 46 -/
def leapfrogref09x_Peer_enter.ctx : Ctx := [(39, .rd leapfrogref09x_Peer_rec.w), (70, .rd leapfrogref09x_Peer_list.w), (78, .rd leapfrogref09x_Less.w), (73, .rd leapfrogref09x_no.w), (72, .st leapfrogref07x_Lock_Ask.w), (74, .st leapfrogref09x_Peer_set.w), (76, .rd leapfrogref09x_ok.w)]
def leapfrogref09x_Peer_enter.t.p1 (S : Sig) (c1 : List Value) (s : St) (c2 : List Value) (a0 : Value) : Option (Value × St) :=
  S.bd (lal c1 1 2) fun x40 => S.bd (lal c1 3 5) fun x41 => S.bd (lal c1 8 5) fun x42 => S.bd (bld [(Go.Value.int Go.IntKind.i64 0), (Go.Value.int Go.IntKind.u64 0), (Go.Value.int Go.IntKind.i64 0), (Go.Value.int Go.IntKind.i64 0), (Go.Value.int Go.IntKind.u64 0), (Go.Value.int Go.IntKind.i64 0), (Go.Value.int Go.IntKind.u64 0), (Go.Value.int Go.IntKind.i64 0), (Go.Value.int Go.IntKind.i64 0), (Go.Value.int Go.IntKind.u64 0), (Go.Value.int Go.IntKind.i64 0), (Go.Value.int Go.IntKind.u64 0), (Go.Value.bool Bool.false), (Go.Value.int Go.IntKind.i64 0), (Go.Value.int Go.IntKind.i64 0), (Go.Value.slice Option.none 0 0)] [(0, 2, x40), (2, 5, x41), (7, 5, x42)]) fun x43 => S.bd (alv s (Go.Value.agg #[(Go.Value.int Go.IntKind.i64 0), (Go.Value.int Go.IntKind.u64 0), (Go.Value.int Go.IntKind.i64 0), (Go.Value.int Go.IntKind.i64 0), (Go.Value.int Go.IntKind.u64 0), (Go.Value.int Go.IntKind.i64 0), (Go.Value.int Go.IntKind.u64 0), (Go.Value.int Go.IntKind.i64 0), (Go.Value.int Go.IntKind.i64 0), (Go.Value.int Go.IntKind.u64 0), (Go.Value.int Go.IntKind.i64 0), (Go.Value.int Go.IntKind.u64 0), (Go.Value.bool Bool.false), (Go.Value.int Go.IntKind.i64 0), (Go.Value.int Go.IntKind.i64 0), (Go.Value.slice Option.none 0 0)])) fun r44 => S.bd (stv r44.2 16 r44.1 x43) fun s45 => S.bd (fld 12 r44.1) fun x46 => S.bd (lal c1 13 2) fun x47 => S.bd (leapfrogref07x_Lock_Ask.v x46 x47 s45) fun r48 => S.bd (xtr 0 r48.1) fun x49 => S.bd (xtr 1 r48.1) fun x50 => S.bd (eqb [1] false true x50 (Go.Value.int Go.IntKind.i64 0)) fun x51 => S.cnd x51 (S.bd (leapfrogref09x_no.r  r48.2) fun x52 => S.bd (stl c2 0 13 x52) fun c53 => S.bd (lal c53 0 13) fun x54 => some (x54, r48.2)) (S.bd (lda r48.2 16 r44.1) fun x55 => S.bd (leapfrogref09x_Peer_set.v a0 x55 r48.2) fun r56 => S.bd (leapfrogref09x_ok.r  r56.2) fun x57 => S.bd (stl c2 0 13 x57) fun c58 => S.bd (lal c58 0 13) fun x59 => some (x59, r56.2))

def leapfrogref09x_Peer_enter.t (S : Sig) (a0 a1 : Value) (s : St) : Option (Value × St) :=
  S.bd (bx a1) fun c1 => S.bd (bx (Go.Value.agg #[(Go.Value.int Go.IntKind.i64 0), (Go.Value.bool Bool.false), (Go.Value.int Go.IntKind.i64 0), (Go.Value.int Go.IntKind.i64 0), (Go.Value.int Go.IntKind.u64 0), (Go.Value.int Go.IntKind.i64 0), (Go.Value.int Go.IntKind.u64 0), (Go.Value.int Go.IntKind.i64 0), (Go.Value.int Go.IntKind.i64 0), (Go.Value.int Go.IntKind.u64 0), (Go.Value.int Go.IntKind.i64 0), (Go.Value.int Go.IntKind.u64 0), (Go.Value.slice Option.none 0 0)])) fun c2 => S.bd (lal c1 1 2) fun x3 => S.bd (leapfrogref09x_Peer_rec.r a0 x3 s) fun x4 => S.bd (xtr 0 x4) fun x5 => S.bd (xtr 1 x4) fun x6 => S.bd (bx (Go.Value.agg #[(Go.Value.int Go.IntKind.i64 0), (Go.Value.int Go.IntKind.u64 0), (Go.Value.int Go.IntKind.i64 0), (Go.Value.int Go.IntKind.i64 0), (Go.Value.int Go.IntKind.u64 0), (Go.Value.int Go.IntKind.i64 0), (Go.Value.int Go.IntKind.u64 0), (Go.Value.int Go.IntKind.i64 0), (Go.Value.int Go.IntKind.i64 0), (Go.Value.int Go.IntKind.u64 0), (Go.Value.int Go.IntKind.i64 0), (Go.Value.int Go.IntKind.u64 0), (Go.Value.bool Bool.false), (Go.Value.int Go.IntKind.i64 0), (Go.Value.int Go.IntKind.i64 0), (Go.Value.slice Option.none 0 0)])) fun c7 => S.bd (stl c7 0 16 x5) fun c8 => S.bd (S.gd x6 false (some a0)) fun x9 => S.bd (S.gd x6 false (nck x9)) fun x10 => S.bd (S.gd x6 false (fld 6 x10)) fun x11 => S.bd (S.gd x6 false (ldc s x11)) fun x12 => S.bd (pik x6 (Go.Value.bool Bool.true) x12) fun x13 => S.bd (S.gd x13 false (some a0)) fun x14 => S.bd (S.gd x13 false (lal c1 1 2)) fun x15 => S.bd (S.gd x13 false (leapfrogref09x_Peer_list.r x14 x15 s)) fun x16 => S.bd (S.gd x13 false (un .not x16)) fun x17 => S.bd (pik x13 (Go.Value.bool Bool.true) x17) fun x18 => S.bd (S.gd x18 false (lal c1 4 2)) fun x19 => S.bd (S.gd x18 false (some a0)) fun x20 => S.bd (S.gd x18 false (nck x20)) fun x21 => S.bd (S.gd x18 false (fld 0 x21)) fun x22 => S.bd (S.gd x18 false (fld 1 x22)) fun x23 => S.bd (S.gd x18 false (lda s 2 x23)) fun x24 => S.bd (S.gd x18 false (leapfrogref09x_Less.r x19 x24 s)) fun x25 => S.bd (S.gd x18 false (un .not x25)) fun x26 => S.bd (pik x18 (Go.Value.bool Bool.true) x26) fun x27 => S.bd (S.gd x27 false (some a0)) fun x28 => S.bd (S.gd x27 false (nck x28)) fun x29 => S.bd (S.gd x27 false (fld 0 x29)) fun x30 => S.bd (S.gd x27 false (fld 1 x30)) fun x31 => S.bd (S.gd x27 false (lda s 2 x31)) fun x32 => S.bd (S.gd x27 false (lal c1 9 2)) fun x33 => S.bd (S.gd x27 false (leapfrogref09x_Less.r x32 x33 s)) fun x34 => S.bd (S.gd x27 false (un .not x34)) fun x35 => S.bd (pik x27 (Go.Value.bool Bool.true) x35) fun x36 => S.cnd x36 (S.bd (leapfrogref09x_no.r  s) fun x37 => S.bd (stl c2 0 13 x37) fun c38 => S.bd (lal c38 0 13) fun x39 => some (x39, s)) (leapfrogref09x_Peer_enter.t.p1 S c1 s c2 a0)
def leapfrogref09x_Peer_enter.v (a0 a1 : Value) (s : St) : Option (Value × St) := leapfrogref09x_Peer_enter.t std a0 a1 s
def leapfrogref09x_Peer_enter.w : List Value → St → Option (Value × St)
  | [a0, a1], s => leapfrogref09x_Peer_enter.v a0 a1 s
  | _, _ => none
def leapfrogref09x_Peer_enter.an : An := ⟨77, false, [3, 4, 5], [], [], [(2, [(0, 0, [], []), (1, 0, [], []), (2, 0, [], []), (3, 0, [], []), (4, 0, [], []), (5, 2, [], []), (6, 0, [], []), (7, 0, [], []), (8, 0, [], []), (9, 0, [], []), (10, 25, [], []), (11, 3, [], []), (12, 0, [], []), (13, 0, [], []), (14, 0, [], []), (15, 0, [], []), (16, 0, [], []), (17, 25, [], []), (18, 0, [], []), (19, 0, [], []), (20, 0, [], []), (21, 0, [], []), (22, 2, [], []), (23, 3, [], []), (24, 0, [], []), (25, 0, [], []), (26, 0, [], []), (27, 0, [], []), (28, 0, [], []), (29, 0, [], []), (30, 0, [], []), (31, 2, [], []), (32, 0, [], []), (33, 0, [], []), (34, 25, [], []), (35, 3, [], []), (36, 0, [], []), (37, 0, [], [])])]⟩
theorem leapfrogref09x_Peer_enter.ok (S : Sig) (a0 a1 : Value) (s : St) : evF S Try.prog leapfrogref09x_Peer_enter.ctx leapfrogref09x_Peer_enter.an Try.f46 [a0, a1] s = leapfrogref09x_Peer_enter.t S a0 a1 s := by kernel_rfl
theorem leapfrogref09x_Peer_enter.cok : CtxOk Try.prog leapfrogref09x_Peer_enter.ctx := .cons leapfrogref09x_Peer_rec.sound leapfrogref09x_Peer_rec.can <| .cons leapfrogref09x_Peer_list.sound leapfrogref09x_Peer_list.can <| .cons leapfrogref09x_Less.sound leapfrogref09x_Less.can <| .cons leapfrogref09x_no.sound leapfrogref09x_no.can <| .cons leapfrogref07x_Lock_Ask.sound leapfrogref07x_Lock_Ask.can <| .cons leapfrogref09x_Peer_set.sound leapfrogref09x_Peer_set.can <| .cons leapfrogref09x_ok.sound leapfrogref09x_ok.can <| .nil
theorem leapfrogref09x_Peer_enter.draws : fnDraws leapfrogref09x_Peer_enter.an Try.f46 = true := by kernel_rfl
theorem leapfrogref09x_Peer_enter.can : callOk Try.prog 46 = true := by kernel_rfl
theorem leapfrogref09x_Peer_enter.sound : FnOk Try.prog 46 (.st leapfrogref09x_Peer_enter.w) := FnOk.st_of (evF_ok leapfrogref09x_Peer_enter.cok mixed (f := 46) (fn := Try.f46) (by kernel_rfl) leapfrogref09x_Peer_enter.draws) fun args s r h => by
  unfold leapfrogref09x_Peer_enter.w at h; split at h
  · rw [leapfrogref09x_Peer_enter.ok std]; exact h
  · simp at h

/-! ### (*leapfrog/leapfrogref09.Peer).unset: function 79 -/
def leapfrogref09x_Peer_unset.ctx : Ctx := []
def leapfrogref09x_Peer_unset.l3 (S : Sig) (rec26 : List Value → St → Option Cut) (xs24 : List Value) (s25 : St) : Option Cut :=
  S.bd (nck (xs24.getD 0 undef)) fun x27 => S.bd (fld 9 x27) fun x28 => S.bd (ldc s25 x28) fun x29 => S.bd (lenL x29) fun x30 => S.bd (bin .lss (xs24.getD 2 undef) x30) fun x31 => S.cnd x31 (S.bd (nck (xs24.getD 0 undef)) fun x32 => S.bd (fld 9 x32) fun x33 => S.bd (ldc s25 x33) fun x34 => S.bd (idx s25 16 x34 (xs24.getD 2 undef)) fun x35 => S.bd (fld 0 x35) fun x36 => S.bd (lda s25 2 x36) fun x37 => S.bd (lal (cellsA (xs24.getD 3 undef)) 0 2) fun x38 => S.bd (eqb [1, 1] true true x37 x38) fun x39 => S.cnd x39 (S.bd (nck (xs24.getD 0 undef)) fun x40 => S.bd (fld 9 x40) fun x41 => S.bd (ldc s25 x41) fun x42 => S.bd (idx s25 16 x42 (xs24.getD 2 undef)) fun x43 => S.bd (lda s25 16 x43) fun x44 => S.bd (S.bd (bls 16 (List.replicate 1 [(Go.Value.int Go.IntKind.i64 0), (Go.Value.int Go.IntKind.u64 0), (Go.Value.int Go.IntKind.i64 0), (Go.Value.int Go.IntKind.i64 0), (Go.Value.int Go.IntKind.u64 0), (Go.Value.int Go.IntKind.i64 0), (Go.Value.int Go.IntKind.u64 0), (Go.Value.int Go.IntKind.i64 0), (Go.Value.int Go.IntKind.i64 0), (Go.Value.int Go.IntKind.u64 0), (Go.Value.int Go.IntKind.i64 0), (Go.Value.int Go.IntKind.u64 0), (Go.Value.bool Bool.false), (Go.Value.int Go.IntKind.i64 0), (Go.Value.int Go.IntKind.i64 0), (Go.Value.slice Option.none 0 0)]) [(0, x44)]) fun rows => als s25 16 1 rows) fun r45 => S.bd (app r45.2 16 144 (xs24.getD 1 undef) r45.1) fun r46 => S.bd (bin .add (xs24.getD 2 undef) (Go.Value.int Go.IntKind.i64 1)) fun x47 => rec26 [(xs24.getD 0 undef), r46.1, x47, (Value.agg ⟨(cellsA (xs24.getD 3 undef))⟩)] r46.2) (S.bd (bin .add (xs24.getD 2 undef) (Go.Value.int Go.IntKind.i64 1)) fun x48 => rec26 [(xs24.getD 0 undef), (xs24.getD 1 undef), x48, (Value.agg ⟨(cellsA (xs24.getD 3 undef))⟩)] s25)) (some (0, [(xs24.getD 0 undef), (xs24.getD 1 undef)], s25))

def leapfrogref09x_Peer_unset.t (S : Sig) (a0 a1 : Value) (s : St) : Option (Value × St) :=
  S.bd (bx a1) fun c1 => S.bd (S.it (leapfrogref09x_Peer_unset.l3 S) [a0, (Go.Value.slice Option.none 0 0), (Go.Value.int Go.IntKind.i64 0), (Value.agg ⟨c1⟩)] s) fun r49 => S.bd (nck (r49.2.1.getD 0 undef)) fun x50 => S.bd (fld 9 x50) fun x51 => S.bd (stv r49.2.2 1 x51 (r49.2.1.getD 1 undef)) fun s52 => some ((Value.tuple ⟨[]⟩), s52)
def leapfrogref09x_Peer_unset.v (a0 a1 : Value) (s : St) : Option (Value × St) := leapfrogref09x_Peer_unset.t std a0 a1 s
def leapfrogref09x_Peer_unset.w : List Value → St → Option (Value × St)
  | [a0, a1], s => leapfrogref09x_Peer_unset.v a0 a1 s
  | _, _ => none
def leapfrogref09x_Peer_unset.an : An := ⟨39, false, [3], [(3, ⟨[.v 0, .p 3 3 0, .v 4, .v 5, .l 3], [(.exit 0, [.v 0, .v 4])]⟩)], [], [(5, [(0, 0, [], []), (1, 0, [], []), (2, 0, [], []), (3, 2, [], []), (4, 0, [], []), (5, 2, [], []), (6, 0, [], []), (7, 2, [], []), (8, 25, [], []), (9, 0, [], [])])]⟩
theorem leapfrogref09x_Peer_unset.ok (S : Sig) (a0 a1 : Value) (s : St) : evF S Try.prog leapfrogref09x_Peer_unset.ctx leapfrogref09x_Peer_unset.an Try.f79 [a0, a1] s = leapfrogref09x_Peer_unset.t S a0 a1 s := by kernel_rfl
theorem leapfrogref09x_Peer_unset.cok : CtxOk Try.prog leapfrogref09x_Peer_unset.ctx := .nil
theorem leapfrogref09x_Peer_unset.draws : fnDraws leapfrogref09x_Peer_unset.an Try.f79 = true := by kernel_rfl
theorem leapfrogref09x_Peer_unset.can : callOk Try.prog 79 = true := by kernel_rfl
theorem leapfrogref09x_Peer_unset.sound : FnOk Try.prog 79 (.st leapfrogref09x_Peer_unset.w) := FnOk.st_of (evF_ok leapfrogref09x_Peer_unset.cok mixed (f := 79) (fn := Try.f79) (by kernel_rfl) leapfrogref09x_Peer_unset.draws) fun args s r h => by
  unfold leapfrogref09x_Peer_unset.w at h; split at h
  · rw [leapfrogref09x_Peer_unset.ok std]; exact h
  · simp at h

/-! ### (*leapfrog/leapfrogref09.Peer).out: function 47 -/
def leapfrogref09x_Peer_out.ctx : Ctx := [(39, .rd leapfrogref09x_Peer_rec.w), (73, .rd leapfrogref09x_no.w), (40, .st leapfrogref09x_told.w), (79, .st leapfrogref09x_Peer_unset.w), (76, .rd leapfrogref09x_ok.w), (41, .rd leapfrogref09x_gone.w), (77, .st leapfrogref09x_Peer_answer.w)]
def leapfrogref09x_Peer_out.l7 (S : Sig) (rec42 : List Value → St → Option Cut) (xs40 : List Value) (s41 : St) : Option Cut :=
  S.bd (lcl (cellsA (xs40.getD 4 undef)) 15) fun x43 => S.bd (lenL x43) fun x44 => S.bd (bin .lss (xs40.getD 2 undef) x44) fun x45 => S.cnd x45 (S.bd (lal (cellsA (xs40.getD 3 undef)) 1 2) fun x46 => S.bd (lcl (cellsA (xs40.getD 4 undef)) 15) fun x47 => S.bd (idx s41 2 x47 (xs40.getD 2 undef)) fun x48 => S.bd (lda s41 2 x48) fun x49 => S.bd (leapfrogref09x_gone.r  s41) fun x50 => S.bd (leapfrogref09x_Peer_answer.v (xs40.getD 0 undef) x46 x49 x50 s41) fun r51 => S.bd (idx r51.2 2 x47 (xs40.getD 2 undef)) fun x52 => S.cnd (Value.bool (sameV x52 x48)) (S.bd (app r51.2 14 128 (xs40.getD 1 undef) r51.1) fun r53 => S.bd (idx r53.2 2 x47 (xs40.getD 2 undef)) fun x54 => S.cnd (Value.bool (sameV x54 x48)) (S.bd (bin .add (xs40.getD 2 undef) (Go.Value.int Go.IntKind.i64 1)) fun x55 => rec42 [(xs40.getD 0 undef), r53.1, x55, (Value.agg ⟨(cellsA (xs40.getD 3 undef))⟩), (Value.agg ⟨(cellsA (xs40.getD 4 undef))⟩)] r53.2) (none)) (none)) (some (0, [(xs40.getD 1 undef)], s41))

def leapfrogref09x_Peer_out.t (S : Sig) (a0 a1 a2 : Value) (s : St) : Option (Value × St) :=
  S.bd (bx a2) fun c1 => S.bd (lal c1 1 2) fun x2 => S.bd (leapfrogref09x_Peer_rec.r a0 x2 s) fun x3 => S.bd (xtr 0 x3) fun x4 => S.bd (xtr 1 x3) fun x5 => S.bd (bx (Go.Value.agg #[(Go.Value.int Go.IntKind.i64 0), (Go.Value.int Go.IntKind.u64 0), (Go.Value.int Go.IntKind.i64 0), (Go.Value.int Go.IntKind.i64 0), (Go.Value.int Go.IntKind.u64 0), (Go.Value.int Go.IntKind.i64 0), (Go.Value.int Go.IntKind.u64 0), (Go.Value.int Go.IntKind.i64 0), (Go.Value.int Go.IntKind.i64 0), (Go.Value.int Go.IntKind.u64 0), (Go.Value.int Go.IntKind.i64 0), (Go.Value.int Go.IntKind.u64 0), (Go.Value.bool Bool.false), (Go.Value.int Go.IntKind.i64 0), (Go.Value.int Go.IntKind.i64 0), (Go.Value.slice Option.none 0 0)])) fun c6 => S.bd (stl c6 0 16 x4) fun c7 => S.bd (un .not x5) fun x8 => S.bd (S.gd x8 false (some a0)) fun x9 => S.bd (S.gd x8 false (nck x9)) fun x10 => S.bd (S.gd x8 false (fld 6 x10)) fun x11 => S.bd (S.gd x8 false (ldc s x11)) fun x12 => S.bd (pik x8 (Go.Value.bool Bool.true) x12) fun x13 => S.bd (S.gd x13 false (lcl c7 12)) fun x14 => S.bd (S.gd x13 false (un .not x14)) fun x15 => S.bd (pik x13 (Go.Value.bool Bool.true) x15) fun x16 => S.bd (S.gd x16 false (lal c7 13 2)) fun x17 => S.bd (S.gd x16 false (lal c1 13 2)) fun x18 => S.bd (S.gd x16 false (eqb [1, 1] true true x17 x18)) fun x19 => S.bd (pik x16 (Go.Value.bool Bool.true) x19) fun x20 => S.cnd x20 (S.bd (leapfrogref09x_no.r  s) fun x21 => S.bd (leapfrogref09x_told.v a1 x21 s) fun r22 => some (r22.1, r22.2)) (S.bd (lal c1 1 2) fun x23 => S.bd (leapfrogref09x_Peer_unset.v a0 x23 s) fun r24 => S.bd (leapfrogref09x_ok.r  r24.2) fun x25 => S.bd (leapfrogref09x_told.v a1 x25 r24.2) fun r26 => S.bd (S.it (leapfrogref09x_Peer_out.l7 S) [a0, r26.1, (Go.Value.int Go.IntKind.i64 0), (Value.agg ⟨c1⟩), (Value.agg ⟨c7⟩)] r26.2) fun r56 => some ((r56.2.1.getD 0 undef), r56.2.2))
def leapfrogref09x_Peer_out.v (a0 a1 a2 : Value) (s : St) : Option (Value × St) := leapfrogref09x_Peer_out.t std a0 a1 a2 s
def leapfrogref09x_Peer_out.w : List Value → St → Option (Value × St)
  | [a0, a1, a2], s => leapfrogref09x_Peer_out.v a0 a1 a2 s
  | _, _ => none
def leapfrogref09x_Peer_out.an : An := ⟨72, false, [5, 7], [(7, ⟨[.v 0, .p 5 5 0, .p 7 7 0, .v 9, .v 10, .l 5, .l 7], [(.exit 0, [.v 9])]⟩)], [], [(9, [(0, 0, [], []), (1, 0, [], []), (2, 0, [], []), (3, 41, [], []), (4, 0, [], []), (5, 0, [], []), (6, 57, [], []), (7, 0, [], []), (8, 2, [], []), (9, 2, [], []), (10, 3, [], []), (11, 4, [8], []), (12, 4, [8], []), (13, 0, [], [])])]⟩
theorem leapfrogref09x_Peer_out.ok (S : Sig) (a0 a1 a2 : Value) (s : St) : evF S Try.prog leapfrogref09x_Peer_out.ctx leapfrogref09x_Peer_out.an Try.f47 [a0, a1, a2] s = leapfrogref09x_Peer_out.t S a0 a1 a2 s := by kernel_rfl
theorem leapfrogref09x_Peer_out.cok : CtxOk Try.prog leapfrogref09x_Peer_out.ctx := .cons leapfrogref09x_Peer_rec.sound leapfrogref09x_Peer_rec.can <| .cons leapfrogref09x_no.sound leapfrogref09x_no.can <| .cons leapfrogref09x_told.sound leapfrogref09x_told.can <| .cons leapfrogref09x_Peer_unset.sound leapfrogref09x_Peer_unset.can <| .cons leapfrogref09x_ok.sound leapfrogref09x_ok.can <| .cons leapfrogref09x_gone.sound leapfrogref09x_gone.can <| .cons leapfrogref09x_Peer_answer.sound leapfrogref09x_Peer_answer.can <| .nil
theorem leapfrogref09x_Peer_out.draws : fnDraws leapfrogref09x_Peer_out.an Try.f47 = true := by kernel_rfl
theorem leapfrogref09x_Peer_out.can : callOk Try.prog 47 = true := by kernel_rfl
theorem leapfrogref09x_Peer_out.sound : FnOk Try.prog 47 (.st leapfrogref09x_Peer_out.w) := FnOk.st_of (evF_ok leapfrogref09x_Peer_out.cok mixed (f := 47) (fn := Try.f47) (by kernel_rfl) leapfrogref09x_Peer_out.draws) fun args s r h => by
  unfold leapfrogref09x_Peer_out.w at h; split at h
  · rw [leapfrogref09x_Peer_out.ok std]; exact h
  · simp at h

/-! ### (*leapfrog/leapfrogref09.Peer).marked: function 80 -/
def leapfrogref09x_Peer_marked.ctx : Ctx := [(73, .rd leapfrogref09x_no.w)]
def leapfrogref09x_Peer_marked.t (S : Sig) (a0 : Value) (s : St) : Option (Value × St) :=
  S.bd (bx (Go.Value.agg #[(Go.Value.int Go.IntKind.i64 0), (Go.Value.bool Bool.false), (Go.Value.int Go.IntKind.i64 0), (Go.Value.int Go.IntKind.i64 0), (Go.Value.int Go.IntKind.u64 0), (Go.Value.int Go.IntKind.i64 0), (Go.Value.int Go.IntKind.u64 0), (Go.Value.int Go.IntKind.i64 0), (Go.Value.int Go.IntKind.i64 0), (Go.Value.int Go.IntKind.u64 0), (Go.Value.int Go.IntKind.i64 0), (Go.Value.int Go.IntKind.u64 0), (Go.Value.slice Option.none 0 0)])) fun c1 => S.bd (nck a0) fun x2 => S.bd (fld 8 x2) fun x3 => S.bd (ldc s x3) fun x4 => S.cnd x4 (S.bd (leapfrogref09x_no.r  s) fun x5 => S.bd (stl c1 0 13 x5) fun c6 => S.bd (lal c6 0 13) fun x7 => some (x7, s)) (S.bd (nck a0) fun x8 => S.bd (fld 8 x8) fun x9 => S.bd (stv s 1 x9 (Go.Value.bool Bool.true)) fun s10 => S.bd (S.bd (bls 1 (List.replicate 0 [(Go.Value.int Go.IntKind.u8 0)]) []) fun rows => als s10 1 0 rows) fun r11 => S.bd (nck a0) fun x12 => S.bd (fld 5 x12) fun x13 => S.bd (ldc r11.2 x13) fun x14 => S.bd (app r11.2 1 1 r11.1 x14) fun r15 => S.bd (bld [(Go.Value.int Go.IntKind.i64 0), (Go.Value.bool Bool.false), (Go.Value.int Go.IntKind.i64 0), (Go.Value.int Go.IntKind.i64 0), (Go.Value.int Go.IntKind.u64 0), (Go.Value.int Go.IntKind.i64 0), (Go.Value.int Go.IntKind.u64 0), (Go.Value.int Go.IntKind.i64 0), (Go.Value.int Go.IntKind.i64 0), (Go.Value.int Go.IntKind.u64 0), (Go.Value.int Go.IntKind.i64 0), (Go.Value.int Go.IntKind.u64 0), (Go.Value.slice Option.none 0 0)] [(0, 1, (Go.Value.int Go.IntKind.i64 1)), (12, 1, r15.1)]) fun x16 => S.bd (stl c1 0 13 x16) fun c17 => S.bd (lal c17 0 13) fun x18 => some (x18, r15.2))
def leapfrogref09x_Peer_marked.v (a0 : Value) (s : St) : Option (Value × St) := leapfrogref09x_Peer_marked.t std a0 s
def leapfrogref09x_Peer_marked.w : List Value → St → Option (Value × St)
  | [a0], s => leapfrogref09x_Peer_marked.v a0 s
  | _, _ => none
def leapfrogref09x_Peer_marked.an : An := ⟨18, false, [2], [], [], []⟩
theorem leapfrogref09x_Peer_marked.ok (S : Sig) (a0 : Value) (s : St) : evF S Try.prog leapfrogref09x_Peer_marked.ctx leapfrogref09x_Peer_marked.an Try.f80 [a0] s = leapfrogref09x_Peer_marked.t S a0 s := by kernel_rfl
theorem leapfrogref09x_Peer_marked.cok : CtxOk Try.prog leapfrogref09x_Peer_marked.ctx := .cons leapfrogref09x_no.sound leapfrogref09x_no.can <| .nil
theorem leapfrogref09x_Peer_marked.draws : fnDraws leapfrogref09x_Peer_marked.an Try.f80 = true := by kernel_rfl
theorem leapfrogref09x_Peer_marked.can : callOk Try.prog 80 = true := by kernel_rfl
theorem leapfrogref09x_Peer_marked.sound : FnOk Try.prog 80 (.st leapfrogref09x_Peer_marked.w) := FnOk.st_of (evF_ok leapfrogref09x_Peer_marked.cok mixed (f := 80) (fn := Try.f80) (by kernel_rfl) leapfrogref09x_Peer_marked.draws) fun args s r h => by
  unfold leapfrogref09x_Peer_marked.w at h; split at h
  · rw [leapfrogref09x_Peer_marked.ok std]; exact h
  · simp at h

/-! ### (*leapfrog/leapfrogref09.Peer).mark: function 48 -/
def leapfrogref09x_Peer_mark.ctx : Ctx := [(73, .rd leapfrogref09x_no.w), (40, .st leapfrogref09x_told.w), (80, .st leapfrogref09x_Peer_marked.w)]
def leapfrogref09x_Peer_mark.t (S : Sig) (a0 a1 : Value) (s : St) : Option (Value × St) :=
  S.bd (nck a0) fun x1 => S.bd (fld 6 x1) fun x2 => S.bd (ldc s x2) fun x3 => S.cnd x3 (S.bd (leapfrogref09x_no.r  s) fun x4 => S.bd (leapfrogref09x_told.v a1 x4 s) fun r5 => some (r5.1, r5.2)) (S.bd (nck a0) fun x6 => S.bd (fld 7 x6) fun x7 => S.bd (ldc s x7) fun x8 => S.bd (un .not x8) fun x9 => S.cnd x9 (S.bd (S.bd (bls 6 (List.replicate 0 [(Go.Value.int Go.IntKind.i64 0), (Go.Value.bool Bool.false), (Go.Value.int Go.IntKind.i64 0), (Go.Value.int Go.IntKind.u64 0), (Go.Value.int Go.IntKind.i64 0), (Go.Value.int Go.IntKind.i64 0)]) []) fun rows => als s 6 0 rows) fun r10 => S.bd (nck a0) fun x11 => S.bd (fld 10 x11) fun x12 => S.bd (ldc r10.2 x12) fun x13 => S.bd (app r10.2 6 48 r10.1 x13) fun r14 => S.bd (bld [(Go.Value.int Go.IntKind.i64 0), (Go.Value.bool Bool.false), (Go.Value.int Go.IntKind.i64 0), (Go.Value.int Go.IntKind.u64 0), (Go.Value.int Go.IntKind.i64 0), (Go.Value.int Go.IntKind.i64 0)] [(0, 1, a1), (1, 1, (Go.Value.bool Bool.true))]) fun x15 => S.bd (S.bd (bls 6 (List.replicate 1 [(Go.Value.int Go.IntKind.i64 0), (Go.Value.bool Bool.false), (Go.Value.int Go.IntKind.i64 0), (Go.Value.int Go.IntKind.u64 0), (Go.Value.int Go.IntKind.i64 0), (Go.Value.int Go.IntKind.i64 0)]) [(0, x15)]) fun rows => als r14.2 6 1 rows) fun r16 => S.bd (app r16.2 6 48 r14.1 r16.1) fun r17 => S.bd (nck a0) fun x18 => S.bd (fld 10 x18) fun x19 => S.bd (stv r17.2 1 x19 r17.1) fun s20 => some ((Go.Value.slice Option.none 0 0), s20)) (S.bd (leapfrogref09x_Peer_marked.v a0 s) fun r21 => S.bd (leapfrogref09x_told.v a1 r21.1 r21.2) fun r22 => some (r22.1, r22.2)))
def leapfrogref09x_Peer_mark.v (a0 a1 : Value) (s : St) : Option (Value × St) := leapfrogref09x_Peer_mark.t std a0 a1 s
def leapfrogref09x_Peer_mark.w : List Value → St → Option (Value × St)
  | [a0, a1], s => leapfrogref09x_Peer_mark.v a0 a1 s
  | _, _ => none
def leapfrogref09x_Peer_mark.an : An := ⟨34, false, [], [], [], []⟩
theorem leapfrogref09x_Peer_mark.ok (S : Sig) (a0 a1 : Value) (s : St) : evF S Try.prog leapfrogref09x_Peer_mark.ctx leapfrogref09x_Peer_mark.an Try.f48 [a0, a1] s = leapfrogref09x_Peer_mark.t S a0 a1 s := by kernel_rfl
theorem leapfrogref09x_Peer_mark.cok : CtxOk Try.prog leapfrogref09x_Peer_mark.ctx := .cons leapfrogref09x_no.sound leapfrogref09x_no.can <| .cons leapfrogref09x_told.sound leapfrogref09x_told.can <| .cons leapfrogref09x_Peer_marked.sound leapfrogref09x_Peer_marked.can <| .nil
theorem leapfrogref09x_Peer_mark.draws : fnDraws leapfrogref09x_Peer_mark.an Try.f48 = true := by kernel_rfl
theorem leapfrogref09x_Peer_mark.can : callOk Try.prog 48 = true := by kernel_rfl
theorem leapfrogref09x_Peer_mark.sound : FnOk Try.prog 48 (.st leapfrogref09x_Peer_mark.w) := FnOk.st_of (evF_ok leapfrogref09x_Peer_mark.cok mixed (f := 48) (fn := Try.f48) (by kernel_rfl) leapfrogref09x_Peer_mark.draws) fun args s r h => by
  unfold leapfrogref09x_Peer_mark.w at h; split at h
  · rw [leapfrogref09x_Peer_mark.ok std]; exact h
  · simp at h

/-! ### (*leapfrog/leapfrogref09.Peer).joined: function 49 -/
def leapfrogref09x_Peer_joined.ctx : Ctx := [(73, .rd leapfrogref09x_no.w), (40, .st leapfrogref09x_told.w), (76, .rd leapfrogref09x_ok.w), (80, .st leapfrogref09x_Peer_marked.w)]
def leapfrogref09x_Peer_joined.l7.p1 (S : Sig) (xs47 : List Value) (s48 : St) (rec49 : List Value → St → Option Cut) : Option Cut :=
  S.bd (nck (xs47.getD 0 undef)) fun x61 => S.bd (fld 10 x61) fun x62 => S.bd (ldc s48 x62) fun x63 => S.bd (idx s48 6 x63 (xs47.getD 3 undef)) fun x64 => S.bd (fld 0 x64) fun x65 => S.bd (ldc s48 x65) fun x66 => S.bd (leapfrogref09x_Peer_marked.v (xs47.getD 0 undef) s48) fun r67 => S.bd (ldc r67.2 x62) fun x68 => S.cnd (Value.bool (sameV x68 x63)) (S.bd (idx r67.2 6 x63 (xs47.getD 3 undef)) fun x69 => S.cnd (Value.bool (sameV x69 x64)) (S.bd (ldc r67.2 x65) fun x70 => S.cnd (Value.bool (sameV x70 x66)) (S.bd (bld [(Go.Value.int Go.IntKind.i64 0), (Go.Value.int Go.IntKind.i64 0), (Go.Value.bool Bool.false), (Go.Value.int Go.IntKind.i64 0), (Go.Value.int Go.IntKind.i64 0), (Go.Value.int Go.IntKind.u64 0), (Go.Value.int Go.IntKind.i64 0), (Go.Value.int Go.IntKind.u64 0), (Go.Value.int Go.IntKind.i64 0), (Go.Value.int Go.IntKind.i64 0), (Go.Value.int Go.IntKind.u64 0), (Go.Value.int Go.IntKind.i64 0), (Go.Value.int Go.IntKind.u64 0), (Go.Value.slice Option.none 0 0)] [(0, 1, x66), (1, 13, r67.1)]) fun x71 => S.bd (S.bd (bls 14 (List.replicate 1 [(Go.Value.int Go.IntKind.i64 0), (Go.Value.int Go.IntKind.i64 0), (Go.Value.bool Bool.false), (Go.Value.int Go.IntKind.i64 0), (Go.Value.int Go.IntKind.i64 0), (Go.Value.int Go.IntKind.u64 0), (Go.Value.int Go.IntKind.i64 0), (Go.Value.int Go.IntKind.u64 0), (Go.Value.int Go.IntKind.i64 0), (Go.Value.int Go.IntKind.i64 0), (Go.Value.int Go.IntKind.u64 0), (Go.Value.int Go.IntKind.i64 0), (Go.Value.int Go.IntKind.u64 0), (Go.Value.slice Option.none 0 0)]) [(0, x71)]) fun rows => als r67.2 14 1 rows) fun r72 => S.bd (app r72.2 14 128 (xs47.getD 1 undef) r72.1) fun r73 => S.bd (ldc r73.2 x62) fun x74 => S.cnd (Value.bool (sameV x74 x63)) (S.bd (idx r73.2 6 x63 (xs47.getD 3 undef)) fun x75 => S.cnd (Value.bool (sameV x75 x64)) (S.bd (ldc r73.2 x65) fun x76 => S.cnd (Value.bool (sameV x76 x66)) (S.bd (bin .add (xs47.getD 3 undef) (Go.Value.int Go.IntKind.i64 1)) fun x77 => rec49 [(xs47.getD 0 undef), r73.1, (xs47.getD 2 undef), x77] r73.2) (none)) (none)) (none)) (none)) (none)) (none)

def leapfrogref09x_Peer_joined.l7 (S : Sig) (rec49 : List Value → St → Option Cut) (xs47 : List Value) (s48 : St) : Option Cut :=
  S.bd (nck (xs47.getD 0 undef)) fun x50 => S.bd (fld 10 x50) fun x51 => S.bd (ldc s48 x51) fun x52 => S.bd (lenL x52) fun x53 => S.bd (bin .lss (xs47.getD 3 undef) x53) fun x54 => S.cnd x54 (S.bd (nck (xs47.getD 0 undef)) fun x55 => S.bd (fld 10 x55) fun x56 => S.bd (ldc s48 x56) fun x57 => S.bd (idx s48 6 x57 (xs47.getD 3 undef)) fun x58 => S.bd (fld 1 x58) fun x59 => S.bd (ldc s48 x59) fun x60 => S.cnd x60 (leapfrogref09x_Peer_joined.l7.p1 S xs47 s48 rec49) (S.bd (nck (xs47.getD 0 undef)) fun x78 => S.bd (fld 10 x78) fun x79 => S.bd (ldc s48 x79) fun x80 => S.bd (idx s48 6 x80 (xs47.getD 3 undef)) fun x81 => S.bd (lda s48 6 x81) fun x82 => S.bd (S.bd (bls 6 (List.replicate 1 [(Go.Value.int Go.IntKind.i64 0), (Go.Value.bool Bool.false), (Go.Value.int Go.IntKind.i64 0), (Go.Value.int Go.IntKind.u64 0), (Go.Value.int Go.IntKind.i64 0), (Go.Value.int Go.IntKind.i64 0)]) [(0, x82)]) fun rows => als s48 6 1 rows) fun r83 => S.bd (app r83.2 6 48 (xs47.getD 2 undef) r83.1) fun r84 => S.bd (bin .add (xs47.getD 3 undef) (Go.Value.int Go.IntKind.i64 1)) fun x85 => rec49 [(xs47.getD 0 undef), (xs47.getD 1 undef), r84.1, x85] r84.2)) (some (0, [(xs47.getD 0 undef), (xs47.getD 1 undef), (xs47.getD 2 undef)], s48))

def leapfrogref09x_Peer_joined.t (S : Sig) (a0 a1 : Value) (s : St) : Option (Value × St) :=
  S.bd (nck a0) fun x1 => S.bd (fld 6 x1) fun x2 => S.bd (ldc s x2) fun x3 => S.cnd x3 (S.bd (leapfrogref09x_no.r  s) fun x4 => S.bd (leapfrogref09x_told.v a1 x4 s) fun r5 => some (r5.1, r5.2)) (S.bd (nck a0) fun x6 => S.bd (fld 7 x6) fun x7 => S.bd (stv s 1 x7 (Go.Value.bool Bool.true)) fun s8 => S.bd (leapfrogref09x_ok.r  s8) fun x9 => S.bd (leapfrogref09x_told.v a1 x9 s8) fun r10 => S.bd (S.it (leapfrogref09x_Peer_joined.l7 S) [a0, r10.1, (Go.Value.slice Option.none 0 0), (Go.Value.int Go.IntKind.i64 0)] r10.2) fun r86 => S.bd (nck (r86.2.1.getD 0 undef)) fun x87 => S.bd (fld 10 x87) fun x88 => S.bd (stv r86.2.2 1 x88 (r86.2.1.getD 2 undef)) fun s89 => some ((r86.2.1.getD 1 undef), s89))
def leapfrogref09x_Peer_joined.v (a0 a1 : Value) (s : St) : Option (Value × St) := leapfrogref09x_Peer_joined.t std a0 a1 s
def leapfrogref09x_Peer_joined.w : List Value → St → Option (Value × St)
  | [a0, a1], s => leapfrogref09x_Peer_joined.v a0 a1 s
  | _, _ => none
def leapfrogref09x_Peer_joined.an : An := ⟨67, false, [], [(7, ⟨[.v 0, .v 5, .v 6, .v 7], [(.exit 0, [.v 0, .v 5, .v 6])]⟩)], [], [(10, [(0, 0, [], []), (1, 0, [], []), (2, 0, [], []), (3, 0, [], []), (4, 2, [], []), (5, 0, [], []), (6, 2, [], []), (7, 0, [], []), (8, 2, [], []), (9, 0, [], []), (10, 4, [4, 6, 8], []), (11, 0, [], []), (12, 3, [], []), (13, 4, [4, 6, 8], []), (14, 0, [], [])])]⟩
theorem leapfrogref09x_Peer_joined.ok (S : Sig) (a0 a1 : Value) (s : St) : evF S Try.prog leapfrogref09x_Peer_joined.ctx leapfrogref09x_Peer_joined.an Try.f49 [a0, a1] s = leapfrogref09x_Peer_joined.t S a0 a1 s := by kernel_rfl
theorem leapfrogref09x_Peer_joined.cok : CtxOk Try.prog leapfrogref09x_Peer_joined.ctx := .cons leapfrogref09x_no.sound leapfrogref09x_no.can <| .cons leapfrogref09x_told.sound leapfrogref09x_told.can <| .cons leapfrogref09x_ok.sound leapfrogref09x_ok.can <| .cons leapfrogref09x_Peer_marked.sound leapfrogref09x_Peer_marked.can <| .nil
theorem leapfrogref09x_Peer_joined.draws : fnDraws leapfrogref09x_Peer_joined.an Try.f49 = true := by kernel_rfl
theorem leapfrogref09x_Peer_joined.can : callOk Try.prog 49 = true := by kernel_rfl
theorem leapfrogref09x_Peer_joined.sound : FnOk Try.prog 49 (.st leapfrogref09x_Peer_joined.w) := FnOk.st_of (evF_ok leapfrogref09x_Peer_joined.cok mixed (f := 49) (fn := Try.f49) (by kernel_rfl) leapfrogref09x_Peer_joined.draws) fun args s r h => by
  unfold leapfrogref09x_Peer_joined.w at h; split at h
  · rw [leapfrogref09x_Peer_joined.ok std]; exact h
  · simp at h


end
end Go.Proofs.Ytkkgegocliobpaa
