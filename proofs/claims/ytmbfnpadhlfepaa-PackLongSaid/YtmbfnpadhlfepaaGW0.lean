/-
  What the functions answer that PackWrites, PackOrder, PackLong, PackReads, PackBack, PackOwn reaches (part 0): for each function of the program a plain function over abstract values, and that the model answers as it does.
-/
import Derived.Test.YtmbfnpadhlfepaaSimZ
import Derived.Test.YtmbfnpadhlfepaaProg
import Derived.KernelRfl
import Derived.Test.YtmbfnpadhlfepaaDfrB
set_option linter.unusedVariables false
set_option maxRecDepth 100000
namespace Go.Proofs.Ytmbfnpadhlfepaa
open Go.Sim
noncomputable section
theorem mixed : Try.prog.follows .mixedOrders = true := by kernel_rfl
/-! ### leapfrog/pack.only: function 28 -/
def pack_only.ctx : Ctx := []
def pack_only.t.p1 (S : Sig) (x7 : Value) (c1 : List Value) (c6 : List Value) (c2 : List Value) : Option Value :=
  S.bd (eqb [1] false false x7 (Go.Value.int Go.IntKind.i64 2)) fun x14 => S.cnd x14 (S.bd (lcl c1 2) fun x15 => S.bd (stl c6 2 1 x15) fun c16 => S.bd (lal c16 0 14) fun x17 => S.bd (stl c2 0 14 x17) fun c18 => S.bd (lal c18 0 14) fun x19 => some ((Value.tuple ⟨[x19, (Go.Value.bool Bool.true)]⟩))) (S.bd (eqb [1] false false x7 (Go.Value.int Go.IntKind.i64 3)) fun x20 => S.cnd x20 (S.bd (lcl c1 3) fun x21 => S.bd (stl c6 3 1 x21) fun c22 => S.bd (lal c22 0 14) fun x23 => S.bd (stl c2 0 14 x23) fun c24 => S.bd (lal c24 0 14) fun x25 => some ((Value.tuple ⟨[x25, (Go.Value.bool Bool.true)]⟩))) (S.bd (eqb [1] false false x7 (Go.Value.int Go.IntKind.i64 4)) fun x26 => S.cnd x26 (S.bd (lcl c1 4) fun x27 => S.bd (stl c6 4 1 x27) fun c28 => S.bd (lal c28 0 14) fun x29 => S.bd (stl c2 0 14 x29) fun c30 => S.bd (lal c30 0 14) fun x31 => some ((Value.tuple ⟨[x31, (Go.Value.bool Bool.true)]⟩))) (S.bd (eqb [1] false false x7 (Go.Value.int Go.IntKind.i64 5)) fun x32 => S.cnd x32 (S.bd (lal c1 5 2) fun x33 => S.bd (stl c6 5 2 x33) fun c34 => S.bd (lal c34 0 14) fun x35 => S.bd (stl c2 0 14 x35) fun c36 => S.bd (lal c36 0 14) fun x37 => some ((Value.tuple ⟨[x37, (Go.Value.bool Bool.true)]⟩))) (S.bd (eqb [1] false false x7 (Go.Value.int Go.IntKind.i64 6)) fun x38 => S.cnd x38 (S.bd (lal c1 7 2) fun x39 => S.bd (stl c6 7 2 x39) fun c40 => S.bd (lal c40 0 14) fun x41 => S.bd (stl c2 0 14 x41) fun c42 => S.bd (lal c42 0 14) fun x43 => some ((Value.tuple ⟨[x43, (Go.Value.bool Bool.true)]⟩))) (S.bd (eqb [1] false false x7 (Go.Value.int Go.IntKind.i64 7)) fun x44 => S.cnd x44 (S.bd (lal c1 9 5) fun x45 => S.bd (stl c6 9 5 x45) fun c46 => S.bd (lal c46 0 14) fun x47 => S.bd (stl c2 0 14 x47) fun c48 => S.bd (lal c48 0 14) fun x49 => some ((Value.tuple ⟨[x49, (Go.Value.bool Bool.true)]⟩))) (S.bd (lal c6 0 14) fun x50 => S.bd (stl c2 0 14 x50) fun c51 => S.bd (lal c51 0 14) fun x52 => some ((Value.tuple ⟨[x52, (Go.Value.bool Bool.false)]⟩))))))))

def pack_only.t (S : Sig) (a0 : Value) (s : St) : Option Value :=
  S.bd (bx a0) fun c1 => S.bd (bx (Go.Value.agg #[(Go.Value.int Go.IntKind.i64 0), (Go.Value.int Go.IntKind.u64 0), (Go.Value.int Go.IntKind.i64 0), (Go.Value.bool Bool.false), (Go.Value.slice Option.none 0 0), (Go.Value.int Go.IntKind.i64 0), (Go.Value.int Go.IntKind.u64 0), (Go.Value.int Go.IntKind.i64 0), (Go.Value.int Go.IntKind.u64 0), (Go.Value.int Go.IntKind.i64 0), (Go.Value.int Go.IntKind.i64 0), (Go.Value.int Go.IntKind.u64 0), (Go.Value.int Go.IntKind.i64 0), (Go.Value.int Go.IntKind.u64 0)])) fun c2 => S.bd (lcl c1 0) fun x3 => S.bd (bld [(Go.Value.int Go.IntKind.i64 0), (Go.Value.int Go.IntKind.u64 0), (Go.Value.int Go.IntKind.i64 0), (Go.Value.bool Bool.false), (Go.Value.slice Option.none 0 0), (Go.Value.int Go.IntKind.i64 0), (Go.Value.int Go.IntKind.u64 0), (Go.Value.int Go.IntKind.i64 0), (Go.Value.int Go.IntKind.u64 0), (Go.Value.int Go.IntKind.i64 0), (Go.Value.int Go.IntKind.i64 0), (Go.Value.int Go.IntKind.u64 0), (Go.Value.int Go.IntKind.i64 0), (Go.Value.int Go.IntKind.u64 0)] [(0, 1, x3)]) fun x4 => S.bd (bx (Go.Value.agg #[(Go.Value.int Go.IntKind.i64 0), (Go.Value.int Go.IntKind.u64 0), (Go.Value.int Go.IntKind.i64 0), (Go.Value.bool Bool.false), (Go.Value.slice Option.none 0 0), (Go.Value.int Go.IntKind.i64 0), (Go.Value.int Go.IntKind.u64 0), (Go.Value.int Go.IntKind.i64 0), (Go.Value.int Go.IntKind.u64 0), (Go.Value.int Go.IntKind.i64 0), (Go.Value.int Go.IntKind.i64 0), (Go.Value.int Go.IntKind.u64 0), (Go.Value.int Go.IntKind.i64 0), (Go.Value.int Go.IntKind.u64 0)])) fun c5 => S.bd (stl c5 0 14 x4) fun c6 => S.bd (lcl c1 0) fun x7 => S.bd (eqb [1] false false x7 (Go.Value.int Go.IntKind.i64 1)) fun x8 => S.cnd x8 (S.bd (lcl c1 1) fun x9 => S.bd (stl c6 1 1 x9) fun c10 => S.bd (lal c10 0 14) fun x11 => S.bd (stl c2 0 14 x11) fun c12 => S.bd (lal c12 0 14) fun x13 => some ((Value.tuple ⟨[x13, (Go.Value.bool Bool.true)]⟩))) (pack_only.t.p1 S x7 c1 c6 c2)
def pack_only.r (a0 : Value) (s : St) : Option Value := pack_only.t std a0 s
def pack_only.w : List Value → St → Option Value
  | [a0], s => pack_only.r a0 s
  | _, _ => none
def pack_only.an : An := ⟨47, true, [1, 2, 4], [], [], [], [], []⟩
theorem pack_only.ok (S : Sig) (a0 : Value) (s : St) : evG S Try.prog pack_only.ctx pack_only.an Try.f28 [a0] s = pack_only.t S a0 s := by kernel_rfl
theorem pack_only.cok : CtxOk Try.prog pack_only.ctx := .nil
theorem pack_only.draws : fnDraws pack_only.an Try.f28 = true := by kernel_rfl
theorem pack_only.can : callOk Try.prog 28 = true := by kernel_rfl
theorem pack_only.sound : FnOk Try.prog 28 (.rd pack_only.w) := FnOk.rd_of (evG_ok pack_only.cok mixed (f := 28) (fn := Try.f28) (by kernel_rfl) pack_only.draws) fun args s r h => by
  unfold pack_only.w at h; split at h
  · rw [pack_only.ok std]; exact h
  · simp at h

/-! ### bytes.Equal: function 34 -/
def bytes_Equal.ctx : Ctx := []
def bytes_Equal.t (S : Sig) (a0 a1 : Value) (s : St) : Option Value :=
  S.bd (b2s s a0) fun x1 => S.bd (b2s s a1) fun x2 => S.bd (eqb [2] false false x1 x2) fun x3 => some (x3)
def bytes_Equal.r (a0 a1 : Value) (s : St) : Option Value := bytes_Equal.t std a0 a1 s
def bytes_Equal.w : List Value → St → Option Value
  | [a0, a1], s => bytes_Equal.r a0 a1 s
  | _, _ => none
def bytes_Equal.an : An := ⟨10, true, [], [], [], [], [], []⟩
theorem bytes_Equal.ok (S : Sig) (a0 a1 : Value) (s : St) : evG S Try.prog bytes_Equal.ctx bytes_Equal.an Try.f34 [a0, a1] s = bytes_Equal.t S a0 a1 s := by kernel_rfl
theorem bytes_Equal.cok : CtxOk Try.prog bytes_Equal.ctx := .nil
theorem bytes_Equal.draws : fnDraws bytes_Equal.an Try.f34 = true := by kernel_rfl
theorem bytes_Equal.can : callOk Try.prog 34 = true := by kernel_rfl
theorem bytes_Equal.sound : FnOk Try.prog 34 (.rd bytes_Equal.w) := FnOk.rd_of (evG_ok bytes_Equal.cok mixed (f := 34) (fn := Try.f34) (by kernel_rfl) bytes_Equal.draws) fun args s r h => by
  unfold bytes_Equal.w at h; split at h
  · rw [bytes_Equal.ok std]; exact h
  · simp at h

/-! ### leapfrog/pack.Same: function 18 -/
def pack_Same.ctx : Ctx := [(34, .rd bytes_Equal.w)]
def pack_Same.t (S : Sig) (a0 a1 : Value) (s : St) : Option Value :=
  S.bd (bx a0) fun c1 => S.bd (bx a1) fun c2 => S.bd (lcl c1 0) fun x3 => S.bd (lcl c2 0) fun x4 => S.bd (eqb [1] false false x3 x4) fun x5 => S.bd (S.gd x5 true (lcl c1 1)) fun x6 => S.bd (S.gd x5 true (lcl c2 1)) fun x7 => S.bd (S.gd x5 true (eqb [1] false false x6 x7)) fun x8 => S.bd (pik x5 x8 (Go.Value.bool Bool.false)) fun x9 => S.bd (S.gd x9 true (lcl c1 2)) fun x10 => S.bd (S.gd x9 true (lcl c2 2)) fun x11 => S.bd (S.gd x9 true (eqb [1] false false x10 x11)) fun x12 => S.bd (pik x9 x12 (Go.Value.bool Bool.false)) fun x13 => S.bd (S.gd x13 true (lcl c1 3)) fun x14 => S.bd (S.gd x13 true (lcl c2 3)) fun x15 => S.bd (S.gd x13 true (eqb [0] false false x14 x15)) fun x16 => S.bd (pik x13 x16 (Go.Value.bool Bool.false)) fun x17 => S.bd (S.gd x17 true (lcl c1 4)) fun x18 => S.bd (S.gd x17 true (lcl c2 4)) fun x19 => S.bd (S.gd x17 true (bytes_Equal.r x18 x19 s)) fun x20 => S.bd (pik x17 x20 (Go.Value.bool Bool.false)) fun x21 => S.bd (S.gd x21 true (lal c1 5 2)) fun x22 => S.bd (S.gd x21 true (lal c2 5 2)) fun x23 => S.bd (S.gd x21 true (eqb [1, 1] true false x22 x23)) fun x24 => S.bd (pik x21 x24 (Go.Value.bool Bool.false)) fun x25 => S.bd (S.gd x25 true (lal c1 7 2)) fun x26 => S.bd (S.gd x25 true (lal c2 7 2)) fun x27 => S.bd (S.gd x25 true (eqb [1, 1] true false x26 x27)) fun x28 => S.bd (pik x25 x28 (Go.Value.bool Bool.false)) fun x29 => S.bd (S.gd x29 true (lal c1 9 5)) fun x30 => S.bd (S.gd x29 true (lal c2 9 5)) fun x31 => S.bd (S.gd x29 true (eqb [1, 1, 1, 1, 1] true false x30 x31)) fun x32 => S.bd (pik x29 x32 (Go.Value.bool Bool.false)) fun x33 => some (x33)
def pack_Same.r (a0 a1 : Value) (s : St) : Option Value := pack_Same.t std a0 a1 s
def pack_Same.w : List Value → St → Option Value
  | [a0, a1], s => pack_Same.r a0 a1 s
  | _, _ => none
def pack_Same.an : An := ⟨59, true, [2, 3], [], [], [], [], []⟩
theorem pack_Same.ok (S : Sig) (a0 a1 : Value) (s : St) : evG S Try.prog pack_Same.ctx pack_Same.an Try.f18 [a0, a1] s = pack_Same.t S a0 a1 s := by kernel_rfl
theorem pack_Same.cok : CtxOk Try.prog pack_Same.ctx := .cons bytes_Equal.sound bytes_Equal.can <| .nil
theorem pack_Same.draws : fnDraws pack_Same.an Try.f18 = true := by kernel_rfl
theorem pack_Same.can : callOk Try.prog 18 = true := by kernel_rfl
theorem pack_Same.sound : FnOk Try.prog 18 (.rd pack_Same.w) := FnOk.rd_of (evG_ok pack_Same.cok mixed (f := 18) (fn := Try.f18) (by kernel_rfl) pack_Same.draws) fun args s r h => by
  unfold pack_Same.w at h; split at h
  · rw [pack_Same.ok std]; exact h
  · simp at h

/-! ### leapfrog/vec.low: function 47 -/
def vec_low.ctx : Ctx := []
def vec_low.t (S : Sig) (a0 : Value) (s : St) : Option Value :=
  S.bd (cvi .u64 a0) fun x1 => S.bd (bin .shl (Go.Value.int Go.IntKind.u64 1) x1) fun x2 => S.bd (bin .sub x2 (Go.Value.int Go.IntKind.u64 1)) fun x3 => some (x3)
def vec_low.r (a0 : Value) (s : St) : Option Value := vec_low.t std a0 s
def vec_low.w : List Value → St → Option Value
  | [a0], s => vec_low.r a0 s
  | _, _ => none
def vec_low.an : An := ⟨7, true, [], [], [], [], [], []⟩
theorem vec_low.ok (S : Sig) (a0 : Value) (s : St) : evG S Try.prog vec_low.ctx vec_low.an Try.f47 [a0] s = vec_low.t S a0 s := by kernel_rfl
theorem vec_low.cok : CtxOk Try.prog vec_low.ctx := .nil
theorem vec_low.draws : fnDraws vec_low.an Try.f47 = true := by kernel_rfl
theorem vec_low.can : callOk Try.prog 47 = true := by kernel_rfl
theorem vec_low.sound : FnOk Try.prog 47 (.rd vec_low.w) := FnOk.rd_of (evG_ok vec_low.cok mixed (f := 47) (fn := Try.f47) (by kernel_rfl) vec_low.draws) fun args s r h => by
  unfold vec_low.w at h; split at h
  · rw [vec_low.ok std]; exact h
  · simp at h

/-! ### leapfrog/vec.Right: function 29 -/
def vec_Right.ctx : Ctx := [(47, .rd vec_low.w)]
def vec_Right.t (S : Sig) (a0 : Value) (s : St) : Option Value :=
  S.bd (bx a0) fun c1 => S.bd (lcl c1 0) fun x2 => S.bd (bin .lss x2 (Go.Value.int Go.IntKind.i64 0)) fun x3 => S.bd (S.gd x3 false (lcl c1 0)) fun x4 => S.bd (S.gd x3 false (bin .gtr x4 (Go.Value.int Go.IntKind.i64 32))) fun x5 => S.bd (pik x3 (Go.Value.bool Bool.true) x5) fun x6 => S.bd (S.gd x6 false (lcl c1 1)) fun x7 => S.bd (S.gd x6 false (lcl c1 0)) fun x8 => S.bd (S.gd x6 false (vec_low.r x8 s)) fun x9 => S.bd (S.gd x6 false (bin .gtr x7 x9)) fun x10 => S.bd (pik x6 (Go.Value.bool Bool.true) x10) fun x11 => S.cnd x11 (some ((Go.Value.int Go.IntKind.i64 10))) (some ((Go.Value.int Go.IntKind.i64 0)))
def vec_Right.r (a0 : Value) (s : St) : Option Value := vec_Right.t std a0 s
def vec_Right.w : List Value → St → Option Value
  | [a0], s => vec_Right.r a0 s
  | _, _ => none
def vec_Right.an : An := ⟨19, true, [1], [], [], [(1, [(0, 0, [], []), (1, 9, [], []), (2, 0, [], []), (3, 0, [], []), (4, 0, [], []), (5, 9, [], []), (6, 0, [], []), (7, 0, [], []), (8, 0, [], []), (9, 0, [], []), (10, 9, [], []), (11, 0, [], []), (12, 9, [], []), (13, 3, [], []), (14, 0, [], []), (15, 0, [], [])])], [], []⟩
theorem vec_Right.ok (S : Sig) (a0 : Value) (s : St) : evG S Try.prog vec_Right.ctx vec_Right.an Try.f29 [a0] s = vec_Right.t S a0 s := by kernel_rfl
theorem vec_Right.cok : CtxOk Try.prog vec_Right.ctx := .cons vec_low.sound vec_low.can <| .nil
theorem vec_Right.draws : fnDraws vec_Right.an Try.f29 = true := by kernel_rfl
theorem vec_Right.can : callOk Try.prog 29 = true := by kernel_rfl
theorem vec_Right.sound : FnOk Try.prog 29 (.rd vec_Right.w) := FnOk.rd_of (evG_ok vec_Right.cok mixed (f := 29) (fn := Try.f29) (by kernel_rfl) vec_Right.draws) fun args s r h => by
  unfold vec_Right.w at h; split at h
  · rw [vec_Right.ok std]; exact h
  · simp at h

/-! ### leapfrog/key.Check: function 30 -/
def key_Check.ctx : Ctx := []
def key_Check.t (S : Sig) (a0 : Value) (s : St) : Option Value :=
  S.bd (bx a0) fun c1 => S.bd (lcl c1 0) fun x2 => S.bd (eqb [1] false false x2 (Go.Value.int Go.IntKind.i64 2)) fun x3 => S.bd (S.gd x3 false (lcl c1 0)) fun x4 => S.bd (S.gd x3 false (eqb [1] false false x4 (Go.Value.int Go.IntKind.i64 1))) fun x5 => S.bd (S.gd x3 false (some x5)) fun x6 => S.bd (S.gd x6 false (lcl c1 0)) fun x7 => S.bd (S.gd x6 false (eqb [1] false false x7 (Go.Value.int Go.IntKind.i64 3))) fun x8 => S.bd (S.gd x3 false (pik x6 (Go.Value.bool Bool.true) x8)) fun x9 => S.bd (S.gd x3 false (some x9)) fun x10 => S.bd (S.gd x10 true (lcl c1 1)) fun x11 => S.bd (S.gd x10 true (eqb [1] false false x11 (Go.Value.int Go.IntKind.u64 0))) fun x12 => S.bd (S.gd x3 false (pik x10 x12 (Go.Value.bool Bool.false))) fun x13 => S.bd (pik x3 (Go.Value.bool Bool.true) x13) fun x14 => S.cnd x14 (some ((Go.Value.int Go.IntKind.i64 0))) (some ((Go.Value.int Go.IntKind.i64 20)))
def key_Check.r (a0 : Value) (s : St) : Option Value := key_Check.t std a0 s
def key_Check.w : List Value → St → Option Value
  | [a0], s => key_Check.r a0 s
  | _, _ => none
def key_Check.an : An := ⟨21, true, [1], [], [], [], [], []⟩
theorem key_Check.ok (S : Sig) (a0 : Value) (s : St) : evG S Try.prog key_Check.ctx key_Check.an Try.f30 [a0] s = key_Check.t S a0 s := by kernel_rfl
theorem key_Check.cok : CtxOk Try.prog key_Check.ctx := .nil
theorem key_Check.draws : fnDraws key_Check.an Try.f30 = true := by kernel_rfl
theorem key_Check.can : callOk Try.prog 30 = true := by kernel_rfl
theorem key_Check.sound : FnOk Try.prog 30 (.rd key_Check.w) := FnOk.rd_of (evG_ok key_Check.cok mixed (f := 30) (fn := Try.f30) (by kernel_rfl) key_Check.draws) fun args s r h => by
  unfold key_Check.w at h; split at h
  · rw [key_Check.ok std]; exact h
  · simp at h

/-! ### leapfrog/pack.Check: function 16 -/
def pack_Check.ctx : Ctx := [(28, .rd pack_only.w), (18, .rd pack_Same.w), (29, .rd vec_Right.w), (30, .rd key_Check.w)]
def pack_Check.t (S : Sig) (a0 : Value) (s : St) : Option Value :=
  S.bd (bx a0) fun c1 => S.bd (lal c1 0 14) fun x2 => S.bd (pack_only.r x2 s) fun x3 => S.bd (xtr 0 x3) fun x4 => S.bd (xtr 1 x3) fun x5 => S.bd (bx (Go.Value.agg #[(Go.Value.int Go.IntKind.i64 0), (Go.Value.int Go.IntKind.u64 0), (Go.Value.int Go.IntKind.i64 0), (Go.Value.bool Bool.false), (Go.Value.slice Option.none 0 0), (Go.Value.int Go.IntKind.i64 0), (Go.Value.int Go.IntKind.u64 0), (Go.Value.int Go.IntKind.i64 0), (Go.Value.int Go.IntKind.u64 0), (Go.Value.int Go.IntKind.i64 0), (Go.Value.int Go.IntKind.i64 0), (Go.Value.int Go.IntKind.u64 0), (Go.Value.int Go.IntKind.i64 0), (Go.Value.int Go.IntKind.u64 0)])) fun c6 => S.bd (stl c6 0 14 x4) fun c7 => S.bd (un .not x5) fun x8 => S.bd (S.gd x8 false (lal c7 0 14)) fun x9 => S.bd (S.gd x8 false (lal c1 0 14)) fun x10 => S.bd (S.gd x8 false (pack_Same.r x9 x10 s)) fun x11 => S.bd (S.gd x8 false (un .not x11)) fun x12 => S.bd (pik x8 (Go.Value.bool Bool.true) x12) fun x13 => S.cnd x13 (some ((Go.Value.int Go.IntKind.i64 30))) (S.bd (show Option Cut from S.bd (lcl c1 0) fun x35 => S.bd (eqb [1] false false x35 (Go.Value.int Go.IntKind.i64 4)) fun x36 => S.cnd x36 (S.bd (lcl c1 4) fun x37 => S.bd (lenL x37) fun x38 => S.bd (bin .leq x38 (Go.Value.int Go.IntKind.i64 65536)) fun x39 => some (0, [x39], s)) (S.bd (eqb [1] false false x35 (Go.Value.int Go.IntKind.i64 5)) fun x40 => S.cnd x40 (S.bd (lal c1 5 2) fun x41 => S.bd (vec_Right.r x41 s) fun x42 => S.bd (eqb [1] false false x42 (Go.Value.int Go.IntKind.i64 0)) fun x43 => some (0, [x43], s)) (S.bd (eqb [1] false false x35 (Go.Value.int Go.IntKind.i64 6)) fun x44 => S.cnd x44 (S.bd (lal c1 7 2) fun x45 => S.bd (key_Check.r x45 s) fun x46 => S.bd (eqb [1] false false x46 (Go.Value.int Go.IntKind.i64 0)) fun x47 => some (0, [x47], s)) (S.bd (eqb [1] false false x35 (Go.Value.int Go.IntKind.i64 7)) fun x48 => S.cnd x48 (S.bd (lal c1 10 2) fun x49 => S.bd (key_Check.r x49 s) fun x50 => S.bd (eqb [1] false false x50 (Go.Value.int Go.IntKind.i64 0)) fun x51 => S.bd (S.gd x51 true (lal c1 12 2)) fun x52 => S.bd (S.gd x51 true (vec_Right.r x52 s)) fun x53 => S.bd (S.gd x51 true (eqb [1] false false x53 (Go.Value.int Go.IntKind.i64 0))) fun x54 => S.bd (pik x51 x54 (Go.Value.bool Bool.false)) fun x55 => some (0, [x55], s)) (some (0, [x5], s)))))) fun r56 => S.bd (un .not (r56.2.1.getD 0 undef)) fun x57 => S.cnd x57 (some ((Go.Value.int Go.IntKind.i64 30))) (some ((Go.Value.int Go.IntKind.i64 0))))
def pack_Check.r (a0 : Value) (s : St) : Option Value := pack_Check.t std a0 s
def pack_Check.w : List Value → St → Option Value
  | [a0], s => pack_Check.r a0 s
  | _, _ => none
def pack_Check.an : An := ⟨54, true, [1, 3], [], [(13, ⟨[], [(.normal, [.v 4])]⟩)], [], [], []⟩
theorem pack_Check.ok (S : Sig) (a0 : Value) (s : St) : evG S Try.prog pack_Check.ctx pack_Check.an Try.f16 [a0] s = pack_Check.t S a0 s := by kernel_rfl
theorem pack_Check.cok : CtxOk Try.prog pack_Check.ctx := .cons pack_only.sound pack_only.can <| .cons pack_Same.sound pack_Same.can <| .cons vec_Right.sound vec_Right.can <| .cons key_Check.sound key_Check.can <| .nil
theorem pack_Check.draws : fnDraws pack_Check.an Try.f16 = true := by kernel_rfl
theorem pack_Check.can : callOk Try.prog 16 = true := by kernel_rfl
theorem pack_Check.sound : FnOk Try.prog 16 (.rd pack_Check.w) := FnOk.rd_of (evG_ok pack_Check.cok mixed (f := 16) (fn := Try.f16) (by kernel_rfl) pack_Check.draws) fun args s r h => by
  unfold pack_Check.w at h; split at h
  · rw [pack_Check.ok std]; exact h
  · simp at h

/-! ### (*leapfrog/pack.writer).number: function 39 -/
def pack_writer_number.ctx : Ctx := []
def pack_writer_number.l0 (S : Sig) (rec15 : List Value → St → Option Cut) (xs13 : List Value) (s14 : St) : Option Cut :=
  S.bd (bin .geq (xs13.getD 1 undef) (Go.Value.int Go.IntKind.u64 128)) fun x16 => S.cnd x16 (S.bd (nck (xs13.getD 0 undef)) fun x17 => S.bd (fld 0 x17) fun x18 => S.bd (ldc s14 x18) fun x19 => S.bd (cvi .u8 (xs13.getD 1 undef)) fun x20 => S.bd (bin .or x20 (Go.Value.int Go.IntKind.u8 128)) fun x21 => S.bd (S.bd (bls 1 (List.replicate 1 [(Go.Value.int Go.IntKind.u8 0)]) [(0, x21)]) fun rows => als s14 1 1 rows) fun r22 => S.bd (app r22.2 1 1 x19 r22.1) fun r23 => S.bd (nck (xs13.getD 0 undef)) fun x24 => S.bd (fld 0 x24) fun x25 => S.bd (stv r23.2 1 x25 r23.1) fun s26 => S.bd (bin .shr (xs13.getD 1 undef) (Go.Value.int Go.IntKind.u64 7)) fun x27 => rec15 [(xs13.getD 0 undef), x27] s26) (some (0, [(xs13.getD 0 undef), (xs13.getD 1 undef)], s14))

def pack_writer_number.t (S : Sig) (a0 a1 : Value) (s : St) : Option (Value × St) :=
  S.bd (S.it (pack_writer_number.l0 S) [a0, a1] s) fun r28 => S.bd (nck (r28.2.1.getD 0 undef)) fun x29 => S.bd (fld 0 x29) fun x30 => S.bd (ldc r28.2.2 x30) fun x31 => S.bd (cvi .u8 (r28.2.1.getD 1 undef)) fun x32 => S.bd (S.bd (bls 1 (List.replicate 1 [(Go.Value.int Go.IntKind.u8 0)]) [(0, x32)]) fun rows => als r28.2.2 1 1 rows) fun r33 => S.bd (app r33.2 1 1 x31 r33.1) fun r34 => S.bd (nck (r28.2.1.getD 0 undef)) fun x35 => S.bd (fld 0 x35) fun x36 => S.bd (stv r34.2 1 x36 r34.1) fun s37 => some ((Value.tuple ⟨[]⟩), s37)
def pack_writer_number.v (a0 a1 : Value) (s : St) : Option (Value × St) := pack_writer_number.t std a0 a1 s
def pack_writer_number.w : List Value → St → Option (Value × St)
  | [a0, a1], s => pack_writer_number.v a0 a1 s
  | _, _ => none
def pack_writer_number.an : An := ⟨31, false, [], [(0, ⟨[.v 0, .v 1], [(.exit 0, [.v 0, .v 1])]⟩)], [], [], [], []⟩
theorem pack_writer_number.ok (S : Sig) (a0 a1 : Value) (s : St) : evF S Try.prog pack_writer_number.ctx pack_writer_number.an Try.f39 [a0, a1] s = pack_writer_number.t S a0 a1 s := by kernel_rfl
theorem pack_writer_number.cok : CtxOk Try.prog pack_writer_number.ctx := .nil
theorem pack_writer_number.draws : fnDraws pack_writer_number.an Try.f39 = true := by kernel_rfl
theorem pack_writer_number.can : callOk Try.prog 39 = true := by kernel_rfl
theorem pack_writer_number.sound : FnOk Try.prog 39 (.st pack_writer_number.w) := FnOk.st_of (evF_ok pack_writer_number.cok mixed (f := 39) (fn := Try.f39) (by kernel_rfl) pack_writer_number.draws) fun args s r h => by
  unfold pack_writer_number.w at h; split at h
  · rw [pack_writer_number.ok std]; exact h
  · simp at h

/-! ### (*leapfrog/pack.writer).int: function 40 -/
def pack_writer_int.ctx : Ctx := [(39, .st pack_writer_number.w)]
def pack_writer_int.t (S : Sig) (a0 a1 : Value) (s : St) : Option (Value × St) :=
  S.bd (cvi .u64 a1) fun x1 => S.bd (bin .shl x1 (Go.Value.int Go.IntKind.u64 1)) fun x2 => S.bd (bin .shr a1 (Go.Value.int Go.IntKind.u64 63)) fun x3 => S.bd (cvi .u64 x3) fun x4 => S.bd (bin .xor x2 x4) fun x5 => S.bd (pack_writer_number.v a0 x5 s) fun r6 => some ((Value.tuple ⟨[]⟩), r6.2)
def pack_writer_int.v (a0 a1 : Value) (s : St) : Option (Value × St) := pack_writer_int.t std a0 a1 s
def pack_writer_int.w : List Value → St → Option (Value × St)
  | [a0, a1], s => pack_writer_int.v a0 a1 s
  | _, _ => none
def pack_writer_int.an : An := ⟨13, false, [], [], [], [], [], []⟩
theorem pack_writer_int.ok (S : Sig) (a0 a1 : Value) (s : St) : evF S Try.prog pack_writer_int.ctx pack_writer_int.an Try.f40 [a0, a1] s = pack_writer_int.t S a0 a1 s := by kernel_rfl
theorem pack_writer_int.cok : CtxOk Try.prog pack_writer_int.ctx := .cons pack_writer_number.sound pack_writer_number.can <| .nil
theorem pack_writer_int.draws : fnDraws pack_writer_int.an Try.f40 = true := by kernel_rfl
theorem pack_writer_int.can : callOk Try.prog 40 = true := by kernel_rfl
theorem pack_writer_int.sound : FnOk Try.prog 40 (.st pack_writer_int.w) := FnOk.st_of (evF_ok pack_writer_int.cok mixed (f := 40) (fn := Try.f40) (by kernel_rfl) pack_writer_int.draws) fun args s r h => by
  unfold pack_writer_int.w at h; split at h
  · rw [pack_writer_int.ok std]; exact h
  · simp at h

/-! ### (*leapfrog/pack.writer).key: function 41 -/
def pack_writer_key.ctx : Ctx := []
def pack_writer_key.l4 (S : Sig) (rec31 : List Value → St → Option Cut) (xs29 : List Value) (s30 : St) : Option Cut :=
  S.bd (bin .geq (xs29.getD 1 undef) (Go.Value.int Go.IntKind.i64 0)) fun x32 => S.cnd x32 (S.bd (nck (xs29.getD 0 undef)) fun x33 => S.bd (fld 0 x33) fun x34 => S.bd (ldc s30 x34) fun x35 => S.bd (lcl (cellsA (xs29.getD 2 undef)) 1) fun x36 => S.bd (bin .mul (Go.Value.int Go.IntKind.i64 8) (xs29.getD 1 undef)) fun x37 => S.bd (cvi .u64 x37) fun x38 => S.bd (bin .shr x36 x38) fun x39 => S.bd (cvi .u8 x39) fun x40 => S.bd (S.bd (bls 1 (List.replicate 1 [(Go.Value.int Go.IntKind.u8 0)]) [(0, x40)]) fun rows => als s30 1 1 rows) fun r41 => S.bd (app r41.2 1 1 x35 r41.1) fun r42 => S.bd (nck (xs29.getD 0 undef)) fun x43 => S.bd (fld 0 x43) fun x44 => S.bd (stv r42.2 1 x44 r42.1) fun s45 => S.bd (bin .sub (xs29.getD 1 undef) (Go.Value.int Go.IntKind.i64 1)) fun x46 => rec31 [(xs29.getD 0 undef), x46, (Value.agg ⟨(cellsA (xs29.getD 2 undef))⟩)] s45) (some (0, [], s30))

def pack_writer_key.t (S : Sig) (a0 a1 : Value) (s : St) : Option (Value × St) :=
  S.bd (bx a1) fun c1 => S.bd (nck a0) fun x2 => S.bd (fld 0 x2) fun x3 => S.bd (ldc s x3) fun x4 => S.bd (lcl c1 0) fun x5 => S.bd (cvi .u8 x5) fun x6 => S.bd (S.bd (bls 1 (List.replicate 1 [(Go.Value.int Go.IntKind.u8 0)]) [(0, x6)]) fun rows => als s 1 1 rows) fun r7 => S.bd (app r7.2 1 1 x4 r7.1) fun r8 => S.bd (nck a0) fun x9 => S.bd (fld 0 x9) fun x10 => S.bd (stv r8.2 1 x10 r8.1) fun s11 => S.bd (lcl c1 0) fun x12 => S.bd (eqb [1] false false x12 (Go.Value.int Go.IntKind.i64 2)) fun x13 => S.cnd x13 (S.bd (S.it (pack_writer_key.l4 S) [a0, (Go.Value.int Go.IntKind.i64 7), (Value.agg ⟨c1⟩)] s11) fun r47 => some ((Value.tuple ⟨[]⟩), r47.2.2)) (some ((Value.tuple ⟨[]⟩), s11))
def pack_writer_key.v (a0 a1 : Value) (s : St) : Option (Value × St) := pack_writer_key.t std a0 a1 s
def pack_writer_key.w : List Value → St → Option (Value × St)
  | [a0, a1], s => pack_writer_key.v a0 a1 s
  | _, _ => none
def pack_writer_key.an : An := ⟨40, false, [3], [(4, ⟨[.v 0, .p 3 3 0, .v 4, .l 3], [(.exit 0, [])]⟩)], [], [(1, [(0, 0, [], []), (1, 0, [], []), (2, 0, [], []), (3, 0, [], []), (4, 2, [], []), (5, 0, [], []), (6, 25, [], []), (7, 0, [], []), (8, 3, [], []), (9, 4, [], []), (10, 0, [], []), (11, 0, [], []), (12, 4, [], [])]), (6, [(0, 0, [], []), (1, 0, [], []), (2, 0, [], []), (3, 0, [], []), (4, 2, [], []), (5, 0, [], []), (6, 25, [], []), (7, 0, [], []), (8, 0, [], []), (9, 0, [], []), (10, 0, [], []), (11, 0, [], []), (12, 3, [], []), (13, 4, [], []), (14, 0, [], []), (15, 0, [], []), (16, 4, [], [])])], [], []⟩
theorem pack_writer_key.ok (S : Sig) (a0 a1 : Value) (s : St) : evF S Try.prog pack_writer_key.ctx pack_writer_key.an Try.f41 [a0, a1] s = pack_writer_key.t S a0 a1 s := by kernel_rfl
theorem pack_writer_key.cok : CtxOk Try.prog pack_writer_key.ctx := .nil
theorem pack_writer_key.draws : fnDraws pack_writer_key.an Try.f41 = true := by kernel_rfl
theorem pack_writer_key.can : callOk Try.prog 41 = true := by kernel_rfl
theorem pack_writer_key.sound : FnOk Try.prog 41 (.st pack_writer_key.w) := FnOk.st_of (evF_ok pack_writer_key.cok mixed (f := 41) (fn := Try.f41) (by kernel_rfl) pack_writer_key.draws) fun args s r h => by
  unfold pack_writer_key.w at h; split at h
  · rw [pack_writer_key.ok std]; exact h
  · simp at h

/-! ### (*leapfrog/pack.writer).vector: function 42 -/
def pack_writer_vector.ctx : Ctx := []
def pack_writer_vector.l5 (S : Sig) (rec38 : List Value → St → Option Cut) (xs36 : List Value) (s37 : St) : Option Cut :=
  S.bd (bin .geq (xs36.getD 2 undef) (Go.Value.int Go.IntKind.i64 0)) fun x39 => S.cnd x39 (S.bd (nck (xs36.getD 0 undef)) fun x40 => S.bd (fld 0 x40) fun x41 => S.bd (ldc s37 x41) fun x42 => S.bd (bin .mul (Go.Value.int Go.IntKind.i64 8) (xs36.getD 2 undef)) fun x43 => S.bd (cvi .u64 x43) fun x44 => S.bd (bin .shr (xs36.getD 1 undef) x44) fun x45 => S.bd (cvi .u8 x45) fun x46 => S.bd (S.bd (bls 1 (List.replicate 1 [(Go.Value.int Go.IntKind.u8 0)]) [(0, x46)]) fun rows => als s37 1 1 rows) fun r47 => S.bd (app r47.2 1 1 x42 r47.1) fun r48 => S.bd (nck (xs36.getD 0 undef)) fun x49 => S.bd (fld 0 x49) fun x50 => S.bd (stv r48.2 1 x50 r48.1) fun s51 => S.bd (bin .sub (xs36.getD 2 undef) (Go.Value.int Go.IntKind.i64 1)) fun x52 => rec38 [(xs36.getD 0 undef), (xs36.getD 1 undef), x52] s51) (some (0, [], s37))

def pack_writer_vector.t (S : Sig) (a0 a1 : Value) (s : St) : Option (Value × St) :=
  S.bd (bx a1) fun c1 => S.bd (nck a0) fun x2 => S.bd (fld 0 x2) fun x3 => S.bd (ldc s x3) fun x4 => S.bd (lcl c1 0) fun x5 => S.bd (cvi .u8 x5) fun x6 => S.bd (S.bd (bls 1 (List.replicate 1 [(Go.Value.int Go.IntKind.u8 0)]) [(0, x6)]) fun rows => als s 1 1 rows) fun r7 => S.bd (app r7.2 1 1 x4 r7.1) fun r8 => S.bd (nck a0) fun x9 => S.bd (fld 0 x9) fun x10 => S.bd (stv r8.2 1 x10 r8.1) fun s11 => S.bd (lcl c1 0) fun x12 => S.bd (bin .add x12 (Go.Value.int Go.IntKind.i64 7)) fun x13 => S.bd (bin .quo x13 (Go.Value.int Go.IntKind.i64 8)) fun x14 => S.bd (lcl c1 1) fun x15 => S.bd (bin .mul (Go.Value.int Go.IntKind.i64 8) x14) fun x16 => S.bd (lcl c1 0) fun x17 => S.bd (bin .sub x16 x17) fun x18 => S.bd (cvi .u64 x18) fun x19 => S.bd (bin .shl x15 x19) fun x20 => S.bd (bin .sub x14 (Go.Value.int Go.IntKind.i64 1)) fun x21 => S.bd (S.it (pack_writer_vector.l5 S) [a0, x20, x21] s11) fun r53 => some ((Value.tuple ⟨[]⟩), r53.2.2)
def pack_writer_vector.v (a0 a1 : Value) (s : St) : Option (Value × St) := pack_writer_vector.t std a0 a1 s
def pack_writer_vector.w : List Value → St → Option (Value × St)
  | [a0, a1], s => pack_writer_vector.v a0 a1 s
  | _, _ => none
def pack_writer_vector.an : An := ⟨53, false, [3], [(5, ⟨[.v 0, .v 5, .v 6], [(.exit 0, [])]⟩)], [], [(1, [(0, 0, [], []), (1, 0, [], []), (2, 0, [], []), (3, 0, [], []), (4, 2, [], []), (5, 0, [], []), (6, 25, [], []), (7, 0, [], []), (8, 3, [], []), (9, 4, [], []), (10, 0, [], []), (11, 0, [], []), (12, 4, [], [])])], [], []⟩
theorem pack_writer_vector.ok (S : Sig) (a0 a1 : Value) (s : St) : evF S Try.prog pack_writer_vector.ctx pack_writer_vector.an Try.f42 [a0, a1] s = pack_writer_vector.t S a0 a1 s := by kernel_rfl
theorem pack_writer_vector.cok : CtxOk Try.prog pack_writer_vector.ctx := .nil
theorem pack_writer_vector.draws : fnDraws pack_writer_vector.an Try.f42 = true := by kernel_rfl
theorem pack_writer_vector.can : callOk Try.prog 42 = true := by kernel_rfl
theorem pack_writer_vector.sound : FnOk Try.prog 42 (.st pack_writer_vector.w) := FnOk.st_of (evF_ok pack_writer_vector.cok mixed (f := 42) (fn := Try.f42) (by kernel_rfl) pack_writer_vector.draws) fun args s r h => by
  unfold pack_writer_vector.w at h; split at h
  · rw [pack_writer_vector.ok std]; exact h
  · simp at h

/-! ### (*leapfrog/pack.writer).field: function 26 -/
def pack_writer_field.ctx : Ctx := [(39, .st pack_writer_number.w), (40, .st pack_writer_int.w), (41, .st pack_writer_key.w), (42, .st pack_writer_vector.w)]
def pack_writer_field.t (S : Sig) (a0 a1 : Value) (s : St) : Option (Value × St) :=
  S.bd (bx a1) fun c1 => S.bd (lcl c1 0) fun x2 => S.bd (show Option Cut from S.bd (show Option Cut from S.bd (show Option Cut from S.bd (show Option Cut from S.bd (eqb [1] false false x2 (Go.Value.int Go.IntKind.i64 1)) fun x148 => S.cnd x148 (S.bd (lcl c1 1) fun x149 => S.bd (pack_writer_number.v a0 x149 s) fun r150 => some (0, [], r150.2)) (S.bd (eqb [1] false false x2 (Go.Value.int Go.IntKind.i64 2)) fun x151 => S.cnd x151 (S.bd (lcl c1 2) fun x152 => S.bd (pack_writer_int.v a0 x152 s) fun r153 => some (0, [], r153.2)) (S.bd (eqb [1] false false x2 (Go.Value.int Go.IntKind.i64 3)) fun x154 => S.cnd x154 (S.bd (show Option Cut from S.bd (lcl c1 3) fun x155 => S.cnd x155 (some (0, [a0, (Go.Value.int Go.IntKind.u8 1)], s)) (some (0, [a0, (Go.Value.int Go.IntKind.u8 0)], s))) fun r156 => S.bd (nck (r156.2.1.getD 0 undef)) fun x157 => S.bd (fld 0 x157) fun x158 => S.bd (ldc r156.2.2 x158) fun x159 => S.bd (S.bd (bls 1 (List.replicate 1 [(Go.Value.int Go.IntKind.u8 0)]) [(0, (r156.2.1.getD 1 undef))]) fun rows => als r156.2.2 1 1 rows) fun r160 => S.bd (app r160.2 1 1 x159 r160.1) fun r161 => S.bd (nck (r156.2.1.getD 0 undef)) fun x162 => S.bd (fld 0 x162) fun x163 => S.bd (stv r161.2 1 x163 r161.1) fun s164 => some (0, [], s164)) (S.bd (eqb [1] false false x2 (Go.Value.int Go.IntKind.i64 4)) fun x165 => S.cnd x165 (some (4, [a0, (Value.agg ⟨c1⟩)], s)) (S.bd (eqb [1] false false x2 (Go.Value.int Go.IntKind.i64 7)) fun x166 => S.cnd x166 (some (1, [a0, (Value.agg ⟨c1⟩)], s)) (S.bd (eqb [1] false false x2 (Go.Value.int Go.IntKind.i64 5)) fun x167 => S.cnd x167 (some (2, [a0, (Value.agg ⟨c1⟩)], s)) (S.bd (eqb [1] false false x2 (Go.Value.int Go.IntKind.i64 6)) fun x168 => S.cnd x168 (some (3, [a0, (Value.agg ⟨c1⟩)], s)) (some (0, [], s))))))))) fun r169 => if r169.1 = 0 then (some (0, [], r169.2.2)) else (if r169.1 = 1 then (some (3, [(r169.2.1.getD 0 undef), (Value.agg ⟨(cellsA (r169.2.1.getD 1 undef))⟩)], r169.2.2)) else (if r169.1 = 2 then (some (1, [(r169.2.1.getD 0 undef), (Value.agg ⟨(cellsA (r169.2.1.getD 1 undef))⟩)], r169.2.2)) else (if r169.1 = 3 then (some (2, [(r169.2.1.getD 0 undef), (Value.agg ⟨(cellsA (r169.2.1.getD 1 undef))⟩)], r169.2.2)) else (S.bd (lcl (cellsA (r169.2.1.getD 1 undef)) 4) fun x170 => S.bd (lenL x170) fun x171 => S.bd (cvi .u64 x171) fun x172 => S.bd (pack_writer_number.v (r169.2.1.getD 0 undef) x172 r169.2.2) fun r173 => S.bd (nck (r169.2.1.getD 0 undef)) fun x174 => S.bd (fld 0 x174) fun x175 => S.bd (ldc r173.2 x175) fun x176 => S.bd (lcl (cellsA (r169.2.1.getD 1 undef)) 4) fun x177 => S.bd (app r173.2 1 1 x176 x177) fun r178 => S.bd (nck (r169.2.1.getD 0 undef)) fun x179 => S.bd (fld 0 x179) fun x180 => S.bd (stv r178.2 1 x180 r178.1) fun s181 => some (0, [], s181)))))) fun r182 => if r182.1 = 0 then (some (0, [], r182.2.2)) else (if r182.1 = 1 then (some (2, [(r182.2.1.getD 0 undef), (Value.agg ⟨(cellsA (r182.2.1.getD 1 undef))⟩)], r182.2.2)) else (if r182.1 = 2 then (some (1, [(r182.2.1.getD 0 undef), (Value.agg ⟨(cellsA (r182.2.1.getD 1 undef))⟩)], r182.2.2)) else (S.bd (lcl (cellsA (r182.2.1.getD 1 undef)) 9) fun x183 => S.bd (pack_writer_int.v (r182.2.1.getD 0 undef) x183 r182.2.2) fun r184 => S.bd (lal (cellsA (r182.2.1.getD 1 undef)) 10 2) fun x185 => S.bd (lal (cellsA (r182.2.1.getD 1 undef)) 12 2) fun x186 => S.bd (stl (cellsA (r182.2.1.getD 1 undef)) 7 2 x185) fun c187 => S.bd (stl c187 5 2 x186) fun c188 => S.bd (lal c188 7 2) fun x189 => S.bd (pack_writer_key.v (r182.2.1.getD 0 undef) x189 r184.2) fun r190 => some (2, [(r182.2.1.getD 0 undef), (Value.agg ⟨c188⟩)], r190.2))))) fun r191 => if r191.1 = 0 then (some (0, [], r191.2.2)) else (if r191.1 = 1 then (some (1, [(r191.2.1.getD 0 undef), (Value.agg ⟨(cellsA (r191.2.1.getD 1 undef))⟩)], r191.2.2)) else (S.bd (lal (cellsA (r191.2.1.getD 1 undef)) 5 2) fun x192 => S.bd (pack_writer_vector.v (r191.2.1.getD 0 undef) x192 r191.2.2) fun r193 => some (0, [], r193.2)))) fun r194 => if r194.1 = 0 then (some ((Value.tuple ⟨[]⟩), r194.2.2)) else (S.bd (lal (cellsA (r194.2.1.getD 1 undef)) 7 2) fun x195 => S.bd (pack_writer_key.v (r194.2.1.getD 0 undef) x195 r194.2.2) fun r196 => some ((Value.tuple ⟨[]⟩), r196.2))
def pack_writer_field.v (a0 a1 : Value) (s : St) : Option (Value × St) := pack_writer_field.t std a0 a1 s
def pack_writer_field.w : List Value → St → Option (Value × St)
  | [a0, a1], s => pack_writer_field.v a0 a1 s
  | _, _ => none
def pack_writer_field.an : An := ⟨82, false, [3], [], [(14, ⟨[], [(.normal, [.v 0, .v 4])]⟩), (15, ⟨[], [(.exit 0, []), (.exit 5, [.v 0, .p 3 3 0, .l 3]), (.exit 6, [.v 0, .p 3 3 0, .l 3]), (.exit 7, [.v 0, .p 3 3 0, .l 3]), (.normal, [.v 0, .p 3 3 0, .l 3])]⟩), (17, ⟨[], [(.exit 0, []), (.exit 6, [.v 0, .p 3 3 0, .l 3]), (.exit 7, [.v 0, .p 3 3 0, .l 3]), (.normal, [.v 0, .p 3 3 0, .l 3])]⟩), (20, ⟨[], [(.exit 0, []), (.exit 7, [.v 0, .p 3 3 0, .l 3]), (.normal, [.v 0, .p 3 3 0, .l 3])]⟩), (21, ⟨[], [(.exit 0, []), (.normal, [.v 0, .p 3 3 0, .l 3])]⟩)], [(16, [(0, 0, [], []), (1, 0, [], []), (2, 0, [], []), (3, 0, [], []), (4, 2, [], []), (5, 0, [], []), (6, 25, [], []), (7, 4, [], []), (8, 0, [], []), (9, 0, [], []), (10, 4, [], [])])], [], []⟩
theorem pack_writer_field.ok (S : Sig) (a0 a1 : Value) (s : St) : evF S Try.prog pack_writer_field.ctx pack_writer_field.an Try.f26 [a0, a1] s = pack_writer_field.t S a0 a1 s := by kernel_rfl
theorem pack_writer_field.cok : CtxOk Try.prog pack_writer_field.ctx := .cons pack_writer_number.sound pack_writer_number.can <| .cons pack_writer_int.sound pack_writer_int.can <| .cons pack_writer_key.sound pack_writer_key.can <| .cons pack_writer_vector.sound pack_writer_vector.can <| .nil
theorem pack_writer_field.draws : fnDraws pack_writer_field.an Try.f26 = true := by kernel_rfl
theorem pack_writer_field.can : callOk Try.prog 26 = true := by kernel_rfl
theorem pack_writer_field.sound : FnOk Try.prog 26 (.st pack_writer_field.w) := FnOk.st_of (evF_ok pack_writer_field.cok mixed (f := 26) (fn := Try.f26) (by kernel_rfl) pack_writer_field.draws) fun args s r h => by
  unfold pack_writer_field.w at h; split at h
  · rw [pack_writer_field.ok std]; exact h
  · simp at h

/-! ### leapfrog/pack.Pack: function 9 -/
def pack_Pack.ctx : Ctx := [(16, .rd pack_Check.w), (26, .st pack_writer_field.w)]
def pack_Pack.l2 (S : Sig) (rec13 : List Value → St → Option Cut) (xs11 : List Value) (s12 : St) : Option Cut :=
  S.bd (bin .lss (xs11.getD 3 undef) (xs11.getD 2 undef)) fun x14 => S.cnd x14 (S.bd (idx s12 14 (xs11.getD 1 undef) (xs11.getD 3 undef)) fun x15 => S.bd (lda s12 14 x15) fun x16 => S.bd (bx (Go.Value.agg #[(Go.Value.int Go.IntKind.i64 0), (Go.Value.int Go.IntKind.u64 0), (Go.Value.int Go.IntKind.i64 0), (Go.Value.bool Bool.false), (Go.Value.slice Option.none 0 0), (Go.Value.int Go.IntKind.i64 0), (Go.Value.int Go.IntKind.u64 0), (Go.Value.int Go.IntKind.i64 0), (Go.Value.int Go.IntKind.u64 0), (Go.Value.int Go.IntKind.i64 0), (Go.Value.int Go.IntKind.i64 0), (Go.Value.int Go.IntKind.u64 0), (Go.Value.int Go.IntKind.i64 0), (Go.Value.int Go.IntKind.u64 0)])) fun c17 => S.bd (stl c17 0 14 x16) fun c18 => S.bd (lal c18 0 14) fun x19 => S.bd (pack_Check.r x19 s12) fun x20 => S.bd (eqb [1] false true x20 (Go.Value.int Go.IntKind.i64 0)) fun x21 => S.cnd x21 (some (1, [(Go.Value.slice Option.none 0 0), x20], s12)) (S.bd (bin .add (xs11.getD 3 undef) (Go.Value.int Go.IntKind.i64 1)) fun x22 => rec13 [(xs11.getD 0 undef), (xs11.getD 1 undef), (xs11.getD 2 undef), x22] s12)) (some (0, [(xs11.getD 0 undef)], s12))

def pack_Pack.l10 (S : Sig) (rec37 : List Value → St → Option Cut) (xs35 : List Value) (s36 : St) : Option Cut :=
  S.bd (bin .lss (xs35.getD 3 undef) (xs35.getD 2 undef)) fun x38 => S.cnd x38 (S.bd (idx s36 14 (xs35.getD 1 undef) (xs35.getD 3 undef)) fun x39 => S.bd (lda s36 14 x39) fun x40 => S.bd (bx (Go.Value.agg #[(Go.Value.int Go.IntKind.i64 0), (Go.Value.int Go.IntKind.u64 0), (Go.Value.int Go.IntKind.i64 0), (Go.Value.bool Bool.false), (Go.Value.slice Option.none 0 0), (Go.Value.int Go.IntKind.i64 0), (Go.Value.int Go.IntKind.u64 0), (Go.Value.int Go.IntKind.i64 0), (Go.Value.int Go.IntKind.u64 0), (Go.Value.int Go.IntKind.i64 0), (Go.Value.int Go.IntKind.i64 0), (Go.Value.int Go.IntKind.u64 0), (Go.Value.int Go.IntKind.i64 0), (Go.Value.int Go.IntKind.u64 0)])) fun c41 => S.bd (stl c41 0 14 x40) fun c42 => S.bd (lal c42 0 14) fun x43 => S.bd (pack_writer_field.v (xs35.getD 0 undef) x43 s36) fun r44 => S.bd (bin .add (xs35.getD 3 undef) (Go.Value.int Go.IntKind.i64 1)) fun x45 => rec37 [(xs35.getD 0 undef), (xs35.getD 1 undef), (xs35.getD 2 undef), x45] r44.2) (some (0, [(xs35.getD 0 undef)], s36))

def pack_Pack.t (S : Sig) (a0 : Value) (s : St) : Option (Value × St) :=
  S.bd (lenL a0) fun x1 => S.bd (S.it (pack_Pack.l2 S) [a0, a0, x1, (Go.Value.int Go.IntKind.i64 0)] s) fun r23 => if r23.1 = 0 then (S.bd (bld [(Go.Value.slice Option.none 0 0)] []) fun x24 => S.bd (alv r23.2.2 x24) fun r25 => S.bd (lenL (r23.2.1.getD 0 undef)) fun x26 => S.bd (S.it (pack_Pack.l10 S) [r25.1, (r23.2.1.getD 0 undef), x26, (Go.Value.int Go.IntKind.i64 0)] r25.2) fun r46 => S.bd (nck (r46.2.1.getD 0 undef)) fun x47 => S.bd (fld 0 x47) fun x48 => S.bd (ldc r46.2.2 x48) fun x49 => some ((Value.tuple ⟨[x49, (Go.Value.int Go.IntKind.i64 0)]⟩), r46.2.2)) else (some ((Value.tuple ⟨[(r23.2.1.getD 0 undef), (r23.2.1.getD 1 undef)]⟩), r23.2.2))
def pack_Pack.v (a0 : Value) (s : St) : Option (Value × St) := pack_Pack.t std a0 s
def pack_Pack.w : List Value → St → Option (Value × St)
  | [a0], s => pack_Pack.v a0 s
  | _, _ => none
def pack_Pack.an : An := ⟨38, false, [5, 9], [(2, ⟨[.v 0, .v 10, .v 11, .v 12], [(.exit 0, [.v 0]), (.ret, [.v 2, .v 3])]⟩), (10, ⟨[.v 7, .v 24, .v 25, .v 26], [(.exit 2, [.v 7])]⟩)], [], [], [], []⟩
theorem pack_Pack.ok (S : Sig) (a0 : Value) (s : St) : evF S Try.prog pack_Pack.ctx pack_Pack.an Try.f9 [a0] s = pack_Pack.t S a0 s := by kernel_rfl
theorem pack_Pack.cok : CtxOk Try.prog pack_Pack.ctx := .cons pack_Check.sound pack_Check.can <| .cons pack_writer_field.sound pack_writer_field.can <| .nil
theorem pack_Pack.draws : fnDraws pack_Pack.an Try.f9 = true := by kernel_rfl
theorem pack_Pack.can : callOk Try.prog 9 = true := by kernel_rfl
theorem pack_Pack.sound : FnOk Try.prog 9 (.st pack_Pack.w) := FnOk.st_of (evF_ok pack_Pack.cok mixed (f := 9) (fn := Try.f9) (by kernel_rfl) pack_Pack.draws) fun args s r h => by
  unfold pack_Pack.w at h; split at h
  · rw [pack_Pack.ok std]; exact h
  · simp at h

/-! ### leapfrog/leapfrogref03.IsKey: function 10 -/
def leapfrogref03x_IsKey.ctx : Ctx := []
def leapfrogref03x_IsKey.t (S : Sig) (a0 : Value) (s : St) : Option Value :=
  S.bd (bx a0) fun c1 => S.bd (lcl c1 0) fun x2 => S.bd (eqb [1] false false x2 (Go.Value.int Go.IntKind.i64 2)) fun x3 => S.bd (S.gd x3 false (lcl c1 1)) fun x4 => S.bd (S.gd x3 false (eqb [1] false false x4 (Go.Value.int Go.IntKind.u64 0))) fun x5 => S.bd (S.gd x3 false (some x5)) fun x6 => S.bd (S.gd x6 true (lcl c1 0)) fun x7 => S.bd (S.gd x6 true (eqb [1] false false x7 (Go.Value.int Go.IntKind.i64 1))) fun x8 => S.bd (S.gd x6 true (some x8)) fun x9 => S.bd (S.gd x9 false (lcl c1 0)) fun x10 => S.bd (S.gd x9 false (eqb [1] false false x10 (Go.Value.int Go.IntKind.i64 3))) fun x11 => S.bd (S.gd x6 true (pik x9 (Go.Value.bool Bool.true) x11)) fun x12 => S.bd (S.gd x3 false (pik x6 x12 (Go.Value.bool Bool.false))) fun x13 => S.bd (pik x3 (Go.Value.bool Bool.true) x13) fun x14 => some (x14)
def leapfrogref03x_IsKey.r (a0 : Value) (s : St) : Option Value := leapfrogref03x_IsKey.t std a0 s
def leapfrogref03x_IsKey.w : List Value → St → Option Value
  | [a0], s => leapfrogref03x_IsKey.r a0 s
  | _, _ => none
def leapfrogref03x_IsKey.an : An := ⟨21, true, [1], [], [], [], [], []⟩
theorem leapfrogref03x_IsKey.ok (S : Sig) (a0 : Value) (s : St) : evG S Try.prog leapfrogref03x_IsKey.ctx leapfrogref03x_IsKey.an Try.f10 [a0] s = leapfrogref03x_IsKey.t S a0 s := by kernel_rfl
theorem leapfrogref03x_IsKey.cok : CtxOk Try.prog leapfrogref03x_IsKey.ctx := .nil
theorem leapfrogref03x_IsKey.draws : fnDraws leapfrogref03x_IsKey.an Try.f10 = true := by kernel_rfl
theorem leapfrogref03x_IsKey.can : callOk Try.prog 10 = true := by kernel_rfl
theorem leapfrogref03x_IsKey.sound : FnOk Try.prog 10 (.rd leapfrogref03x_IsKey.w) := FnOk.rd_of (evG_ok leapfrogref03x_IsKey.cok mixed (f := 10) (fn := Try.f10) (by kernel_rfl) leapfrogref03x_IsKey.draws) fun args s r h => by
  unfold leapfrogref03x_IsKey.w at h; split at h
  · rw [leapfrogref03x_IsKey.ok std]; exact h
  · simp at h

/-! ### leapfrog/pack.is: function 35 -/
def pack_is.ctx : Ctx := [(28, .rd pack_only.w)]
def pack_is.t (S : Sig) (a0 : Value) (s : St) : Option Value :=
  S.bd (bld [(Go.Value.int Go.IntKind.i64 0), (Go.Value.int Go.IntKind.u64 0), (Go.Value.int Go.IntKind.i64 0), (Go.Value.bool Bool.false), (Go.Value.slice Option.none 0 0), (Go.Value.int Go.IntKind.i64 0), (Go.Value.int Go.IntKind.u64 0), (Go.Value.int Go.IntKind.i64 0), (Go.Value.int Go.IntKind.u64 0), (Go.Value.int Go.IntKind.i64 0), (Go.Value.int Go.IntKind.i64 0), (Go.Value.int Go.IntKind.u64 0), (Go.Value.int Go.IntKind.i64 0), (Go.Value.int Go.IntKind.u64 0)] [(0, 1, a0)]) fun x1 => S.bd (pack_only.r x1 s) fun x2 => S.bd (xtr 0 x2) fun x3 => S.bd (xtr 1 x2) fun x4 => S.bd (bx (Go.Value.agg #[(Go.Value.int Go.IntKind.i64 0), (Go.Value.int Go.IntKind.u64 0), (Go.Value.int Go.IntKind.i64 0), (Go.Value.bool Bool.false), (Go.Value.slice Option.none 0 0), (Go.Value.int Go.IntKind.i64 0), (Go.Value.int Go.IntKind.u64 0), (Go.Value.int Go.IntKind.i64 0), (Go.Value.int Go.IntKind.u64 0), (Go.Value.int Go.IntKind.i64 0), (Go.Value.int Go.IntKind.i64 0), (Go.Value.int Go.IntKind.u64 0), (Go.Value.int Go.IntKind.i64 0), (Go.Value.int Go.IntKind.u64 0)])) fun c5 => S.bd (stl c5 0 14 x3) fun c6 => some (x4)
def pack_is.r (a0 : Value) (s : St) : Option Value := pack_is.t std a0 s
def pack_is.w : List Value → St → Option Value
  | [a0], s => pack_is.r a0 s
  | _, _ => none
def pack_is.an : An := ⟨12, true, [3], [], [], [], [], []⟩
theorem pack_is.ok (S : Sig) (a0 : Value) (s : St) : evG S Try.prog pack_is.ctx pack_is.an Try.f35 [a0] s = pack_is.t S a0 s := by kernel_rfl
theorem pack_is.cok : CtxOk Try.prog pack_is.ctx := .cons pack_only.sound pack_only.can <| .nil
theorem pack_is.draws : fnDraws pack_is.an Try.f35 = true := by kernel_rfl
theorem pack_is.can : callOk Try.prog 35 = true := by kernel_rfl
theorem pack_is.sound : FnOk Try.prog 35 (.rd pack_is.w) := FnOk.rd_of (evG_ok pack_is.cok mixed (f := 35) (fn := Try.f35) (by kernel_rfl) pack_is.draws) fun args s r h => by
  unfold pack_is.w at h; split at h
  · rw [pack_is.ok std]; exact h
  · simp at h

/-! ### (*leapfrog/pack.left).peek: function 51 -/
noncomputable def pack_left_peek.ctx : Ctx := []
noncomputable def pack_left_peek.t (S : Sig) (a0 : Value) (s : St) : Option (Bool × Value × St) :=
  S.bd (show Option Cut from S.bd (nck a0) fun x11 => S.bd (fld 1 x11) fun x12 => S.bd (ldc s x12) fun x13 => S.bd (nck a0) fun x14 => S.bd (fld 0 x14) fun x15 => S.bd (ldc s x15) fun x16 => S.bd (lenL x16) fun x17 => S.bd (bin .geq x13 x17) fun x18 => S.cnd x18 (S.bd (bld [(Go.Value.int Go.IntKind.i64 0)] [(0, 1, (Go.Value.int Go.IntKind.i64 32))]) fun x19 => S.bd (panV (Value.iface 82 x19) s) fun q20 => S.cnd (Value.bool q20.1) (some (0, [a0], q20.2.2)) (some (1, [q20.2.1], q20.2.2))) (some (0, [a0], s))) fun r21 => if r21.1 = 0 then (S.bd (nck (r21.2.1.getD 0 undef)) fun x22 => S.bd (fld 0 x22) fun x23 => S.bd (ldc r21.2.2 x23) fun x24 => S.bd (nck (r21.2.1.getD 0 undef)) fun x25 => S.bd (fld 1 x25) fun x26 => S.bd (ldc r21.2.2 x26) fun x27 => S.bd (idx r21.2.2 1 x24 x27) fun x28 => S.bd (ldc r21.2.2 x28) fun x29 => some (true, x29, r21.2.2)) else (some (false, (r21.2.1.getD 0 undef), r21.2.2))
noncomputable def pack_left_peek.q (a0 : Value) (s : St) : Option (Bool × Value × St) := pack_left_peek.t std a0 s
noncomputable def pack_left_peek.w : List Value → St → Option (Bool × Value × St)
  | [a0], s => pack_left_peek.q a0 s
  | _, _ => none
noncomputable def pack_left_peek.an : An := ⟨25, false, [], [], [(3, ⟨[], [(.normal, [.v 0]), (.pan undef, [])]⟩)], [(1, [(0, 0, [], []), (1, 0, [], []), (2, 0, [], []), (3, 2, [], []), (4, 0, [], []), (5, 0, [], []), (6, 0, [], []), (7, 2, [], []), (8, 2, [], []), (9, 0, [], [])]), (3, [(0, 0, [], []), (1, 0, [], []), (2, 0, [], []), (3, 2, [], []), (4, 0, [], []), (5, 0, [], []), (6, 0, [], []), (7, 2, [], []), (8, 2, [], []), (9, 2, [], []), (10, 0, [], [])])], [], []⟩
theorem pack_left_peek.ok (S : Sig) (a0 : Value) (s : St) : evP S Try.prog pack_left_peek.ctx pack_left_peek.an Try.f51 [a0] s = pack_left_peek.t S a0 s := by kernel_rfl
theorem pack_left_peek.cok : CtxOk Try.prog pack_left_peek.ctx := .nil
theorem pack_left_peek.draws : fnDraws pack_left_peek.an Try.f51 = true := by kernel_rfl
theorem pack_left_peek.can : callOk Try.prog 51 = true := by kernel_rfl
theorem pack_left_peek.sound : FnOk Try.prog 51 (.pn pack_left_peek.w) := FnOk.pn_of (evP_ok pack_left_peek.cok mixed (f := 51) (fn := Try.f51) (by kernel_rfl) pack_left_peek.draws) fun args s r h => by
  unfold pack_left_peek.w at h; split at h
  · rw [pack_left_peek.ok std]; exact h
  · simp at h

/-! ### leapfrog/pack.fits: function 61 -/
def pack_fits.ctx : Ctx := []
def pack_fits.t (S : Sig) (a0 a1 a2 a3 : Value) (s : St) : Option Value :=
  S.bd (eqb [1] false false a3 (Go.Value.int Go.IntKind.u64 18446744073709551615)) fun x1 => S.cnd x1 (some ((Go.Value.bool Bool.true))) (S.bd (bin .gtr a1 (Go.Value.int Go.IntKind.i64 28)) fun x2 => S.cnd x2 (some ((Go.Value.bool Bool.false))) (S.bd (bin .and a2 (Go.Value.int Go.IntKind.u8 127)) fun x3 => S.bd (cvi .u64 x3) fun x4 => S.bd (cvi .u64 a1) fun x5 => S.bd (bin .shl x4 x5) fun x6 => S.bd (bin .add a0 x6) fun x7 => S.bd (show Option Cut from S.bd (bin .geq a2 (Go.Value.int Go.IntKind.u8 128)) fun x13 => S.cnd x13 (S.bd (bin .add a1 (Go.Value.int Go.IntKind.i64 7)) fun x14 => S.bd (cvi .u64 x14) fun x15 => S.bd (bin .shl (Go.Value.int Go.IntKind.u64 1) x15) fun x16 => S.bd (bin .add x7 x16) fun x17 => some (0, [x17, a3], s)) (some (0, [x7, a3], s))) fun r18 => S.bd (bin .leq (r18.2.1.getD 0 undef) (r18.2.1.getD 1 undef)) fun x19 => some (x19)))
def pack_fits.r (a0 a1 a2 a3 : Value) (s : St) : Option Value := pack_fits.t std a0 a1 a2 a3 s
def pack_fits.w : List Value → St → Option Value
  | [a0, a1, a2, a3], s => pack_fits.r a0 a1 a2 a3 s
  | _, _ => none
def pack_fits.an : An := ⟨32, true, [], [], [(8, ⟨[], [(.normal, [.v 0, .v 3])]⟩)], [], [], []⟩
theorem pack_fits.ok (S : Sig) (a0 a1 a2 a3 : Value) (s : St) : evG S Try.prog pack_fits.ctx pack_fits.an Try.f61 [a0, a1, a2, a3] s = pack_fits.t S a0 a1 a2 a3 s := by kernel_rfl
theorem pack_fits.cok : CtxOk Try.prog pack_fits.ctx := .nil
theorem pack_fits.draws : fnDraws pack_fits.an Try.f61 = true := by kernel_rfl
theorem pack_fits.can : callOk Try.prog 61 = true := by kernel_rfl
theorem pack_fits.sound : FnOk Try.prog 61 (.rd pack_fits.w) := FnOk.rd_of (evG_ok pack_fits.cok mixed (f := 61) (fn := Try.f61) (by kernel_rfl) pack_fits.draws) fun args s r h => by
  unfold pack_fits.w at h; split at h
  · rw [pack_fits.ok std]; exact h
  · simp at h

/-! ### (*leapfrog/pack.left).next: function 52 -/
noncomputable def pack_left_next.ctx : Ctx := [(51, .pn pack_left_peek.w)]
noncomputable def pack_left_next.t (S : Sig) (a0 a1 : Value) (s : St) : Option (Bool × Value × St) :=
  S.bd (show Option Cut from S.bd (un .not a1) fun x4 => S.cnd x4 (S.bd (bld [(Go.Value.int Go.IntKind.i64 0)] [(0, 1, (Go.Value.int Go.IntKind.i64 31))]) fun x5 => S.bd (panV (Value.iface 82 x5) s) fun q6 => S.cnd (Value.bool q6.1) (some (0, [a0], q6.2.2)) (some (1, [q6.2.1], q6.2.2))) (some (0, [a0], s))) fun r7 => if r7.1 = 0 then (S.bd (pack_left_peek.q (r7.2.1.getD 0 undef) r7.2.2) fun q8 => S.cnd (Value.bool q8.1) (S.bd (nck (r7.2.1.getD 0 undef)) fun x9 => S.bd (fld 1 x9) fun x10 => S.bd (ldc q8.2.2 x10) fun x11 => S.bd (bin .add x11 (Go.Value.int Go.IntKind.i64 1)) fun x12 => S.bd (nck (r7.2.1.getD 0 undef)) fun x13 => S.bd (fld 1 x13) fun x14 => S.bd (stv q8.2.2 1 x14 x12) fun s15 => some (true, q8.2.1, s15)) (some (false, q8.2.1, q8.2.2))) else (some (false, (r7.2.1.getD 0 undef), r7.2.2))
noncomputable def pack_left_next.q (a0 a1 : Value) (s : St) : Option (Bool × Value × St) := pack_left_next.t std a0 a1 s
noncomputable def pack_left_next.w : List Value → St → Option (Bool × Value × St)
  | [a0, a1], s => pack_left_next.q a0 a1 s
  | _, _ => none
noncomputable def pack_left_next.an : An := ⟨20, false, [], [], [(3, ⟨[], [(.normal, [.v 0]), (.pan undef, [])]⟩)], [], [], []⟩
theorem pack_left_next.ok (S : Sig) (a0 a1 : Value) (s : St) : evP S Try.prog pack_left_next.ctx pack_left_next.an Try.f52 [a0, a1] s = pack_left_next.t S a0 a1 s := by kernel_rfl
theorem pack_left_next.cok : CtxOk Try.prog pack_left_next.ctx := .cons pack_left_peek.sound pack_left_peek.can <| .nil
theorem pack_left_next.draws : fnDraws pack_left_next.an Try.f52 = true := by kernel_rfl
theorem pack_left_next.can : callOk Try.prog 52 = true := by kernel_rfl
theorem pack_left_next.sound : FnOk Try.prog 52 (.pn pack_left_next.w) := FnOk.pn_of (evP_ok pack_left_next.cok mixed (f := 52) (fn := Try.f52) (by kernel_rfl) pack_left_next.draws) fun args s r h => by
  unfold pack_left_next.w at h; split at h
  · rw [pack_left_next.ok std]; exact h
  · simp at h

/-! ### (*leapfrog/pack.reader).number: function 49 -/
noncomputable def pack_reader_number.ctx : Ctx := [(51, .pn pack_left_peek.w), (61, .rd pack_fits.w), (52, .pn pack_left_next.w)]
noncomputable def pack_reader_number.l4.p1 (S : Sig) (xs35 : List Value) (q40 : Bool × Value × St) (rec37 : List Value → St → Option Cut) : Option Cut :=
  S.bd (nck (xs35.getD 0 undef)) fun x41 => S.bd (fld 0 x41) fun x42 => S.bd (bin .gtr (xs35.getD 3 undef) (Go.Value.int Go.IntKind.i64 0)) fun x43 => S.bd (S.gd x43 true (some q40.2.1)) fun x44 => S.bd (S.gd x43 true (eqb [1] false false x44 (Go.Value.int Go.IntKind.u8 0))) fun x45 => S.bd (pik x43 x45 (Go.Value.bool Bool.false)) fun x46 => S.bd (un .not x46) fun x47 => S.bd (S.gd x47 true (some (xs35.getD 3 undef))) fun x48 => S.bd (S.gd x47 true (eqb [1] false false x48 (Go.Value.int Go.IntKind.i64 9))) fun x49 => S.bd (S.gd x47 true (some x49)) fun x50 => S.bd (S.gd x50 true (some q40.2.1)) fun x51 => S.bd (S.gd x50 true (eqb [1] false true x51 (Go.Value.int Go.IntKind.u8 1))) fun x52 => S.bd (S.gd x47 true (pik x50 x52 (Go.Value.bool Bool.false))) fun x53 => S.bd (S.gd x47 true (un .not x53)) fun x54 => S.bd (pik x47 x54 (Go.Value.bool Bool.false)) fun x55 => S.bd (S.gd x55 true (some (xs35.getD 2 undef))) fun x56 => S.bd (S.gd x55 true (some (xs35.getD 3 undef))) fun x57 => S.bd (S.gd x55 true (bin .mul (Go.Value.int Go.IntKind.i64 7) x57)) fun x58 => S.bd (S.gd x55 true (some q40.2.1)) fun x59 => S.bd (S.gd x55 true (some (xs35.getD 1 undef))) fun x60 => S.bd (S.gd x55 true (pack_fits.r x56 x58 x59 x60 q40.2.2)) fun x61 => S.bd (pik x55 x61 (Go.Value.bool Bool.false)) fun x62 => S.bd (pack_left_next.q x42 x62 q40.2.2) fun q63 => S.cnd (Value.bool q63.1) (S.bd (bin .and q40.2.1 (Go.Value.int Go.IntKind.u8 127)) fun x64 => S.bd (cvi .u64 x64) fun x65 => S.bd (bin .mul (Go.Value.int Go.IntKind.i64 7) (xs35.getD 3 undef)) fun x66 => S.bd (cvi .u64 x66) fun x67 => S.bd (bin .shl x65 x67) fun x68 => S.bd (bin .or (xs35.getD 2 undef) x68) fun x69 => S.bd (bin .lss q40.2.1 (Go.Value.int Go.IntKind.u8 128)) fun x70 => S.cnd x70 (some (1, [x69], q63.2.2)) (S.bd (bin .add (xs35.getD 3 undef) (Go.Value.int Go.IntKind.i64 1)) fun x71 => rec37 [(xs35.getD 0 undef), (xs35.getD 1 undef), x69, x71] q63.2.2)) (some (0, [q63.2.1], q63.2.2))

noncomputable def pack_reader_number.l4 (S : Sig) (rec37 : List Value → St → Option Cut) (xs35 : List Value) (s36 : St) : Option Cut :=
  S.bd (nck (xs35.getD 0 undef)) fun x38 => S.bd (fld 0 x38) fun x39 => S.bd (pack_left_peek.q x39 s36) fun q40 => S.cnd (Value.bool q40.1) (pack_reader_number.l4.p1 S xs35 q40 rec37) (some (0, [q40.2.1], q40.2.2))

noncomputable def pack_reader_number.t (S : Sig) (a0 a1 : Value) (s : St) : Option (Bool × Value × St) :=
  S.bd (S.it (pack_reader_number.l4 S) [a0, a1, (Go.Value.int Go.IntKind.u64 0), (Go.Value.int Go.IntKind.i64 0)] s) fun r72 => if r72.1 = 0 then (some (false, (r72.2.1.getD 0 undef), r72.2.2)) else (some (true, (r72.2.1.getD 0 undef), r72.2.2))
noncomputable def pack_reader_number.q (a0 a1 : Value) (s : St) : Option (Bool × Value × St) := pack_reader_number.t std a0 a1 s
noncomputable def pack_reader_number.w : List Value → St → Option (Bool × Value × St)
  | [a0, a1], s => pack_reader_number.q a0 a1 s
  | _, _ => none
noncomputable def pack_reader_number.an : An := ⟨54, false, [], [(4, ⟨[.v 0, .v 1, .v 5, .v 6], [(.pan undef, []), (.ret, [.v 4])]⟩)], [], [(5, [(0, 0, [], []), (1, 0, [], []), (2, 0, [], []), (3, 0, [], []), (4, 0, [], []), (5, 0, [], []), (6, 0, [], []), (7, 0, [], []), (8, 0, [], []), (9, 0, [], []), (10, 0, [], []), (11, 0, [], []), (12, 0, [], []), (13, 0, [], []), (14, 0, [], []), (15, 0, [], []), (16, 0, [], []), (17, 0, [], []), (18, 0, [], []), (19, 0, [], []), (20, 0, [], []), (21, 0, [], []), (22, 0, [], []), (23, 0, [], []), (24, 0, [], []), (25, 3, [], []), (26, 0, [], []), (27, 4, [], [])])], [], []⟩
theorem pack_reader_number.ok (S : Sig) (a0 a1 : Value) (s : St) : evP S Try.prog pack_reader_number.ctx pack_reader_number.an Try.f49 [a0, a1] s = pack_reader_number.t S a0 a1 s := by kernel_rfl
theorem pack_reader_number.cok : CtxOk Try.prog pack_reader_number.ctx := .cons pack_left_peek.sound pack_left_peek.can <| .cons pack_fits.sound pack_fits.can <| .cons pack_left_next.sound pack_left_next.can <| .nil
theorem pack_reader_number.draws : fnDraws pack_reader_number.an Try.f49 = true := by kernel_rfl
theorem pack_reader_number.can : callOk Try.prog 49 = true := by kernel_rfl
theorem pack_reader_number.sound : FnOk Try.prog 49 (.pn pack_reader_number.w) := FnOk.pn_of (evP_ok pack_reader_number.cok mixed (f := 49) (fn := Try.f49) (by kernel_rfl) pack_reader_number.draws) fun args s r h => by
  unfold pack_reader_number.w at h; split at h
  · rw [pack_reader_number.ok std]; exact h
  · simp at h

/-! ### (*leapfrog/pack.reader).int: function 50 -/
noncomputable def pack_reader_int.ctx : Ctx := [(49, .pn pack_reader_number.w)]
noncomputable def pack_reader_int.t (S : Sig) (a0 : Value) (s : St) : Option (Bool × Value × St) :=
  S.bd (pack_reader_number.q a0 (Go.Value.int Go.IntKind.u64 18446744073709551615) s) fun q1 => S.cnd (Value.bool q1.1) (S.bd (bin .shr q1.2.1 (Go.Value.int Go.IntKind.u64 1)) fun x2 => S.bd (cvi .i64 x2) fun x3 => S.bd (bin .and q1.2.1 (Go.Value.int Go.IntKind.u64 1)) fun x4 => S.bd (cvi .i64 x4) fun x5 => S.bd (un .neg x5) fun x6 => S.bd (bin .xor x3 x6) fun x7 => some (true, x7, q1.2.2)) (some (false, q1.2.1, q1.2.2))
noncomputable def pack_reader_int.q (a0 : Value) (s : St) : Option (Bool × Value × St) := pack_reader_int.t std a0 s
noncomputable def pack_reader_int.w : List Value → St → Option (Bool × Value × St)
  | [a0], s => pack_reader_int.q a0 s
  | _, _ => none
noncomputable def pack_reader_int.an : An := ⟨14, false, [], [], [], [], [], []⟩
theorem pack_reader_int.ok (S : Sig) (a0 : Value) (s : St) : evP S Try.prog pack_reader_int.ctx pack_reader_int.an Try.f50 [a0] s = pack_reader_int.t S a0 s := by kernel_rfl
theorem pack_reader_int.cok : CtxOk Try.prog pack_reader_int.ctx := .cons pack_reader_number.sound pack_reader_number.can <| .nil
theorem pack_reader_int.draws : fnDraws pack_reader_int.an Try.f50 = true := by kernel_rfl
theorem pack_reader_int.can : callOk Try.prog 50 = true := by kernel_rfl
theorem pack_reader_int.sound : FnOk Try.prog 50 (.pn pack_reader_int.w) := FnOk.pn_of (evP_ok pack_reader_int.cok mixed (f := 50) (fn := Try.f50) (by kernel_rfl) pack_reader_int.draws) fun args s r h => by
  unfold pack_reader_int.w at h; split at h
  · rw [pack_reader_int.ok std]; exact h
  · simp at h

/-! ### (*leapfrog/pack.reader).vector: function 53 -/
noncomputable def pack_reader_vector.ctx : Ctx := [(51, .pn pack_left_peek.w), (52, .pn pack_left_next.w)]
noncomputable def pack_reader_vector.l5 (S : Sig) (rec38 : List Value → St → Option Cut) (xs36 : List Value) (s37 : St) : Option Cut :=
  S.bd (bin .gtr (xs36.getD 1 undef) (Go.Value.int Go.IntKind.i64 0)) fun x39 => S.cnd x39 (S.bd (nck (xs36.getD 0 undef)) fun x40 => S.bd (fld 0 x40) fun x41 => S.bd (pack_left_peek.q x41 s37) fun q42 => S.cnd (Value.bool q42.1) (S.bd (bin .sub (Go.Value.int Go.IntKind.i64 8) (xs36.getD 1 undef)) fun x43 => S.bd (mx2 x43 (Go.Value.int Go.IntKind.i64 0)) fun x44 => S.bd (cvi .u64 x44) fun x45 => S.bd (nck (xs36.getD 0 undef)) fun x46 => S.bd (fld 0 x46) fun x47 => S.bd (bin .shl (Go.Value.int Go.IntKind.u8 1) x45) fun x48 => S.bd (bin .sub x48 (Go.Value.int Go.IntKind.u8 1)) fun x49 => S.bd (bin .and q42.2.1 x49) fun x50 => S.bd (eqb [1] false false x50 (Go.Value.int Go.IntKind.u8 0)) fun x51 => S.bd (pack_left_next.q x47 x51 q42.2.2) fun q52 => S.cnd (Value.bool q52.1) (S.bd (lcl (cellsA (xs36.getD 3 undef)) 1) fun x53 => S.bd (bin .sub (Go.Value.int Go.IntKind.u64 8) x45) fun x54 => S.bd (bin .shl x53 x54) fun x55 => S.bd (bin .shr q42.2.1 x45) fun x56 => S.bd (cvi .u64 x56) fun x57 => S.bd (bin .or x55 x57) fun x58 => S.bd (stl (cellsA (xs36.getD 3 undef)) 1 1 x58) fun c59 => S.bd (bin .sub (xs36.getD 1 undef) (Go.Value.int Go.IntKind.i64 8)) fun x60 => rec38 [(xs36.getD 0 undef), x60, (Value.agg ⟨(cellsA (xs36.getD 2 undef))⟩), (Value.agg ⟨c59⟩)] q52.2.2) (some (1, [q52.2.1], q52.2.2))) (some (1, [q42.2.1], q42.2.2))) (some (0, [(Value.agg ⟨(cellsA (xs36.getD 2 undef))⟩), (Value.agg ⟨(cellsA (xs36.getD 3 undef))⟩)], s37))

noncomputable def pack_reader_vector.t (S : Sig) (a0 : Value) (s : St) : Option (Bool × Value × St) :=
  S.bd (bx (Go.Value.agg #[(Go.Value.int Go.IntKind.i64 0), (Go.Value.int Go.IntKind.u64 0)])) fun c1 => S.bd (nck a0) fun x2 => S.bd (fld 0 x2) fun x3 => S.bd (pack_left_peek.q x3 s) fun q4 => S.cnd (Value.bool q4.1) (S.bd (nck a0) fun x5 => S.bd (fld 0 x5) fun x6 => S.bd (bin .leq q4.2.1 (Go.Value.int Go.IntKind.u8 32)) fun x7 => S.bd (pack_left_next.q x6 x7 q4.2.2) fun q8 => S.cnd (Value.bool q8.1) (S.bd (cvi .i64 q4.2.1) fun x9 => S.bd (bld [(Go.Value.int Go.IntKind.i64 0), (Go.Value.int Go.IntKind.u64 0)] [(0, 1, x9)]) fun x10 => S.bd (bx (Go.Value.agg #[(Go.Value.int Go.IntKind.i64 0), (Go.Value.int Go.IntKind.u64 0)])) fun c11 => S.bd (stl c11 0 2 x10) fun c12 => S.bd (cvi .i64 q4.2.1) fun x13 => S.bd (S.it (pack_reader_vector.l5 S) [a0, x13, (Value.agg ⟨c1⟩), (Value.agg ⟨c12⟩)] q8.2.2) fun r61 => if r61.1 = 0 then (S.bd (lal (cellsA (r61.2.1.getD 1 undef)) 0 2) fun x62 => S.bd (stl (cellsA (r61.2.1.getD 0 undef)) 0 2 x62) fun c63 => S.bd (lal c63 0 2) fun x64 => some (true, x64, r61.2.2)) else (some (false, (r61.2.1.getD 0 undef), r61.2.2))) (some (false, q8.2.1, q8.2.2))) (some (false, q4.2.1, q4.2.2))
noncomputable def pack_reader_vector.q (a0 : Value) (s : St) : Option (Bool × Value × St) := pack_reader_vector.t std a0 s
noncomputable def pack_reader_vector.w : List Value → St → Option (Bool × Value × St)
  | [a0], s => pack_reader_vector.q a0 s
  | _, _ => none
noncomputable def pack_reader_vector.an : An := ⟨57, false, [2, 4], [(5, ⟨[.v 0, .p 2 2 0, .p 4 4 0, .v 5, .l 2, .l 4], [(.exit 0, [.p 2 2 0, .p 4 4 0, .l 2, .l 4]), (.pan undef, [])]⟩)], [], [], [], []⟩
theorem pack_reader_vector.ok (S : Sig) (a0 : Value) (s : St) : evP S Try.prog pack_reader_vector.ctx pack_reader_vector.an Try.f53 [a0] s = pack_reader_vector.t S a0 s := by kernel_rfl
theorem pack_reader_vector.cok : CtxOk Try.prog pack_reader_vector.ctx := .cons pack_left_peek.sound pack_left_peek.can <| .cons pack_left_next.sound pack_left_next.can <| .nil
theorem pack_reader_vector.draws : fnDraws pack_reader_vector.an Try.f53 = true := by kernel_rfl
theorem pack_reader_vector.can : callOk Try.prog 53 = true := by kernel_rfl
theorem pack_reader_vector.sound : FnOk Try.prog 53 (.pn pack_reader_vector.w) := FnOk.pn_of (evP_ok pack_reader_vector.cok mixed (f := 53) (fn := Try.f53) (by kernel_rfl) pack_reader_vector.draws) fun args s r h => by
  unfold pack_reader_vector.w at h; split at h
  · rw [pack_reader_vector.ok std]; exact h
  · simp at h

/-! ### (*leapfrog/pack.reader).key: function 54 -/
noncomputable def pack_reader_key.ctx : Ctx := [(51, .pn pack_left_peek.w), (52, .pn pack_left_next.w)]
noncomputable def pack_reader_key.l6 (S : Sig) (rec30 : List Value → St → Option Cut) (xs28 : List Value) (s29 : St) : Option Cut :=
  S.bd (bin .lss (xs28.getD 1 undef) (Go.Value.int Go.IntKind.i64 8)) fun x31 => S.cnd x31 (S.bd (lcl (cellsA (xs28.getD 3 undef)) 1) fun x32 => S.bd (bin .shl x32 (Go.Value.int Go.IntKind.u64 8)) fun x33 => S.bd (nck (xs28.getD 0 undef)) fun x34 => S.bd (fld 0 x34) fun x35 => S.bd (pack_left_next.q x35 (Go.Value.bool Bool.true) s29) fun q36 => S.cnd (Value.bool q36.1) (S.bd (cvi .u64 q36.2.1) fun x37 => S.bd (bin .or x33 x37) fun x38 => S.bd (stl (cellsA (xs28.getD 3 undef)) 1 1 x38) fun c39 => S.bd (bin .add (xs28.getD 1 undef) (Go.Value.int Go.IntKind.i64 1)) fun x40 => rec30 [(xs28.getD 0 undef), x40, (Value.agg ⟨(cellsA (xs28.getD 2 undef))⟩), (Value.agg ⟨c39⟩)] q36.2.2) (some (1, [q36.2.1], q36.2.2))) (some (0, [(Value.agg ⟨(cellsA (xs28.getD 2 undef))⟩), (Value.agg ⟨(cellsA (xs28.getD 3 undef))⟩)], s29))

noncomputable def pack_reader_key.t (S : Sig) (a0 : Value) (s : St) : Option (Bool × Value × St) :=
  S.bd (bx (Go.Value.agg #[(Go.Value.int Go.IntKind.i64 0), (Go.Value.int Go.IntKind.u64 0)])) fun c1 => S.bd (nck a0) fun x2 => S.bd (fld 0 x2) fun x3 => S.bd (pack_left_peek.q x3 s) fun q4 => S.cnd (Value.bool q4.1) (S.bd (nck a0) fun x5 => S.bd (fld 0 x5) fun x6 => S.bd (bin .geq q4.2.1 (Go.Value.int Go.IntKind.u8 1)) fun x7 => S.bd (S.gd x7 true (some q4.2.1)) fun x8 => S.bd (S.gd x7 true (bin .leq x8 (Go.Value.int Go.IntKind.u8 3))) fun x9 => S.bd (pik x7 x9 (Go.Value.bool Bool.false)) fun x10 => S.bd (pack_left_next.q x6 x10 q4.2.2) fun q11 => S.cnd (Value.bool q11.1) (S.bd (cvi .i64 q4.2.1) fun x12 => S.bd (bld [(Go.Value.int Go.IntKind.i64 0), (Go.Value.int Go.IntKind.u64 0)] [(0, 1, x12)]) fun x13 => S.bd (bx (Go.Value.agg #[(Go.Value.int Go.IntKind.i64 0), (Go.Value.int Go.IntKind.u64 0)])) fun c14 => S.bd (stl c14 0 2 x13) fun c15 => S.bd (lcl c15 0) fun x16 => S.bd (eqb [1] false false x16 (Go.Value.int Go.IntKind.i64 2)) fun x17 => S.cnd x17 (S.bd (S.it (pack_reader_key.l6 S) [a0, (Go.Value.int Go.IntKind.i64 0), (Value.agg ⟨c1⟩), (Value.agg ⟨c15⟩)] q11.2.2) fun r41 => if r41.1 = 0 then (S.bd (lal (cellsA (r41.2.1.getD 1 undef)) 0 2) fun x42 => S.bd (stl (cellsA (r41.2.1.getD 0 undef)) 0 2 x42) fun c43 => S.bd (lal c43 0 2) fun x44 => some (true, x44, r41.2.2)) else (some (false, (r41.2.1.getD 0 undef), r41.2.2))) (S.bd (lal c15 0 2) fun x45 => S.bd (stl c1 0 2 x45) fun c46 => S.bd (lal c46 0 2) fun x47 => some (true, x47, q11.2.2))) (some (false, q11.2.1, q11.2.2))) (some (false, q4.2.1, q4.2.2))
noncomputable def pack_reader_key.q (a0 : Value) (s : St) : Option (Bool × Value × St) := pack_reader_key.t std a0 s
noncomputable def pack_reader_key.w : List Value → St → Option (Bool × Value × St)
  | [a0], s => pack_reader_key.q a0 s
  | _, _ => none
noncomputable def pack_reader_key.an : An := ⟨39, false, [2, 4], [(6, ⟨[.v 0, .p 2 2 0, .p 4 4 0, .v 25, .l 2, .l 4], [(.exit 0, [.p 2 2 0, .p 4 4 0, .l 2, .l 4]), (.pan undef, [])]⟩)], [], [(7, [(0, 0, [], []), (1, 33, [], []), (2, 0, [], []), (3, 0, [], []), (4, 0, [], []), (5, 0, [], []), (6, 4, [], []), (7, 0, [], []), (8, 0, [], []), (9, 0, [], []), (10, 37, [], [])])], [], []⟩
theorem pack_reader_key.ok (S : Sig) (a0 : Value) (s : St) : evP S Try.prog pack_reader_key.ctx pack_reader_key.an Try.f54 [a0] s = pack_reader_key.t S a0 s := by kernel_rfl
theorem pack_reader_key.cok : CtxOk Try.prog pack_reader_key.ctx := .cons pack_left_peek.sound pack_left_peek.can <| .cons pack_left_next.sound pack_left_next.can <| .nil
theorem pack_reader_key.draws : fnDraws pack_reader_key.an Try.f54 = true := by kernel_rfl
theorem pack_reader_key.can : callOk Try.prog 54 = true := by kernel_rfl
theorem pack_reader_key.sound : FnOk Try.prog 54 (.pn pack_reader_key.w) := FnOk.pn_of (evP_ok pack_reader_key.cok mixed (f := 54) (fn := Try.f54) (by kernel_rfl) pack_reader_key.draws) fun args s r h => by
  unfold pack_reader_key.w at h; split at h
  · rw [pack_reader_key.ok std]; exact h
  · simp at h

/-! ### (*leapfrog/pack.reader).field: function 37 -/
noncomputable def pack_reader_field.ctx : Ctx := [(49, .pn pack_reader_number.w), (50, .pn pack_reader_int.w), (51, .pn pack_left_peek.w), (52, .pn pack_left_next.w), (53, .pn pack_reader_vector.w), (54, .pn pack_reader_key.w)]
noncomputable def pack_reader_field.l12 (S : Sig) (rec43 : List Value → St → Option Cut) (xs41 : List Value) (s42 : St) : Option Cut :=
  S.bd (bin .lss (xs41.getD 2 undef) (xs41.getD 1 undef)) fun x44 => S.cnd x44 (S.bd (lcl (cellsA (xs41.getD 4 undef)) 4) fun x45 => S.bd (nck (xs41.getD 0 undef)) fun x46 => S.bd (fld 0 x46) fun x47 => S.bd (pack_left_next.q x47 (Go.Value.bool Bool.true) s42) fun q48 => S.cnd (Value.bool q48.1) (S.bd (S.bd (bls 1 (List.replicate 1 [(Go.Value.int Go.IntKind.u8 0)]) [(0, q48.2.1)]) fun rows => als q48.2.2 1 1 rows) fun r49 => S.bd (app r49.2 1 1 x45 r49.1) fun r50 => S.bd (stl (cellsA (xs41.getD 4 undef)) 4 1 r50.1) fun c51 => S.bd (bin .add (xs41.getD 2 undef) (Go.Value.int Go.IntKind.u64 1)) fun x52 => rec43 [(xs41.getD 0 undef), (xs41.getD 1 undef), x52, (Value.agg ⟨(cellsA (xs41.getD 3 undef))⟩), (Value.agg ⟨c51⟩)] r50.2) (some (1, [q48.2.1], q48.2.2))) (some (0, [(Value.agg ⟨(cellsA (xs41.getD 3 undef))⟩), (Value.agg ⟨(cellsA (xs41.getD 4 undef))⟩)], s42))

noncomputable def pack_reader_field.t.p1 (S : Sig) (a1 : Value) (a0 : Value) (s : St) (c1 : List Value) (c4 : List Value) : Option (Bool × Value × St) :=
  S.bd (eqb [1] false false a1 (Go.Value.int Go.IntKind.i64 4)) fun x30 => S.cnd x30 (S.bd (pack_reader_number.q a0 (Go.Value.int Go.IntKind.u64 65536) s) fun q31 => S.cnd (Value.bool q31.1) (S.bd (S.it (pack_reader_field.l12 S) [a0, q31.2.1, (Go.Value.int Go.IntKind.u64 0), (Value.agg ⟨c1⟩), (Value.agg ⟨c4⟩)] q31.2.2) fun r53 => if r53.1 = 0 then (S.bd (lal (cellsA (r53.2.1.getD 1 undef)) 0 14) fun x54 => S.bd (stl (cellsA (r53.2.1.getD 0 undef)) 0 14 x54) fun c55 => S.bd (lal c55 0 14) fun x56 => some (true, x56, r53.2.2)) else (some (false, (r53.2.1.getD 0 undef), r53.2.2))) (some (false, q31.2.1, q31.2.2))) (S.bd (eqb [1] false false a1 (Go.Value.int Go.IntKind.i64 5)) fun x57 => S.cnd x57 (S.bd (pack_reader_vector.q a0 s) fun q58 => S.cnd (Value.bool q58.1) (S.bd (stl c4 5 2 q58.2.1) fun c59 => S.bd (lal c59 0 14) fun x60 => S.bd (stl c1 0 14 x60) fun c61 => S.bd (lal c61 0 14) fun x62 => some (true, x62, q58.2.2)) (some (false, q58.2.1, q58.2.2))) (S.bd (eqb [1] false false a1 (Go.Value.int Go.IntKind.i64 6)) fun x63 => S.cnd x63 (S.bd (pack_reader_key.q a0 s) fun q64 => S.cnd (Value.bool q64.1) (S.bd (stl c4 7 2 q64.2.1) fun c65 => S.bd (lal c65 0 14) fun x66 => S.bd (stl c1 0 14 x66) fun c67 => S.bd (lal c67 0 14) fun x68 => some (true, x68, q64.2.2)) (some (false, q64.2.1, q64.2.2))) (S.bd (eqb [1] false false a1 (Go.Value.int Go.IntKind.i64 7)) fun x69 => S.cnd x69 (S.bd (pack_reader_int.q a0 s) fun q70 => S.cnd (Value.bool q70.1) (S.bd (stl c4 9 1 q70.2.1) fun c71 => S.bd (pack_reader_key.q a0 q70.2.2) fun q72 => S.cnd (Value.bool q72.1) (S.bd (stl c71 10 2 q72.2.1) fun c73 => S.bd (pack_reader_vector.q a0 q72.2.2) fun q74 => S.cnd (Value.bool q74.1) (S.bd (stl c73 12 2 q74.2.1) fun c75 => S.bd (lal c75 0 14) fun x76 => S.bd (stl c1 0 14 x76) fun c77 => S.bd (lal c77 0 14) fun x78 => some (true, x78, q74.2.2)) (some (false, q74.2.1, q74.2.2))) (some (false, q72.2.1, q72.2.2))) (some (false, q70.2.1, q70.2.2))) (S.bd (lal c4 0 14) fun x79 => S.bd (stl c1 0 14 x79) fun c80 => S.bd (lal c80 0 14) fun x81 => some (true, x81, s)))))

noncomputable def pack_reader_field.t (S : Sig) (a0 a1 : Value) (s : St) : Option (Bool × Value × St) :=
  S.bd (bx (Go.Value.agg #[(Go.Value.int Go.IntKind.i64 0), (Go.Value.int Go.IntKind.u64 0), (Go.Value.int Go.IntKind.i64 0), (Go.Value.bool Bool.false), (Go.Value.slice Option.none 0 0), (Go.Value.int Go.IntKind.i64 0), (Go.Value.int Go.IntKind.u64 0), (Go.Value.int Go.IntKind.i64 0), (Go.Value.int Go.IntKind.u64 0), (Go.Value.int Go.IntKind.i64 0), (Go.Value.int Go.IntKind.i64 0), (Go.Value.int Go.IntKind.u64 0), (Go.Value.int Go.IntKind.i64 0), (Go.Value.int Go.IntKind.u64 0)])) fun c1 => S.bd (bld [(Go.Value.int Go.IntKind.i64 0), (Go.Value.int Go.IntKind.u64 0), (Go.Value.int Go.IntKind.i64 0), (Go.Value.bool Bool.false), (Go.Value.slice Option.none 0 0), (Go.Value.int Go.IntKind.i64 0), (Go.Value.int Go.IntKind.u64 0), (Go.Value.int Go.IntKind.i64 0), (Go.Value.int Go.IntKind.u64 0), (Go.Value.int Go.IntKind.i64 0), (Go.Value.int Go.IntKind.i64 0), (Go.Value.int Go.IntKind.u64 0), (Go.Value.int Go.IntKind.i64 0), (Go.Value.int Go.IntKind.u64 0)] [(0, 1, a1)]) fun x2 => S.bd (bx (Go.Value.agg #[(Go.Value.int Go.IntKind.i64 0), (Go.Value.int Go.IntKind.u64 0), (Go.Value.int Go.IntKind.i64 0), (Go.Value.bool Bool.false), (Go.Value.slice Option.none 0 0), (Go.Value.int Go.IntKind.i64 0), (Go.Value.int Go.IntKind.u64 0), (Go.Value.int Go.IntKind.i64 0), (Go.Value.int Go.IntKind.u64 0), (Go.Value.int Go.IntKind.i64 0), (Go.Value.int Go.IntKind.i64 0), (Go.Value.int Go.IntKind.u64 0), (Go.Value.int Go.IntKind.i64 0), (Go.Value.int Go.IntKind.u64 0)])) fun c3 => S.bd (stl c3 0 14 x2) fun c4 => S.bd (eqb [1] false false a1 (Go.Value.int Go.IntKind.i64 1)) fun x5 => S.cnd x5 (S.bd (pack_reader_number.q a0 (Go.Value.int Go.IntKind.u64 18446744073709551615) s) fun q6 => S.cnd (Value.bool q6.1) (S.bd (stl c4 1 1 q6.2.1) fun c7 => S.bd (lal c7 0 14) fun x8 => S.bd (stl c1 0 14 x8) fun c9 => S.bd (lal c9 0 14) fun x10 => some (true, x10, q6.2.2)) (some (false, q6.2.1, q6.2.2))) (S.bd (eqb [1] false false a1 (Go.Value.int Go.IntKind.i64 2)) fun x11 => S.cnd x11 (S.bd (pack_reader_int.q a0 s) fun q12 => S.cnd (Value.bool q12.1) (S.bd (stl c4 2 1 q12.2.1) fun c13 => S.bd (lal c13 0 14) fun x14 => S.bd (stl c1 0 14 x14) fun c15 => S.bd (lal c15 0 14) fun x16 => some (true, x16, q12.2.2)) (some (false, q12.2.1, q12.2.2))) (S.bd (eqb [1] false false a1 (Go.Value.int Go.IntKind.i64 3)) fun x17 => S.cnd x17 (S.bd (nck a0) fun x18 => S.bd (fld 0 x18) fun x19 => S.bd (pack_left_peek.q x19 s) fun q20 => S.cnd (Value.bool q20.1) (S.bd (nck a0) fun x21 => S.bd (fld 0 x21) fun x22 => S.bd (bin .leq q20.2.1 (Go.Value.int Go.IntKind.u8 1)) fun x23 => S.bd (pack_left_next.q x22 x23 q20.2.2) fun q24 => S.cnd (Value.bool q24.1) (S.bd (eqb [1] false false q24.2.1 (Go.Value.int Go.IntKind.u8 1)) fun x25 => S.bd (stl c4 3 1 x25) fun c26 => S.bd (lal c26 0 14) fun x27 => S.bd (stl c1 0 14 x27) fun c28 => S.bd (lal c28 0 14) fun x29 => some (true, x29, q24.2.2)) (some (false, q24.2.1, q24.2.2))) (some (false, q20.2.1, q20.2.2))) (pack_reader_field.t.p1 S a1 a0 s c1 c4)))
noncomputable def pack_reader_field.q (a0 a1 : Value) (s : St) : Option (Bool × Value × St) := pack_reader_field.t std a0 a1 s
noncomputable def pack_reader_field.w : List Value → St → Option (Bool × Value × St)
  | [a0, a1], s => pack_reader_field.q a0 a1 s
  | _, _ => none
noncomputable def pack_reader_field.an : An := ⟨75, false, [4, 5], [(12, ⟨[.v 0, .p 4 4 0, .p 5 5 0, .v 37, .v 38, .l 4, .l 5], [(.exit 1, [.p 4 4 0, .p 5 5 0, .l 4, .l 5]), (.pan undef, [])]⟩)], [], [(13, [(0, 0, [], []), (1, 41, [], []), (2, 0, [], []), (3, 0, [], []), (4, 0, [], []), (5, 4, [], []), (6, 3, [], []), (7, 4, [], []), (8, 0, [], []), (9, 45, [], [])])], [], []⟩
theorem pack_reader_field.ok (S : Sig) (a0 a1 : Value) (s : St) : evP S Try.prog pack_reader_field.ctx pack_reader_field.an Try.f37 [a0, a1] s = pack_reader_field.t S a0 a1 s := by kernel_rfl
theorem pack_reader_field.cok : CtxOk Try.prog pack_reader_field.ctx := .cons pack_reader_number.sound pack_reader_number.can <| .cons pack_reader_int.sound pack_reader_int.can <| .cons pack_left_peek.sound pack_left_peek.can <| .cons pack_left_next.sound pack_left_next.can <| .cons pack_reader_vector.sound pack_reader_vector.can <| .cons pack_reader_key.sound pack_reader_key.can <| .nil
theorem pack_reader_field.draws : fnDraws pack_reader_field.an Try.f37 = true := by kernel_rfl
theorem pack_reader_field.can : callOk Try.prog 37 = true := by kernel_rfl
theorem pack_reader_field.sound : FnOk Try.prog 37 (.pn pack_reader_field.w) := FnOk.pn_of (evP_ok pack_reader_field.cok mixed (f := 37) (fn := Try.f37) (by kernel_rfl) pack_reader_field.draws) fun args s r h => by
  unfold pack_reader_field.w at h; split at h
  · rw [pack_reader_field.ok std]; exact h
  · simp at h

/-! ### leapfrog/pack.First: function 21 (it defers) -/
noncomputable def pack_FirstC.ctx : Ctx := []
theorem pack_FirstC.ctxok : CtxOk Try.prog pack_FirstC.ctx := .nil
noncomputable def pack_First.ctx : Ctx := [(35, .rd pack_is.w), (37, .pn pack_reader_field.w)]
theorem pack_First.ctxok : CtxOk Try.prog pack_First.ctx := .cons pack_is.sound pack_is.can <| .cons pack_reader_field.sound pack_reader_field.can <| .nil
noncomputable def pack_First.l2 (S : Sig) (rec16 : List Value → St → Option Cut) (xs14 : List Value) (s15 : St) : Option Cut :=
  S.bd (bin .lss (xs14.getD 7 undef) (xs14.getD 6 undef)) fun x17 => S.cnd x17 (S.bd (idx s15 1 (xs14.getD 5 undef) (xs14.getD 7 undef)) fun x18 => S.bd (ldc s15 x18) fun x19 => S.bd (pack_is.r x19 s15) fun x20 => S.bd (un .not x20) fun x21 => S.cnd x21 (S.bd (stv s15 1 (xs14.getD 2 undef) (Go.Value.slice Option.none 0 0)) fun s22 => S.bd (stv s22 1 (xs14.getD 3 undef) (Go.Value.int Go.IntKind.i64 0)) fun s23 => S.bd (stv s23 1 (xs14.getD 4 undef) (Go.Value.int Go.IntKind.i64 30)) fun s24 => some (1, [(xs14.getD 2 undef), (xs14.getD 3 undef), (xs14.getD 4 undef)], s24)) (S.bd (bin .add (xs14.getD 7 undef) (Go.Value.int Go.IntKind.i64 1)) fun x25 => rec16 [(xs14.getD 0 undef), (xs14.getD 1 undef), (xs14.getD 2 undef), (xs14.getD 3 undef), (xs14.getD 4 undef), (xs14.getD 5 undef), (xs14.getD 6 undef), x25] s15)) (some (0, [(xs14.getD 0 undef), (xs14.getD 1 undef), (xs14.getD 2 undef), (xs14.getD 3 undef), (xs14.getD 4 undef)], s15))

noncomputable def pack_First.l10 (S : Sig) (rec49 : List Value → St → Option Cut) (xs47 : List Value) (s48 : St) : Option Cut :=
  S.bd (bin .lss (xs47.getD 6 undef) (xs47.getD 5 undef)) fun x50 => S.cnd x50 (S.bd (idx s48 1 (xs47.getD 4 undef) (xs47.getD 6 undef)) fun x51 => S.bd (ldc s48 x51) fun x52 => S.bd (ldc s48 (xs47.getD 0 undef)) fun x53 => S.bd (ldc s48 (xs47.getD 3 undef)) fun x54 => S.bd (pack_reader_field.q x54 x52 s48) fun q55 => S.cnd (Value.bool q55.1) (S.bd (ldc q55.2.2 (xs47.getD 0 undef)) fun x56 => S.cnd (Value.bool (sameV x56 x53)) (S.bd (S.bd (bls 14 (List.replicate 1 [(Go.Value.int Go.IntKind.i64 0), (Go.Value.int Go.IntKind.u64 0), (Go.Value.int Go.IntKind.i64 0), (Go.Value.bool Bool.false), (Go.Value.slice Option.none 0 0), (Go.Value.int Go.IntKind.i64 0), (Go.Value.int Go.IntKind.u64 0), (Go.Value.int Go.IntKind.i64 0), (Go.Value.int Go.IntKind.u64 0), (Go.Value.int Go.IntKind.i64 0), (Go.Value.int Go.IntKind.i64 0), (Go.Value.int Go.IntKind.u64 0), (Go.Value.int Go.IntKind.i64 0), (Go.Value.int Go.IntKind.u64 0)]) [(0, q55.2.1)]) fun rows => als q55.2.2 14 1 rows) fun r57 => S.bd (app r57.2 14 128 x53 r57.1) fun r58 => S.bd (stv r58.2 1 (xs47.getD 0 undef) r58.1) fun s59 => S.bd (bin .add (xs47.getD 6 undef) (Go.Value.int Go.IntKind.i64 1)) fun x60 => rec49 [(xs47.getD 0 undef), (xs47.getD 1 undef), (xs47.getD 2 undef), (xs47.getD 3 undef), (xs47.getD 4 undef), (xs47.getD 5 undef), x60] s59) (none)) (some (1, [q55.2.1, (xs47.getD 0 undef), (xs47.getD 1 undef), (xs47.getD 2 undef)], q55.2.2))) (some (0, [(xs47.getD 0 undef), (xs47.getD 1 undef), (xs47.getD 2 undef), (xs47.getD 3 undef)], s48))

noncomputable def pack_First.h (S : Sig) (a0 a1 : Value) (s : St) : Option (Bool × List Value × St) :=
  S.bd (alv s (Go.Value.slice Option.none 0 0)) fun r1 => S.bd (alv r1.2 (Go.Value.int Go.IntKind.i64 0)) fun r2 => S.bd (alv r2.2 (Go.Value.int Go.IntKind.i64 0)) fun r3 => S.bd (lenL a1) fun x4 => S.bd (S.it (pack_First.l2 S) [a0, a1, r1.1, r2.1, r3.1, a1, x4, (Go.Value.int Go.IntKind.i64 0)] r3.2) fun r26 => if r26.1 = 0 then (S.bd (bld [(Go.Value.slice Option.none 0 0), (Go.Value.int Go.IntKind.i64 0)] [(0, 1, (r26.2.1.getD 0 undef))]) fun x30 => S.bd (bld [(Go.Value.slice Option.none 0 0), (Go.Value.int Go.IntKind.i64 0)] [(0, 2, x30)]) fun x31 => S.bd (alv r26.2.2 x31) fun r32 => S.bd (alv r32.2 (Go.Value.pointer Option.none)) fun r33 => S.bd (stv r33.2 1 r33.1 r32.1) fun s34 => some (true, [(r26.2.1.getD 1 undef), (r26.2.1.getD 2 undef), (r26.2.1.getD 3 undef), (r26.2.1.getD 4 undef), r33.1], s34)) else (S.bd (ldc r26.2.2 (r26.2.1.getD 0 undef)) fun x27 => S.bd (ldc r26.2.2 (r26.2.1.getD 1 undef)) fun x28 => S.bd (ldc r26.2.2 (r26.2.1.getD 2 undef)) fun x29 => some (false, [x27, x28, x29], r26.2.2))
noncomputable def pack_First.b (S : Sig) (a0 a1 a2 a3 a4 a5 : Value) (s : St) : Option (Bool × Value × List Value × St) :=
  S.bd (lenL a1) fun x35 => S.bd (S.it (pack_First.l10 S) [a2, a3, a4, a5, a1, x35, (Go.Value.int Go.IntKind.i64 0)] s) fun r61 => if r61.1 = 0 then (S.bd (ldc r61.2.2 (r61.2.1.getD 0 undef)) fun x62 => S.bd (ldc r61.2.2 (r61.2.1.getD 3 undef)) fun x63 => S.bd (nck x63) fun x64 => S.bd (fld 0 x64) fun x65 => S.bd (fld 1 x65) fun x66 => S.bd (ldc r61.2.2 x66) fun x67 => S.bd (stv r61.2.2 1 (r61.2.1.getD 0 undef) x62) fun s68 => S.bd (ldc s68 (r61.2.1.getD 3 undef)) fun x69 => S.cnd (Value.bool (sameV x69 x63)) (S.bd (ldc s68 x66) fun x70 => S.cnd (Value.bool (sameV x70 x67)) (S.bd (stv s68 1 (r61.2.1.getD 1 undef) x67) fun s71 => S.bd (stv s71 1 (r61.2.1.getD 2 undef) (Go.Value.int Go.IntKind.i64 0)) fun s72 => some (true, undef, [(r61.2.1.getD 0 undef), (r61.2.1.getD 1 undef), (r61.2.1.getD 2 undef)], s72)) (none)) (none)) else (some (false, (r61.2.1.getD 0 undef), [(r61.2.1.getD 1 undef), (r61.2.1.getD 2 undef), (r61.2.1.getD 3 undef)], r61.2.2))
noncomputable def pack_FirstC.c (S : Sig) (a0 a1 a2 a3 a4 : Value) (s : St) : Option St :=
  S.bd (eqI false a4 Go.Value.nilIface) fun x1 => S.cnd x1 (some s) (S.bd (tas Try.prog 82 true (Go.Value.agg #[(Go.Value.int Go.IntKind.i64 0)]) a4) fun x2 => S.bd (xtr 0 x2) fun x3 => S.bd (xtr 1 x2) fun x4 => S.bd (bx (Go.Value.agg #[(Go.Value.int Go.IntKind.i64 0)])) fun c5 => S.bd (stl c5 0 1 x3) fun c6 => S.bd (show Option Cut from S.bd (un .not x4) fun x9 => S.cnd x9 (S.bd (panV a4 s) fun q10 => S.cnd (Value.bool q10.1) (some (0, [a0, a1, a2, a3, (Value.agg ⟨c6⟩)], q10.2.2)) (some (1, [q10.2.1], q10.2.2))) (some (0, [a0, a1, a2, a3, (Value.agg ⟨c6⟩)], s))) fun r11 => if r11.1 = 0 then (S.bd (ldc r11.2.2 (r11.2.1.getD 0 undef)) fun x12 => S.bd (nck x12) fun x13 => S.bd (fld 0 x13) fun x14 => S.bd (fld 1 x14) fun x15 => S.bd (ldc r11.2.2 x15) fun x16 => S.bd (lcl (cellsA (r11.2.1.getD 4 undef)) 0) fun x17 => S.bd (stv r11.2.2 1 (r11.2.1.getD 1 undef) (Go.Value.slice Option.none 0 0)) fun s18 => S.bd (stv s18 1 (r11.2.1.getD 2 undef) x16) fun s19 => S.bd (stv s19 1 (r11.2.1.getD 3 undef) x17) fun s20 => some s20) else (none))
noncomputable def pack_First.an : An := ⟨46, false, [], [(2, ⟨[.v 0, .v 1, .v 4, .v 5, .v 6, .v 12, .v 13, .v 14], [(.exit 0, [.v 0, .v 1, .v 4, .v 5, .v 6]), (.ret, [.v 4, .v 5, .v 6])]⟩), (10, ⟨[.v 4, .v 5, .v 6, .v 9, .v 27, .v 28, .v 29], [(.exit 2, [.v 4, .v 5, .v 6, .v 9]), (.pan undef, [.v 4, .v 5, .v 6])]⟩)], [], [(12, [(0, 2, [], []), (1, 2, [], []), (2, 0, [], []), (3, 4, [0], []), (4, 3, [], []), (5, 4, [], []), (6, 4, [], [])]), (14, [(0, 2, [], []), (1, 2, [], []), (2, 0, [], []), (3, 0, [], []), (4, 0, [], []), (5, 2, [], []), (6, 4, [1, 5], []), (7, 4, [], []), (8, 4, [], [])])], [], []⟩
noncomputable def pack_First.an2 (D : List Deferred) : An := ⟨46, false, [], [(2, ⟨[.v 0, .v 1, .v 4, .v 5, .v 6, .v 12, .v 13, .v 14], [(.exit 0, [.v 0, .v 1, .v 4, .v 5, .v 6]), (.ret, [.v 4, .v 5, .v 6])]⟩), (10, ⟨[.v 4, .v 5, .v 6, .v 9, .v 27, .v 28, .v 29], [(.exit 2, [.v 4, .v 5, .v 6, .v 9]), (.pan undef, [.v 4, .v 5, .v 6])]⟩)], [], [(12, [(0, 2, [], []), (1, 2, [], []), (2, 0, [], []), (3, 4, [0], []), (4, 3, [], []), (5, 4, [], []), (6, 4, [], [])]), (14, [(0, 2, [], []), (1, 2, [], []), (2, 0, [], []), (3, 0, [], []), (4, 0, [], []), (5, 2, [], []), (6, 4, [1, 5], []), (7, 4, [], []), (8, 4, [], [])])], D, [4, 5, 6]⟩
noncomputable def pack_FirstC.an : An := ⟨25, false, [5], [], [(5, ⟨[], [(.normal, [.v 0, .v 1, .v 2, .v 3, .p 5 5 0, .l 5]), (.pan undef, [])]⟩)], [(5, [(0, 2, [], []), (1, 0, [], []), (2, 0, [], []), (3, 0, [], []), (4, 2, [], []), (5, 0, [], []), (6, 41, [], []), (7, 4, [], []), (8, 4, [], []), (9, 4, [], [])])], [], []⟩
theorem pack_First.hok (S : Sig) (a0 a1 : Value) (s : St) : dfHead S Try.prog pack_First.ctx pack_First.an (dfP1 Try.f21) (dfP2 Try.f21) (dfP3 Try.f21) [1, 4, 5, 6, 9] Try.f21.results.toList [a0, a1] s = pack_First.h S a0 a1 s := by kernel_rfl
theorem pack_First.bok (S : Sig) (D : List Deferred) (a0 a1 a2 a3 a4 a5 : Value) (s : St) : dfBody S Try.prog pack_First.ctx (pack_First.an2 D) (dfP4 Try.f21) 26 a0 [1, 4, 5, 6, 9] [4, 5, 6] [a1, a2, a3, a4, a5] s = pack_First.b S a0 a1 a2 a3 a4 a5 s := by kernel_rfl
theorem pack_FirstC.cok (S : Sig) (a0 a1 a2 a3 a4 : Value) (s : St) : cloB S Try.prog pack_FirstC.ctx pack_FirstC.an (clP Try.f36) 4 [a0, a1, a2, a3] a4 s = pack_FirstC.c S a0 a1 a2 a3 a4 s := by kernel_rfl
noncomputable def pack_First.hw : List Value → St → Option (Bool × List Value × St)
  | [a0, a1], s => pack_First.h std a0 a1 s
  | _, _ => none
noncomputable def pack_First.bw : Value → List Value → St → Option (Bool × Value × List Value × St)
  | a0, [a1, a2, a3, a4, a5], s => pack_First.b std a0 a1 a2 a3 a4 a5 s
  | _, _, _ => none
noncomputable def pack_FirstC.cw : List Value → Value → St → Option St
  | [a0, a1, a2, a3], a4, s => pack_FirstC.c std a0 a1 a2 a3 a4 s
  | _, _, _ => none
theorem pack_FirstC.can : callOk Try.prog 36 = true := by kernel_rfl
theorem pack_FirstC.clo : CloOk Try.prog 36 pack_FirstC.cw := clo_ok pack_FirstC.ctxok mixed (an := pack_FirstC.an) (f := 36) (fn := Try.f36) (B := clP Try.f36) (id := 0) (t1 := 7) (t2 := 4) (ty1 := 20) (p1 := "pack.go:281") (ed1 := #[]) (ty2 := 20) (p2 := "pack.go:281") (ed2 := #[(Go.Edge.mk 0 Go.Ground.data), (Go.Edge.mk 0 Go.Ground.chain), (Go.Edge.mk 0 Go.Ground.phase)])
  (by kernel_rfl) (by kernel_rfl) (by kernel_rfl) (by decide) (by decide) rfl (by kernel_rfl) (by kernel_rfl) fun args x s r h => by
  unfold pack_FirstC.cw at h; split at h
  · exact ⟨by simp, by simp, (pack_FirstC.cok std ..).trans h⟩
  · simp at h
noncomputable def pack_First.w : List Value → St → Option (Value × St) := dfW Try.prog pack_First.hw pack_First.bw 36 [1, 4, 5, 6, 9] [Operand.tmp 9, Operand.tmp 4, Operand.tmp 5, Operand.tmp 6] pack_FirstC.cw Try.f21.results.toList [4, 5, 6]
noncomputable def pack_First.v (a0 a1 : Value) (s : St) : Option (Value × St) := pack_First.w [a0, a1] s
theorem pack_First.can : callOk Try.prog 21 = true := by kernel_rfl
theorem pack_First.sound : FnOk Try.prog 21 (.st pack_First.w) := defer_ok (an := pack_First.an) (an2 := pack_First.an2) pack_First.ctxok pack_First.ctxok mixed (f := 21) (f2 := 36) (fn := Try.f21) (H1 := dfP1 Try.f21) (H2 := dfP2 Try.f21) (H3 := dfP3 Try.f21) (B := dfP4 Try.f21) (id := 8) (t := 26) (caps := [Operand.tmp 9, Operand.tmp 4, Operand.tmp 5, Operand.tmp 6]) (ts := [1, 4, 5, 6, 9]) (zs := [4, 5, 6]) (ty1 := 1) (p1 := "pack.go:280") (ed1 := #[]) (ty2 := 0) (p2 := "pack.go:280") (ed2 := #[(Go.Edge.mk 0 Go.Ground.data)])
  (by kernel_rfl) (by kernel_rfl) (by kernel_rfl) (by decide) rfl (fun _ => ⟨rfl, rfl⟩) (by kernel_rfl) (by kernel_rfl) (by kernel_rfl) (fun D => by kernel_rfl) pack_FirstC.can pack_FirstC.clo (fun args s r h => by
  unfold pack_First.hw at h; split at h
  · exact ⟨by simp [pack_First.an], (pack_First.hok std ..).trans h⟩
  · simp at h) fun D v ys s r h => by
  unfold pack_First.bw at h; split at h
  · exact (pack_First.bok std ..).trans h
  · simp at h

/-! ### leapfrog/leapfroglaw03.alive: function 11 -/
def leapfroglaw03x_alive.ctx : Ctx := [(9, .st pack_Pack.w), (21, .st pack_First.w)]
def leapfroglaw03x_alive.t (S : Sig) (s : St) : Option (Value × St) :=
  S.bd (bld [(Go.Value.int Go.IntKind.i64 0), (Go.Value.int Go.IntKind.u64 0), (Go.Value.int Go.IntKind.i64 0), (Go.Value.bool Bool.false), (Go.Value.slice Option.none 0 0), (Go.Value.int Go.IntKind.i64 0), (Go.Value.int Go.IntKind.u64 0), (Go.Value.int Go.IntKind.i64 0), (Go.Value.int Go.IntKind.u64 0), (Go.Value.int Go.IntKind.i64 0), (Go.Value.int Go.IntKind.i64 0), (Go.Value.int Go.IntKind.u64 0), (Go.Value.int Go.IntKind.i64 0), (Go.Value.int Go.IntKind.u64 0)] [(0, 1, (Go.Value.int Go.IntKind.i64 2)), (2, 1, (Go.Value.int Go.IntKind.i64 (-1)))]) fun x1 => S.bd (bld [(Go.Value.int Go.IntKind.i64 0), (Go.Value.int Go.IntKind.u64 0)] [(0, 1, (Go.Value.int Go.IntKind.i64 3)), (1, 1, (Go.Value.int Go.IntKind.u64 5))]) fun x2 => S.bd (bld [(Go.Value.int Go.IntKind.i64 0), (Go.Value.int Go.IntKind.u64 0), (Go.Value.int Go.IntKind.i64 0), (Go.Value.bool Bool.false), (Go.Value.slice Option.none 0 0), (Go.Value.int Go.IntKind.i64 0), (Go.Value.int Go.IntKind.u64 0), (Go.Value.int Go.IntKind.i64 0), (Go.Value.int Go.IntKind.u64 0), (Go.Value.int Go.IntKind.i64 0), (Go.Value.int Go.IntKind.i64 0), (Go.Value.int Go.IntKind.u64 0), (Go.Value.int Go.IntKind.i64 0), (Go.Value.int Go.IntKind.u64 0)] [(0, 1, (Go.Value.int Go.IntKind.i64 5)), (5, 2, x2)]) fun x3 => S.bd (bld [(Go.Value.int Go.IntKind.i64 0), (Go.Value.int Go.IntKind.u64 0)] [(0, 1, (Go.Value.int Go.IntKind.i64 2)), (1, 1, (Go.Value.int Go.IntKind.u64 258))]) fun x4 => S.bd (bld [(Go.Value.int Go.IntKind.i64 0), (Go.Value.int Go.IntKind.u64 0), (Go.Value.int Go.IntKind.i64 0), (Go.Value.bool Bool.false), (Go.Value.slice Option.none 0 0), (Go.Value.int Go.IntKind.i64 0), (Go.Value.int Go.IntKind.u64 0), (Go.Value.int Go.IntKind.i64 0), (Go.Value.int Go.IntKind.u64 0), (Go.Value.int Go.IntKind.i64 0), (Go.Value.int Go.IntKind.i64 0), (Go.Value.int Go.IntKind.u64 0), (Go.Value.int Go.IntKind.i64 0), (Go.Value.int Go.IntKind.u64 0)] [(0, 1, (Go.Value.int Go.IntKind.i64 6)), (7, 2, x4)]) fun x5 => S.bd (S.bd (bls 14 (List.replicate 3 [(Go.Value.int Go.IntKind.i64 0), (Go.Value.int Go.IntKind.u64 0), (Go.Value.int Go.IntKind.i64 0), (Go.Value.bool Bool.false), (Go.Value.slice Option.none 0 0), (Go.Value.int Go.IntKind.i64 0), (Go.Value.int Go.IntKind.u64 0), (Go.Value.int Go.IntKind.i64 0), (Go.Value.int Go.IntKind.u64 0), (Go.Value.int Go.IntKind.i64 0), (Go.Value.int Go.IntKind.i64 0), (Go.Value.int Go.IntKind.u64 0), (Go.Value.int Go.IntKind.i64 0), (Go.Value.int Go.IntKind.u64 0)]) [(0, x1), (1, x3), (2, x5)]) fun rows => als s 14 3 rows) fun r6 => S.bd (pack_Pack.v r6.1 r6.2) fun r7 => S.bd (xtr 0 r7.1) fun x8 => S.bd (xtr 1 r7.1) fun x9 => S.bd (S.bd (bls 1 (List.replicate 2 [(Go.Value.int Go.IntKind.u8 0)]) [(0, (Go.Value.int Go.IntKind.u8 128)), (1, (Go.Value.int Go.IntKind.u8 0))]) fun rows => als r7.2 1 2 rows) fun r10 => S.bd (S.bd (bls 1 (List.replicate 1 [(Go.Value.int Go.IntKind.i64 0)]) [(0, (Go.Value.int Go.IntKind.i64 1))]) fun rows => als r10.2 1 1 rows) fun r11 => S.bd (pack_First.v r10.1 r11.1 r11.2) fun r12 => S.bd (xtr 0 r12.1) fun x13 => S.bd (xtr 1 r12.1) fun x14 => S.bd (xtr 2 r12.1) fun x15 => S.bd (eqb [1] false false x9 (Go.Value.int Go.IntKind.i64 0)) fun x16 => S.bd (S.gd x16 true (some x8)) fun x17 => S.bd (S.gd x16 true (b2s r12.2 x17)) fun x18 => S.bd (S.gd x16 true (eqb [2] false false x18 (Go.Value.string (ByteArray.mk #[1, 3, 160, 2, 0, 0, 0, 0, 0, 0, 1, 2])))) fun x19 => S.bd (pik x16 x19 (Go.Value.bool Bool.false)) fun x20 => S.bd (S.gd x20 true (some x15)) fun x21 => S.bd (S.gd x20 true (eqb [1] false false x21 (Go.Value.int Go.IntKind.i64 31))) fun x22 => S.bd (pik x20 x22 (Go.Value.bool Bool.false)) fun x23 => S.bd (S.gd x23 true (some x14)) fun x24 => S.bd (S.gd x23 true (eqb [1] false false x24 (Go.Value.int Go.IntKind.i64 1))) fun x25 => S.bd (pik x23 x25 (Go.Value.bool Bool.false)) fun x26 => some (x26, r12.2)
def leapfroglaw03x_alive.v (s : St) : Option (Value × St) := leapfroglaw03x_alive.t std  s
def leapfroglaw03x_alive.w : List Value → St → Option (Value × St)
  | [], s => leapfroglaw03x_alive.v  s
  | _, _ => none
def leapfroglaw03x_alive.an : An := ⟨38, false, [], [], [], [], [], []⟩
theorem leapfroglaw03x_alive.ok (S : Sig) (s : St) : evF S Try.prog leapfroglaw03x_alive.ctx leapfroglaw03x_alive.an Try.f11 [] s = leapfroglaw03x_alive.t S  s := by kernel_rfl
theorem leapfroglaw03x_alive.cok : CtxOk Try.prog leapfroglaw03x_alive.ctx := .cons pack_Pack.sound pack_Pack.can <| .cons pack_First.sound pack_First.can <| .nil
theorem leapfroglaw03x_alive.draws : fnDraws leapfroglaw03x_alive.an Try.f11 = true := by kernel_rfl
theorem leapfroglaw03x_alive.can : callOk Try.prog 11 = true := by kernel_rfl
theorem leapfroglaw03x_alive.sound : FnOk Try.prog 11 (.st leapfroglaw03x_alive.w) := FnOk.st_of (evF_ok leapfroglaw03x_alive.cok mixed (f := 11) (fn := Try.f11) (by kernel_rfl) leapfroglaw03x_alive.draws) fun args s r h => by
  unfold leapfroglaw03x_alive.w at h; split at h
  · rw [leapfroglaw03x_alive.ok std]; exact h
  · simp at h

/-! ### leapfrog/leapfroglaw03.alive: function 11, closed -/
def leapfroglaw03x_aliveC.r (s : St) : Option Value := some (Value.bool true)
def leapfroglaw03x_aliveC.w : List Value → St → Option Value := closedW (Value.bool true)
theorem leapfroglaw03x_aliveC.can : callOk Try.prog 11 = true := leapfroglaw03x_alive.can
theorem leapfroglaw03x_aliveC.sound : FnOk Try.prog 11 (.rd leapfroglaw03x_aliveC.w) := FnOk.closed leapfroglaw03x_alive.sound (by kernel_rfl) rfl

/-! ### leapfrog/leapfroglaw03.PackOrder: function 3 -/
def leapfroglaw03x_PackOrder.ctx : Ctx := [(9, .st pack_Pack.w), (10, .rd leapfrogref03x_IsKey.w), (11, .rd leapfroglaw03x_aliveC.w)]
def leapfroglaw03x_PackOrder.t.p1 (S : Sig) (x18 : Value) (x8 : Value) (c1 : List Value) (r12 : Value × St) (x14 : Value) (c2 : List Value) (x7 : Value) (x13 : Value) : Option (Value × St) :=
  S.cnd x18 (S.bd (eqb [1] false false x8 (Go.Value.int Go.IntKind.i64 0)) fun x19 => S.bd (S.gd x19 false (lal c1 0 2)) fun x20 => S.bd (S.gd x19 false (leapfrogref03x_IsKey.r x20 r12.2)) fun x21 => S.bd (S.gd x19 false (un .not x21)) fun x22 => S.bd (pik x19 (Go.Value.bool Bool.true) x22) fun x23 => S.bd (S.gd x23 true (some x14)) fun x24 => S.bd (S.gd x23 true (eqb [1] false false x24 (Go.Value.int Go.IntKind.i64 0))) fun x25 => S.bd (S.gd x23 true (some x25)) fun x26 => S.bd (S.gd x26 false (lal c2 0 2)) fun x27 => S.bd (S.gd x26 false (leapfrogref03x_IsKey.r x27 r12.2)) fun x28 => S.bd (S.gd x26 false (un .not x28)) fun x29 => S.bd (S.gd x23 true (pik x26 (Go.Value.bool Bool.true) x29)) fun x30 => S.bd (pik x23 x30 (Go.Value.bool Bool.false)) fun x31 => S.bd (S.gd x31 true (leapfroglaw03x_aliveC.r  r12.2)) fun x32 => S.bd (pik x31 x32 (Go.Value.bool Bool.false)) fun x33 => some (x33, r12.2)) (S.bd (lcl c1 0) fun x34 => S.bd (lcl c2 0) fun x35 => S.bd (bin .lss x34 x35) fun x36 => S.bd (S.gd x36 false (lcl c1 0)) fun x37 => S.bd (S.gd x36 false (lcl c2 0)) fun x38 => S.bd (S.gd x36 false (eqb [1] false false x37 x38)) fun x39 => S.bd (S.gd x36 false (some x39)) fun x40 => S.bd (S.gd x40 true (lcl c1 1)) fun x41 => S.bd (S.gd x40 true (lcl c2 1)) fun x42 => S.bd (S.gd x40 true (bin .lss x41 x42)) fun x43 => S.bd (S.gd x36 false (pik x40 x43 (Go.Value.bool Bool.false))) fun x44 => S.bd (pik x36 (Go.Value.bool Bool.true) x44) fun x45 => S.bd (b2s r12.2 x7) fun x46 => S.bd (b2s r12.2 x13) fun x47 => S.bd (bin .lss x46 x47) fun x48 => S.bd (eqb [0] false false x48 x45) fun x49 => S.bd (S.gd x49 true (some x7)) fun x50 => S.bd (S.gd x49 true (b2s r12.2 x50)) fun x51 => S.bd (S.gd x49 true (some x13)) fun x52 => S.bd (S.gd x49 true (b2s r12.2 x52)) fun x53 => S.bd (S.gd x49 true (eqb [2] false false x51 x53)) fun x54 => S.bd (S.gd x49 true (lal c1 0 2)) fun x55 => S.bd (S.gd x49 true (lal c2 0 2)) fun x56 => S.bd (S.gd x49 true (eqb [1, 1] true false x55 x56)) fun x57 => S.bd (S.gd x49 true (eqb [0] false false x54 x57)) fun x58 => S.bd (pik x49 x58 (Go.Value.bool Bool.false)) fun x59 => S.bd (S.gd x59 true (leapfroglaw03x_aliveC.r  r12.2)) fun x60 => S.bd (pik x59 x60 (Go.Value.bool Bool.false)) fun x61 => some (x61, r12.2))

def leapfroglaw03x_PackOrder.t (S : Sig) (a0 a1 : Value) (s : St) : Option (Value × St) :=
  S.bd (bx a0) fun c1 => S.bd (bx a1) fun c2 => S.bd (lal c1 0 2) fun x3 => S.bd (bld [(Go.Value.int Go.IntKind.i64 0), (Go.Value.int Go.IntKind.u64 0), (Go.Value.int Go.IntKind.i64 0), (Go.Value.bool Bool.false), (Go.Value.slice Option.none 0 0), (Go.Value.int Go.IntKind.i64 0), (Go.Value.int Go.IntKind.u64 0), (Go.Value.int Go.IntKind.i64 0), (Go.Value.int Go.IntKind.u64 0), (Go.Value.int Go.IntKind.i64 0), (Go.Value.int Go.IntKind.i64 0), (Go.Value.int Go.IntKind.u64 0), (Go.Value.int Go.IntKind.i64 0), (Go.Value.int Go.IntKind.u64 0)] [(0, 1, (Go.Value.int Go.IntKind.i64 6)), (7, 2, x3)]) fun x4 => S.bd (S.bd (bls 14 (List.replicate 1 [(Go.Value.int Go.IntKind.i64 0), (Go.Value.int Go.IntKind.u64 0), (Go.Value.int Go.IntKind.i64 0), (Go.Value.bool Bool.false), (Go.Value.slice Option.none 0 0), (Go.Value.int Go.IntKind.i64 0), (Go.Value.int Go.IntKind.u64 0), (Go.Value.int Go.IntKind.i64 0), (Go.Value.int Go.IntKind.u64 0), (Go.Value.int Go.IntKind.i64 0), (Go.Value.int Go.IntKind.i64 0), (Go.Value.int Go.IntKind.u64 0), (Go.Value.int Go.IntKind.i64 0), (Go.Value.int Go.IntKind.u64 0)]) [(0, x4)]) fun rows => als s 14 1 rows) fun r5 => S.bd (pack_Pack.v r5.1 r5.2) fun r6 => S.bd (xtr 0 r6.1) fun x7 => S.bd (xtr 1 r6.1) fun x8 => S.bd (lal c2 0 2) fun x9 => S.bd (bld [(Go.Value.int Go.IntKind.i64 0), (Go.Value.int Go.IntKind.u64 0), (Go.Value.int Go.IntKind.i64 0), (Go.Value.bool Bool.false), (Go.Value.slice Option.none 0 0), (Go.Value.int Go.IntKind.i64 0), (Go.Value.int Go.IntKind.u64 0), (Go.Value.int Go.IntKind.i64 0), (Go.Value.int Go.IntKind.u64 0), (Go.Value.int Go.IntKind.i64 0), (Go.Value.int Go.IntKind.i64 0), (Go.Value.int Go.IntKind.u64 0), (Go.Value.int Go.IntKind.i64 0), (Go.Value.int Go.IntKind.u64 0)] [(0, 1, (Go.Value.int Go.IntKind.i64 6)), (7, 2, x9)]) fun x10 => S.bd (S.bd (bls 14 (List.replicate 1 [(Go.Value.int Go.IntKind.i64 0), (Go.Value.int Go.IntKind.u64 0), (Go.Value.int Go.IntKind.i64 0), (Go.Value.bool Bool.false), (Go.Value.slice Option.none 0 0), (Go.Value.int Go.IntKind.i64 0), (Go.Value.int Go.IntKind.u64 0), (Go.Value.int Go.IntKind.i64 0), (Go.Value.int Go.IntKind.u64 0), (Go.Value.int Go.IntKind.i64 0), (Go.Value.int Go.IntKind.i64 0), (Go.Value.int Go.IntKind.u64 0), (Go.Value.int Go.IntKind.i64 0), (Go.Value.int Go.IntKind.u64 0)]) [(0, x10)]) fun rows => als r6.2 14 1 rows) fun r11 => S.bd (pack_Pack.v r11.1 r11.2) fun r12 => S.bd (xtr 0 r12.1) fun x13 => S.bd (xtr 1 r12.1) fun x14 => S.bd (eqb [1] false true x8 (Go.Value.int Go.IntKind.i64 0)) fun x15 => S.bd (S.gd x15 false (some x14)) fun x16 => S.bd (S.gd x15 false (eqb [1] false true x16 (Go.Value.int Go.IntKind.i64 0))) fun x17 => S.bd (pik x15 (Go.Value.bool Bool.true) x17) fun x18 => leapfroglaw03x_PackOrder.t.p1 S x18 x8 c1 r12 x14 c2 x7 x13
def leapfroglaw03x_PackOrder.v (a0 a1 : Value) (s : St) : Option (Value × St) := leapfroglaw03x_PackOrder.t std a0 a1 s
def leapfroglaw03x_PackOrder.w : List Value → St → Option (Value × St)
  | [a0, a1], s => leapfroglaw03x_PackOrder.v a0 a1 s
  | _, _ => none
def leapfroglaw03x_PackOrder.an : An := ⟨89, false, [2, 3], [], [], [(6, [(0, 0, [], []), (1, 2, [], []), (2, 0, [], []), (3, 2, [], []), (4, 0, [], []), (5, 0, [], []), (6, 0, [], []), (7, 0, [], []), (8, 0, [], []), (9, 2, [], []), (10, 0, [], []), (11, 2, [], []), (12, 0, [], []), (13, 17, [], []), (14, 25, [], []), (15, 0, [], []), (16, 0, [], []), (17, 0, [], []), (18, 0, [], []), (19, 3, [], []), (20, 0, [], []), (21, 0, [], [])])], [], []⟩
theorem leapfroglaw03x_PackOrder.ok (S : Sig) (a0 a1 : Value) (s : St) : evF S Try.prog leapfroglaw03x_PackOrder.ctx leapfroglaw03x_PackOrder.an Try.f3 [a0, a1] s = leapfroglaw03x_PackOrder.t S a0 a1 s := by kernel_rfl
theorem leapfroglaw03x_PackOrder.cok : CtxOk Try.prog leapfroglaw03x_PackOrder.ctx := .cons pack_Pack.sound pack_Pack.can <| .cons leapfrogref03x_IsKey.sound leapfrogref03x_IsKey.can <| .cons leapfroglaw03x_aliveC.sound leapfroglaw03x_aliveC.can <| .nil
theorem leapfroglaw03x_PackOrder.draws : fnDraws leapfroglaw03x_PackOrder.an Try.f3 = true := by kernel_rfl
theorem leapfroglaw03x_PackOrder.can : callOk Try.prog 3 = true := by kernel_rfl
theorem leapfroglaw03x_PackOrder.sound : FnOk Try.prog 3 (.st leapfroglaw03x_PackOrder.w) := FnOk.st_of (evF_ok leapfroglaw03x_PackOrder.cok mixed (f := 3) (fn := Try.f3) (by kernel_rfl) leapfroglaw03x_PackOrder.draws) fun args s r h => by
  unfold leapfroglaw03x_PackOrder.w at h; split at h
  · rw [leapfroglaw03x_PackOrder.ok std]; exact h
  · simp at h

/-! ### leapfrog/leapfroglaw03.PackOrder: function 3, as a reading -/
def leapfroglaw03x_PackOrderQ.r (a0 a1 : Value) (s : St) : Option Value := frzR (fun s => leapfroglaw03x_PackOrder.v a0 a1 s) s
def leapfroglaw03x_PackOrderQ.w : List Value → St → Option Value := fun args s => frzR (leapfroglaw03x_PackOrder.w args) s
theorem leapfroglaw03x_PackOrderQ.can : callOk Try.prog 3 = true := leapfroglaw03x_PackOrder.can
theorem leapfroglaw03x_PackOrderQ.sound : FnOk Try.prog 3 (.rd leapfroglaw03x_PackOrderQ.w) := FnOk.frozen leapfroglaw03x_PackOrder.sound

/-! ### leapfrog/leapfroglaw03.few: function 12 -/
def leapfroglaw03x_few.ctx : Ctx := []
def leapfroglaw03x_few.l3.p1 (S : Sig) (s36 : St) (xs35 : List Value) (x40 : Value) (x41 : Value) (rec37 : List Value → St → Option Cut) : Option Cut :=
  S.bd (idx s36 14 (xs35.getD 0 undef) (xs35.getD 2 undef)) fun x43 => S.bd (lda s36 14 x43) fun x44 => S.bd (bx (Go.Value.agg #[(Go.Value.int Go.IntKind.i64 0), (Go.Value.int Go.IntKind.u64 0), (Go.Value.int Go.IntKind.i64 0), (Go.Value.bool Bool.false), (Go.Value.slice Option.none 0 0), (Go.Value.int Go.IntKind.i64 0), (Go.Value.int Go.IntKind.u64 0), (Go.Value.int Go.IntKind.i64 0), (Go.Value.int Go.IntKind.u64 0), (Go.Value.int Go.IntKind.i64 0), (Go.Value.int Go.IntKind.i64 0), (Go.Value.int Go.IntKind.u64 0), (Go.Value.int Go.IntKind.i64 0), (Go.Value.int Go.IntKind.u64 0)])) fun c45 => S.bd (stl c45 0 14 x44) fun c46 => S.bd (show Option Cut from S.bd (lcl c46 4) fun x47 => S.bd (lenL x47) fun x48 => S.bd (bin .gtr x48 (Go.Value.int Go.IntKind.i64 700)) fun x49 => S.bd (S.gd x49 true (lcl c46 4)) fun x50 => S.bd (S.gd x49 true (lenL x50)) fun x51 => S.bd (S.gd x49 true (bin .leq x51 (Go.Value.int Go.IntKind.i64 65536))) fun x52 => S.bd (pik x49 x52 (Go.Value.bool Bool.false)) fun x53 => S.cnd x53 (S.bd (lcl c46 4) fun x54 => S.bd (slc s36 1 x54 none (some (Go.Value.int Go.IntKind.i64 700)) none) fun x55 => S.bd (stl c46 4 1 x55) fun c56 => some (0, [(xs35.getD 0 undef), (xs35.getD 1 undef), (xs35.getD 2 undef), x40, x41, x50, x51, x52, (Value.agg ⟨c56⟩)], s36)) (some (0, [(xs35.getD 0 undef), (xs35.getD 1 undef), (xs35.getD 2 undef), x40, x41, x50, x51, x52, (Value.agg ⟨c46⟩)], s36))) fun r57 => S.bd (lal (cellsA (r57.2.1.getD 8 undef)) 0 14) fun x58 => S.bd (S.bd (bls 14 (List.replicate 1 [(Go.Value.int Go.IntKind.i64 0), (Go.Value.int Go.IntKind.u64 0), (Go.Value.int Go.IntKind.i64 0), (Go.Value.bool Bool.false), (Go.Value.slice Option.none 0 0), (Go.Value.int Go.IntKind.i64 0), (Go.Value.int Go.IntKind.u64 0), (Go.Value.int Go.IntKind.i64 0), (Go.Value.int Go.IntKind.u64 0), (Go.Value.int Go.IntKind.i64 0), (Go.Value.int Go.IntKind.i64 0), (Go.Value.int Go.IntKind.u64 0), (Go.Value.int Go.IntKind.i64 0), (Go.Value.int Go.IntKind.u64 0)]) [(0, x58)]) fun rows => als r57.2.2 14 1 rows) fun r59 => S.bd (app r59.2 14 128 (r57.2.1.getD 1 undef) r59.1) fun r60 => S.bd (bin .add (r57.2.1.getD 2 undef) (Go.Value.int Go.IntKind.i64 1)) fun x61 => rec37 [(r57.2.1.getD 0 undef), r60.1, x61] r60.2

def leapfroglaw03x_few.l3 (S : Sig) (rec37 : List Value → St → Option Cut) (xs35 : List Value) (s36 : St) : Option Cut :=
  S.bd (lenL (xs35.getD 0 undef)) fun x38 => S.bd (bin .lss (xs35.getD 2 undef) x38) fun x39 => S.bd (S.gd x39 true (some (xs35.getD 2 undef))) fun x40 => S.bd (S.gd x39 true (bin .lss x40 (Go.Value.int Go.IntKind.i64 20))) fun x41 => S.bd (pik x39 x41 (Go.Value.bool Bool.false)) fun x42 => S.cnd x42 (leapfroglaw03x_few.l3.p1 S s36 xs35 x40 x41 rec37) (some (0, [(xs35.getD 1 undef)], s36))

def leapfroglaw03x_few.t (S : Sig) (a0 : Value) (s : St) : Option (Value × St) :=
  S.bd (S.it (leapfroglaw03x_few.l3 S) [a0, (Go.Value.slice Option.none 0 0), (Go.Value.int Go.IntKind.i64 0)] s) fun r62 => some ((r62.2.1.getD 0 undef), r62.2.2)
def leapfroglaw03x_few.v (a0 : Value) (s : St) : Option (Value × St) := leapfroglaw03x_few.t std a0 s
def leapfroglaw03x_few.w : List Value → St → Option (Value × St)
  | [a0], s => leapfroglaw03x_few.v a0 s
  | _, _ => none
def leapfroglaw03x_few.an : An := ⟨39, false, [5], [(3, ⟨[.v 0, .v 3, .v 4], [(.exit 0, [.v 3])]⟩)], [(8, ⟨[], [(.normal, [.v 0, .v 3, .v 4, .p 5 5 0, .v 11, .v 12, .v 26, .v 27, .v 28, .l 5])]⟩)], [], [], []⟩
theorem leapfroglaw03x_few.ok (S : Sig) (a0 : Value) (s : St) : evF S Try.prog leapfroglaw03x_few.ctx leapfroglaw03x_few.an Try.f12 [a0] s = leapfroglaw03x_few.t S a0 s := by kernel_rfl
theorem leapfroglaw03x_few.cok : CtxOk Try.prog leapfroglaw03x_few.ctx := .nil
theorem leapfroglaw03x_few.draws : fnDraws leapfroglaw03x_few.an Try.f12 = true := by kernel_rfl
theorem leapfroglaw03x_few.can : callOk Try.prog 12 = true := by kernel_rfl
theorem leapfroglaw03x_few.sound : FnOk Try.prog 12 (.st leapfroglaw03x_few.w) := FnOk.st_of (evF_ok leapfroglaw03x_few.cok mixed (f := 12) (fn := Try.f12) (by kernel_rfl) leapfroglaw03x_few.draws) fun args s r h => by
  unfold leapfroglaw03x_few.w at h; split at h
  · rw [leapfroglaw03x_few.ok std]; exact h
  · simp at h

/-! ### leapfrog/leapfrogref03.IsKind: function 31 -/
def leapfrogref03x_IsKind.ctx : Ctx := []
def leapfrogref03x_IsKind.t (S : Sig) (a0 : Value) (s : St) : Option Value :=
  S.bd (bin .geq a0 (Go.Value.int Go.IntKind.i64 1)) fun x1 => S.bd (S.gd x1 true (some a0)) fun x2 => S.bd (S.gd x1 true (bin .leq x2 (Go.Value.int Go.IntKind.i64 7))) fun x3 => S.bd (pik x1 x3 (Go.Value.bool Bool.false)) fun x4 => some (x4)
def leapfrogref03x_IsKind.r (a0 : Value) (s : St) : Option Value := leapfrogref03x_IsKind.t std a0 s
def leapfrogref03x_IsKind.w : List Value → St → Option Value
  | [a0], s => leapfrogref03x_IsKind.r a0 s
  | _, _ => none
def leapfrogref03x_IsKind.an : An := ⟨9, true, [], [], [], [], [], []⟩
theorem leapfrogref03x_IsKind.ok (S : Sig) (a0 : Value) (s : St) : evG S Try.prog leapfrogref03x_IsKind.ctx leapfrogref03x_IsKind.an Try.f31 [a0] s = leapfrogref03x_IsKind.t S a0 s := by kernel_rfl
theorem leapfrogref03x_IsKind.cok : CtxOk Try.prog leapfrogref03x_IsKind.ctx := .nil
theorem leapfrogref03x_IsKind.draws : fnDraws leapfrogref03x_IsKind.an Try.f31 = true := by kernel_rfl
theorem leapfrogref03x_IsKind.can : callOk Try.prog 31 = true := by kernel_rfl
theorem leapfrogref03x_IsKind.sound : FnOk Try.prog 31 (.rd leapfrogref03x_IsKind.w) := FnOk.rd_of (evG_ok leapfrogref03x_IsKind.cok mixed (f := 31) (fn := Try.f31) (by kernel_rfl) leapfrogref03x_IsKind.draws) fun args s r h => by
  unfold leapfrogref03x_IsKind.w at h; split at h
  · rw [leapfrogref03x_IsKind.ok std]; exact h
  · simp at h

/-! ### leapfrog/leapfrogref03.only: function 32 -/
def leapfrogref03x_only.ctx : Ctx := []
def leapfrogref03x_only.t (S : Sig) (a0 : Value) (s : St) : Option Value :=
  S.bd (bx a0) fun c1 => S.bd (bx (Go.Value.agg #[(Go.Value.int Go.IntKind.i64 0), (Go.Value.int Go.IntKind.u64 0), (Go.Value.int Go.IntKind.i64 0), (Go.Value.bool Bool.false), (Go.Value.slice Option.none 0 0), (Go.Value.int Go.IntKind.i64 0), (Go.Value.int Go.IntKind.u64 0), (Go.Value.int Go.IntKind.i64 0), (Go.Value.int Go.IntKind.u64 0), (Go.Value.int Go.IntKind.i64 0), (Go.Value.int Go.IntKind.i64 0), (Go.Value.int Go.IntKind.u64 0), (Go.Value.int Go.IntKind.i64 0), (Go.Value.int Go.IntKind.u64 0)])) fun c2 => S.bd (lcl c1 0) fun x3 => S.bd (bld [(Go.Value.int Go.IntKind.i64 0), (Go.Value.int Go.IntKind.u64 0), (Go.Value.int Go.IntKind.i64 0), (Go.Value.bool Bool.false), (Go.Value.slice Option.none 0 0), (Go.Value.int Go.IntKind.i64 0), (Go.Value.int Go.IntKind.u64 0), (Go.Value.int Go.IntKind.i64 0), (Go.Value.int Go.IntKind.u64 0), (Go.Value.int Go.IntKind.i64 0), (Go.Value.int Go.IntKind.i64 0), (Go.Value.int Go.IntKind.u64 0), (Go.Value.int Go.IntKind.i64 0), (Go.Value.int Go.IntKind.u64 0)] [(0, 1, x3)]) fun x4 => S.bd (bx (Go.Value.agg #[(Go.Value.int Go.IntKind.i64 0), (Go.Value.int Go.IntKind.u64 0), (Go.Value.int Go.IntKind.i64 0), (Go.Value.bool Bool.false), (Go.Value.slice Option.none 0 0), (Go.Value.int Go.IntKind.i64 0), (Go.Value.int Go.IntKind.u64 0), (Go.Value.int Go.IntKind.i64 0), (Go.Value.int Go.IntKind.u64 0), (Go.Value.int Go.IntKind.i64 0), (Go.Value.int Go.IntKind.i64 0), (Go.Value.int Go.IntKind.u64 0), (Go.Value.int Go.IntKind.i64 0), (Go.Value.int Go.IntKind.u64 0)])) fun c5 => S.bd (stl c5 0 14 x4) fun c6 => S.bd (lcl c1 0) fun x7 => S.bd (eqb [1] false false x7 (Go.Value.int Go.IntKind.i64 1)) fun x8 => S.cnd x8 (S.bd (lcl c1 1) fun x9 => S.bd (stl c6 1 1 x9) fun c10 => S.bd (lal c10 0 14) fun x11 => S.bd (stl c2 0 14 x11) fun c12 => S.bd (lal c12 0 14) fun x13 => some (x13)) (S.bd (eqb [1] false false x7 (Go.Value.int Go.IntKind.i64 2)) fun x14 => S.cnd x14 (S.bd (lcl c1 2) fun x15 => S.bd (stl c6 2 1 x15) fun c16 => S.bd (lal c16 0 14) fun x17 => S.bd (stl c2 0 14 x17) fun c18 => S.bd (lal c18 0 14) fun x19 => some (x19)) (S.bd (eqb [1] false false x7 (Go.Value.int Go.IntKind.i64 3)) fun x20 => S.cnd x20 (S.bd (lcl c1 3) fun x21 => S.bd (stl c6 3 1 x21) fun c22 => S.bd (lal c22 0 14) fun x23 => S.bd (stl c2 0 14 x23) fun c24 => S.bd (lal c24 0 14) fun x25 => some (x25)) (S.bd (eqb [1] false false x7 (Go.Value.int Go.IntKind.i64 4)) fun x26 => S.cnd x26 (S.bd (lcl c1 4) fun x27 => S.bd (stl c6 4 1 x27) fun c28 => S.bd (lal c28 0 14) fun x29 => S.bd (stl c2 0 14 x29) fun c30 => S.bd (lal c30 0 14) fun x31 => some (x31)) (S.bd (eqb [1] false false x7 (Go.Value.int Go.IntKind.i64 5)) fun x32 => S.cnd x32 (S.bd (lal c1 5 2) fun x33 => S.bd (stl c6 5 2 x33) fun c34 => S.bd (lal c34 0 14) fun x35 => S.bd (stl c2 0 14 x35) fun c36 => S.bd (lal c36 0 14) fun x37 => some (x37)) (S.bd (eqb [1] false false x7 (Go.Value.int Go.IntKind.i64 6)) fun x38 => S.cnd x38 (S.bd (lal c1 7 2) fun x39 => S.bd (stl c6 7 2 x39) fun c40 => S.bd (lal c40 0 14) fun x41 => S.bd (stl c2 0 14 x41) fun c42 => S.bd (lal c42 0 14) fun x43 => some (x43)) (S.bd (eqb [1] false false x7 (Go.Value.int Go.IntKind.i64 7)) fun x44 => S.cnd x44 (S.bd (lal c1 9 5) fun x45 => S.bd (stl c6 9 5 x45) fun c46 => S.bd (lal c46 0 14) fun x47 => S.bd (stl c2 0 14 x47) fun c48 => S.bd (lal c48 0 14) fun x49 => some (x49)) (S.bd (lal c6 0 14) fun x50 => S.bd (stl c2 0 14 x50) fun c51 => S.bd (lal c51 0 14) fun x52 => some (x52))))))))
def leapfrogref03x_only.r (a0 : Value) (s : St) : Option Value := leapfrogref03x_only.t std a0 s
def leapfrogref03x_only.w : List Value → St → Option Value
  | [a0], s => leapfrogref03x_only.r a0 s
  | _, _ => none
def leapfrogref03x_only.an : An := ⟨45, true, [1, 2, 3], [], [], [], [], []⟩
theorem leapfrogref03x_only.ok (S : Sig) (a0 : Value) (s : St) : evG S Try.prog leapfrogref03x_only.ctx leapfrogref03x_only.an Try.f32 [a0] s = leapfrogref03x_only.t S a0 s := by kernel_rfl
theorem leapfrogref03x_only.cok : CtxOk Try.prog leapfrogref03x_only.ctx := .nil
theorem leapfrogref03x_only.draws : fnDraws leapfrogref03x_only.an Try.f32 = true := by kernel_rfl
theorem leapfrogref03x_only.can : callOk Try.prog 32 = true := by kernel_rfl
theorem leapfrogref03x_only.sound : FnOk Try.prog 32 (.rd leapfrogref03x_only.w) := FnOk.rd_of (evG_ok leapfrogref03x_only.cok mixed (f := 32) (fn := Try.f32) (by kernel_rfl) leapfrogref03x_only.draws) fun args s r h => by
  unfold leapfrogref03x_only.w at h; split at h
  · rw [leapfrogref03x_only.ok std]; exact h
  · simp at h

/-! ### leapfrog/leapfrogref03.Same: function 19 -/
def leapfrogref03x_Same.ctx : Ctx := []
def leapfrogref03x_Same.t (S : Sig) (a0 a1 : Value) (s : St) : Option Value :=
  S.bd (bx a0) fun c1 => S.bd (bx a1) fun c2 => S.bd (lcl c1 0) fun x3 => S.bd (lcl c2 0) fun x4 => S.bd (eqb [1] false false x3 x4) fun x5 => S.bd (S.gd x5 true (lcl c1 1)) fun x6 => S.bd (S.gd x5 true (lcl c2 1)) fun x7 => S.bd (S.gd x5 true (eqb [1] false false x6 x7)) fun x8 => S.bd (pik x5 x8 (Go.Value.bool Bool.false)) fun x9 => S.bd (S.gd x9 true (lcl c1 2)) fun x10 => S.bd (S.gd x9 true (lcl c2 2)) fun x11 => S.bd (S.gd x9 true (eqb [1] false false x10 x11)) fun x12 => S.bd (pik x9 x12 (Go.Value.bool Bool.false)) fun x13 => S.bd (S.gd x13 true (lcl c1 3)) fun x14 => S.bd (S.gd x13 true (lcl c2 3)) fun x15 => S.bd (S.gd x13 true (eqb [0] false false x14 x15)) fun x16 => S.bd (pik x13 x16 (Go.Value.bool Bool.false)) fun x17 => S.bd (S.gd x17 true (lcl c1 4)) fun x18 => S.bd (S.gd x17 true (b2s s x18)) fun x19 => S.bd (S.gd x17 true (lcl c2 4)) fun x20 => S.bd (S.gd x17 true (b2s s x20)) fun x21 => S.bd (S.gd x17 true (eqb [2] false false x19 x21)) fun x22 => S.bd (pik x17 x22 (Go.Value.bool Bool.false)) fun x23 => S.bd (S.gd x23 true (lal c1 5 2)) fun x24 => S.bd (S.gd x23 true (lal c2 5 2)) fun x25 => S.bd (S.gd x23 true (eqb [1, 1] true false x24 x25)) fun x26 => S.bd (pik x23 x26 (Go.Value.bool Bool.false)) fun x27 => S.bd (S.gd x27 true (lal c1 7 2)) fun x28 => S.bd (S.gd x27 true (lal c2 7 2)) fun x29 => S.bd (S.gd x27 true (eqb [1, 1] true false x28 x29)) fun x30 => S.bd (pik x27 x30 (Go.Value.bool Bool.false)) fun x31 => S.bd (S.gd x31 true (lal c1 9 5)) fun x32 => S.bd (S.gd x31 true (lal c2 9 5)) fun x33 => S.bd (S.gd x31 true (eqb [1, 1, 1, 1, 1] true false x32 x33)) fun x34 => S.bd (pik x31 x34 (Go.Value.bool Bool.false)) fun x35 => some (x35)
def leapfrogref03x_Same.r (a0 a1 : Value) (s : St) : Option Value := leapfrogref03x_Same.t std a0 a1 s
def leapfrogref03x_Same.w : List Value → St → Option Value
  | [a0, a1], s => leapfrogref03x_Same.r a0 a1 s
  | _, _ => none
def leapfrogref03x_Same.an : An := ⟨61, true, [2, 3], [], [], [], [], []⟩
theorem leapfrogref03x_Same.ok (S : Sig) (a0 a1 : Value) (s : St) : evG S Try.prog leapfrogref03x_Same.ctx leapfrogref03x_Same.an Try.f19 [a0, a1] s = leapfrogref03x_Same.t S a0 a1 s := by kernel_rfl
theorem leapfrogref03x_Same.cok : CtxOk Try.prog leapfrogref03x_Same.ctx := .nil
theorem leapfrogref03x_Same.draws : fnDraws leapfrogref03x_Same.an Try.f19 = true := by kernel_rfl
theorem leapfrogref03x_Same.can : callOk Try.prog 19 = true := by kernel_rfl
theorem leapfrogref03x_Same.sound : FnOk Try.prog 19 (.rd leapfrogref03x_Same.w) := FnOk.rd_of (evG_ok leapfrogref03x_Same.cok mixed (f := 19) (fn := Try.f19) (by kernel_rfl) leapfrogref03x_Same.draws) fun args s r h => by
  unfold leapfrogref03x_Same.w at h; split at h
  · rw [leapfrogref03x_Same.ok std]; exact h
  · simp at h

/-! ### leapfrog/leapfrogref01.Power: function 48 -/
def leapfrogref01x_Power.ctx : Ctx := []
def leapfrogref01x_Power.l2 (S : Sig) (rec6 : List Value → St → Option Cut) (xs4 : List Value) (s5 : St) : Option Cut :=
  S.bd (bin .gtr (xs4.getD 0 undef) (Go.Value.int Go.IntKind.i64 0)) fun x7 => S.cnd x7 (S.bd (bin .mul (xs4.getD 1 undef) (Go.Value.int Go.IntKind.u64 2)) fun x8 => S.bd (bin .sub (xs4.getD 0 undef) (Go.Value.int Go.IntKind.i64 1)) fun x9 => rec6 [x9, x8] s5) (some (0, [(xs4.getD 1 undef)], s5))

def leapfrogref01x_Power.t (S : Sig) (a0 : Value) (s : St) : Option Value :=
  S.bd (S.it (leapfrogref01x_Power.l2 S) [a0, (Go.Value.int Go.IntKind.u64 1)] s) fun r10 => some ((r10.2.1.getD 0 undef))
def leapfrogref01x_Power.r (a0 : Value) (s : St) : Option Value := leapfrogref01x_Power.t std a0 s
def leapfrogref01x_Power.w : List Value → St → Option Value
  | [a0], s => leapfrogref01x_Power.r a0 s
  | _, _ => none
def leapfrogref01x_Power.an : An := ⟨11, true, [], [(2, ⟨[.v 0, .v 3], [(.exit 0, [.v 3])]⟩)], [], [], [], []⟩
theorem leapfrogref01x_Power.ok (S : Sig) (a0 : Value) (s : St) : evG S Try.prog leapfrogref01x_Power.ctx leapfrogref01x_Power.an Try.f48 [a0] s = leapfrogref01x_Power.t S a0 s := by kernel_rfl
theorem leapfrogref01x_Power.cok : CtxOk Try.prog leapfrogref01x_Power.ctx := .nil
theorem leapfrogref01x_Power.draws : fnDraws leapfrogref01x_Power.an Try.f48 = true := by kernel_rfl
theorem leapfrogref01x_Power.can : callOk Try.prog 48 = true := by kernel_rfl
theorem leapfrogref01x_Power.sound : FnOk Try.prog 48 (.rd leapfrogref01x_Power.w) := FnOk.rd_of (evG_ok leapfrogref01x_Power.cok mixed (f := 48) (fn := Try.f48) (by kernel_rfl) leapfrogref01x_Power.draws) fun args s r h => by
  unfold leapfrogref01x_Power.w at h; split at h
  · rw [leapfrogref01x_Power.ok std]; exact h
  · simp at h

/-! ### leapfrog/leapfrogref01.Right: function 33 -/
def leapfrogref01x_Right.ctx : Ctx := [(48, .rd leapfrogref01x_Power.w)]
def leapfrogref01x_Right.t (S : Sig) (a0 : Value) (s : St) : Option Value :=
  S.bd (bx a0) fun c1 => S.bd (lcl c1 0) fun x2 => S.bd (bin .geq x2 (Go.Value.int Go.IntKind.i64 0)) fun x3 => S.bd (S.gd x3 true (lcl c1 0)) fun x4 => S.bd (S.gd x3 true (bin .leq x4 (Go.Value.int Go.IntKind.i64 32))) fun x5 => S.bd (pik x3 x5 (Go.Value.bool Bool.false)) fun x6 => S.bd (S.gd x6 true (lcl c1 1)) fun x7 => S.bd (S.gd x6 true (lcl c1 0)) fun x8 => S.bd (S.gd x6 true (leapfrogref01x_Power.r x8 s)) fun x9 => S.bd (S.gd x6 true (bin .lss x7 x9)) fun x10 => S.bd (pik x6 x10 (Go.Value.bool Bool.false)) fun x11 => some (x11)
def leapfrogref01x_Right.r (a0 : Value) (s : St) : Option Value := leapfrogref01x_Right.t std a0 s
def leapfrogref01x_Right.w : List Value → St → Option Value
  | [a0], s => leapfrogref01x_Right.r a0 s
  | _, _ => none
def leapfrogref01x_Right.an : An := ⟨19, true, [1], [], [], [(1, [(0, 0, [], []), (1, 9, [], []), (2, 0, [], []), (3, 0, [], []), (4, 0, [], []), (5, 9, [], []), (6, 0, [], []), (7, 0, [], []), (8, 0, [], []), (9, 0, [], []), (10, 9, [], []), (11, 0, [], []), (12, 9, [], []), (13, 3, [], []), (14, 0, [], []), (15, 0, [], []), (16, 0, [], [])])], [], []⟩
theorem leapfrogref01x_Right.ok (S : Sig) (a0 : Value) (s : St) : evG S Try.prog leapfrogref01x_Right.ctx leapfrogref01x_Right.an Try.f33 [a0] s = leapfrogref01x_Right.t S a0 s := by kernel_rfl
theorem leapfrogref01x_Right.cok : CtxOk Try.prog leapfrogref01x_Right.ctx := .cons leapfrogref01x_Power.sound leapfrogref01x_Power.can <| .nil
theorem leapfrogref01x_Right.draws : fnDraws leapfrogref01x_Right.an Try.f33 = true := by kernel_rfl
theorem leapfrogref01x_Right.can : callOk Try.prog 33 = true := by kernel_rfl
theorem leapfrogref01x_Right.sound : FnOk Try.prog 33 (.rd leapfrogref01x_Right.w) := FnOk.rd_of (evG_ok leapfrogref01x_Right.cok mixed (f := 33) (fn := Try.f33) (by kernel_rfl) leapfrogref01x_Right.draws) fun args s r h => by
  unfold leapfrogref01x_Right.w at h; split at h
  · rw [leapfrogref01x_Right.ok std]; exact h
  · simp at h

/-! ### leapfrog/leapfrogref03.Check: function 17 -/
def leapfrogref03x_Check.ctx : Ctx := [(31, .rd leapfrogref03x_IsKind.w), (32, .rd leapfrogref03x_only.w), (19, .rd leapfrogref03x_Same.w), (33, .rd leapfrogref01x_Right.w), (10, .rd leapfrogref03x_IsKey.w)]
def leapfrogref03x_Check.t (S : Sig) (a0 : Value) (s : St) : Option Value :=
  S.bd (bx a0) fun c1 => S.bd (lcl c1 0) fun x2 => S.bd (leapfrogref03x_IsKind.r x2 s) fun x3 => S.bd (un .not x3) fun x4 => S.bd (S.gd x4 false (lal c1 0 14)) fun x5 => S.bd (S.gd x4 false (lal c1 0 14)) fun x6 => S.bd (S.gd x4 false (leapfrogref03x_only.r x5 s)) fun x7 => S.bd (S.gd x4 false (leapfrogref03x_Same.r x7 x6 s)) fun x8 => S.bd (S.gd x4 false (un .not x8)) fun x9 => S.bd (pik x4 (Go.Value.bool Bool.true) x9) fun x10 => S.cnd x10 (some ((Go.Value.int Go.IntKind.i64 30))) (S.bd (show Option Cut from S.bd (lcl c1 0) fun x28 => S.bd (eqb [1] false false x28 (Go.Value.int Go.IntKind.i64 4)) fun x29 => S.cnd x29 (S.bd (lcl c1 4) fun x30 => S.bd (lenL x30) fun x31 => S.bd (bin .leq x31 (Go.Value.int Go.IntKind.i64 65536)) fun x32 => some (0, [x32], s)) (S.bd (eqb [1] false false x28 (Go.Value.int Go.IntKind.i64 5)) fun x33 => S.cnd x33 (S.bd (lal c1 5 2) fun x34 => S.bd (leapfrogref01x_Right.r x34 s) fun x35 => some (0, [x35], s)) (S.bd (eqb [1] false false x28 (Go.Value.int Go.IntKind.i64 6)) fun x36 => S.cnd x36 (S.bd (lal c1 7 2) fun x37 => S.bd (leapfrogref03x_IsKey.r x37 s) fun x38 => some (0, [x38], s)) (S.bd (eqb [1] false false x28 (Go.Value.int Go.IntKind.i64 7)) fun x39 => S.cnd x39 (S.bd (lal c1 10 2) fun x40 => S.bd (leapfrogref03x_IsKey.r x40 s) fun x41 => S.bd (S.gd x41 true (lal c1 12 2)) fun x42 => S.bd (S.gd x41 true (leapfrogref01x_Right.r x42 s)) fun x43 => S.bd (pik x41 x43 (Go.Value.bool Bool.false)) fun x44 => some (0, [x44], s)) (some (0, [(Go.Value.bool Bool.true)], s)))))) fun r45 => S.bd (un .not (r45.2.1.getD 0 undef)) fun x46 => S.cnd x46 (some ((Go.Value.int Go.IntKind.i64 30))) (some ((Go.Value.int Go.IntKind.i64 0))))
def leapfrogref03x_Check.r (a0 : Value) (s : St) : Option Value := leapfrogref03x_Check.t std a0 s
def leapfrogref03x_Check.w : List Value → St → Option Value
  | [a0], s => leapfrogref03x_Check.r a0 s
  | _, _ => none
def leapfrogref03x_Check.an : An := ⟨47, true, [1], [], [(14, ⟨[], [(.normal, [.v 3])]⟩)], [(1, [(0, 0, [], []), (1, 9, [], []), (2, 3, [], []), (3, 0, [], []), (4, 0, [], []), (5, 9, [], []), (7, 9, [], []), (6, 3, [], []), (8, 3, [], []), (9, 0, [], []), (10, 0, [], [])])], [], []⟩
theorem leapfrogref03x_Check.ok (S : Sig) (a0 : Value) (s : St) : evG S Try.prog leapfrogref03x_Check.ctx leapfrogref03x_Check.an Try.f17 [a0] s = leapfrogref03x_Check.t S a0 s := by kernel_rfl
theorem leapfrogref03x_Check.cok : CtxOk Try.prog leapfrogref03x_Check.ctx := .cons leapfrogref03x_IsKind.sound leapfrogref03x_IsKind.can <| .cons leapfrogref03x_only.sound leapfrogref03x_only.can <| .cons leapfrogref03x_Same.sound leapfrogref03x_Same.can <| .cons leapfrogref01x_Right.sound leapfrogref01x_Right.can <| .cons leapfrogref03x_IsKey.sound leapfrogref03x_IsKey.can <| .nil
theorem leapfrogref03x_Check.draws : fnDraws leapfrogref03x_Check.an Try.f17 = true := by kernel_rfl
theorem leapfrogref03x_Check.can : callOk Try.prog 17 = true := by kernel_rfl
theorem leapfrogref03x_Check.sound : FnOk Try.prog 17 (.rd leapfrogref03x_Check.w) := FnOk.rd_of (evG_ok leapfrogref03x_Check.cok mixed (f := 17) (fn := Try.f17) (by kernel_rfl) leapfrogref03x_Check.draws) fun args s r h => by
  unfold leapfrogref03x_Check.w at h; split at h
  · rw [leapfrogref03x_Check.ok std]; exact h
  · simp at h

/-! ### leapfrog/leapfrogref03.number: function 43 -/
def leapfrogref03x_number.ctx : Ctx := []
def leapfrogref03x_number.l2 (S : Sig) (rec10 : List Value → St → Option Cut) (xs8 : List Value) (s9 : St) : Option Cut :=
  S.bd (bin .geq (xs8.getD 0 undef) (Go.Value.int Go.IntKind.u64 128)) fun x11 => S.cnd x11 (S.bd (bin .rem (xs8.getD 0 undef) (Go.Value.int Go.IntKind.u64 128)) fun x12 => S.bd (cvi .u8 x12) fun x13 => S.bd (bin .add x13 (Go.Value.int Go.IntKind.u8 128)) fun x14 => S.bd (S.bd (bls 1 (List.replicate 1 [(Go.Value.int Go.IntKind.u8 0)]) [(0, x14)]) fun rows => als s9 1 1 rows) fun r15 => S.bd (app r15.2 1 1 (xs8.getD 1 undef) r15.1) fun r16 => S.bd (bin .quo (xs8.getD 0 undef) (Go.Value.int Go.IntKind.u64 128)) fun x17 => rec10 [x17, r16.1] r16.2) (some (0, [(xs8.getD 0 undef), (xs8.getD 1 undef)], s9))

def leapfrogref03x_number.t (S : Sig) (a0 : Value) (s : St) : Option (Value × St) :=
  S.bd (S.it (leapfrogref03x_number.l2 S) [a0, (Go.Value.slice Option.none 0 0)] s) fun r18 => S.bd (cvi .u8 (r18.2.1.getD 0 undef)) fun x19 => S.bd (S.bd (bls 1 (List.replicate 1 [(Go.Value.int Go.IntKind.u8 0)]) [(0, x19)]) fun rows => als r18.2.2 1 1 rows) fun r20 => S.bd (app r20.2 1 1 (r18.2.1.getD 1 undef) r20.1) fun r21 => some (r21.1, r21.2)
def leapfrogref03x_number.v (a0 : Value) (s : St) : Option (Value × St) := leapfrogref03x_number.t std a0 s
def leapfrogref03x_number.w : List Value → St → Option (Value × St)
  | [a0], s => leapfrogref03x_number.v a0 s
  | _, _ => none
def leapfrogref03x_number.an : An := ⟨20, false, [], [(2, ⟨[.v 0, .v 3], [(.exit 0, [.v 0, .v 3])]⟩)], [], [], [], []⟩
theorem leapfrogref03x_number.ok (S : Sig) (a0 : Value) (s : St) : evF S Try.prog leapfrogref03x_number.ctx leapfrogref03x_number.an Try.f43 [a0] s = leapfrogref03x_number.t S a0 s := by kernel_rfl
theorem leapfrogref03x_number.cok : CtxOk Try.prog leapfrogref03x_number.ctx := .nil
theorem leapfrogref03x_number.draws : fnDraws leapfrogref03x_number.an Try.f43 = true := by kernel_rfl
theorem leapfrogref03x_number.can : callOk Try.prog 43 = true := by kernel_rfl
theorem leapfrogref03x_number.sound : FnOk Try.prog 43 (.st leapfrogref03x_number.w) := FnOk.st_of (evF_ok leapfrogref03x_number.cok mixed (f := 43) (fn := Try.f43) (by kernel_rfl) leapfrogref03x_number.draws) fun args s r h => by
  unfold leapfrogref03x_number.w at h; split at h
  · rw [leapfrogref03x_number.ok std]; exact h
  · simp at h

/-! ### leapfrog/leapfrogref03.whole: function 44 -/
def leapfrogref03x_whole.ctx : Ctx := [(43, .st leapfrogref03x_number.w)]
def leapfrogref03x_whole.t (S : Sig) (a0 : Value) (s : St) : Option (Value × St) :=
  S.bd (bin .lss a0 (Go.Value.int Go.IntKind.i64 0)) fun x1 => S.cnd x1 (S.bd (bin .add a0 (Go.Value.int Go.IntKind.i64 1)) fun x2 => S.bd (un .neg x2) fun x3 => S.bd (cvi .u64 x3) fun x4 => S.bd (bin .mul x4 (Go.Value.int Go.IntKind.u64 2)) fun x5 => S.bd (bin .add x5 (Go.Value.int Go.IntKind.u64 1)) fun x6 => S.bd (leapfrogref03x_number.v x6 s) fun r7 => some (r7.1, r7.2)) (S.bd (cvi .u64 a0) fun x8 => S.bd (bin .mul x8 (Go.Value.int Go.IntKind.u64 2)) fun x9 => S.bd (leapfrogref03x_number.v x9 s) fun r10 => some (r10.1, r10.2))
def leapfrogref03x_whole.v (a0 : Value) (s : St) : Option (Value × St) := leapfrogref03x_whole.t std a0 s
def leapfrogref03x_whole.w : List Value → St → Option (Value × St)
  | [a0], s => leapfrogref03x_whole.v a0 s
  | _, _ => none
def leapfrogref03x_whole.an : An := ⟨16, false, [], [], [], [], [], []⟩
theorem leapfrogref03x_whole.ok (S : Sig) (a0 : Value) (s : St) : evF S Try.prog leapfrogref03x_whole.ctx leapfrogref03x_whole.an Try.f44 [a0] s = leapfrogref03x_whole.t S a0 s := by kernel_rfl
theorem leapfrogref03x_whole.cok : CtxOk Try.prog leapfrogref03x_whole.ctx := .cons leapfrogref03x_number.sound leapfrogref03x_number.can <| .nil
theorem leapfrogref03x_whole.draws : fnDraws leapfrogref03x_whole.an Try.f44 = true := by kernel_rfl
theorem leapfrogref03x_whole.can : callOk Try.prog 44 = true := by kernel_rfl
theorem leapfrogref03x_whole.sound : FnOk Try.prog 44 (.st leapfrogref03x_whole.w) := FnOk.st_of (evF_ok leapfrogref03x_whole.cok mixed (f := 44) (fn := Try.f44) (by kernel_rfl) leapfrogref03x_whole.draws) fun args s r h => by
  unfold leapfrogref03x_whole.w at h; split at h
  · rw [leapfrogref03x_whole.ok std]; exact h
  · simp at h

/-! ### leapfrog/leapfrogref01.Bits: function 60 -/
def leapfrogref01x_Bits.ctx : Ctx := []
def leapfrogref01x_Bits.l4 (S : Sig) (rec16 : List Value → St → Option Cut) (xs14 : List Value) (s15 : St) : Option Cut :=
  S.bd (bin .geq (xs14.getD 2 undef) (Go.Value.int Go.IntKind.i64 0)) fun x17 => S.cnd x17 (S.bd (bin .rem (xs14.getD 1 undef) (Go.Value.int Go.IntKind.u64 2)) fun x18 => S.bd (cvi .i64 x18) fun x19 => S.bd (idx s15 1 (xs14.getD 0 undef) (xs14.getD 2 undef)) fun x20 => S.bd (stv s15 1 x20 x19) fun s21 => S.bd (bin .quo (xs14.getD 1 undef) (Go.Value.int Go.IntKind.u64 2)) fun x22 => S.bd (bin .sub (xs14.getD 2 undef) (Go.Value.int Go.IntKind.i64 1)) fun x23 => rec16 [(xs14.getD 0 undef), x22, x23] s21) (some (0, [(xs14.getD 0 undef)], s15))

def leapfrogref01x_Bits.t (S : Sig) (a0 : Value) (s : St) : Option (Value × St) :=
  S.bd (bx a0) fun c1 => S.bd (lcl c1 0) fun x2 => S.bd (mks s 1 8 [(Go.Value.int Go.IntKind.i64 0)] x2 x2) fun r3 => S.bd (lcl c1 1) fun x4 => S.bd (lcl c1 0) fun x5 => S.bd (bin .sub x5 (Go.Value.int Go.IntKind.i64 1)) fun x6 => S.bd (S.it (leapfrogref01x_Bits.l4 S) [r3.1, x4, x6] r3.2) fun r24 => some ((r24.2.1.getD 0 undef), r24.2.2)
def leapfrogref01x_Bits.v (a0 : Value) (s : St) : Option (Value × St) := leapfrogref01x_Bits.t std a0 s
def leapfrogref01x_Bits.w : List Value → St → Option (Value × St)
  | [a0], s => leapfrogref01x_Bits.v a0 s
  | _, _ => none
def leapfrogref01x_Bits.an : An := ⟨27, false, [1], [(4, ⟨[.v 3, .v 4, .v 5], [(.exit 0, [.v 3])]⟩)], [], [], [], []⟩
theorem leapfrogref01x_Bits.ok (S : Sig) (a0 : Value) (s : St) : evF S Try.prog leapfrogref01x_Bits.ctx leapfrogref01x_Bits.an Try.f60 [a0] s = leapfrogref01x_Bits.t S a0 s := by kernel_rfl
theorem leapfrogref01x_Bits.cok : CtxOk Try.prog leapfrogref01x_Bits.ctx := .nil
theorem leapfrogref01x_Bits.draws : fnDraws leapfrogref01x_Bits.an Try.f60 = true := by kernel_rfl
theorem leapfrogref01x_Bits.can : callOk Try.prog 60 = true := by kernel_rfl
theorem leapfrogref01x_Bits.sound : FnOk Try.prog 60 (.st leapfrogref01x_Bits.w) := FnOk.st_of (evF_ok leapfrogref01x_Bits.cok mixed (f := 60) (fn := Try.f60) (by kernel_rfl) leapfrogref01x_Bits.draws) fun args s r h => by
  unfold leapfrogref01x_Bits.w at h; split at h
  · rw [leapfrogref01x_Bits.ok std]; exact h
  · simp at h

/-! ### leapfrog/leapfrogref03.vector: function 45 -/
def leapfrogref03x_vector.ctx : Ctx := [(60, .st leapfrogref01x_Bits.w)]
def leapfrogref03x_vector.l8 (S : Sig) (rec47 : List Value → St → Option Cut) (xs45 : List Value) (s46 : St) : Option Cut :=
  S.bd (bin .lss (xs45.getD 4 undef) (Go.Value.int Go.IntKind.i64 8)) fun x48 => S.cnd x48 (S.bd (bin .mul (xs45.getD 3 undef) (Go.Value.int Go.IntKind.u8 2)) fun x49 => S.bd (bin .add (xs45.getD 2 undef) (xs45.getD 4 undef)) fun x50 => S.bd (lenL (xs45.getD 1 undef)) fun x51 => S.bd (bin .lss x50 x51) fun x52 => S.cnd x52 (S.bd (bin .add (xs45.getD 2 undef) (xs45.getD 4 undef)) fun x53 => S.bd (idx s46 1 (xs45.getD 1 undef) x53) fun x54 => S.bd (ldc s46 x54) fun x55 => S.bd (cvi .u8 x55) fun x56 => S.bd (bin .add x49 x56) fun x57 => S.bd (bin .add (xs45.getD 4 undef) (Go.Value.int Go.IntKind.i64 1)) fun x58 => rec47 [(xs45.getD 0 undef), (xs45.getD 1 undef), (xs45.getD 2 undef), x57, x58] s46) (S.bd (bin .add (xs45.getD 4 undef) (Go.Value.int Go.IntKind.i64 1)) fun x59 => rec47 [(xs45.getD 0 undef), (xs45.getD 1 undef), (xs45.getD 2 undef), x49, x59] s46)) (some (0, [(xs45.getD 0 undef), (xs45.getD 1 undef), (xs45.getD 2 undef), (xs45.getD 3 undef)], s46))

def leapfrogref03x_vector.l4 (S : Sig) (rec42 : List Value → St → Option Cut) (xs40 : List Value) (s41 : St) : Option Cut :=
  S.bd (lenL (xs40.getD 1 undef)) fun x43 => S.bd (bin .lss (xs40.getD 2 undef) x43) fun x44 => S.cnd x44 (S.bd (S.it (leapfrogref03x_vector.l8 S) [(xs40.getD 0 undef), (xs40.getD 1 undef), (xs40.getD 2 undef), (Go.Value.int Go.IntKind.u8 0), (Go.Value.int Go.IntKind.i64 0)] s41) fun r60 => S.bd (S.bd (bls 1 (List.replicate 1 [(Go.Value.int Go.IntKind.u8 0)]) [(0, (r60.2.1.getD 3 undef))]) fun rows => als r60.2.2 1 1 rows) fun r61 => S.bd (app r61.2 1 1 (r60.2.1.getD 0 undef) r61.1) fun r62 => S.bd (bin .add (r60.2.1.getD 2 undef) (Go.Value.int Go.IntKind.i64 8)) fun x63 => rec42 [r62.1, (r60.2.1.getD 1 undef), x63] r62.2) (some (0, [(xs40.getD 0 undef)], s41))

def leapfrogref03x_vector.t (S : Sig) (a0 : Value) (s : St) : Option (Value × St) :=
  S.bd (bx a0) fun c1 => S.bd (lcl c1 0) fun x2 => S.bd (cvi .u8 x2) fun x3 => S.bd (S.bd (bls 1 (List.replicate 1 [(Go.Value.int Go.IntKind.u8 0)]) [(0, x3)]) fun rows => als s 1 1 rows) fun r4 => S.bd (lal c1 0 2) fun x5 => S.bd (leapfrogref01x_Bits.v x5 r4.2) fun r6 => S.bd (S.it (leapfrogref03x_vector.l4 S) [r4.1, r6.1, (Go.Value.int Go.IntKind.i64 0)] r6.2) fun r64 => some ((r64.2.1.getD 0 undef), r64.2.2)
def leapfrogref03x_vector.v (a0 : Value) (s : St) : Option (Value × St) := leapfrogref03x_vector.t std a0 s
def leapfrogref03x_vector.w : List Value → St → Option (Value × St)
  | [a0], s => leapfrogref03x_vector.v a0 s
  | _, _ => none
def leapfrogref03x_vector.an : An := ⟨46, false, [1], [(8, ⟨[.v 3, .v 4, .v 5, .v 6, .v 7], [(.exit 2, [.v 3, .v 4, .v 5, .v 6])]⟩), (4, ⟨[.v 3, .v 4, .v 5], [(.exit 0, [.v 3])]⟩)], [], [], [], []⟩
theorem leapfrogref03x_vector.ok (S : Sig) (a0 : Value) (s : St) : evF S Try.prog leapfrogref03x_vector.ctx leapfrogref03x_vector.an Try.f45 [a0] s = leapfrogref03x_vector.t S a0 s := by kernel_rfl
theorem leapfrogref03x_vector.cok : CtxOk Try.prog leapfrogref03x_vector.ctx := .cons leapfrogref01x_Bits.sound leapfrogref01x_Bits.can <| .nil
theorem leapfrogref03x_vector.draws : fnDraws leapfrogref03x_vector.an Try.f45 = true := by kernel_rfl
theorem leapfrogref03x_vector.can : callOk Try.prog 45 = true := by kernel_rfl
theorem leapfrogref03x_vector.sound : FnOk Try.prog 45 (.st leapfrogref03x_vector.w) := FnOk.st_of (evF_ok leapfrogref03x_vector.cok mixed (f := 45) (fn := Try.f45) (by kernel_rfl) leapfrogref03x_vector.draws) fun args s r h => by
  unfold leapfrogref03x_vector.w at h; split at h
  · rw [leapfrogref03x_vector.ok std]; exact h
  · simp at h

/-! ### leapfrog/leapfrogref03.KeyBytes: function 46 -/
def leapfrogref03x_KeyBytes.ctx : Ctx := [(48, .rd leapfrogref01x_Power.w)]
def leapfrogref03x_KeyBytes.l4 (S : Sig) (rec18 : List Value → St → Option Cut) (xs16 : List Value) (s17 : St) : Option Cut :=
  S.bd (bin .geq (xs16.getD 1 undef) (Go.Value.int Go.IntKind.i64 0)) fun x19 => S.cnd x19 (S.bd (lcl (cellsA (xs16.getD 2 undef)) 1) fun x20 => S.bd (bin .mul (Go.Value.int Go.IntKind.i64 8) (xs16.getD 1 undef)) fun x21 => S.bd (leapfrogref01x_Power.r x21 s17) fun x22 => S.bd (bin .quo x20 x22) fun x23 => S.bd (cvi .u8 x23) fun x24 => S.bd (S.bd (bls 1 (List.replicate 1 [(Go.Value.int Go.IntKind.u8 0)]) [(0, x24)]) fun rows => als s17 1 1 rows) fun r25 => S.bd (app r25.2 1 1 (xs16.getD 0 undef) r25.1) fun r26 => S.bd (bin .sub (xs16.getD 1 undef) (Go.Value.int Go.IntKind.i64 1)) fun x27 => rec18 [r26.1, x27, (Value.agg ⟨(cellsA (xs16.getD 2 undef))⟩)] r26.2) (some (0, [(xs16.getD 0 undef)], s17))

def leapfrogref03x_KeyBytes.t (S : Sig) (a0 : Value) (s : St) : Option (Value × St) :=
  S.bd (bx a0) fun c1 => S.bd (lcl c1 0) fun x2 => S.bd (cvi .u8 x2) fun x3 => S.bd (S.bd (bls 1 (List.replicate 1 [(Go.Value.int Go.IntKind.u8 0)]) [(0, x3)]) fun rows => als s 1 1 rows) fun r4 => S.bd (lcl c1 0) fun x5 => S.bd (eqb [1] false false x5 (Go.Value.int Go.IntKind.i64 2)) fun x6 => S.cnd x6 (S.bd (S.it (leapfrogref03x_KeyBytes.l4 S) [r4.1, (Go.Value.int Go.IntKind.i64 7), (Value.agg ⟨c1⟩)] r4.2) fun r28 => some ((r28.2.1.getD 0 undef), r28.2.2)) (some (r4.1, r4.2))
def leapfrogref03x_KeyBytes.v (a0 : Value) (s : St) : Option (Value × St) := leapfrogref03x_KeyBytes.t std a0 s
def leapfrogref03x_KeyBytes.w : List Value → St → Option (Value × St)
  | [a0], s => leapfrogref03x_KeyBytes.v a0 s
  | _, _ => none
def leapfrogref03x_KeyBytes.an : An := ⟨27, false, [1], [(4, ⟨[.p 1 1 0, .v 3, .v 4, .l 1], [(.exit 0, [.v 3])]⟩)], [], [(6, [(0, 0, [], []), (1, 0, [], []), (2, 9, [], []), (3, 0, [], []), (4, 0, [], []), (5, 3, [], []), (6, 0, [], []), (7, 0, [], []), (8, 3, [], []), (9, 4, [], []), (10, 0, [], [])])], [], []⟩
theorem leapfrogref03x_KeyBytes.ok (S : Sig) (a0 : Value) (s : St) : evF S Try.prog leapfrogref03x_KeyBytes.ctx leapfrogref03x_KeyBytes.an Try.f46 [a0] s = leapfrogref03x_KeyBytes.t S a0 s := by kernel_rfl
theorem leapfrogref03x_KeyBytes.cok : CtxOk Try.prog leapfrogref03x_KeyBytes.ctx := .cons leapfrogref01x_Power.sound leapfrogref01x_Power.can <| .nil
theorem leapfrogref03x_KeyBytes.draws : fnDraws leapfrogref03x_KeyBytes.an Try.f46 = true := by kernel_rfl
theorem leapfrogref03x_KeyBytes.can : callOk Try.prog 46 = true := by kernel_rfl
theorem leapfrogref03x_KeyBytes.sound : FnOk Try.prog 46 (.st leapfrogref03x_KeyBytes.w) := FnOk.st_of (evF_ok leapfrogref03x_KeyBytes.cok mixed (f := 46) (fn := Try.f46) (by kernel_rfl) leapfrogref03x_KeyBytes.draws) fun args s r h => by
  unfold leapfrogref03x_KeyBytes.w at h; split at h
  · rw [leapfrogref03x_KeyBytes.ok std]; exact h
  · simp at h

/-! ### leapfrog/leapfrogref03.one: function 27 -/
def leapfrogref03x_one.ctx : Ctx := [(43, .st leapfrogref03x_number.w), (44, .st leapfrogref03x_whole.w), (45, .st leapfrogref03x_vector.w), (46, .st leapfrogref03x_KeyBytes.w)]
def leapfrogref03x_one.t.p1 (S : Sig) (x2 : Value) (c1 : List Value) (s : St) : Option (Value × St) :=
  S.bd (eqb [1] false false x2 (Go.Value.int Go.IntKind.i64 2)) fun x6 => S.cnd x6 (S.bd (lcl c1 2) fun x7 => S.bd (leapfrogref03x_whole.v x7 s) fun r8 => some (r8.1, r8.2)) (S.bd (eqb [1] false false x2 (Go.Value.int Go.IntKind.i64 3)) fun x9 => S.cnd x9 (S.bd (lcl c1 3) fun x10 => S.cnd x10 (S.bd (S.bd (bls 1 (List.replicate 1 [(Go.Value.int Go.IntKind.u8 0)]) [(0, (Go.Value.int Go.IntKind.u8 1))]) fun rows => als s 1 1 rows) fun r11 => some (r11.1, r11.2)) (S.bd (S.bd (bls 1 (List.replicate 1 [(Go.Value.int Go.IntKind.u8 0)]) [(0, (Go.Value.int Go.IntKind.u8 0))]) fun rows => als s 1 1 rows) fun r12 => some (r12.1, r12.2))) (S.bd (eqb [1] false false x2 (Go.Value.int Go.IntKind.i64 4)) fun x13 => S.cnd x13 (S.bd (lcl c1 4) fun x14 => S.bd (lenL x14) fun x15 => S.bd (cvi .u64 x15) fun x16 => S.bd (lcl c1 4) fun x17 => S.bd (leapfrogref03x_number.v x16 s) fun r18 => S.bd (lenL x14) fun x19 => S.cnd (Value.bool (sameV x19 x15)) (S.bd (app r18.2 1 1 r18.1 x17) fun r20 => S.bd (lenL x14) fun x21 => S.cnd (Value.bool (sameV x21 x15)) (some (r20.1, r20.2)) (none)) (none)) (S.bd (eqb [1] false false x2 (Go.Value.int Go.IntKind.i64 5)) fun x22 => S.cnd x22 (S.bd (lal c1 5 2) fun x23 => S.bd (leapfrogref03x_vector.v x23 s) fun r24 => some (r24.1, r24.2)) (S.bd (eqb [1] false false x2 (Go.Value.int Go.IntKind.i64 6)) fun x25 => S.cnd x25 (S.bd (lal c1 7 2) fun x26 => S.bd (leapfrogref03x_KeyBytes.v x26 s) fun r27 => some (r27.1, r27.2)) (S.bd (lcl c1 9) fun x28 => S.bd (lal c1 10 2) fun x29 => S.bd (lal c1 12 2) fun x30 => S.bd (leapfrogref03x_whole.v x28 s) fun r31 => S.bd (leapfrogref03x_KeyBytes.v x29 r31.2) fun r32 => S.bd (app r32.2 1 1 r31.1 r32.1) fun r33 => S.bd (leapfrogref03x_vector.v x30 r33.2) fun r34 => S.bd (app r34.2 1 1 r33.1 r34.1) fun r35 => some (r35.1, r35.2))))))

def leapfrogref03x_one.t (S : Sig) (a0 : Value) (s : St) : Option (Value × St) :=
  S.bd (bx a0) fun c1 => S.bd (lcl c1 0) fun x2 => S.bd (eqb [1] false false x2 (Go.Value.int Go.IntKind.i64 1)) fun x3 => S.cnd x3 (S.bd (lcl c1 1) fun x4 => S.bd (leapfrogref03x_number.v x4 s) fun r5 => some (r5.1, r5.2)) (leapfrogref03x_one.t.p1 S x2 c1 s)
def leapfrogref03x_one.v (a0 : Value) (s : St) : Option (Value × St) := leapfrogref03x_one.t std a0 s
def leapfrogref03x_one.w : List Value → St → Option (Value × St)
  | [a0], s => leapfrogref03x_one.v a0 s
  | _, _ => none
def leapfrogref03x_one.an : An := ⟨55, false, [1], [], [], [(11, [(0, 0, [], []), (1, 9, [], []), (2, 2, [], []), (3, 0, [], []), (5, 0, [], []), (6, 9, [], []), (4, 4, [2], []), (7, 4, [2], []), (8, 0, [], [])]), (16, [(0, 0, [], []), (1, 0, [], []), (2, 9, [], []), (4, 0, [], []), (5, 0, [], []), (6, 9, [], []), (9, 0, [], []), (10, 0, [], []), (11, 9, [], []), (3, 4, [], []), (7, 4, [], []), (8, 4, [], []), (12, 4, [], []), (13, 4, [], []), (14, 0, [], [])])], [], []⟩
theorem leapfrogref03x_one.ok (S : Sig) (a0 : Value) (s : St) : evF S Try.prog leapfrogref03x_one.ctx leapfrogref03x_one.an Try.f27 [a0] s = leapfrogref03x_one.t S a0 s := by kernel_rfl
theorem leapfrogref03x_one.cok : CtxOk Try.prog leapfrogref03x_one.ctx := .cons leapfrogref03x_number.sound leapfrogref03x_number.can <| .cons leapfrogref03x_whole.sound leapfrogref03x_whole.can <| .cons leapfrogref03x_vector.sound leapfrogref03x_vector.can <| .cons leapfrogref03x_KeyBytes.sound leapfrogref03x_KeyBytes.can <| .nil
theorem leapfrogref03x_one.draws : fnDraws leapfrogref03x_one.an Try.f27 = true := by kernel_rfl
theorem leapfrogref03x_one.can : callOk Try.prog 27 = true := by kernel_rfl
theorem leapfrogref03x_one.sound : FnOk Try.prog 27 (.st leapfrogref03x_one.w) := FnOk.st_of (evF_ok leapfrogref03x_one.cok mixed (f := 27) (fn := Try.f27) (by kernel_rfl) leapfrogref03x_one.draws) fun args s r h => by
  unfold leapfrogref03x_one.w at h; split at h
  · rw [leapfrogref03x_one.ok std]; exact h
  · simp at h

/-! ### leapfrog/leapfrogref03.Pack: function 13 -/
def leapfrogref03x_Pack.ctx : Ctx := [(17, .rd leapfrogref03x_Check.w), (27, .st leapfrogref03x_one.w)]
def leapfrogref03x_Pack.l2 (S : Sig) (rec10 : List Value → St → Option Cut) (xs8 : List Value) (s9 : St) : Option Cut :=
  S.bd (lenL (xs8.getD 0 undef)) fun x11 => S.bd (bin .lss (xs8.getD 1 undef) x11) fun x12 => S.cnd x12 (S.bd (idx s9 14 (xs8.getD 0 undef) (xs8.getD 1 undef)) fun x13 => S.bd (lda s9 14 x13) fun x14 => S.bd (leapfrogref03x_Check.r x14 s9) fun x15 => S.bd (eqb [1] false true x15 (Go.Value.int Go.IntKind.i64 0)) fun x16 => S.cnd x16 (some (1, [(Go.Value.slice Option.none 0 0), (Go.Value.int Go.IntKind.i64 30)], s9)) (S.bd (bin .add (xs8.getD 1 undef) (Go.Value.int Go.IntKind.i64 1)) fun x17 => rec10 [(xs8.getD 0 undef), x17] s9)) (some (0, [(xs8.getD 0 undef)], s9))

def leapfrogref03x_Pack.l8 (S : Sig) (rec28 : List Value → St → Option Cut) (xs26 : List Value) (s27 : St) : Option Cut :=
  S.bd (lenL (xs26.getD 0 undef)) fun x29 => S.bd (bin .lss (xs26.getD 2 undef) x29) fun x30 => S.cnd x30 (S.bd (idx s27 14 (xs26.getD 0 undef) (xs26.getD 2 undef)) fun x31 => S.bd (lda s27 14 x31) fun x32 => S.bd (leapfrogref03x_one.v x32 s27) fun r33 => S.bd (app r33.2 1 1 (xs26.getD 1 undef) r33.1) fun r34 => S.bd (bin .add (xs26.getD 2 undef) (Go.Value.int Go.IntKind.i64 1)) fun x35 => rec28 [(xs26.getD 0 undef), r34.1, x35] r34.2) (some (0, [(xs26.getD 1 undef)], s27))

def leapfrogref03x_Pack.t (S : Sig) (a0 : Value) (s : St) : Option (Value × St) :=
  S.bd (S.it (leapfrogref03x_Pack.l2 S) [a0, (Go.Value.int Go.IntKind.i64 0)] s) fun r18 => if r18.1 = 0 then (S.bd (S.it (leapfrogref03x_Pack.l8 S) [(r18.2.1.getD 0 undef), (Go.Value.slice Option.none 0 0), (Go.Value.int Go.IntKind.i64 0)] r18.2.2) fun r36 => some ((Value.tuple ⟨[(r36.2.1.getD 0 undef), (Go.Value.int Go.IntKind.i64 0)]⟩), r36.2.2)) else (some ((Value.tuple ⟨[(r18.2.1.getD 0 undef), (r18.2.1.getD 1 undef)]⟩), r18.2.2))
def leapfrogref03x_Pack.v (a0 : Value) (s : St) : Option (Value × St) := leapfrogref03x_Pack.t std a0 s
def leapfrogref03x_Pack.w : List Value → St → Option (Value × St)
  | [a0], s => leapfrogref03x_Pack.v a0 s
  | _, _ => none
def leapfrogref03x_Pack.an : An := ⟨33, false, [], [(2, ⟨[.v 0, .v 4], [(.exit 0, [.v 0]), (.ret, [.v 2, .v 3])]⟩), (8, ⟨[.v 0, .v 5, .v 6], [(.exit 2, [.v 5])]⟩)], [], [], [], []⟩
theorem leapfrogref03x_Pack.ok (S : Sig) (a0 : Value) (s : St) : evF S Try.prog leapfrogref03x_Pack.ctx leapfrogref03x_Pack.an Try.f13 [a0] s = leapfrogref03x_Pack.t S a0 s := by kernel_rfl
theorem leapfrogref03x_Pack.cok : CtxOk Try.prog leapfrogref03x_Pack.ctx := .cons leapfrogref03x_Check.sound leapfrogref03x_Check.can <| .cons leapfrogref03x_one.sound leapfrogref03x_one.can <| .nil
theorem leapfrogref03x_Pack.draws : fnDraws leapfrogref03x_Pack.an Try.f13 = true := by kernel_rfl
theorem leapfrogref03x_Pack.can : callOk Try.prog 13 = true := by kernel_rfl
theorem leapfrogref03x_Pack.sound : FnOk Try.prog 13 (.st leapfrogref03x_Pack.w) := FnOk.st_of (evF_ok leapfrogref03x_Pack.cok mixed (f := 13) (fn := Try.f13) (by kernel_rfl) leapfrogref03x_Pack.draws) fun args s r h => by
  unfold leapfrogref03x_Pack.w at h; split at h
  · rw [leapfrogref03x_Pack.ok std]; exact h
  · simp at h

/-! ### leapfrog/pack.Size: function 14 -/
def pack_Size.ctx : Ctx := [(9, .st pack_Pack.w)]
def pack_Size.t (S : Sig) (a0 : Value) (s : St) : Option (Value × St) :=
  S.bd (pack_Pack.v a0 s) fun r1 => S.bd (xtr 0 r1.1) fun x2 => S.bd (xtr 1 r1.1) fun x3 => S.bd (lenL x2) fun x4 => some ((Value.tuple ⟨[x4, x3]⟩), r1.2)
def pack_Size.v (a0 : Value) (s : St) : Option (Value × St) := pack_Size.t std a0 s
def pack_Size.w : List Value → St → Option (Value × St)
  | [a0], s => pack_Size.v a0 s
  | _, _ => none
def pack_Size.an : An := ⟨14, false, [], [], [], [], [], []⟩
theorem pack_Size.ok (S : Sig) (a0 : Value) (s : St) : evF S Try.prog pack_Size.ctx pack_Size.an Try.f14 [a0] s = pack_Size.t S a0 s := by kernel_rfl
theorem pack_Size.cok : CtxOk Try.prog pack_Size.ctx := .cons pack_Pack.sound pack_Pack.can <| .nil
theorem pack_Size.draws : fnDraws pack_Size.an Try.f14 = true := by kernel_rfl
theorem pack_Size.can : callOk Try.prog 14 = true := by kernel_rfl
theorem pack_Size.sound : FnOk Try.prog 14 (.st pack_Size.w) := FnOk.st_of (evF_ok pack_Size.cok mixed (f := 14) (fn := Try.f14) (by kernel_rfl) pack_Size.draws) fun args s r h => by
  unfold pack_Size.w at h; split at h
  · rw [pack_Size.ok std]; exact h
  · simp at h

/-! ### leapfrog/leapfrogref03.Size: function 15 -/
def leapfrogref03x_Size.ctx : Ctx := [(13, .st leapfrogref03x_Pack.w)]
def leapfrogref03x_Size.t (S : Sig) (a0 : Value) (s : St) : Option (Value × St) :=
  S.bd (leapfrogref03x_Pack.v a0 s) fun r1 => S.bd (xtr 0 r1.1) fun x2 => S.bd (xtr 1 r1.1) fun x3 => S.bd (lenL x2) fun x4 => some ((Value.tuple ⟨[x4, x3]⟩), r1.2)
def leapfrogref03x_Size.v (a0 : Value) (s : St) : Option (Value × St) := leapfrogref03x_Size.t std a0 s
def leapfrogref03x_Size.w : List Value → St → Option (Value × St)
  | [a0], s => leapfrogref03x_Size.v a0 s
  | _, _ => none
def leapfrogref03x_Size.an : An := ⟨14, false, [], [], [], [], [], []⟩
theorem leapfrogref03x_Size.ok (S : Sig) (a0 : Value) (s : St) : evF S Try.prog leapfrogref03x_Size.ctx leapfrogref03x_Size.an Try.f15 [a0] s = leapfrogref03x_Size.t S a0 s := by kernel_rfl
theorem leapfrogref03x_Size.cok : CtxOk Try.prog leapfrogref03x_Size.ctx := .cons leapfrogref03x_Pack.sound leapfrogref03x_Pack.can <| .nil
theorem leapfrogref03x_Size.draws : fnDraws leapfrogref03x_Size.an Try.f15 = true := by kernel_rfl
theorem leapfrogref03x_Size.can : callOk Try.prog 15 = true := by kernel_rfl
theorem leapfrogref03x_Size.sound : FnOk Try.prog 15 (.st leapfrogref03x_Size.w) := FnOk.st_of (evF_ok leapfrogref03x_Size.cok mixed (f := 15) (fn := Try.f15) (by kernel_rfl) leapfrogref03x_Size.draws) fun args s r h => by
  unfold leapfrogref03x_Size.w at h; split at h
  · rw [leapfrogref03x_Size.ok std]; exact h
  · simp at h

/-! ### leapfrog/leapfroglaw03.PackWrites: function 4 -/
def leapfroglaw03x_PackWrites.ctx : Ctx := [(12, .st leapfroglaw03x_few.w), (9, .st pack_Pack.w), (13, .st leapfrogref03x_Pack.w), (14, .st pack_Size.w), (15, .st leapfrogref03x_Size.w), (16, .rd pack_Check.w), (17, .rd leapfrogref03x_Check.w), (18, .rd pack_Same.w), (19, .rd leapfrogref03x_Same.w), (11, .rd leapfroglaw03x_aliveC.w)]
def leapfroglaw03x_PackWrites.t.p1 (S : Sig) (r3 : Value × St) (r7 : Value × St) (x5 : Value) (x8 : Value) (x6 : Value) (x9 : Value) (c1 : List Value) (c2 : List Value) : Option (Value × St) :=
  S.bd (pack_Size.v r3.1 r7.2) fun r10 => S.bd (xtr 0 r10.1) fun x11 => S.bd (xtr 1 r10.1) fun x12 => S.bd (leapfrogref03x_Size.v r3.1 r10.2) fun r13 => S.bd (xtr 0 r13.1) fun x14 => S.bd (xtr 1 r13.1) fun x15 => S.bd (b2s r13.2 x5) fun x16 => S.bd (b2s r13.2 x8) fun x17 => S.bd (eqb [2] false false x16 x17) fun x18 => S.bd (S.gd x18 true (some x6)) fun x19 => S.bd (S.gd x18 true (some x9)) fun x20 => S.bd (S.gd x18 true (eqb [1] false false x19 x20)) fun x21 => S.bd (pik x18 x21 (Go.Value.bool Bool.false)) fun x22 => S.bd (S.gd x22 true (some x11)) fun x23 => S.bd (S.gd x22 true (some x14)) fun x24 => S.bd (S.gd x22 true (eqb [1] false false x23 x24)) fun x25 => S.bd (pik x22 x25 (Go.Value.bool Bool.false)) fun x26 => S.bd (S.gd x26 true (some x12)) fun x27 => S.bd (S.gd x26 true (some x15)) fun x28 => S.bd (S.gd x26 true (eqb [1] false false x27 x28)) fun x29 => S.bd (pik x26 x29 (Go.Value.bool Bool.false)) fun x30 => S.bd (S.gd x30 true (lal c1 0 14)) fun x31 => S.bd (S.gd x30 true (lal c1 0 14)) fun x32 => S.bd (S.gd x30 true (pack_Check.r x31 r13.2)) fun x33 => S.bd (S.gd x30 true (leapfrogref03x_Check.r x32 r13.2)) fun x34 => S.bd (S.gd x30 true (eqb [1] false false x33 x34)) fun x35 => S.bd (pik x30 x35 (Go.Value.bool Bool.false)) fun x36 => S.bd (S.gd x36 true (lal c1 0 14)) fun x37 => S.bd (S.gd x36 true (lal c2 0 14)) fun x38 => S.bd (S.gd x36 true (lal c1 0 14)) fun x39 => S.bd (S.gd x36 true (lal c2 0 14)) fun x40 => S.bd (S.gd x36 true (pack_Same.r x37 x38 r13.2)) fun x41 => S.bd (S.gd x36 true (leapfrogref03x_Same.r x39 x40 r13.2)) fun x42 => S.bd (S.gd x36 true (eqb [0] false false x41 x42)) fun x43 => S.bd (pik x36 x43 (Go.Value.bool Bool.false)) fun x44 => S.bd (S.gd x44 true (lal c1 0 14)) fun x45 => S.bd (S.gd x44 true (lal c1 0 14)) fun x46 => S.bd (S.gd x44 true (pack_Same.r x45 x46 r13.2)) fun x47 => S.bd (pik x44 x47 (Go.Value.bool Bool.false)) fun x48 => S.bd (S.gd x48 true (leapfroglaw03x_aliveC.r  r13.2)) fun x49 => S.bd (pik x48 x49 (Go.Value.bool Bool.false)) fun x50 => some (x50, r13.2)

def leapfroglaw03x_PackWrites.t (S : Sig) (a0 a1 a2 : Value) (s : St) : Option (Value × St) :=
  S.bd (bx a1) fun c1 => S.bd (bx a2) fun c2 => S.bd (leapfroglaw03x_few.v a0 s) fun r3 => S.bd (pack_Pack.v r3.1 r3.2) fun r4 => S.bd (xtr 0 r4.1) fun x5 => S.bd (xtr 1 r4.1) fun x6 => S.bd (leapfrogref03x_Pack.v r3.1 r4.2) fun r7 => S.bd (xtr 0 r7.1) fun x8 => S.bd (xtr 1 r7.1) fun x9 => leapfroglaw03x_PackWrites.t.p1 S r3 r7 x5 x8 x6 x9 c1 c2
def leapfroglaw03x_PackWrites.v (a0 a1 a2 : Value) (s : St) : Option (Value × St) := leapfroglaw03x_PackWrites.t std a0 a1 a2 s
def leapfroglaw03x_PackWrites.w : List Value → St → Option (Value × St)
  | [a0, a1, a2], s => leapfroglaw03x_PackWrites.v a0 a1 a2 s
  | _, _ => none
def leapfroglaw03x_PackWrites.an : An := ⟨81, false, [4, 5], [], [], [(6, [(0, 0, [], []), (1, 2, [], []), (2, 0, [], []), (3, 2, [], []), (4, 0, [], []), (5, 0, [], []), (6, 0, [], []), (7, 0, [], []), (8, 0, [], []), (9, 0, [], []), (10, 0, [], []), (11, 0, [], []), (12, 0, [], []), (13, 0, [], []), (14, 0, [], []), (15, 0, [], []), (16, 0, [], []), (17, 0, [], []), (18, 0, [], []), (19, 0, [], []), (20, 0, [], []), (21, 33, [], []), (23, 33, [], []), (22, 3, [], []), (24, 3, [], []), (25, 0, [], []), (26, 0, [], []), (27, 0, [], []), (28, 33, [], []), (29, 41, [], []), (31, 33, [], []), (32, 41, [], []), (30, 3, [], []), (33, 3, [], []), (34, 0, [], []), (35, 0, [], []), (36, 0, [], []), (37, 33, [], []), (38, 33, [], []), (39, 3, [], []), (40, 0, [], []), (41, 0, [], []), (42, 3, [], []), (43, 0, [], []), (44, 0, [], [])])], [], []⟩
theorem leapfroglaw03x_PackWrites.ok (S : Sig) (a0 a1 a2 : Value) (s : St) : evF S Try.prog leapfroglaw03x_PackWrites.ctx leapfroglaw03x_PackWrites.an Try.f4 [a0, a1, a2] s = leapfroglaw03x_PackWrites.t S a0 a1 a2 s := by kernel_rfl
theorem leapfroglaw03x_PackWrites.cok : CtxOk Try.prog leapfroglaw03x_PackWrites.ctx := .cons leapfroglaw03x_few.sound leapfroglaw03x_few.can <| .cons pack_Pack.sound pack_Pack.can <| .cons leapfrogref03x_Pack.sound leapfrogref03x_Pack.can <| .cons pack_Size.sound pack_Size.can <| .cons leapfrogref03x_Size.sound leapfrogref03x_Size.can <| .cons pack_Check.sound pack_Check.can <| .cons leapfrogref03x_Check.sound leapfrogref03x_Check.can <| .cons pack_Same.sound pack_Same.can <| .cons leapfrogref03x_Same.sound leapfrogref03x_Same.can <| .cons leapfroglaw03x_aliveC.sound leapfroglaw03x_aliveC.can <| .nil
theorem leapfroglaw03x_PackWrites.draws : fnDraws leapfroglaw03x_PackWrites.an Try.f4 = true := by kernel_rfl
theorem leapfroglaw03x_PackWrites.can : callOk Try.prog 4 = true := by kernel_rfl
theorem leapfroglaw03x_PackWrites.sound : FnOk Try.prog 4 (.st leapfroglaw03x_PackWrites.w) := FnOk.st_of (evF_ok leapfroglaw03x_PackWrites.cok mixed (f := 4) (fn := Try.f4) (by kernel_rfl) leapfroglaw03x_PackWrites.draws) fun args s r h => by
  unfold leapfroglaw03x_PackWrites.w at h; split at h
  · rw [leapfroglaw03x_PackWrites.ok std]; exact h
  · simp at h

/-! ### leapfrog/pack.Unpack: function 20 -/
def pack_Unpack.ctx : Ctx := [(21, .st pack_First.w)]
def pack_Unpack.t (S : Sig) (a0 a1 : Value) (s : St) : Option (Value × St) :=
  S.bd (pack_First.v a0 a1 s) fun r1 => S.bd (xtr 0 r1.1) fun x2 => S.bd (xtr 1 r1.1) fun x3 => S.bd (xtr 2 r1.1) fun x4 => S.bd (eqb [1] false true x4 (Go.Value.int Go.IntKind.i64 0)) fun x5 => S.cnd x5 (some ((Value.tuple ⟨[(Go.Value.slice Option.none 0 0), x3, x4]⟩), r1.2)) (S.bd (lenL a0) fun x6 => S.bd (bin .lss x3 x6) fun x7 => S.cnd x7 (some ((Value.tuple ⟨[(Go.Value.slice Option.none 0 0), x3, (Go.Value.int Go.IntKind.i64 33)]⟩), r1.2)) (some ((Value.tuple ⟨[x2, (Go.Value.int Go.IntKind.i64 0), (Go.Value.int Go.IntKind.i64 0)]⟩), r1.2)))
def pack_Unpack.v (a0 a1 : Value) (s : St) : Option (Value × St) := pack_Unpack.t std a0 a1 s
def pack_Unpack.w : List Value → St → Option (Value × St)
  | [a0, a1], s => pack_Unpack.v a0 a1 s
  | _, _ => none
def pack_Unpack.an : An := ⟨29, false, [], [], [], [], [], []⟩
theorem pack_Unpack.ok (S : Sig) (a0 a1 : Value) (s : St) : evF S Try.prog pack_Unpack.ctx pack_Unpack.an Try.f20 [a0, a1] s = pack_Unpack.t S a0 a1 s := by kernel_rfl
theorem pack_Unpack.cok : CtxOk Try.prog pack_Unpack.ctx := .cons pack_First.sound pack_First.can <| .nil
theorem pack_Unpack.draws : fnDraws pack_Unpack.an Try.f20 = true := by kernel_rfl
theorem pack_Unpack.can : callOk Try.prog 20 = true := by kernel_rfl
theorem pack_Unpack.sound : FnOk Try.prog 20 (.st pack_Unpack.w) := FnOk.st_of (evF_ok pack_Unpack.cok mixed (f := 20) (fn := Try.f20) (by kernel_rfl) pack_Unpack.draws) fun args s r h => by
  unfold pack_Unpack.w at h; split at h
  · rw [pack_Unpack.ok std]; exact h
  · simp at h

/-! ### leapfrog/leapfroglaw03.PackLong: function 5 -/
def leapfroglaw03x_PackLong.ctx : Ctx := [(11, .rd leapfroglaw03x_aliveC.w), (9, .st pack_Pack.w), (20, .st pack_Unpack.w), (21, .st pack_First.w)]
def leapfroglaw03x_PackLong.t.p1 (S : Sig) (r20 : Value × St) (c18 : List Value) (x11 : Value) (x16 : Value) (x14 : Value) : Option (Value × St) :=
  S.bd (pack_Pack.v r20.1 r20.2) fun r21 => S.bd (xtr 0 r21.1) fun x22 => S.bd (xtr 1 r21.1) fun x23 => S.bd (S.bd (bls 1 (List.replicate 3 [(Go.Value.int Go.IntKind.u8 0)]) [(0, (Go.Value.int Go.IntKind.u8 129)), (1, (Go.Value.int Go.IntKind.u8 128)), (2, (Go.Value.int Go.IntKind.u8 4))]) fun rows => als r21.2 1 3 rows) fun r24 => S.bd (lcl c18 4) fun x25 => S.bd (app r24.2 1 1 r24.1 x25) fun r26 => S.bd (S.bd (bls 1 (List.replicate 1 [(Go.Value.int Go.IntKind.i64 0)]) [(0, (Go.Value.int Go.IntKind.i64 4))]) fun rows => als r26.2 1 1 rows) fun r27 => S.bd (pack_First.v r26.1 r27.1 r27.2) fun r28 => S.bd (xtr 0 r28.1) fun x29 => S.bd (xtr 1 r28.1) fun x30 => S.bd (xtr 2 r28.1) fun x31 => S.bd (eqb [1] false false x11 (Go.Value.int Go.IntKind.i64 0)) fun x32 => S.bd (S.gd x32 true (some x16)) fun x33 => S.bd (S.gd x32 true (eqb [1] false false x33 (Go.Value.int Go.IntKind.i64 0))) fun x34 => S.bd (pik x32 x34 (Go.Value.bool Bool.false)) fun x35 => S.bd (S.gd x35 true (some x14)) fun x36 => S.bd (S.gd x35 true (lenL x36)) fun x37 => S.bd (S.gd x35 true (eqb [1] false false x37 (Go.Value.int Go.IntKind.i64 1))) fun x38 => S.bd (pik x35 x38 (Go.Value.bool Bool.false)) fun x39 => S.bd (S.gd x39 true (some x14)) fun x40 => S.bd (S.gd x39 true (idx r28.2 14 x40 (Go.Value.int Go.IntKind.i64 0))) fun x41 => S.bd (S.gd x39 true (fld 4 x41)) fun x42 => S.bd (S.gd x39 true (ldc r28.2 x42)) fun x43 => S.bd (S.gd x39 true (lenL x43)) fun x44 => S.bd (S.gd x39 true (eqb [1] false false x44 (Go.Value.int Go.IntKind.i64 65536))) fun x45 => S.bd (pik x39 x45 (Go.Value.bool Bool.false)) fun x46 => S.bd (S.gd x46 true (some x23)) fun x47 => S.bd (S.gd x46 true (eqb [1] false false x47 (Go.Value.int Go.IntKind.i64 30))) fun x48 => S.bd (pik x46 x48 (Go.Value.bool Bool.false)) fun x49 => S.bd (S.gd x49 true (some x30)) fun x50 => S.bd (S.gd x49 true (eqb [1] false false x50 (Go.Value.int Go.IntKind.i64 2))) fun x51 => S.bd (pik x49 x51 (Go.Value.bool Bool.false)) fun x52 => S.bd (S.gd x52 true (some x31)) fun x53 => S.bd (S.gd x52 true (eqb [1] false false x53 (Go.Value.int Go.IntKind.i64 31))) fun x54 => S.bd (pik x52 x54 (Go.Value.bool Bool.false)) fun x55 => S.bd (S.gd x55 true (leapfroglaw03x_aliveC.r  r28.2)) fun x56 => S.bd (pik x55 x56 (Go.Value.bool Bool.false)) fun x57 => some (x57, r28.2)

def leapfroglaw03x_PackLong.t.p2 (S : Sig) (s : St) : Option (Value × St) :=
  S.bd (mks s 1 1 [(Go.Value.int Go.IntKind.u8 0)] (Go.Value.int Go.IntKind.i64 65536) (Go.Value.int Go.IntKind.i64 65536)) fun r3 => S.bd (bld [(Go.Value.int Go.IntKind.i64 0), (Go.Value.int Go.IntKind.u64 0), (Go.Value.int Go.IntKind.i64 0), (Go.Value.bool Bool.false), (Go.Value.slice Option.none 0 0), (Go.Value.int Go.IntKind.i64 0), (Go.Value.int Go.IntKind.u64 0), (Go.Value.int Go.IntKind.i64 0), (Go.Value.int Go.IntKind.u64 0), (Go.Value.int Go.IntKind.i64 0), (Go.Value.int Go.IntKind.i64 0), (Go.Value.int Go.IntKind.u64 0), (Go.Value.int Go.IntKind.i64 0), (Go.Value.int Go.IntKind.u64 0)] [(0, 1, (Go.Value.int Go.IntKind.i64 4)), (4, 1, r3.1)]) fun x4 => S.bd (bx (Go.Value.agg #[(Go.Value.int Go.IntKind.i64 0), (Go.Value.int Go.IntKind.u64 0), (Go.Value.int Go.IntKind.i64 0), (Go.Value.bool Bool.false), (Go.Value.slice Option.none 0 0), (Go.Value.int Go.IntKind.i64 0), (Go.Value.int Go.IntKind.u64 0), (Go.Value.int Go.IntKind.i64 0), (Go.Value.int Go.IntKind.u64 0), (Go.Value.int Go.IntKind.i64 0), (Go.Value.int Go.IntKind.i64 0), (Go.Value.int Go.IntKind.u64 0), (Go.Value.int Go.IntKind.i64 0), (Go.Value.int Go.IntKind.u64 0)])) fun c5 => S.bd (stl c5 0 14 x4) fun c6 => S.bd (lal c6 0 14) fun x7 => S.bd (S.bd (bls 14 (List.replicate 1 [(Go.Value.int Go.IntKind.i64 0), (Go.Value.int Go.IntKind.u64 0), (Go.Value.int Go.IntKind.i64 0), (Go.Value.bool Bool.false), (Go.Value.slice Option.none 0 0), (Go.Value.int Go.IntKind.i64 0), (Go.Value.int Go.IntKind.u64 0), (Go.Value.int Go.IntKind.i64 0), (Go.Value.int Go.IntKind.u64 0), (Go.Value.int Go.IntKind.i64 0), (Go.Value.int Go.IntKind.i64 0), (Go.Value.int Go.IntKind.u64 0), (Go.Value.int Go.IntKind.i64 0), (Go.Value.int Go.IntKind.u64 0)]) [(0, x7)]) fun rows => als r3.2 14 1 rows) fun r8 => S.bd (pack_Pack.v r8.1 r8.2) fun r9 => S.bd (xtr 0 r9.1) fun x10 => S.bd (xtr 1 r9.1) fun x11 => S.bd (S.bd (bls 1 (List.replicate 1 [(Go.Value.int Go.IntKind.i64 0)]) [(0, (Go.Value.int Go.IntKind.i64 4))]) fun rows => als r9.2 1 1 rows) fun r12 => S.bd (pack_Unpack.v x10 r12.1 r12.2) fun r13 => S.bd (xtr 0 r13.1) fun x14 => S.bd (xtr 1 r13.1) fun x15 => S.bd (xtr 2 r13.1) fun x16 => S.bd (mks r13.2 1 1 [(Go.Value.int Go.IntKind.u8 0)] (Go.Value.int Go.IntKind.i64 65537) (Go.Value.int Go.IntKind.i64 65537)) fun r17 => S.bd (stl c6 4 1 r17.1) fun c18 => S.bd (lal c18 0 14) fun x19 => S.bd (S.bd (bls 14 (List.replicate 1 [(Go.Value.int Go.IntKind.i64 0), (Go.Value.int Go.IntKind.u64 0), (Go.Value.int Go.IntKind.i64 0), (Go.Value.bool Bool.false), (Go.Value.slice Option.none 0 0), (Go.Value.int Go.IntKind.i64 0), (Go.Value.int Go.IntKind.u64 0), (Go.Value.int Go.IntKind.i64 0), (Go.Value.int Go.IntKind.u64 0), (Go.Value.int Go.IntKind.i64 0), (Go.Value.int Go.IntKind.i64 0), (Go.Value.int Go.IntKind.u64 0), (Go.Value.int Go.IntKind.i64 0), (Go.Value.int Go.IntKind.u64 0)]) [(0, x19)]) fun rows => als r17.2 14 1 rows) fun r20 => leapfroglaw03x_PackLong.t.p1 S r20 c18 x11 x16 x14

def leapfroglaw03x_PackLong.t (S : Sig) (a0 : Value) (s : St) : Option (Value × St) :=
  S.bd (eqb [1] false true a0 (Go.Value.int Go.IntKind.i64 1)) fun x1 => S.cnd x1 (S.bd (leapfroglaw03x_aliveC.r  s) fun x2 => some (x2, s)) (leapfroglaw03x_PackLong.t.p2 S s)
def leapfroglaw03x_PackLong.v (a0 : Value) (s : St) : Option (Value × St) := leapfroglaw03x_PackLong.t std a0 s
def leapfroglaw03x_PackLong.w : List Value → St → Option (Value × St)
  | [a0], s => leapfroglaw03x_PackLong.v a0 s
  | _, _ => none
def leapfroglaw03x_PackLong.an : An := ⟨84, false, [3], [], [], [], [], []⟩
theorem leapfroglaw03x_PackLong.ok (S : Sig) (a0 : Value) (s : St) : evF S Try.prog leapfroglaw03x_PackLong.ctx leapfroglaw03x_PackLong.an Try.f5 [a0] s = leapfroglaw03x_PackLong.t S a0 s := by kernel_rfl
theorem leapfroglaw03x_PackLong.cok : CtxOk Try.prog leapfroglaw03x_PackLong.ctx := .cons leapfroglaw03x_aliveC.sound leapfroglaw03x_aliveC.can <| .cons pack_Pack.sound pack_Pack.can <| .cons pack_Unpack.sound pack_Unpack.can <| .cons pack_First.sound pack_First.can <| .nil
theorem leapfroglaw03x_PackLong.draws : fnDraws leapfroglaw03x_PackLong.an Try.f5 = true := by kernel_rfl
theorem leapfroglaw03x_PackLong.can : callOk Try.prog 5 = true := by kernel_rfl
theorem leapfroglaw03x_PackLong.sound : FnOk Try.prog 5 (.st leapfroglaw03x_PackLong.w) := FnOk.st_of (evF_ok leapfroglaw03x_PackLong.cok mixed (f := 5) (fn := Try.f5) (by kernel_rfl) leapfroglaw03x_PackLong.draws) fun args s r h => by
  unfold leapfroglaw03x_PackLong.w at h; split at h
  · rw [leapfroglaw03x_PackLong.ok std]; exact h
  · simp at h

/-! ### leapfrog/leapfroglaw03.fewKinds: function 22 -/
def leapfroglaw03x_fewKinds.ctx : Ctx := []
def leapfroglaw03x_fewKinds.t (S : Sig) (a0 : Value) (s : St) : Option Value :=
  S.bd (lenL a0) fun x1 => S.bd (bin .gtr x1 (Go.Value.int Go.IntKind.i64 20)) fun x2 => S.cnd x2 (S.bd (slc s 1 a0 none (some (Go.Value.int Go.IntKind.i64 20)) none) fun x3 => some (x3)) (some (a0))
def leapfroglaw03x_fewKinds.r (a0 : Value) (s : St) : Option Value := leapfroglaw03x_fewKinds.t std a0 s
def leapfroglaw03x_fewKinds.w : List Value → St → Option Value
  | [a0], s => leapfroglaw03x_fewKinds.r a0 s
  | _, _ => none
def leapfroglaw03x_fewKinds.an : An := ⟨9, true, [], [], [], [], [], []⟩
theorem leapfroglaw03x_fewKinds.ok (S : Sig) (a0 : Value) (s : St) : evG S Try.prog leapfroglaw03x_fewKinds.ctx leapfroglaw03x_fewKinds.an Try.f22 [a0] s = leapfroglaw03x_fewKinds.t S a0 s := by kernel_rfl
theorem leapfroglaw03x_fewKinds.cok : CtxOk Try.prog leapfroglaw03x_fewKinds.ctx := .nil
theorem leapfroglaw03x_fewKinds.draws : fnDraws leapfroglaw03x_fewKinds.an Try.f22 = true := by kernel_rfl
theorem leapfroglaw03x_fewKinds.can : callOk Try.prog 22 = true := by kernel_rfl
theorem leapfroglaw03x_fewKinds.sound : FnOk Try.prog 22 (.rd leapfroglaw03x_fewKinds.w) := FnOk.rd_of (evG_ok leapfroglaw03x_fewKinds.cok mixed (f := 22) (fn := Try.f22) (by kernel_rfl) leapfroglaw03x_fewKinds.draws) fun args s r h => by
  unfold leapfroglaw03x_fewKinds.w at h; split at h
  · rw [leapfroglaw03x_fewKinds.ok std]; exact h
  · simp at h

/-! ### (*leapfrog/leapfrogref03.Reader).next: function 62 -/
def leapfrogref03x_Reader_next.ctx : Ctx := []
def leapfrogref03x_Reader_next.t (S : Sig) (a0 : Value) (s : St) : Option (Value × St) :=
  S.bd (nck a0) fun x1 => S.bd (fld 2 x1) fun x2 => S.bd (ldc s x2) fun x3 => S.bd (eqb [1] false true x3 (Go.Value.int Go.IntKind.i64 0)) fun x4 => S.cnd x4 (some ((Value.tuple ⟨[(Go.Value.int Go.IntKind.u8 0), (Go.Value.bool Bool.false)]⟩), s)) (S.bd (nck a0) fun x5 => S.bd (fld 1 x5) fun x6 => S.bd (ldc s x6) fun x7 => S.bd (nck a0) fun x8 => S.bd (fld 0 x8) fun x9 => S.bd (ldc s x9) fun x10 => S.bd (lenL x10) fun x11 => S.bd (bin .geq x7 x11) fun x12 => S.cnd x12 (S.bd (nck a0) fun x13 => S.bd (fld 2 x13) fun x14 => S.bd (stv s 1 x14 (Go.Value.int Go.IntKind.i64 32)) fun s15 => some ((Value.tuple ⟨[(Go.Value.int Go.IntKind.u8 0), (Go.Value.bool Bool.false)]⟩), s15)) (S.bd (nck a0) fun x16 => S.bd (fld 0 x16) fun x17 => S.bd (ldc s x17) fun x18 => S.bd (nck a0) fun x19 => S.bd (fld 1 x19) fun x20 => S.bd (ldc s x20) fun x21 => S.bd (idx s 1 x18 x21) fun x22 => S.bd (ldc s x22) fun x23 => some ((Value.tuple ⟨[x23, (Go.Value.bool Bool.true)]⟩), s)))
def leapfrogref03x_Reader_next.v (a0 : Value) (s : St) : Option (Value × St) := leapfrogref03x_Reader_next.t std a0 s
def leapfrogref03x_Reader_next.w : List Value → St → Option (Value × St)
  | [a0], s => leapfrogref03x_Reader_next.v a0 s
  | _, _ => none
def leapfrogref03x_Reader_next.an : An := ⟨32, false, [], [], [], [(3, [(0, 0, [], []), (1, 0, [], []), (2, 0, [], []), (3, 2, [], []), (4, 0, [], []), (5, 0, [], []), (6, 0, [], []), (7, 2, [], []), (8, 2, [], []), (9, 0, [], [])]), (6, [(0, 0, [], []), (1, 0, [], []), (2, 0, [], []), (3, 2, [], []), (4, 0, [], []), (5, 0, [], []), (6, 0, [], []), (7, 2, [], []), (8, 2, [], []), (9, 2, [], []), (10, 0, [], []), (11, 0, [], [])])], [], []⟩
theorem leapfrogref03x_Reader_next.ok (S : Sig) (a0 : Value) (s : St) : evF S Try.prog leapfrogref03x_Reader_next.ctx leapfrogref03x_Reader_next.an Try.f62 [a0] s = leapfrogref03x_Reader_next.t S a0 s := by kernel_rfl
theorem leapfrogref03x_Reader_next.cok : CtxOk Try.prog leapfrogref03x_Reader_next.ctx := .nil
theorem leapfrogref03x_Reader_next.draws : fnDraws leapfrogref03x_Reader_next.an Try.f62 = true := by kernel_rfl
theorem leapfrogref03x_Reader_next.can : callOk Try.prog 62 = true := by kernel_rfl
theorem leapfrogref03x_Reader_next.sound : FnOk Try.prog 62 (.st leapfrogref03x_Reader_next.w) := FnOk.st_of (evF_ok leapfrogref03x_Reader_next.cok mixed (f := 62) (fn := Try.f62) (by kernel_rfl) leapfrogref03x_Reader_next.draws) fun args s r h => by
  unfold leapfrogref03x_Reader_next.w at h; split at h
  · rw [leapfrogref03x_Reader_next.ok std]; exact h
  · simp at h

/-! ### leapfrog/leapfrogref03.within: function 63 -/
def leapfrogref03x_within.ctx : Ctx := []
def leapfrogref03x_within.t (S : Sig) (a0 a1 a2 a3 : Value) (s : St) : Option Value :=
  S.bd (eqb [1] false false a3 (Go.Value.int Go.IntKind.u64 18446744073709551615)) fun x1 => S.cnd x1 (some ((Go.Value.bool Bool.true))) (S.bd (bin .lss a2 (Go.Value.int Go.IntKind.u8 128)) fun x2 => S.cnd x2 (S.bd (bin .leq a1 a3) fun x3 => S.bd (S.gd x3 true (some a0)) fun x4 => S.bd (S.gd x3 true (some a2)) fun x5 => S.bd (S.gd x3 true (cvi .u64 x5)) fun x6 => S.bd (S.gd x3 true (some a1)) fun x7 => S.bd (S.gd x3 true (bin .mul x6 x7)) fun x8 => S.bd (S.gd x3 true (bin .add x4 x8)) fun x9 => S.bd (S.gd x3 true (some a3)) fun x10 => S.bd (S.gd x3 true (bin .leq x9 x10)) fun x11 => S.bd (pik x3 x11 (Go.Value.bool Bool.false)) fun x12 => some (x12)) (S.bd (bin .mul a1 (Go.Value.int Go.IntKind.u64 128)) fun x13 => S.bd (bin .leq x13 a3) fun x14 => S.bd (S.gd x14 true (some a0)) fun x15 => S.bd (S.gd x14 true (some a2)) fun x16 => S.bd (S.gd x14 true (bin .sub x16 (Go.Value.int Go.IntKind.u8 128))) fun x17 => S.bd (S.gd x14 true (cvi .u64 x17)) fun x18 => S.bd (S.gd x14 true (some a1)) fun x19 => S.bd (S.gd x14 true (bin .mul x18 x19)) fun x20 => S.bd (S.gd x14 true (bin .add x15 x20)) fun x21 => S.bd (S.gd x14 true (some a1)) fun x22 => S.bd (S.gd x14 true (bin .mul x22 (Go.Value.int Go.IntKind.u64 128))) fun x23 => S.bd (S.gd x14 true (bin .add x21 x23)) fun x24 => S.bd (S.gd x14 true (some a3)) fun x25 => S.bd (S.gd x14 true (bin .leq x24 x25)) fun x26 => S.bd (pik x14 x26 (Go.Value.bool Bool.false)) fun x27 => some (x27)))
def leapfrogref03x_within.r (a0 a1 a2 a3 : Value) (s : St) : Option Value := leapfrogref03x_within.t std a0 a1 a2 a3 s
def leapfrogref03x_within.w : List Value → St → Option Value
  | [a0, a1, a2, a3], s => leapfrogref03x_within.r a0 a1 a2 a3 s
  | _, _ => none
def leapfrogref03x_within.an : An := ⟨44, true, [], [], [], [], [], []⟩
theorem leapfrogref03x_within.ok (S : Sig) (a0 a1 a2 a3 : Value) (s : St) : evG S Try.prog leapfrogref03x_within.ctx leapfrogref03x_within.an Try.f63 [a0, a1, a2, a3] s = leapfrogref03x_within.t S a0 a1 a2 a3 s := by kernel_rfl
theorem leapfrogref03x_within.cok : CtxOk Try.prog leapfrogref03x_within.ctx := .nil
theorem leapfrogref03x_within.draws : fnDraws leapfrogref03x_within.an Try.f63 = true := by kernel_rfl
theorem leapfrogref03x_within.can : callOk Try.prog 63 = true := by kernel_rfl
theorem leapfrogref03x_within.sound : FnOk Try.prog 63 (.rd leapfrogref03x_within.w) := FnOk.rd_of (evG_ok leapfrogref03x_within.cok mixed (f := 63) (fn := Try.f63) (by kernel_rfl) leapfrogref03x_within.draws) fun args s r h => by
  unfold leapfrogref03x_within.w at h; split at h
  · rw [leapfrogref03x_within.ok std]; exact h
  · simp at h

/-! ### (*leapfrog/leapfrogref03.Reader).number: function 55 -/
def leapfrogref03x_Reader_number.ctx : Ctx := [(62, .st leapfrogref03x_Reader_next.w), (63, .rd leapfrogref03x_within.w)]
def leapfrogref03x_Reader_number.l3.p1 (S : Sig) (xs41 : List Value) (x46 : Value) (r45 : Value × St) (rec43 : List Value → St → Option Cut) : Option Cut :=
  S.bd (eqb [1] false false (xs41.getD 4 undef) (Go.Value.int Go.IntKind.i64 9)) fun x49 => S.bd (S.gd x49 true (some x46)) fun x50 => S.bd (S.gd x49 true (eqb [1] false true x50 (Go.Value.int Go.IntKind.u8 1))) fun x51 => S.bd (pik x49 x51 (Go.Value.bool Bool.false)) fun x52 => S.bd (S.gd x52 false (some (xs41.getD 4 undef))) fun x53 => S.bd (S.gd x52 false (bin .gtr x53 (Go.Value.int Go.IntKind.i64 0))) fun x54 => S.bd (S.gd x52 false (some x54)) fun x55 => S.bd (S.gd x55 true (some x46)) fun x56 => S.bd (S.gd x55 true (eqb [1] false false x56 (Go.Value.int Go.IntKind.u8 0))) fun x57 => S.bd (S.gd x52 false (pik x55 x57 (Go.Value.bool Bool.false))) fun x58 => S.bd (pik x52 (Go.Value.bool Bool.true) x58) fun x59 => S.bd (S.gd x59 false (some (xs41.getD 2 undef))) fun x60 => S.bd (S.gd x59 false (some (xs41.getD 3 undef))) fun x61 => S.bd (S.gd x59 false (some x46)) fun x62 => S.bd (S.gd x59 false (some (xs41.getD 1 undef))) fun x63 => S.bd (S.gd x59 false (leapfrogref03x_within.r x60 x61 x62 x63 r45.2)) fun x64 => S.bd (S.gd x59 false (un .not x64)) fun x65 => S.bd (pik x59 (Go.Value.bool Bool.true) x65) fun x66 => S.cnd x66 (S.bd (nck (xs41.getD 0 undef)) fun x67 => S.bd (fld 2 x67) fun x68 => S.bd (stv r45.2 1 x68 (Go.Value.int Go.IntKind.i64 31)) fun s69 => some (1, [(Go.Value.int Go.IntKind.u64 0)], s69)) (S.bd (nck (xs41.getD 0 undef)) fun x70 => S.bd (fld 1 x70) fun x71 => S.bd (ldc r45.2 x71) fun x72 => S.bd (bin .add x72 (Go.Value.int Go.IntKind.i64 1)) fun x73 => S.bd (nck (xs41.getD 0 undef)) fun x74 => S.bd (fld 1 x74) fun x75 => S.bd (stv r45.2 1 x75 x73) fun s76 => S.bd (bin .rem x46 (Go.Value.int Go.IntKind.u8 128)) fun x77 => S.bd (cvi .u64 x77) fun x78 => S.bd (bin .mul x78 (xs41.getD 3 undef)) fun x79 => S.bd (bin .add (xs41.getD 2 undef) x79) fun x80 => S.bd (bin .lss x46 (Go.Value.int Go.IntKind.u8 128)) fun x81 => S.cnd x81 (some (1, [x80], s76)) (S.bd (bin .mul (xs41.getD 3 undef) (Go.Value.int Go.IntKind.u64 128)) fun x82 => S.bd (bin .add (xs41.getD 4 undef) (Go.Value.int Go.IntKind.i64 1)) fun x83 => rec43 [(xs41.getD 0 undef), (xs41.getD 1 undef), x80, x82, x83] s76))

def leapfrogref03x_Reader_number.l3 (S : Sig) (rec43 : List Value → St → Option Cut) (xs41 : List Value) (s42 : St) : Option Cut :=
  S.bd (bin .lss (xs41.getD 4 undef) (Go.Value.int Go.IntKind.i64 10)) fun x44 => S.cnd x44 (S.bd (leapfrogref03x_Reader_next.v (xs41.getD 0 undef) s42) fun r45 => S.bd (xtr 0 r45.1) fun x46 => S.bd (xtr 1 r45.1) fun x47 => S.bd (un .not x47) fun x48 => S.cnd x48 (some (1, [(Go.Value.int Go.IntKind.u64 0)], r45.2)) (leapfrogref03x_Reader_number.l3.p1 S xs41 x46 r45 rec43)) (some (0, [], s42))

def leapfrogref03x_Reader_number.t (S : Sig) (a0 a1 : Value) (s : St) : Option (Value × St) :=
  S.bd (S.it (leapfrogref03x_Reader_number.l3 S) [a0, a1, (Go.Value.int Go.IntKind.u64 0), (Go.Value.int Go.IntKind.u64 1), (Go.Value.int Go.IntKind.i64 0)] s) fun r84 => if r84.1 = 0 then (some ((Go.Value.int Go.IntKind.u64 0), r84.2.2)) else (some ((r84.2.1.getD 0 undef), r84.2.2))
def leapfrogref03x_Reader_number.v (a0 a1 : Value) (s : St) : Option (Value × St) := leapfrogref03x_Reader_number.t std a0 a1 s
def leapfrogref03x_Reader_number.w : List Value → St → Option (Value × St)
  | [a0, a1], s => leapfrogref03x_Reader_number.v a0 a1 s
  | _, _ => none
def leapfrogref03x_Reader_number.an : An := ⟨65, false, [], [(3, ⟨[.v 0, .v 1, .v 5, .v 6, .v 7], [(.exit 0, []), (.ret, [.v 4])]⟩)], [], [], [], []⟩
theorem leapfrogref03x_Reader_number.ok (S : Sig) (a0 a1 : Value) (s : St) : evF S Try.prog leapfrogref03x_Reader_number.ctx leapfrogref03x_Reader_number.an Try.f55 [a0, a1] s = leapfrogref03x_Reader_number.t S a0 a1 s := by kernel_rfl
theorem leapfrogref03x_Reader_number.cok : CtxOk Try.prog leapfrogref03x_Reader_number.ctx := .cons leapfrogref03x_Reader_next.sound leapfrogref03x_Reader_next.can <| .cons leapfrogref03x_within.sound leapfrogref03x_within.can <| .nil
theorem leapfrogref03x_Reader_number.draws : fnDraws leapfrogref03x_Reader_number.an Try.f55 = true := by kernel_rfl
theorem leapfrogref03x_Reader_number.can : callOk Try.prog 55 = true := by kernel_rfl
theorem leapfrogref03x_Reader_number.sound : FnOk Try.prog 55 (.st leapfrogref03x_Reader_number.w) := FnOk.st_of (evF_ok leapfrogref03x_Reader_number.cok mixed (f := 55) (fn := Try.f55) (by kernel_rfl) leapfrogref03x_Reader_number.draws) fun args s r h => by
  unfold leapfrogref03x_Reader_number.w at h; split at h
  · rw [leapfrogref03x_Reader_number.ok std]; exact h
  · simp at h

/-! ### (*leapfrog/leapfrogref03.Reader).int: function 56 -/
def leapfrogref03x_Reader_int.ctx : Ctx := [(55, .st leapfrogref03x_Reader_number.w)]
def leapfrogref03x_Reader_int.t (S : Sig) (a0 : Value) (s : St) : Option (Value × St) :=
  S.bd (leapfrogref03x_Reader_number.v a0 (Go.Value.int Go.IntKind.u64 18446744073709551615) s) fun r1 => S.bd (bin .rem r1.1 (Go.Value.int Go.IntKind.u64 2)) fun x2 => S.bd (eqb [1] false false x2 (Go.Value.int Go.IntKind.u64 1)) fun x3 => S.cnd x3 (S.bd (bin .quo r1.1 (Go.Value.int Go.IntKind.u64 2)) fun x4 => S.bd (cvi .i64 x4) fun x5 => S.bd (un .neg x5) fun x6 => S.bd (bin .sub x6 (Go.Value.int Go.IntKind.i64 1)) fun x7 => some (x7, r1.2)) (S.bd (bin .quo r1.1 (Go.Value.int Go.IntKind.u64 2)) fun x8 => S.bd (cvi .i64 x8) fun x9 => some (x9, r1.2))
def leapfrogref03x_Reader_int.v (a0 : Value) (s : St) : Option (Value × St) := leapfrogref03x_Reader_int.t std a0 s
def leapfrogref03x_Reader_int.w : List Value → St → Option (Value × St)
  | [a0], s => leapfrogref03x_Reader_int.v a0 s
  | _, _ => none
def leapfrogref03x_Reader_int.an : An := ⟨17, false, [], [], [], [], [], []⟩
theorem leapfrogref03x_Reader_int.ok (S : Sig) (a0 : Value) (s : St) : evF S Try.prog leapfrogref03x_Reader_int.ctx leapfrogref03x_Reader_int.an Try.f56 [a0] s = leapfrogref03x_Reader_int.t S a0 s := by kernel_rfl
theorem leapfrogref03x_Reader_int.cok : CtxOk Try.prog leapfrogref03x_Reader_int.ctx := .cons leapfrogref03x_Reader_number.sound leapfrogref03x_Reader_number.can <| .nil
theorem leapfrogref03x_Reader_int.draws : fnDraws leapfrogref03x_Reader_int.an Try.f56 = true := by kernel_rfl
theorem leapfrogref03x_Reader_int.can : callOk Try.prog 56 = true := by kernel_rfl
theorem leapfrogref03x_Reader_int.sound : FnOk Try.prog 56 (.st leapfrogref03x_Reader_int.w) := FnOk.st_of (evF_ok leapfrogref03x_Reader_int.cok mixed (f := 56) (fn := Try.f56) (by kernel_rfl) leapfrogref03x_Reader_int.draws) fun args s r h => by
  unfold leapfrogref03x_Reader_int.w at h; split at h
  · rw [leapfrogref03x_Reader_int.ok std]; exact h
  · simp at h

/-! ### (*leapfrog/leapfrogref03.Reader).byte: function 57 -/
def leapfrogref03x_Reader_byte.ctx : Ctx := [(62, .st leapfrogref03x_Reader_next.w)]
def leapfrogref03x_Reader_byte.t (S : Sig) (a0 a1 a2 : Value) (s : St) : Option (Value × St) :=
  S.bd (leapfrogref03x_Reader_next.v a0 s) fun r1 => S.bd (xtr 0 r1.1) fun x2 => S.bd (xtr 1 r1.1) fun x3 => S.bd (un .not x3) fun x4 => S.cnd x4 (some ((Go.Value.int Go.IntKind.u8 0), r1.2)) (S.bd (bin .lss x2 a1) fun x5 => S.bd (S.gd x5 false (some x2)) fun x6 => S.bd (S.gd x5 false (some a2)) fun x7 => S.bd (S.gd x5 false (bin .gtr x6 x7)) fun x8 => S.bd (pik x5 (Go.Value.bool Bool.true) x8) fun x9 => S.cnd x9 (S.bd (nck a0) fun x10 => S.bd (fld 2 x10) fun x11 => S.bd (stv r1.2 1 x11 (Go.Value.int Go.IntKind.i64 31)) fun s12 => some ((Go.Value.int Go.IntKind.u8 0), s12)) (S.bd (nck a0) fun x13 => S.bd (fld 1 x13) fun x14 => S.bd (ldc r1.2 x14) fun x15 => S.bd (bin .add x15 (Go.Value.int Go.IntKind.i64 1)) fun x16 => S.bd (nck a0) fun x17 => S.bd (fld 1 x17) fun x18 => S.bd (stv r1.2 1 x18 x16) fun s19 => some (x2, s19)))
def leapfrogref03x_Reader_byte.v (a0 a1 a2 : Value) (s : St) : Option (Value × St) := leapfrogref03x_Reader_byte.t std a0 a1 a2 s
def leapfrogref03x_Reader_byte.w : List Value → St → Option (Value × St)
  | [a0, a1, a2], s => leapfrogref03x_Reader_byte.v a0 a1 a2 s
  | _, _ => none
def leapfrogref03x_Reader_byte.an : An := ⟨35, false, [], [], [], [], [], []⟩
theorem leapfrogref03x_Reader_byte.ok (S : Sig) (a0 a1 a2 : Value) (s : St) : evF S Try.prog leapfrogref03x_Reader_byte.ctx leapfrogref03x_Reader_byte.an Try.f57 [a0, a1, a2] s = leapfrogref03x_Reader_byte.t S a0 a1 a2 s := by kernel_rfl
theorem leapfrogref03x_Reader_byte.cok : CtxOk Try.prog leapfrogref03x_Reader_byte.ctx := .cons leapfrogref03x_Reader_next.sound leapfrogref03x_Reader_next.can <| .nil
theorem leapfrogref03x_Reader_byte.draws : fnDraws leapfrogref03x_Reader_byte.an Try.f57 = true := by kernel_rfl
theorem leapfrogref03x_Reader_byte.can : callOk Try.prog 57 = true := by kernel_rfl
theorem leapfrogref03x_Reader_byte.sound : FnOk Try.prog 57 (.st leapfrogref03x_Reader_byte.w) := FnOk.st_of (evF_ok leapfrogref03x_Reader_byte.cok mixed (f := 57) (fn := Try.f57) (by kernel_rfl) leapfrogref03x_Reader_byte.draws) fun args s r h => by
  unfold leapfrogref03x_Reader_byte.w at h; split at h
  · rw [leapfrogref03x_Reader_byte.ok std]; exact h
  · simp at h

/-! ### leapfrog/leapfrogref01.Of: function 64 -/
def leapfrogref01x_Of.ctx : Ctx := []
def leapfrogref01x_Of.l3 (S : Sig) (rec18 : List Value → St → Option Cut) (xs16 : List Value) (s17 : St) : Option Cut :=
  S.bd (lenL (xs16.getD 0 undef)) fun x19 => S.bd (bin .lss (xs16.getD 1 undef) x19) fun x20 => S.cnd x20 (S.bd (lcl (cellsA (xs16.getD 3 undef)) 1) fun x21 => S.bd (bin .mul x21 (Go.Value.int Go.IntKind.u64 2)) fun x22 => S.bd (idx s17 1 (xs16.getD 0 undef) (xs16.getD 1 undef)) fun x23 => S.bd (ldc s17 x23) fun x24 => S.bd (cvi .u64 x24) fun x25 => S.bd (bin .add x22 x25) fun x26 => S.bd (stl (cellsA (xs16.getD 3 undef)) 1 1 x26) fun c27 => S.bd (bin .add (xs16.getD 1 undef) (Go.Value.int Go.IntKind.i64 1)) fun x28 => rec18 [(xs16.getD 0 undef), x28, (Value.agg ⟨(cellsA (xs16.getD 2 undef))⟩), (Value.agg ⟨c27⟩)] s17) (some (0, [(Value.agg ⟨(cellsA (xs16.getD 2 undef))⟩), (Value.agg ⟨(cellsA (xs16.getD 3 undef))⟩)], s17))

def leapfrogref01x_Of.t (S : Sig) (a0 : Value) (s : St) : Option Value :=
  S.bd (bx (Go.Value.agg #[(Go.Value.int Go.IntKind.i64 0), (Go.Value.int Go.IntKind.u64 0)])) fun c1 => S.bd (lenL a0) fun x2 => S.bd (bld [(Go.Value.int Go.IntKind.i64 0), (Go.Value.int Go.IntKind.u64 0)] [(0, 1, x2)]) fun x3 => S.bd (bx (Go.Value.agg #[(Go.Value.int Go.IntKind.i64 0), (Go.Value.int Go.IntKind.u64 0)])) fun c4 => S.bd (stl c4 0 2 x3) fun c5 => S.bd (S.it (leapfrogref01x_Of.l3 S) [a0, (Go.Value.int Go.IntKind.i64 0), (Value.agg ⟨c1⟩), (Value.agg ⟨c5⟩)] s) fun r29 => S.bd (lal (cellsA (r29.2.1.getD 1 undef)) 0 2) fun x30 => S.bd (stl (cellsA (r29.2.1.getD 0 undef)) 0 2 x30) fun c31 => S.bd (lal c31 0 2) fun x32 => some (x32)
def leapfrogref01x_Of.r (a0 : Value) (s : St) : Option Value := leapfrogref01x_Of.t std a0 s
def leapfrogref01x_Of.w : List Value → St → Option Value
  | [a0], s => leapfrogref01x_Of.r a0 s
  | _, _ => none
def leapfrogref01x_Of.an : An := ⟨25, true, [2, 3], [(3, ⟨[.v 0, .p 2 2 0, .p 3 3 0, .v 4, .l 2, .l 3], [(.exit 0, [.p 2 2 0, .p 3 3 0, .l 2, .l 3])]⟩)], [], [(5, [(0, 0, [], []), (1, 25, [], []), (2, 0, [], []), (3, 0, [], []), (4, 0, [], []), (5, 2, [], []), (6, 2, [], []), (7, 0, [], []), (8, 0, [], []), (9, 0, [], []), (10, 29, [], [])])], [], []⟩
theorem leapfrogref01x_Of.ok (S : Sig) (a0 : Value) (s : St) : evG S Try.prog leapfrogref01x_Of.ctx leapfrogref01x_Of.an Try.f64 [a0] s = leapfrogref01x_Of.t S a0 s := by kernel_rfl
theorem leapfrogref01x_Of.cok : CtxOk Try.prog leapfrogref01x_Of.ctx := .nil
theorem leapfrogref01x_Of.draws : fnDraws leapfrogref01x_Of.an Try.f64 = true := by kernel_rfl
theorem leapfrogref01x_Of.can : callOk Try.prog 64 = true := by kernel_rfl
theorem leapfrogref01x_Of.sound : FnOk Try.prog 64 (.rd leapfrogref01x_Of.w) := FnOk.rd_of (evG_ok leapfrogref01x_Of.cok mixed (f := 64) (fn := Try.f64) (by kernel_rfl) leapfrogref01x_Of.draws) fun args s r h => by
  unfold leapfrogref01x_Of.w at h; split at h
  · rw [leapfrogref01x_Of.ok std]; exact h
  · simp at h

/-! ### (*leapfrog/leapfrogref03.Reader).vector: function 58 -/
def leapfrogref03x_Reader_vector.ctx : Ctx := [(57, .st leapfrogref03x_Reader_byte.w), (62, .st leapfrogref03x_Reader_next.w), (48, .rd leapfrogref01x_Power.w), (64, .rd leapfrogref01x_Of.w)]
def leapfrogref03x_Reader_vector.l15 (S : Sig) (rec100 : List Value → St → Option Cut) (xs98 : List Value) (s99 : St) : Option Cut :=
  S.bd (bin .lss (xs98.getD 6 undef) (Go.Value.int Go.IntKind.i64 8)) fun x101 => S.bd (S.gd x101 true (some (xs98.getD 6 undef))) fun x102 => S.bd (S.gd x101 true (some (xs98.getD 5 undef))) fun x103 => S.bd (S.gd x101 true (bin .lss x102 x103)) fun x104 => S.bd (pik x101 x104 (Go.Value.bool Bool.false)) fun x105 => S.cnd x105 (S.bd (bin .sub (Go.Value.int Go.IntKind.i64 7) (xs98.getD 6 undef)) fun x106 => S.bd (leapfrogref01x_Power.r x106 s99) fun x107 => S.bd (cvi .u8 x107) fun x108 => S.bd (bin .quo (xs98.getD 4 undef) x108) fun x109 => S.bd (cvi .i64 x109) fun x110 => S.bd (bin .rem x110 (Go.Value.int Go.IntKind.i64 2)) fun x111 => S.bd (S.bd (bls 1 (List.replicate 1 [(Go.Value.int Go.IntKind.i64 0)]) [(0, x111)]) fun rows => als s99 1 1 rows) fun r112 => S.bd (app r112.2 1 8 (xs98.getD 2 undef) r112.1) fun r113 => S.bd (bin .add (xs98.getD 6 undef) (Go.Value.int Go.IntKind.i64 1)) fun x114 => rec100 [(xs98.getD 0 undef), (xs98.getD 1 undef), r113.1, (xs98.getD 3 undef), (xs98.getD 4 undef), (xs98.getD 5 undef), x114, (xs98.getD 7 undef), (xs98.getD 8 undef), (xs98.getD 9 undef), (xs98.getD 10 undef), (xs98.getD 11 undef), (xs98.getD 12 undef), (xs98.getD 13 undef), (Value.agg ⟨(cellsA (xs98.getD 14 undef))⟩)] r113.2) (some (0, [(xs98.getD 0 undef), (xs98.getD 1 undef), (xs98.getD 2 undef), (xs98.getD 3 undef), (xs98.getD 7 undef), (xs98.getD 8 undef), (xs98.getD 9 undef), (xs98.getD 10 undef), (xs98.getD 11 undef), (xs98.getD 12 undef), (xs98.getD 13 undef), x102, x103, x104, (Value.agg ⟨(cellsA (xs98.getD 14 undef))⟩)], s99))

def leapfrogref03x_Reader_vector.l4.p1 (S : Sig) (xs66 : List Value) (s67 : St) (rec68 : List Value → St → Option Cut) : Option Cut :=
  S.bd (leapfrogref03x_Reader_next.v (xs66.getD 0 undef) s67) fun r70 => S.bd (xtr 0 r70.1) fun x71 => S.bd (xtr 1 r70.1) fun x72 => S.bd (un .not x72) fun x73 => S.cnd x73 (S.bd (bld [(Go.Value.int Go.IntKind.i64 0), (Go.Value.int Go.IntKind.u64 0)] []) fun x74 => S.bd (stl (cellsA (xs66.getD 4 undef)) 0 2 x74) fun c75 => some (1, [(Value.agg ⟨c75⟩)], r70.2)) (S.bd (bin .sub (xs66.getD 1 undef) (xs66.getD 3 undef)) fun x76 => S.bd (bin .lss x76 (Go.Value.int Go.IntKind.i64 8)) fun x77 => S.bd (S.gd x77 true (some x71)) fun x78 => S.bd (S.gd x77 true (some x76)) fun x79 => S.bd (S.gd x77 true (bin .sub (Go.Value.int Go.IntKind.i64 8) x79)) fun x80 => S.bd (S.gd x77 true (leapfrogref01x_Power.r x80 r70.2)) fun x81 => S.bd (S.gd x77 true (cvi .u8 x81)) fun x82 => S.bd (S.gd x77 true (bin .rem x78 x82)) fun x83 => S.bd (S.gd x77 true (eqb [1] false true x83 (Go.Value.int Go.IntKind.u8 0))) fun x84 => S.bd (pik x77 x84 (Go.Value.bool Bool.false)) fun x85 => S.cnd x85 (S.bd (nck (xs66.getD 0 undef)) fun x86 => S.bd (fld 2 x86) fun x87 => S.bd (stv r70.2 1 x87 (Go.Value.int Go.IntKind.i64 31)) fun s88 => S.bd (bld [(Go.Value.int Go.IntKind.i64 0), (Go.Value.int Go.IntKind.u64 0)] []) fun x89 => S.bd (stl (cellsA (xs66.getD 4 undef)) 0 2 x89) fun c90 => some (1, [(Value.agg ⟨c90⟩)], s88)) (S.bd (nck (xs66.getD 0 undef)) fun x91 => S.bd (fld 1 x91) fun x92 => S.bd (ldc r70.2 x92) fun x93 => S.bd (bin .add x93 (Go.Value.int Go.IntKind.i64 1)) fun x94 => S.bd (nck (xs66.getD 0 undef)) fun x95 => S.bd (fld 1 x95) fun x96 => S.bd (stv r70.2 1 x96 x94) fun s97 => S.bd (S.it (leapfrogref03x_Reader_vector.l15 S) [(xs66.getD 0 undef), (xs66.getD 1 undef), (xs66.getD 2 undef), (xs66.getD 3 undef), x71, x76, (Go.Value.int Go.IntKind.i64 0), x78, x79, x80, x81, x82, x83, x84, (Value.agg ⟨(cellsA (xs66.getD 4 undef))⟩)] s97) fun r115 => S.bd (bin .add (r115.2.1.getD 3 undef) (Go.Value.int Go.IntKind.i64 8)) fun x116 => rec68 [(r115.2.1.getD 0 undef), (r115.2.1.getD 1 undef), (r115.2.1.getD 2 undef), x116, (Value.agg ⟨(cellsA (r115.2.1.getD 14 undef))⟩)] r115.2.2))

def leapfrogref03x_Reader_vector.l4 (S : Sig) (rec68 : List Value → St → Option Cut) (xs66 : List Value) (s67 : St) : Option Cut :=
  S.bd (bin .lss (xs66.getD 3 undef) (xs66.getD 1 undef)) fun x69 => S.cnd x69 (leapfrogref03x_Reader_vector.l4.p1 S xs66 s67 rec68) (some (0, [(xs66.getD 2 undef), (Value.agg ⟨(cellsA (xs66.getD 4 undef))⟩)], s67))

def leapfrogref03x_Reader_vector.t (S : Sig) (a0 : Value) (s : St) : Option (Value × St) :=
  S.bd (bx (Go.Value.agg #[(Go.Value.int Go.IntKind.i64 0), (Go.Value.int Go.IntKind.u64 0)])) fun c1 => S.bd (leapfrogref03x_Reader_byte.v a0 (Go.Value.int Go.IntKind.u8 0) (Go.Value.int Go.IntKind.u8 32) s) fun r2 => S.bd (cvi .i64 r2.1) fun x3 => S.bd (S.it (leapfrogref03x_Reader_vector.l4 S) [a0, x3, (Go.Value.slice Option.none 0 0), (Go.Value.int Go.IntKind.i64 0), (Value.agg ⟨c1⟩)] r2.2) fun r117 => if r117.1 = 0 then (S.bd (leapfrogref01x_Of.r (r117.2.1.getD 0 undef) r117.2.2) fun x119 => S.bd (stl (cellsA (r117.2.1.getD 1 undef)) 0 2 x119) fun c120 => S.bd (lal c120 0 2) fun x121 => some (x121, r117.2.2)) else (S.bd (lal (cellsA (r117.2.1.getD 0 undef)) 0 2) fun x118 => some (x118, r117.2.2))
def leapfrogref03x_Reader_vector.v (a0 : Value) (s : St) : Option (Value × St) := leapfrogref03x_Reader_vector.t std a0 s
def leapfrogref03x_Reader_vector.w : List Value → St → Option (Value × St)
  | [a0], s => leapfrogref03x_Reader_vector.v a0 s
  | _, _ => none
def leapfrogref03x_Reader_vector.an : An := ⟨73, false, [2], [(15, ⟨[.v 0, .p 2 2 0, .v 3, .v 4, .v 5, .v 6, .v 8, .v 9, .v 32, .v 33, .v 34, .v 35, .v 36, .v 37, .v 38, .l 2], [(.exit 2, [.v 0, .p 2 2 0, .v 3, .v 4, .v 5, .v 32, .v 33, .v 34, .v 35, .v 36, .v 37, .v 38, .v 54, .v 55, .v 56, .l 2])]⟩), (4, ⟨[.v 0, .p 2 2 0, .v 3, .v 4, .v 5, .l 2], [(.exit 0, [.p 2 2 0, .v 4, .l 2]), (.ret, [.p 2 2 0, .l 2])]⟩)], [], [], [], []⟩
theorem leapfrogref03x_Reader_vector.ok (S : Sig) (a0 : Value) (s : St) : evF S Try.prog leapfrogref03x_Reader_vector.ctx leapfrogref03x_Reader_vector.an Try.f58 [a0] s = leapfrogref03x_Reader_vector.t S a0 s := by kernel_rfl
theorem leapfrogref03x_Reader_vector.cok : CtxOk Try.prog leapfrogref03x_Reader_vector.ctx := .cons leapfrogref03x_Reader_byte.sound leapfrogref03x_Reader_byte.can <| .cons leapfrogref03x_Reader_next.sound leapfrogref03x_Reader_next.can <| .cons leapfrogref01x_Power.sound leapfrogref01x_Power.can <| .cons leapfrogref01x_Of.sound leapfrogref01x_Of.can <| .nil
theorem leapfrogref03x_Reader_vector.draws : fnDraws leapfrogref03x_Reader_vector.an Try.f58 = true := by kernel_rfl
theorem leapfrogref03x_Reader_vector.can : callOk Try.prog 58 = true := by kernel_rfl
theorem leapfrogref03x_Reader_vector.sound : FnOk Try.prog 58 (.st leapfrogref03x_Reader_vector.w) := FnOk.st_of (evF_ok leapfrogref03x_Reader_vector.cok mixed (f := 58) (fn := Try.f58) (by kernel_rfl) leapfrogref03x_Reader_vector.draws) fun args s r h => by
  unfold leapfrogref03x_Reader_vector.w at h; split at h
  · rw [leapfrogref03x_Reader_vector.ok std]; exact h
  · simp at h

/-! ### (*leapfrog/leapfrogref03.Reader).key: function 59 -/
def leapfrogref03x_Reader_key.ctx : Ctx := [(57, .st leapfrogref03x_Reader_byte.w)]
def leapfrogref03x_Reader_key.l4 (S : Sig) (rec19 : List Value → St → Option Cut) (xs17 : List Value) (s18 : St) : Option Cut :=
  S.bd (bin .lss (xs17.getD 1 undef) (Go.Value.int Go.IntKind.i64 8)) fun x20 => S.cnd x20 (S.bd (lcl (cellsA (xs17.getD 3 undef)) 1) fun x21 => S.bd (bin .mul x21 (Go.Value.int Go.IntKind.u64 256)) fun x22 => S.bd (leapfrogref03x_Reader_byte.v (xs17.getD 0 undef) (Go.Value.int Go.IntKind.u8 0) (Go.Value.int Go.IntKind.u8 255) s18) fun r23 => S.bd (cvi .u64 r23.1) fun x24 => S.bd (bin .add x22 x24) fun x25 => S.bd (stl (cellsA (xs17.getD 3 undef)) 1 1 x25) fun c26 => S.bd (bin .add (xs17.getD 1 undef) (Go.Value.int Go.IntKind.i64 1)) fun x27 => rec19 [(xs17.getD 0 undef), x27, (Value.agg ⟨(cellsA (xs17.getD 2 undef))⟩), (Value.agg ⟨c26⟩)] r23.2) (some (0, [(Value.agg ⟨(cellsA (xs17.getD 2 undef))⟩), (Value.agg ⟨(cellsA (xs17.getD 3 undef))⟩)], s18))

def leapfrogref03x_Reader_key.t (S : Sig) (a0 : Value) (s : St) : Option (Value × St) :=
  S.bd (bx (Go.Value.agg #[(Go.Value.int Go.IntKind.i64 0), (Go.Value.int Go.IntKind.u64 0)])) fun c1 => S.bd (leapfrogref03x_Reader_byte.v a0 (Go.Value.int Go.IntKind.u8 1) (Go.Value.int Go.IntKind.u8 3) s) fun r2 => S.bd (cvi .i64 r2.1) fun x3 => S.bd (bld [(Go.Value.int Go.IntKind.i64 0), (Go.Value.int Go.IntKind.u64 0)] [(0, 1, x3)]) fun x4 => S.bd (bx (Go.Value.agg #[(Go.Value.int Go.IntKind.i64 0), (Go.Value.int Go.IntKind.u64 0)])) fun c5 => S.bd (stl c5 0 2 x4) fun c6 => S.bd (lcl c6 0) fun x7 => S.bd (eqb [1] false false x7 (Go.Value.int Go.IntKind.i64 2)) fun x8 => S.cnd x8 (S.bd (S.it (leapfrogref03x_Reader_key.l4 S) [a0, (Go.Value.int Go.IntKind.i64 0), (Value.agg ⟨c1⟩), (Value.agg ⟨c6⟩)] r2.2) fun r28 => S.bd (lal (cellsA (r28.2.1.getD 1 undef)) 0 2) fun x29 => S.bd (stl (cellsA (r28.2.1.getD 0 undef)) 0 2 x29) fun c30 => S.bd (lal c30 0 2) fun x31 => some (x31, r28.2.2)) (S.bd (lal c6 0 2) fun x32 => S.bd (stl c1 0 2 x32) fun c33 => S.bd (lal c33 0 2) fun x34 => some (x34, r2.2))
def leapfrogref03x_Reader_key.v (a0 : Value) (s : St) : Option (Value × St) := leapfrogref03x_Reader_key.t std a0 s
def leapfrogref03x_Reader_key.w : List Value → St → Option (Value × St)
  | [a0], s => leapfrogref03x_Reader_key.v a0 s
  | _, _ => none
def leapfrogref03x_Reader_key.an : An := ⟨25, false, [2, 3], [(4, ⟨[.v 0, .p 2 2 0, .p 3 3 0, .v 4, .l 2, .l 3], [(.exit 0, [.p 2 2 0, .p 3 3 0, .l 2, .l 3])]⟩)], [], [(6, [(0, 0, [], []), (1, 25, [], []), (2, 0, [], []), (3, 0, [], []), (4, 4, [], []), (5, 0, [], []), (6, 0, [], []), (7, 0, [], []), (8, 29, [], [])])], [], []⟩
theorem leapfrogref03x_Reader_key.ok (S : Sig) (a0 : Value) (s : St) : evF S Try.prog leapfrogref03x_Reader_key.ctx leapfrogref03x_Reader_key.an Try.f59 [a0] s = leapfrogref03x_Reader_key.t S a0 s := by kernel_rfl
theorem leapfrogref03x_Reader_key.cok : CtxOk Try.prog leapfrogref03x_Reader_key.ctx := .cons leapfrogref03x_Reader_byte.sound leapfrogref03x_Reader_byte.can <| .nil
theorem leapfrogref03x_Reader_key.draws : fnDraws leapfrogref03x_Reader_key.an Try.f59 = true := by kernel_rfl
theorem leapfrogref03x_Reader_key.can : callOk Try.prog 59 = true := by kernel_rfl
theorem leapfrogref03x_Reader_key.sound : FnOk Try.prog 59 (.st leapfrogref03x_Reader_key.w) := FnOk.st_of (evF_ok leapfrogref03x_Reader_key.cok mixed (f := 59) (fn := Try.f59) (by kernel_rfl) leapfrogref03x_Reader_key.draws) fun args s r h => by
  unfold leapfrogref03x_Reader_key.w at h; split at h
  · rw [leapfrogref03x_Reader_key.ok std]; exact h
  · simp at h

/-! ### (*leapfrog/leapfrogref03.Reader).field: function 38 -/
def leapfrogref03x_Reader_field.ctx : Ctx := [(55, .st leapfrogref03x_Reader_number.w), (56, .st leapfrogref03x_Reader_int.w), (57, .st leapfrogref03x_Reader_byte.w), (58, .st leapfrogref03x_Reader_vector.w), (59, .st leapfrogref03x_Reader_key.w)]
def leapfrogref03x_Reader_field.l12 (S : Sig) (rec41 : List Value → St → Option Cut) (xs39 : List Value) (s40 : St) : Option Cut :=
  S.bd (bin .lss (xs39.getD 2 undef) (xs39.getD 1 undef)) fun x42 => S.bd (S.gd x42 true (some (xs39.getD 0 undef))) fun x43 => S.bd (S.gd x42 true (nck x43)) fun x44 => S.bd (S.gd x42 true (fld 2 x44)) fun x45 => S.bd (S.gd x42 true (ldc s40 x45)) fun x46 => S.bd (S.gd x42 true (eqb [1] false false x46 (Go.Value.int Go.IntKind.i64 0))) fun x47 => S.bd (pik x42 x47 (Go.Value.bool Bool.false)) fun x48 => S.cnd x48 (S.bd (lcl (cellsA (xs39.getD 4 undef)) 4) fun x49 => S.bd (leapfrogref03x_Reader_byte.v (xs39.getD 0 undef) (Go.Value.int Go.IntKind.u8 0) (Go.Value.int Go.IntKind.u8 255) s40) fun r50 => S.bd (S.bd (bls 1 (List.replicate 1 [(Go.Value.int Go.IntKind.u8 0)]) [(0, r50.1)]) fun rows => als r50.2 1 1 rows) fun r51 => S.bd (app r51.2 1 1 x49 r51.1) fun r52 => S.bd (stl (cellsA (xs39.getD 4 undef)) 4 1 r52.1) fun c53 => S.bd (bin .add (xs39.getD 2 undef) (Go.Value.int Go.IntKind.u64 1)) fun x54 => rec41 [(xs39.getD 0 undef), (xs39.getD 1 undef), x54, (Value.agg ⟨(cellsA (xs39.getD 3 undef))⟩), (Value.agg ⟨c53⟩)] r52.2) (some (0, [(Value.agg ⟨(cellsA (xs39.getD 3 undef))⟩), (Value.agg ⟨(cellsA (xs39.getD 4 undef))⟩)], s40))

def leapfrogref03x_Reader_field.t.p1 (S : Sig) (a1 : Value) (a0 : Value) (s : St) (c4 : List Value) (c1 : List Value) : Option (Value × St) :=
  S.bd (eqb [1] false false a1 (Go.Value.int Go.IntKind.i64 3)) fun x17 => S.cnd x17 (S.bd (leapfrogref03x_Reader_byte.v a0 (Go.Value.int Go.IntKind.u8 0) (Go.Value.int Go.IntKind.u8 1) s) fun r18 => S.bd (eqb [1] false false r18.1 (Go.Value.int Go.IntKind.u8 1)) fun x19 => S.bd (stl c4 3 1 x19) fun c20 => S.bd (lal c20 0 14) fun x21 => S.bd (stl c1 0 14 x21) fun c22 => S.bd (lal c22 0 14) fun x23 => some (x23, r18.2)) (S.bd (eqb [1] false false a1 (Go.Value.int Go.IntKind.i64 4)) fun x24 => S.cnd x24 (S.bd (leapfrogref03x_Reader_number.v a0 (Go.Value.int Go.IntKind.u64 65536) s) fun r25 => S.bd (S.it (leapfrogref03x_Reader_field.l12 S) [a0, r25.1, (Go.Value.int Go.IntKind.u64 0), (Value.agg ⟨c1⟩), (Value.agg ⟨c4⟩)] r25.2) fun r55 => S.bd (lal (cellsA (r55.2.1.getD 1 undef)) 0 14) fun x56 => S.bd (stl (cellsA (r55.2.1.getD 0 undef)) 0 14 x56) fun c57 => S.bd (lal c57 0 14) fun x58 => some (x58, r55.2.2)) (S.bd (eqb [1] false false a1 (Go.Value.int Go.IntKind.i64 5)) fun x59 => S.cnd x59 (S.bd (leapfrogref03x_Reader_vector.v a0 s) fun r60 => S.bd (stl c4 5 2 r60.1) fun c61 => S.bd (lal c61 0 14) fun x62 => S.bd (stl c1 0 14 x62) fun c63 => S.bd (lal c63 0 14) fun x64 => some (x64, r60.2)) (S.bd (eqb [1] false false a1 (Go.Value.int Go.IntKind.i64 6)) fun x65 => S.cnd x65 (S.bd (leapfrogref03x_Reader_key.v a0 s) fun r66 => S.bd (stl c4 7 2 r66.1) fun c67 => S.bd (lal c67 0 14) fun x68 => S.bd (stl c1 0 14 x68) fun c69 => S.bd (lal c69 0 14) fun x70 => some (x70, r66.2)) (S.bd (eqb [1] false false a1 (Go.Value.int Go.IntKind.i64 7)) fun x71 => S.cnd x71 (S.bd (leapfrogref03x_Reader_int.v a0 s) fun r72 => S.bd (stl c4 9 1 r72.1) fun c73 => S.bd (leapfrogref03x_Reader_key.v a0 r72.2) fun r74 => S.bd (stl c73 10 2 r74.1) fun c75 => S.bd (leapfrogref03x_Reader_vector.v a0 r74.2) fun r76 => S.bd (stl c75 12 2 r76.1) fun c77 => S.bd (lal c77 0 14) fun x78 => S.bd (stl c1 0 14 x78) fun c79 => S.bd (lal c79 0 14) fun x80 => some (x80, r76.2)) (S.bd (lal c4 0 14) fun x81 => S.bd (stl c1 0 14 x81) fun c82 => S.bd (lal c82 0 14) fun x83 => some (x83, s))))))

def leapfrogref03x_Reader_field.t (S : Sig) (a0 a1 : Value) (s : St) : Option (Value × St) :=
  S.bd (bx (Go.Value.agg #[(Go.Value.int Go.IntKind.i64 0), (Go.Value.int Go.IntKind.u64 0), (Go.Value.int Go.IntKind.i64 0), (Go.Value.bool Bool.false), (Go.Value.slice Option.none 0 0), (Go.Value.int Go.IntKind.i64 0), (Go.Value.int Go.IntKind.u64 0), (Go.Value.int Go.IntKind.i64 0), (Go.Value.int Go.IntKind.u64 0), (Go.Value.int Go.IntKind.i64 0), (Go.Value.int Go.IntKind.i64 0), (Go.Value.int Go.IntKind.u64 0), (Go.Value.int Go.IntKind.i64 0), (Go.Value.int Go.IntKind.u64 0)])) fun c1 => S.bd (bld [(Go.Value.int Go.IntKind.i64 0), (Go.Value.int Go.IntKind.u64 0), (Go.Value.int Go.IntKind.i64 0), (Go.Value.bool Bool.false), (Go.Value.slice Option.none 0 0), (Go.Value.int Go.IntKind.i64 0), (Go.Value.int Go.IntKind.u64 0), (Go.Value.int Go.IntKind.i64 0), (Go.Value.int Go.IntKind.u64 0), (Go.Value.int Go.IntKind.i64 0), (Go.Value.int Go.IntKind.i64 0), (Go.Value.int Go.IntKind.u64 0), (Go.Value.int Go.IntKind.i64 0), (Go.Value.int Go.IntKind.u64 0)] [(0, 1, a1)]) fun x2 => S.bd (bx (Go.Value.agg #[(Go.Value.int Go.IntKind.i64 0), (Go.Value.int Go.IntKind.u64 0), (Go.Value.int Go.IntKind.i64 0), (Go.Value.bool Bool.false), (Go.Value.slice Option.none 0 0), (Go.Value.int Go.IntKind.i64 0), (Go.Value.int Go.IntKind.u64 0), (Go.Value.int Go.IntKind.i64 0), (Go.Value.int Go.IntKind.u64 0), (Go.Value.int Go.IntKind.i64 0), (Go.Value.int Go.IntKind.i64 0), (Go.Value.int Go.IntKind.u64 0), (Go.Value.int Go.IntKind.i64 0), (Go.Value.int Go.IntKind.u64 0)])) fun c3 => S.bd (stl c3 0 14 x2) fun c4 => S.bd (eqb [1] false false a1 (Go.Value.int Go.IntKind.i64 1)) fun x5 => S.cnd x5 (S.bd (leapfrogref03x_Reader_number.v a0 (Go.Value.int Go.IntKind.u64 18446744073709551615) s) fun r6 => S.bd (stl c4 1 1 r6.1) fun c7 => S.bd (lal c7 0 14) fun x8 => S.bd (stl c1 0 14 x8) fun c9 => S.bd (lal c9 0 14) fun x10 => some (x10, r6.2)) (S.bd (eqb [1] false false a1 (Go.Value.int Go.IntKind.i64 2)) fun x11 => S.cnd x11 (S.bd (leapfrogref03x_Reader_int.v a0 s) fun r12 => S.bd (stl c4 2 1 r12.1) fun c13 => S.bd (lal c13 0 14) fun x14 => S.bd (stl c1 0 14 x14) fun c15 => S.bd (lal c15 0 14) fun x16 => some (x16, r12.2)) (leapfrogref03x_Reader_field.t.p1 S a1 a0 s c4 c1))
def leapfrogref03x_Reader_field.v (a0 a1 : Value) (s : St) : Option (Value × St) := leapfrogref03x_Reader_field.t std a0 a1 s
def leapfrogref03x_Reader_field.w : List Value → St → Option (Value × St)
  | [a0, a1], s => leapfrogref03x_Reader_field.v a0 a1 s
  | _, _ => none
def leapfrogref03x_Reader_field.an : An := ⟨75, false, [4, 5], [(12, ⟨[.v 0, .p 4 4 0, .p 5 5 0, .v 6, .v 7, .l 4, .l 5], [(.exit 1, [.p 4 4 0, .p 5 5 0, .l 4, .l 5])]⟩)], [], [(14, [(0, 0, [], []), (1, 41, [], []), (2, 0, [], []), (3, 4, [], []), (4, 3, [], []), (5, 4, [], []), (6, 0, [], []), (7, 45, [], [])])], [], []⟩
theorem leapfrogref03x_Reader_field.ok (S : Sig) (a0 a1 : Value) (s : St) : evF S Try.prog leapfrogref03x_Reader_field.ctx leapfrogref03x_Reader_field.an Try.f38 [a0, a1] s = leapfrogref03x_Reader_field.t S a0 a1 s := by kernel_rfl
theorem leapfrogref03x_Reader_field.cok : CtxOk Try.prog leapfrogref03x_Reader_field.ctx := .cons leapfrogref03x_Reader_number.sound leapfrogref03x_Reader_number.can <| .cons leapfrogref03x_Reader_int.sound leapfrogref03x_Reader_int.can <| .cons leapfrogref03x_Reader_byte.sound leapfrogref03x_Reader_byte.can <| .cons leapfrogref03x_Reader_vector.sound leapfrogref03x_Reader_vector.can <| .cons leapfrogref03x_Reader_key.sound leapfrogref03x_Reader_key.can <| .nil
theorem leapfrogref03x_Reader_field.draws : fnDraws leapfrogref03x_Reader_field.an Try.f38 = true := by kernel_rfl
theorem leapfrogref03x_Reader_field.can : callOk Try.prog 38 = true := by kernel_rfl
theorem leapfrogref03x_Reader_field.sound : FnOk Try.prog 38 (.st leapfrogref03x_Reader_field.w) := FnOk.st_of (evF_ok leapfrogref03x_Reader_field.cok mixed (f := 38) (fn := Try.f38) (by kernel_rfl) leapfrogref03x_Reader_field.draws) fun args s r h => by
  unfold leapfrogref03x_Reader_field.w at h; split at h
  · rw [leapfrogref03x_Reader_field.ok std]; exact h
  · simp at h

/-! ### leapfrog/leapfrogref03.First: function 23 -/
def leapfrogref03x_First.ctx : Ctx := [(31, .rd leapfrogref03x_IsKind.w), (38, .st leapfrogref03x_Reader_field.w)]
def leapfrogref03x_First.l2 (S : Sig) (rec10 : List Value → St → Option Cut) (xs8 : List Value) (s9 : St) : Option Cut :=
  S.bd (lenL (xs8.getD 1 undef)) fun x11 => S.bd (bin .lss (xs8.getD 2 undef) x11) fun x12 => S.cnd x12 (S.bd (idx s9 1 (xs8.getD 1 undef) (xs8.getD 2 undef)) fun x13 => S.bd (ldc s9 x13) fun x14 => S.bd (leapfrogref03x_IsKind.r x14 s9) fun x15 => S.bd (un .not x15) fun x16 => S.cnd x16 (some (1, [(Go.Value.slice Option.none 0 0), (Go.Value.int Go.IntKind.i64 0), (Go.Value.int Go.IntKind.i64 30)], s9)) (S.bd (bin .add (xs8.getD 2 undef) (Go.Value.int Go.IntKind.i64 1)) fun x17 => rec10 [(xs8.getD 0 undef), (xs8.getD 1 undef), x17] s9)) (some (0, [(xs8.getD 0 undef), (xs8.getD 1 undef)], s9))

def leapfrogref03x_First.l9 (S : Sig) (rec41 : List Value → St → Option Cut) (xs39 : List Value) (s40 : St) : Option Cut :=
  S.bd (lenL (xs39.getD 0 undef)) fun x42 => S.bd (bin .lss (xs39.getD 3 undef) x42) fun x43 => S.cnd x43 (S.bd (idx s40 1 (xs39.getD 0 undef) (xs39.getD 3 undef)) fun x44 => S.bd (ldc s40 x44) fun x45 => S.bd (leapfrogref03x_Reader_field.v (xs39.getD 1 undef) x45 s40) fun r46 => S.bd (S.bd (bls 14 (List.replicate 1 [(Go.Value.int Go.IntKind.i64 0), (Go.Value.int Go.IntKind.u64 0), (Go.Value.int Go.IntKind.i64 0), (Go.Value.bool Bool.false), (Go.Value.slice Option.none 0 0), (Go.Value.int Go.IntKind.i64 0), (Go.Value.int Go.IntKind.u64 0), (Go.Value.int Go.IntKind.i64 0), (Go.Value.int Go.IntKind.u64 0), (Go.Value.int Go.IntKind.i64 0), (Go.Value.int Go.IntKind.i64 0), (Go.Value.int Go.IntKind.u64 0), (Go.Value.int Go.IntKind.i64 0), (Go.Value.int Go.IntKind.u64 0)]) [(0, r46.1)]) fun rows => als r46.2 14 1 rows) fun r47 => S.bd (app r47.2 14 128 (xs39.getD 2 undef) r47.1) fun r48 => S.bd (nck (xs39.getD 1 undef)) fun x49 => S.bd (fld 2 x49) fun x50 => S.bd (ldc r48.2 x50) fun x51 => S.bd (eqb [1] false true x51 (Go.Value.int Go.IntKind.i64 0)) fun x52 => S.cnd x52 (S.bd (nck (xs39.getD 1 undef)) fun x53 => S.bd (fld 1 x53) fun x54 => S.bd (ldc r48.2 x54) fun x55 => S.bd (nck (xs39.getD 1 undef)) fun x56 => S.bd (fld 2 x56) fun x57 => S.bd (ldc r48.2 x57) fun x58 => some (1, [(Go.Value.slice Option.none 0 0), x55, x58], r48.2)) (S.bd (bin .add (xs39.getD 3 undef) (Go.Value.int Go.IntKind.i64 1)) fun x59 => rec41 [(xs39.getD 0 undef), (xs39.getD 1 undef), r48.1, x59] r48.2)) (some (0, [(xs39.getD 1 undef), (xs39.getD 2 undef)], s40))

def leapfrogref03x_First.t (S : Sig) (a0 a1 : Value) (s : St) : Option (Value × St) :=
  S.bd (S.it (leapfrogref03x_First.l2 S) [a0, a1, (Go.Value.int Go.IntKind.i64 0)] s) fun r18 => if r18.1 = 0 then (S.bd (bld [(Go.Value.slice Option.none 0 0), (Go.Value.int Go.IntKind.i64 0), (Go.Value.int Go.IntKind.i64 0)] [(0, 1, (r18.2.1.getD 0 undef))]) fun x19 => S.bd (alv r18.2.2 x19) fun r20 => S.bd (S.it (leapfrogref03x_First.l9 S) [(r18.2.1.getD 1 undef), r20.1, (Go.Value.slice Option.none 0 0), (Go.Value.int Go.IntKind.i64 0)] r20.2) fun r60 => if r60.1 = 0 then (S.bd (nck (r60.2.1.getD 0 undef)) fun x61 => S.bd (fld 1 x61) fun x62 => S.bd (ldc r60.2.2 x62) fun x63 => some ((Value.tuple ⟨[(r60.2.1.getD 1 undef), x63, (Go.Value.int Go.IntKind.i64 0)]⟩), r60.2.2)) else (some ((Value.tuple ⟨[(r60.2.1.getD 0 undef), (r60.2.1.getD 1 undef), (r60.2.1.getD 2 undef)]⟩), r60.2.2))) else (some ((Value.tuple ⟨[(r18.2.1.getD 0 undef), (r18.2.1.getD 1 undef), (r18.2.1.getD 2 undef)]⟩), r18.2.2))
def leapfrogref03x_First.v (a0 a1 : Value) (s : St) : Option (Value × St) := leapfrogref03x_First.t std a0 a1 s
def leapfrogref03x_First.w : List Value → St → Option (Value × St)
  | [a0, a1], s => leapfrogref03x_First.v a0 a1 s
  | _, _ => none
def leapfrogref03x_First.an : An := ⟨59, false, [], [(2, ⟨[.v 0, .v 1, .v 7], [(.exit 0, [.v 0, .v 1]), (.ret, [.v 4, .v 5, .v 6])]⟩), (9, ⟨[.v 1, .v 8, .v 9, .v 10], [(.exit 2, [.v 8, .v 9]), (.ret, [.v 4, .v 5, .v 6])]⟩)], [], [(13, [(0, 0, [], []), (1, 0, [], []), (2, 0, [], []), (3, 2, [], []), (4, 0, [], []), (5, 0, [], []), (6, 0, [], []), (7, 2, [], []), (8, 0, [], []), (9, 0, [], []), (10, 0, [], [])]), (14, [(0, 0, [], []), (1, 0, [], []), (2, 0, [], []), (3, 0, [], []), (4, 2, [], []), (5, 0, [], []), (6, 0, [], []), (7, 0, [], [])])], [], []⟩
theorem leapfrogref03x_First.ok (S : Sig) (a0 a1 : Value) (s : St) : evF S Try.prog leapfrogref03x_First.ctx leapfrogref03x_First.an Try.f23 [a0, a1] s = leapfrogref03x_First.t S a0 a1 s := by kernel_rfl
theorem leapfrogref03x_First.cok : CtxOk Try.prog leapfrogref03x_First.ctx := .cons leapfrogref03x_IsKind.sound leapfrogref03x_IsKind.can <| .cons leapfrogref03x_Reader_field.sound leapfrogref03x_Reader_field.can <| .nil
theorem leapfrogref03x_First.draws : fnDraws leapfrogref03x_First.an Try.f23 = true := by kernel_rfl
theorem leapfrogref03x_First.can : callOk Try.prog 23 = true := by kernel_rfl
theorem leapfrogref03x_First.sound : FnOk Try.prog 23 (.st leapfrogref03x_First.w) := FnOk.st_of (evF_ok leapfrogref03x_First.cok mixed (f := 23) (fn := Try.f23) (by kernel_rfl) leapfrogref03x_First.draws) fun args s r h => by
  unfold leapfrogref03x_First.w at h; split at h
  · rw [leapfrogref03x_First.ok std]; exact h
  · simp at h

/-! ### leapfrog/leapfrogref03.Unpack: function 24 -/
def leapfrogref03x_Unpack.ctx : Ctx := [(23, .st leapfrogref03x_First.w)]
def leapfrogref03x_Unpack.t (S : Sig) (a0 a1 : Value) (s : St) : Option (Value × St) :=
  S.bd (leapfrogref03x_First.v a0 a1 s) fun r1 => S.bd (xtr 0 r1.1) fun x2 => S.bd (xtr 1 r1.1) fun x3 => S.bd (xtr 2 r1.1) fun x4 => S.bd (eqb [1] false true x4 (Go.Value.int Go.IntKind.i64 0)) fun x5 => S.cnd x5 (some ((Value.tuple ⟨[(Go.Value.slice Option.none 0 0), x3, x4]⟩), r1.2)) (S.bd (lenL a0) fun x6 => S.bd (bin .lss x3 x6) fun x7 => S.cnd x7 (some ((Value.tuple ⟨[(Go.Value.slice Option.none 0 0), x3, (Go.Value.int Go.IntKind.i64 33)]⟩), r1.2)) (some ((Value.tuple ⟨[x2, (Go.Value.int Go.IntKind.i64 0), (Go.Value.int Go.IntKind.i64 0)]⟩), r1.2)))
def leapfrogref03x_Unpack.v (a0 a1 : Value) (s : St) : Option (Value × St) := leapfrogref03x_Unpack.t std a0 a1 s
def leapfrogref03x_Unpack.w : List Value → St → Option (Value × St)
  | [a0, a1], s => leapfrogref03x_Unpack.v a0 a1 s
  | _, _ => none
def leapfrogref03x_Unpack.an : An := ⟨27, false, [], [], [], [], [], []⟩
theorem leapfrogref03x_Unpack.ok (S : Sig) (a0 a1 : Value) (s : St) : evF S Try.prog leapfrogref03x_Unpack.ctx leapfrogref03x_Unpack.an Try.f24 [a0, a1] s = leapfrogref03x_Unpack.t S a0 a1 s := by kernel_rfl
theorem leapfrogref03x_Unpack.cok : CtxOk Try.prog leapfrogref03x_Unpack.ctx := .cons leapfrogref03x_First.sound leapfrogref03x_First.can <| .nil
theorem leapfrogref03x_Unpack.draws : fnDraws leapfrogref03x_Unpack.an Try.f24 = true := by kernel_rfl
theorem leapfrogref03x_Unpack.can : callOk Try.prog 24 = true := by kernel_rfl
theorem leapfrogref03x_Unpack.sound : FnOk Try.prog 24 (.st leapfrogref03x_Unpack.w) := FnOk.st_of (evF_ok leapfrogref03x_Unpack.cok mixed (f := 24) (fn := Try.f24) (by kernel_rfl) leapfrogref03x_Unpack.draws) fun args s r h => by
  unfold leapfrogref03x_Unpack.w at h; split at h
  · rw [leapfrogref03x_Unpack.ok std]; exact h
  · simp at h

/-! ### leapfrog/leapfrogref03.SameAll: function 25 -/
def leapfrogref03x_SameAll.ctx : Ctx := [(19, .rd leapfrogref03x_Same.w)]
def leapfrogref03x_SameAll.l4 (S : Sig) (rec15 : List Value → St → Option Cut) (xs13 : List Value) (s14 : St) : Option Cut :=
  S.bd (lenL (xs13.getD 0 undef)) fun x16 => S.bd (bin .lss (xs13.getD 2 undef) x16) fun x17 => S.cnd x17 (S.bd (idx s14 14 (xs13.getD 0 undef) (xs13.getD 2 undef)) fun x18 => S.bd (lda s14 14 x18) fun x19 => S.bd (idx s14 14 (xs13.getD 1 undef) (xs13.getD 2 undef)) fun x20 => S.bd (lda s14 14 x20) fun x21 => S.bd (leapfrogref03x_Same.r x19 x21 s14) fun x22 => S.bd (un .not x22) fun x23 => S.cnd x23 (some (1, [(Go.Value.bool Bool.false)], s14)) (S.bd (bin .add (xs13.getD 2 undef) (Go.Value.int Go.IntKind.i64 1)) fun x24 => rec15 [(xs13.getD 0 undef), (xs13.getD 1 undef), x24] s14)) (some (0, [], s14))

def leapfrogref03x_SameAll.t (S : Sig) (a0 a1 : Value) (s : St) : Option Value :=
  S.bd (lenL a0) fun x1 => S.bd (lenL a1) fun x2 => S.bd (eqb [1] false true x1 x2) fun x3 => S.cnd x3 (some ((Go.Value.bool Bool.false))) (S.bd (S.it (leapfrogref03x_SameAll.l4 S) [a0, a1, (Go.Value.int Go.IntKind.i64 0)] s) fun r25 => if r25.1 = 0 then (some ((Go.Value.bool Bool.true))) else (some ((r25.2.1.getD 0 undef))))
def leapfrogref03x_SameAll.r (a0 a1 : Value) (s : St) : Option Value := leapfrogref03x_SameAll.t std a0 a1 s
def leapfrogref03x_SameAll.w : List Value → St → Option Value
  | [a0, a1], s => leapfrogref03x_SameAll.r a0 a1 s
  | _, _ => none
def leapfrogref03x_SameAll.an : An := ⟨27, true, [], [(4, ⟨[.v 0, .v 1, .v 5], [(.exit 0, []), (.ret, [.v 4])]⟩)], [], [(6, [(0, 0, [], []), (1, 0, [], []), (2, 2, [], []), (3, 2, [], []), (4, 0, [], []), (5, 0, [], []), (6, 2, [], []), (7, 2, [], []), (8, 3, [], []), (9, 0, [], [])])], [], []⟩
theorem leapfrogref03x_SameAll.ok (S : Sig) (a0 a1 : Value) (s : St) : evG S Try.prog leapfrogref03x_SameAll.ctx leapfrogref03x_SameAll.an Try.f25 [a0, a1] s = leapfrogref03x_SameAll.t S a0 a1 s := by kernel_rfl
theorem leapfrogref03x_SameAll.cok : CtxOk Try.prog leapfrogref03x_SameAll.ctx := .cons leapfrogref03x_Same.sound leapfrogref03x_Same.can <| .nil
theorem leapfrogref03x_SameAll.draws : fnDraws leapfrogref03x_SameAll.an Try.f25 = true := by kernel_rfl
theorem leapfrogref03x_SameAll.can : callOk Try.prog 25 = true := by kernel_rfl
theorem leapfrogref03x_SameAll.sound : FnOk Try.prog 25 (.rd leapfrogref03x_SameAll.w) := FnOk.rd_of (evG_ok leapfrogref03x_SameAll.cok mixed (f := 25) (fn := Try.f25) (by kernel_rfl) leapfrogref03x_SameAll.draws) fun args s r h => by
  unfold leapfrogref03x_SameAll.w at h; split at h
  · rw [leapfrogref03x_SameAll.ok std]; exact h
  · simp at h

/-! ### leapfrog/leapfroglaw03.PackReads: function 6 -/
def leapfroglaw03x_PackReads.ctx : Ctx := [(22, .rd leapfroglaw03x_fewKinds.w), (21, .st pack_First.w), (23, .st leapfrogref03x_First.w), (20, .st pack_Unpack.w), (24, .st leapfrogref03x_Unpack.w), (25, .rd leapfrogref03x_SameAll.w), (11, .rd leapfroglaw03x_aliveC.w)]
def leapfroglaw03x_PackReads.t (S : Sig) (a0 a1 : Value) (s : St) : Option (Value × St) :=
  S.bd (show Option Cut from S.bd (lenL a0) fun x4 => S.bd (bin .gtr x4 (Go.Value.int Go.IntKind.i64 700)) fun x5 => S.cnd x5 (S.bd (slc s 1 a0 none (some (Go.Value.int Go.IntKind.i64 700)) none) fun x6 => some (0, [x6, a1], s)) (some (0, [a0, a1], s))) fun r7 => S.bd (leapfroglaw03x_fewKinds.r (r7.2.1.getD 1 undef) r7.2.2) fun x8 => S.bd (pack_First.v (r7.2.1.getD 0 undef) x8 r7.2.2) fun r9 => S.bd (xtr 0 r9.1) fun x10 => S.bd (xtr 1 r9.1) fun x11 => S.bd (xtr 2 r9.1) fun x12 => S.bd (leapfrogref03x_First.v (r7.2.1.getD 0 undef) x8 r9.2) fun r13 => S.bd (xtr 0 r13.1) fun x14 => S.bd (xtr 1 r13.1) fun x15 => S.bd (xtr 2 r13.1) fun x16 => S.bd (pack_Unpack.v (r7.2.1.getD 0 undef) x8 r13.2) fun r17 => S.bd (xtr 0 r17.1) fun x18 => S.bd (xtr 1 r17.1) fun x19 => S.bd (xtr 2 r17.1) fun x20 => S.bd (leapfrogref03x_Unpack.v (r7.2.1.getD 0 undef) x8 r17.2) fun r21 => S.bd (xtr 0 r21.1) fun x22 => S.bd (xtr 1 r21.1) fun x23 => S.bd (xtr 2 r21.1) fun x24 => S.bd (leapfrogref03x_SameAll.r x10 x14 r21.2) fun x25 => S.bd (S.gd x25 true (some x11)) fun x26 => S.bd (S.gd x25 true (some x15)) fun x27 => S.bd (S.gd x25 true (eqb [1] false false x26 x27)) fun x28 => S.bd (pik x25 x28 (Go.Value.bool Bool.false)) fun x29 => S.bd (S.gd x29 true (some x12)) fun x30 => S.bd (S.gd x29 true (some x16)) fun x31 => S.bd (S.gd x29 true (eqb [1] false false x30 x31)) fun x32 => S.bd (pik x29 x32 (Go.Value.bool Bool.false)) fun x33 => S.bd (S.gd x33 true (some x18)) fun x34 => S.bd (S.gd x33 true (some x22)) fun x35 => S.bd (S.gd x33 true (leapfrogref03x_SameAll.r x34 x35 r21.2)) fun x36 => S.bd (pik x33 x36 (Go.Value.bool Bool.false)) fun x37 => S.bd (S.gd x37 true (some x19)) fun x38 => S.bd (S.gd x37 true (some x23)) fun x39 => S.bd (S.gd x37 true (eqb [1] false false x38 x39)) fun x40 => S.bd (pik x37 x40 (Go.Value.bool Bool.false)) fun x41 => S.bd (S.gd x41 true (some x20)) fun x42 => S.bd (S.gd x41 true (some x24)) fun x43 => S.bd (S.gd x41 true (eqb [1] false false x42 x43)) fun x44 => S.bd (pik x41 x44 (Go.Value.bool Bool.false)) fun x45 => S.bd (S.gd x45 true (leapfroglaw03x_aliveC.r  r21.2)) fun x46 => S.bd (pik x45 x46 (Go.Value.bool Bool.false)) fun x47 => some (x47, r21.2)
def leapfroglaw03x_PackReads.v (a0 a1 : Value) (s : St) : Option (Value × St) := leapfroglaw03x_PackReads.t std a0 a1 s
def leapfroglaw03x_PackReads.w : List Value → St → Option (Value × St)
  | [a0, a1], s => leapfroglaw03x_PackReads.v a0 a1 s
  | _, _ => none
def leapfroglaw03x_PackReads.an : An := ⟨83, false, [], [], [(3, ⟨[], [(.normal, [.v 0, .v 1])]⟩)], [], [], []⟩
theorem leapfroglaw03x_PackReads.ok (S : Sig) (a0 a1 : Value) (s : St) : evF S Try.prog leapfroglaw03x_PackReads.ctx leapfroglaw03x_PackReads.an Try.f6 [a0, a1] s = leapfroglaw03x_PackReads.t S a0 a1 s := by kernel_rfl
theorem leapfroglaw03x_PackReads.cok : CtxOk Try.prog leapfroglaw03x_PackReads.ctx := .cons leapfroglaw03x_fewKinds.sound leapfroglaw03x_fewKinds.can <| .cons pack_First.sound pack_First.can <| .cons leapfrogref03x_First.sound leapfrogref03x_First.can <| .cons pack_Unpack.sound pack_Unpack.can <| .cons leapfrogref03x_Unpack.sound leapfrogref03x_Unpack.can <| .cons leapfrogref03x_SameAll.sound leapfrogref03x_SameAll.can <| .cons leapfroglaw03x_aliveC.sound leapfroglaw03x_aliveC.can <| .nil
theorem leapfroglaw03x_PackReads.draws : fnDraws leapfroglaw03x_PackReads.an Try.f6 = true := by kernel_rfl
theorem leapfroglaw03x_PackReads.can : callOk Try.prog 6 = true := by kernel_rfl
theorem leapfroglaw03x_PackReads.sound : FnOk Try.prog 6 (.st leapfroglaw03x_PackReads.w) := FnOk.st_of (evF_ok leapfroglaw03x_PackReads.cok mixed (f := 6) (fn := Try.f6) (by kernel_rfl) leapfroglaw03x_PackReads.draws) fun args s r h => by
  unfold leapfroglaw03x_PackReads.w at h; split at h
  · rw [leapfroglaw03x_PackReads.ok std]; exact h
  · simp at h

/-! ### leapfrog/leapfroglaw03.PackBack: function 7 -/
def leapfroglaw03x_PackBack.ctx : Ctx := [(12, .st leapfroglaw03x_few.w), (22, .rd leapfroglaw03x_fewKinds.w), (9, .st pack_Pack.w), (20, .st pack_Unpack.w), (25, .rd leapfrogref03x_SameAll.w), (21, .st pack_First.w), (11, .rd leapfroglaw03x_aliveC.w)]
def leapfroglaw03x_PackBack.l6 (S : Sig) (rec40 : List Value → St → Option Cut) (xs38 : List Value) (s39 : St) : Option Cut :=
  S.bd (lenL (xs38.getD 0 undef)) fun x41 => S.bd (bin .lss (xs38.getD 5 undef) x41) fun x42 => S.cnd x42 (S.bd (idx s39 14 (xs38.getD 0 undef) (xs38.getD 5 undef)) fun x43 => S.bd (fld 0 x43) fun x44 => S.bd (ldc s39 x44) fun x45 => S.bd (S.bd (bls 1 (List.replicate 1 [(Go.Value.int Go.IntKind.i64 0)]) [(0, x45)]) fun rows => als s39 1 1 rows) fun r46 => S.bd (app r46.2 1 8 (xs38.getD 4 undef) r46.1) fun r47 => S.bd (bin .add (xs38.getD 5 undef) (Go.Value.int Go.IntKind.i64 1)) fun x48 => rec40 [(xs38.getD 0 undef), (xs38.getD 1 undef), (xs38.getD 2 undef), (xs38.getD 3 undef), r47.1, x48] r47.2) (some (0, [(xs38.getD 0 undef), (xs38.getD 1 undef), (xs38.getD 2 undef), (xs38.getD 3 undef), (xs38.getD 4 undef)], s39))

def leapfroglaw03x_PackBack.t.p1 (S : Sig) (r60 : Cut) : Option (Value × St) :=
  S.bd (show Option Cut from S.bd (lenL (r60.2.1.getD 0 undef)) fun x64 => S.bd (bin .gtr x64 (Go.Value.int Go.IntKind.i64 700)) fun x65 => S.cnd x65 (S.bd (slc r60.2.2 1 (r60.2.1.getD 0 undef) none (some (Go.Value.int Go.IntKind.i64 700)) none) fun x66 => some (0, [x66, (r60.2.1.getD 1 undef)], r60.2.2)) (some (0, [(r60.2.1.getD 0 undef), (r60.2.1.getD 1 undef)], r60.2.2))) fun r67 => S.bd (pack_First.v (r67.2.1.getD 0 undef) (r67.2.1.getD 1 undef) r67.2.2) fun r68 => S.bd (xtr 0 r68.1) fun x69 => S.bd (xtr 1 r68.1) fun x70 => S.bd (xtr 2 r68.1) fun x71 => S.bd (eqb [1] false true x71 (Go.Value.int Go.IntKind.i64 0)) fun x72 => S.cnd x72 (S.bd (lenL x69) fun x73 => S.bd (eqb [1] false false x73 (Go.Value.int Go.IntKind.i64 0)) fun x74 => S.bd (S.gd x74 true (leapfroglaw03x_aliveC.r  r68.2)) fun x75 => S.bd (pik x74 x75 (Go.Value.bool Bool.false)) fun x76 => some (x76, r68.2)) (S.bd (pack_Pack.v x69 r68.2) fun r77 => S.bd (xtr 0 r77.1) fun x78 => S.bd (xtr 1 r77.1) fun x79 => S.bd (eqb [1] false false x79 (Go.Value.int Go.IntKind.i64 0)) fun x80 => S.bd (S.gd x80 true (some x70)) fun x81 => S.bd (S.gd x80 true (bin .geq x81 (Go.Value.int Go.IntKind.i64 0))) fun x82 => S.bd (pik x80 x82 (Go.Value.bool Bool.false)) fun x83 => S.bd (S.gd x83 true (some x70)) fun x84 => S.bd (S.gd x83 true (some (r67.2.1.getD 0 undef))) fun x85 => S.bd (S.gd x83 true (lenL x85)) fun x86 => S.bd (S.gd x83 true (bin .leq x84 x86)) fun x87 => S.bd (pik x83 x87 (Go.Value.bool Bool.false)) fun x88 => S.bd (S.gd x88 true (some x78)) fun x89 => S.bd (S.gd x88 true (b2s r77.2 x89)) fun x90 => S.bd (S.gd x88 true (some (r67.2.1.getD 0 undef))) fun x91 => S.bd (S.gd x88 true (some x70)) fun x92 => S.bd (S.gd x88 true (slc r77.2 1 x91 none (some x92) none)) fun x93 => S.bd (S.gd x88 true (b2s r77.2 x93)) fun x94 => S.bd (S.gd x88 true (eqb [2] false false x90 x94)) fun x95 => S.bd (pik x88 x95 (Go.Value.bool Bool.false)) fun x96 => S.bd (S.gd x96 true (leapfroglaw03x_aliveC.r  r77.2)) fun x97 => S.bd (pik x96 x97 (Go.Value.bool Bool.false)) fun x98 => some (x98, r77.2))

def leapfroglaw03x_PackBack.t (S : Sig) (a0 a1 a2 : Value) (s : St) : Option (Value × St) :=
  S.bd (leapfroglaw03x_few.v a0 s) fun r1 => S.bd (leapfroglaw03x_fewKinds.r a2 r1.2) fun x2 => S.bd (pack_Pack.v r1.1 r1.2) fun r3 => S.bd (xtr 0 r3.1) fun x4 => S.bd (xtr 1 r3.1) fun x5 => S.bd (show Option Cut from S.bd (eqb [1] false false x5 (Go.Value.int Go.IntKind.i64 0)) fun x37 => S.cnd x37 (S.bd (S.it (leapfroglaw03x_PackBack.l6 S) [r1.1, a1, x2, x4, (Go.Value.slice Option.none 0 0), (Go.Value.int Go.IntKind.i64 0)] r3.2) fun r49 => S.bd (pack_Unpack.v (r49.2.1.getD 3 undef) (r49.2.1.getD 4 undef) r49.2.2) fun r50 => S.bd (xtr 0 r50.1) fun x51 => S.bd (xtr 1 r50.1) fun x52 => S.bd (xtr 2 r50.1) fun x53 => S.bd (eqb [1] false true x53 (Go.Value.int Go.IntKind.i64 0)) fun x54 => S.bd (S.gd x54 false (some x51)) fun x55 => S.bd (S.gd x54 false (some (r49.2.1.getD 0 undef))) fun x56 => S.bd (S.gd x54 false (leapfrogref03x_SameAll.r x55 x56 r50.2)) fun x57 => S.bd (S.gd x54 false (un .not x57)) fun x58 => S.bd (pik x54 (Go.Value.bool Bool.true) x58) fun x59 => S.cnd x59 (some (1, [(Go.Value.bool Bool.false)], r50.2)) (some (0, [(r49.2.1.getD 1 undef), (r49.2.1.getD 2 undef)], r50.2))) (some (0, [a1, x2], r3.2))) fun r60 => if r60.1 = 0 then (leapfroglaw03x_PackBack.t.p1 S r60) else (some ((r60.2.1.getD 0 undef), r60.2.2))
def leapfroglaw03x_PackBack.v (a0 a1 a2 : Value) (s : St) : Option (Value × St) := leapfroglaw03x_PackBack.t std a0 a1 a2 s
def leapfroglaw03x_PackBack.w : List Value → St → Option (Value × St)
  | [a0, a1, a2], s => leapfroglaw03x_PackBack.v a0 a1 a2 s
  | _, _ => none
def leapfroglaw03x_PackBack.an : An := ⟨108, false, [], [(6, ⟨[.v 0, .v 1, .v 2, .v 7, .v 9, .v 10], [(.exit 0, [.v 0, .v 1, .v 2, .v 7, .v 9])]⟩)], [(12, ⟨[], [(.normal, [.v 1, .v 2]), (.ret, [.v 6])]⟩), (14, ⟨[], [(.normal, [.v 1, .v 2])]⟩)], [(18, [(0, 0, [], []), (1, 0, [], []), (2, 0, [], []), (3, 0, [], []), (4, 0, [], []), (5, 0, [], []), (6, 0, [], []), (7, 0, [], []), (8, 0, [], []), (9, 2, [], []), (10, 0, [], []), (11, 0, [], []), (12, 0, [], []), (13, 0, [], []), (14, 2, [], []), (15, 0, [], []), (16, 0, [], []), (17, 2, [], []), (18, 2, [], []), (19, 0, [], []), (20, 0, [], []), (21, 0, [], []), (22, 3, [], []), (23, 0, [], []), (24, 0, [], [])])], [], []⟩
theorem leapfroglaw03x_PackBack.ok (S : Sig) (a0 a1 a2 : Value) (s : St) : evF S Try.prog leapfroglaw03x_PackBack.ctx leapfroglaw03x_PackBack.an Try.f7 [a0, a1, a2] s = leapfroglaw03x_PackBack.t S a0 a1 a2 s := by kernel_rfl
theorem leapfroglaw03x_PackBack.cok : CtxOk Try.prog leapfroglaw03x_PackBack.ctx := .cons leapfroglaw03x_few.sound leapfroglaw03x_few.can <| .cons leapfroglaw03x_fewKinds.sound leapfroglaw03x_fewKinds.can <| .cons pack_Pack.sound pack_Pack.can <| .cons pack_Unpack.sound pack_Unpack.can <| .cons leapfrogref03x_SameAll.sound leapfrogref03x_SameAll.can <| .cons pack_First.sound pack_First.can <| .cons leapfroglaw03x_aliveC.sound leapfroglaw03x_aliveC.can <| .nil
theorem leapfroglaw03x_PackBack.draws : fnDraws leapfroglaw03x_PackBack.an Try.f7 = true := by kernel_rfl
theorem leapfroglaw03x_PackBack.can : callOk Try.prog 7 = true := by kernel_rfl
theorem leapfroglaw03x_PackBack.sound : FnOk Try.prog 7 (.st leapfroglaw03x_PackBack.w) := FnOk.st_of (evF_ok leapfroglaw03x_PackBack.cok mixed (f := 7) (fn := Try.f7) (by kernel_rfl) leapfroglaw03x_PackBack.draws) fun args s r h => by
  unfold leapfroglaw03x_PackBack.w at h; split at h
  · rw [leapfroglaw03x_PackBack.ok std]; exact h
  · simp at h

/-! ### leapfrog/leapfroglaw03.PackOwn: function 8 -/
def leapfroglaw03x_PackOwn.ctx : Ctx := [(9, .st pack_Pack.w), (20, .st pack_Unpack.w), (11, .rd leapfroglaw03x_aliveC.w)]
def leapfroglaw03x_PackOwn.l9 (S : Sig) (rec44 : List Value → St → Option Cut) (xs42 : List Value) (s43 : St) : Option Cut :=
  S.bd (lenL (xs42.getD 2 undef)) fun x45 => S.bd (bin .lss (xs42.getD 4 undef) x45) fun x46 => S.cnd x46 (S.bd (idx s43 1 (xs42.getD 2 undef) (xs42.getD 4 undef)) fun x47 => S.bd (ldc s43 x47) fun x48 => S.bd (un .xor x48) fun x49 => S.bd (idx s43 1 (xs42.getD 2 undef) (xs42.getD 4 undef)) fun x50 => S.bd (stv s43 1 x50 x49) fun s51 => S.bd (bin .add (xs42.getD 4 undef) (Go.Value.int Go.IntKind.i64 1)) fun x52 => rec44 [(xs42.getD 0 undef), (xs42.getD 1 undef), (xs42.getD 2 undef), (xs42.getD 3 undef), x52] s51) (some (0, [(xs42.getD 0 undef), (xs42.getD 1 undef), (xs42.getD 3 undef)], s43))

def leapfroglaw03x_PackOwn.l13 (S : Sig) (rec64 : List Value → St → Option Cut) (xs62 : List Value) (s63 : St) : Option Cut :=
  S.bd (lenL (xs62.getD 1 undef)) fun x65 => S.bd (bin .lss (xs62.getD 3 undef) x65) fun x66 => S.cnd x66 (S.bd (idx s63 1 (xs62.getD 1 undef) (xs62.getD 3 undef)) fun x67 => S.bd (ldc s63 x67) fun x68 => S.bd (un .xor x68) fun x69 => S.bd (idx s63 1 (xs62.getD 1 undef) (xs62.getD 3 undef)) fun x70 => S.bd (stv s63 1 x70 x69) fun s71 => S.bd (bin .add (xs62.getD 3 undef) (Go.Value.int Go.IntKind.i64 1)) fun x72 => rec64 [(xs62.getD 0 undef), (xs62.getD 1 undef), (xs62.getD 2 undef), x72] s71) (some (0, [(xs62.getD 0 undef), (xs62.getD 2 undef)], s63))

def leapfroglaw03x_PackOwn.t (S : Sig) (a0 : Value) (s : St) : Option (Value × St) :=
  S.bd (show Option Cut from S.bd (lenL a0) fun x4 => S.bd (bin .gtr x4 (Go.Value.int Go.IntKind.i64 700)) fun x5 => S.cnd x5 (S.bd (slc s 1 a0 none (some (Go.Value.int Go.IntKind.i64 700)) none) fun x6 => some (0, [x6], s)) (some (0, [a0], s))) fun r7 => S.bd (S.bd (bls 1 (List.replicate 0 [(Go.Value.int Go.IntKind.u8 0)]) []) fun rows => als r7.2.2 1 0 rows) fun r8 => S.bd (app r8.2 1 1 r8.1 (r7.2.1.getD 0 undef)) fun r9 => S.bd (bld [(Go.Value.int Go.IntKind.i64 0), (Go.Value.int Go.IntKind.u64 0), (Go.Value.int Go.IntKind.i64 0), (Go.Value.bool Bool.false), (Go.Value.slice Option.none 0 0), (Go.Value.int Go.IntKind.i64 0), (Go.Value.int Go.IntKind.u64 0), (Go.Value.int Go.IntKind.i64 0), (Go.Value.int Go.IntKind.u64 0), (Go.Value.int Go.IntKind.i64 0), (Go.Value.int Go.IntKind.i64 0), (Go.Value.int Go.IntKind.u64 0), (Go.Value.int Go.IntKind.i64 0), (Go.Value.int Go.IntKind.u64 0)] [(0, 1, (Go.Value.int Go.IntKind.i64 4)), (4, 1, r9.1)]) fun x10 => S.bd (S.bd (bls 14 (List.replicate 1 [(Go.Value.int Go.IntKind.i64 0), (Go.Value.int Go.IntKind.u64 0), (Go.Value.int Go.IntKind.i64 0), (Go.Value.bool Bool.false), (Go.Value.slice Option.none 0 0), (Go.Value.int Go.IntKind.i64 0), (Go.Value.int Go.IntKind.u64 0), (Go.Value.int Go.IntKind.i64 0), (Go.Value.int Go.IntKind.u64 0), (Go.Value.int Go.IntKind.i64 0), (Go.Value.int Go.IntKind.i64 0), (Go.Value.int Go.IntKind.u64 0), (Go.Value.int Go.IntKind.i64 0), (Go.Value.int Go.IntKind.u64 0)]) [(0, x10)]) fun rows => als r9.2 14 1 rows) fun r11 => S.bd (pack_Pack.v r11.1 r11.2) fun r12 => S.bd (xtr 0 r12.1) fun x13 => S.bd (xtr 1 r12.1) fun x14 => S.bd (S.bd (bls 1 (List.replicate 1 [(Go.Value.int Go.IntKind.i64 0)]) [(0, (Go.Value.int Go.IntKind.i64 4))]) fun rows => als r12.2 1 1 rows) fun r15 => S.bd (pack_Unpack.v x13 r15.1 r15.2) fun r16 => S.bd (xtr 0 r16.1) fun x17 => S.bd (xtr 1 r16.1) fun x18 => S.bd (xtr 2 r16.1) fun x19 => S.bd (eqb [1] false true x14 (Go.Value.int Go.IntKind.i64 0)) fun x20 => S.bd (S.gd x20 false (some x19)) fun x21 => S.bd (S.gd x20 false (eqb [1] false true x21 (Go.Value.int Go.IntKind.i64 0))) fun x22 => S.bd (pik x20 (Go.Value.bool Bool.true) x22) fun x23 => S.bd (S.gd x23 false (some x17)) fun x24 => S.bd (S.gd x23 false (lenL x24)) fun x25 => S.bd (S.gd x23 false (eqb [1] false true x25 (Go.Value.int Go.IntKind.i64 1))) fun x26 => S.bd (pik x23 (Go.Value.bool Bool.true) x26) fun x27 => S.bd (S.gd x27 false (some r9.1)) fun x28 => S.bd (S.gd x27 false (b2s r16.2 x28)) fun x29 => S.bd (S.gd x27 false (some (r7.2.1.getD 0 undef))) fun x30 => S.bd (S.gd x27 false (b2s r16.2 x30)) fun x31 => S.bd (S.gd x27 false (eqb [2] false true x29 x31)) fun x32 => S.bd (pik x27 (Go.Value.bool Bool.true) x32) fun x33 => S.cnd x33 (some ((Go.Value.bool Bool.false), r16.2)) (S.bd (S.it (leapfroglaw03x_PackOwn.l9 S) [(r7.2.1.getD 0 undef), r9.1, x13, x17, (Go.Value.int Go.IntKind.i64 0)] r16.2) fun r53 => S.bd (S.it (leapfroglaw03x_PackOwn.l13 S) [(r53.2.1.getD 0 undef), (r53.2.1.getD 1 undef), (r53.2.1.getD 2 undef), (Go.Value.int Go.IntKind.i64 0)] r53.2.2) fun r73 => S.bd (idx r73.2.2 14 (r73.2.1.getD 1 undef) (Go.Value.int Go.IntKind.i64 0)) fun x74 => S.bd (fld 4 x74) fun x75 => S.bd (ldc r73.2.2 x75) fun x76 => S.bd (b2s r73.2.2 x76) fun x77 => S.bd (b2s r73.2.2 (r73.2.1.getD 0 undef)) fun x78 => S.bd (eqb [2] false false x77 x78) fun x79 => S.bd (S.gd x79 true (leapfroglaw03x_aliveC.r  r73.2.2)) fun x80 => S.bd (pik x79 x80 (Go.Value.bool Bool.false)) fun x81 => some (x81, r73.2.2))
def leapfroglaw03x_PackOwn.v (a0 : Value) (s : St) : Option (Value × St) := leapfroglaw03x_PackOwn.t std a0 s
def leapfroglaw03x_PackOwn.w : List Value → St → Option (Value × St)
  | [a0], s => leapfroglaw03x_PackOwn.v a0 s
  | _, _ => none
def leapfroglaw03x_PackOwn.an : An := ⟨90, false, [], [(9, ⟨[.v 0, .v 3, .v 4, .v 6, .v 9], [(.exit 0, [.v 0, .v 3, .v 6])]⟩), (13, ⟨[.v 0, .v 3, .v 6, .v 10], [(.exit 2, [.v 0, .v 6])]⟩)], [(3, ⟨[], [(.normal, [.v 0])]⟩)], [(16, [(0, 0, [], []), (1, 2, [], []), (2, 0, [], []), (3, 2, [], []), (4, 2, [], []), (5, 0, [], []), (6, 2, [], []), (7, 0, [], []), (8, 0, [], []), (9, 3, [], []), (10, 0, [], []), (11, 0, [], [])])], [], []⟩
theorem leapfroglaw03x_PackOwn.ok (S : Sig) (a0 : Value) (s : St) : evF S Try.prog leapfroglaw03x_PackOwn.ctx leapfroglaw03x_PackOwn.an Try.f8 [a0] s = leapfroglaw03x_PackOwn.t S a0 s := by kernel_rfl
theorem leapfroglaw03x_PackOwn.cok : CtxOk Try.prog leapfroglaw03x_PackOwn.ctx := .cons pack_Pack.sound pack_Pack.can <| .cons pack_Unpack.sound pack_Unpack.can <| .cons leapfroglaw03x_aliveC.sound leapfroglaw03x_aliveC.can <| .nil
theorem leapfroglaw03x_PackOwn.draws : fnDraws leapfroglaw03x_PackOwn.an Try.f8 = true := by kernel_rfl
theorem leapfroglaw03x_PackOwn.can : callOk Try.prog 8 = true := by kernel_rfl
theorem leapfroglaw03x_PackOwn.sound : FnOk Try.prog 8 (.st leapfroglaw03x_PackOwn.w) := FnOk.st_of (evF_ok leapfroglaw03x_PackOwn.cok mixed (f := 8) (fn := Try.f8) (by kernel_rfl) leapfroglaw03x_PackOwn.draws) fun args s r h => by
  unfold leapfroglaw03x_PackOwn.w at h; split at h
  · rw [leapfroglaw03x_PackOwn.ok std]; exact h
  · simp at h


end
end Go.Proofs.Ytmbfnpadhlfepaa
