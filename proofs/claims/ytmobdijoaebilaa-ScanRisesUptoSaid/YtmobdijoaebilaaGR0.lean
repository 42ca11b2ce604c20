/-
  What the functions answer that ScanLarge, ScanRises, ScanRuns reaches (part 0): for each function of the program a plain function over abstract values, and that the model answers as it does.
-/
import Derived.Test.YtmobdijoaebilaaSimZ
import Derived.Test.YtmobdijoaebilaaProg
import Derived.KernelRfl
set_option linter.unusedVariables false
set_option maxRecDepth 100000
namespace Go.Proofs.Ytmobdijoaebilaa
open Go.Sim
noncomputable section
theorem mixed : Try.prog.follows .mixedOrders = true := by kernel_rfl
/-! ### leapfrog/key.ranks: function 74 -/
def key_ranks.ctx : Ctx := []
def key_ranks.t (S : Sig) (s : St) : Option Value :=
  S.bd (bx (Go.Value.agg #[(Go.Value.int Go.IntKind.i64 0), (Go.Value.int Go.IntKind.i64 0), (Go.Value.int Go.IntKind.i64 0)])) fun c1 => S.bd (bld [(Go.Value.int Go.IntKind.i64 0), (Go.Value.int Go.IntKind.i64 0), (Go.Value.int Go.IntKind.i64 0)] [(0, 1, (Go.Value.int Go.IntKind.i64 1)), (1, 1, (Go.Value.int Go.IntKind.i64 2)), (2, 1, (Go.Value.int Go.IntKind.i64 3))]) fun x2 => S.bd (stl c1 0 3 x2) fun c3 => S.bd (lal c3 0 3) fun x4 => some (x4)
def key_ranks.r (s : St) : Option Value := key_ranks.t std  s
def key_ranks.w : List Value → St → Option Value
  | [], s => key_ranks.r  s
  | _, _ => none
def key_ranks.an : An := ⟨2, true, [0], [], [], []⟩
theorem key_ranks.ok (S : Sig) (s : St) : evG S Try.prog key_ranks.ctx key_ranks.an Try.f74 [] s = key_ranks.t S  s := by kernel_rfl
theorem key_ranks.cok : CtxOk Try.prog key_ranks.ctx := .nil
theorem key_ranks.draws : fnDraws key_ranks.an Try.f74 = true := by kernel_rfl
theorem key_ranks.can : callOk Try.prog 74 = true := by kernel_rfl
theorem key_ranks.sound : FnOk Try.prog 74 (.rd key_ranks.w) := FnOk.rd_of (evG_ok key_ranks.cok mixed (f := 74) (fn := Try.f74) (by kernel_rfl) key_ranks.draws) fun args s r h => by
  unfold key_ranks.w at h; split at h
  · rw [key_ranks.ok std]; exact h
  · simp at h

/-! ### leapfrog/key.Check: function 58 -/
def key_Check.ctx : Ctx := []
def key_Check.t (S : Sig) (a0 : Value) (s : St) : Option Value :=
  S.bd (bx a0) fun c1 => S.bd (lcl c1 0) fun x2 => S.bd (eqb [1] false false x2 (Go.Value.int Go.IntKind.i64 2)) fun x3 => S.bd (S.gd x3 false (lcl c1 0)) fun x4 => S.bd (S.gd x3 false (eqb [1] false false x4 (Go.Value.int Go.IntKind.i64 1))) fun x5 => S.bd (S.gd x3 false (some x5)) fun x6 => S.bd (S.gd x6 false (lcl c1 0)) fun x7 => S.bd (S.gd x6 false (eqb [1] false false x7 (Go.Value.int Go.IntKind.i64 3))) fun x8 => S.bd (S.gd x3 false (pik x6 (Go.Value.bool Bool.true) x8)) fun x9 => S.bd (S.gd x3 false (some x9)) fun x10 => S.bd (S.gd x10 true (lcl c1 1)) fun x11 => S.bd (S.gd x10 true (eqb [1] false false x11 (Go.Value.int Go.IntKind.u64 0))) fun x12 => S.bd (S.gd x3 false (pik x10 x12 (Go.Value.bool Bool.false))) fun x13 => S.bd (pik x3 (Go.Value.bool Bool.true) x13) fun x14 => S.cnd x14 (some ((Go.Value.int Go.IntKind.i64 0))) (some ((Go.Value.int Go.IntKind.i64 20)))
def key_Check.r (a0 : Value) (s : St) : Option Value := key_Check.t std a0 s
def key_Check.w : List Value → St → Option Value
  | [a0], s => key_Check.r a0 s
  | _, _ => none
def key_Check.an : An := ⟨21, true, [1], [], [], []⟩
theorem key_Check.ok (S : Sig) (a0 : Value) (s : St) : evG S Try.prog key_Check.ctx key_Check.an Try.f58 [a0] s = key_Check.t S a0 s := by kernel_rfl
theorem key_Check.cok : CtxOk Try.prog key_Check.ctx := .nil
theorem key_Check.draws : fnDraws key_Check.an Try.f58 = true := by kernel_rfl
theorem key_Check.can : callOk Try.prog 58 = true := by kernel_rfl
theorem key_Check.sound : FnOk Try.prog 58 (.rd key_Check.w) := FnOk.rd_of (evG_ok key_Check.cok mixed (f := 58) (fn := Try.f58) (by kernel_rfl) key_Check.draws) fun args s r h => by
  unfold key_Check.w at h; split at h
  · rw [key_Check.ok std]; exact h
  · simp at h

/-! ### leapfrog/key.Next: function 65 -/
def key_Next.ctx : Ctx := [(74, .rd key_ranks.w), (58, .rd key_Check.w)]
def key_Next.t (S : Sig) (a0 : Value) (s : St) : Option Value :=
  S.bd (bx a0) fun c1 => S.bd (bx (Go.Value.agg #[(Go.Value.int Go.IntKind.i64 0), (Go.Value.int Go.IntKind.u64 0)])) fun c2 => S.bd (key_ranks.r  s) fun x3 => S.bd (bx (Go.Value.agg #[(Go.Value.int Go.IntKind.i64 0), (Go.Value.int Go.IntKind.i64 0), (Go.Value.int Go.IntKind.i64 0)])) fun c4 => S.bd (stl c4 0 3 x3) fun c5 => S.bd (lal c1 0 2) fun x6 => S.bd (key_Check.r x6 s) fun x7 => S.bd (eqb [1] false true x7 (Go.Value.int Go.IntKind.i64 0)) fun x8 => S.bd (S.gd x8 false (lcl c1 0)) fun x9 => S.bd (S.gd x8 false (lcl c5 2)) fun x10 => S.bd (S.gd x8 false (eqb [1] false false x9 x10)) fun x11 => S.bd (pik x8 (Go.Value.bool Bool.true) x11) fun x12 => S.cnd x12 (S.bd (bld [(Go.Value.int Go.IntKind.i64 0), (Go.Value.int Go.IntKind.u64 0)] []) fun x13 => S.bd (stl c2 0 2 x13) fun c14 => S.bd (lal c14 0 2) fun x15 => some ((Value.tuple ⟨[x15, (Go.Value.bool Bool.false)]⟩))) (S.bd (lcl c1 0) fun x16 => S.bd (lcl c5 0) fun x17 => S.bd (eqb [1] false false x16 x17) fun x18 => S.cnd x18 (S.bd (lcl c5 1) fun x19 => S.bd (bld [(Go.Value.int Go.IntKind.i64 0), (Go.Value.int Go.IntKind.u64 0)] [(0, 1, x19)]) fun x20 => S.bd (stl c2 0 2 x20) fun c21 => S.bd (lal c21 0 2) fun x22 => some ((Value.tuple ⟨[x22, (Go.Value.bool Bool.true)]⟩))) (S.bd (lcl c1 1) fun x23 => S.bd (eqb [1] false false x23 (Go.Value.int Go.IntKind.u64 18446744073709551615)) fun x24 => S.cnd x24 (S.bd (lcl c5 2) fun x25 => S.bd (bld [(Go.Value.int Go.IntKind.i64 0), (Go.Value.int Go.IntKind.u64 0)] [(0, 1, x25)]) fun x26 => S.bd (stl c2 0 2 x26) fun c27 => S.bd (lal c27 0 2) fun x28 => some ((Value.tuple ⟨[x28, (Go.Value.bool Bool.true)]⟩))) (S.bd (lcl c5 1) fun x29 => S.bd (lcl c1 1) fun x30 => S.bd (bin .add x30 (Go.Value.int Go.IntKind.u64 1)) fun x31 => S.bd (bld [(Go.Value.int Go.IntKind.i64 0), (Go.Value.int Go.IntKind.u64 0)] [(0, 1, x29), (1, 1, x31)]) fun x32 => S.bd (stl c2 0 2 x32) fun c33 => S.bd (lal c33 0 2) fun x34 => some ((Value.tuple ⟨[x34, (Go.Value.bool Bool.true)]⟩)))))
def key_Next.r (a0 : Value) (s : St) : Option Value := key_Next.t std a0 s
def key_Next.w : List Value → St → Option Value
  | [a0], s => key_Next.r a0 s
  | _, _ => none
def key_Next.an : An := ⟨40, true, [1, 2, 4], [], [], []⟩
theorem key_Next.ok (S : Sig) (a0 : Value) (s : St) : evG S Try.prog key_Next.ctx key_Next.an Try.f65 [a0] s = key_Next.t S a0 s := by kernel_rfl
theorem key_Next.cok : CtxOk Try.prog key_Next.ctx := .cons key_ranks.sound key_ranks.can <| .cons key_Check.sound key_Check.can <| .nil
theorem key_Next.draws : fnDraws key_Next.an Try.f65 = true := by kernel_rfl
theorem key_Next.can : callOk Try.prog 65 = true := by kernel_rfl
theorem key_Next.sound : FnOk Try.prog 65 (.rd key_Next.w) := FnOk.rd_of (evG_ok key_Next.cok mixed (f := 65) (fn := Try.f65) (by kernel_rfl) key_Next.draws) fun args s r h => by
  unfold key_Next.w at h; split at h
  · rw [key_Next.ok std]; exact h
  · simp at h

/-! ### (*leapfrog/scan.Scan).has$1: function 64 -/
def scan_Scan_has_fn1.ctx : Ctx := [(65, .rd key_Next.w)]
def scan_Scan_has_fn1.t (S : Sig) (a0 : Value) (s : St) : Option Value :=
  S.bd (bx (Go.Value.agg #[(Go.Value.int Go.IntKind.i64 0), (Go.Value.int Go.IntKind.u64 0)])) fun c1 => S.bd (ldc s a0) fun x2 => S.bd (nck x2) fun x3 => S.bd (fld 11 x3) fun x4 => S.bd (fld 1 x4) fun x5 => S.bd (lda s 2 x5) fun x6 => S.bd (key_Next.r x6 s) fun x7 => S.bd (xtr 0 x7) fun x8 => S.bd (xtr 1 x7) fun x9 => S.bd (bx (Go.Value.agg #[(Go.Value.int Go.IntKind.i64 0), (Go.Value.int Go.IntKind.u64 0)])) fun c10 => S.bd (stl c10 0 2 x8) fun c11 => S.bd (lal c11 0 2) fun x12 => S.bd (stl c1 0 2 x12) fun c13 => S.bd (lal c13 0 2) fun x14 => some (x14)
def scan_Scan_has_fn1.r (a0 : Value) (s : St) : Option Value := scan_Scan_has_fn1.t std a0 s
def scan_Scan_has_fn1.w : List Value → St → Option Value
  | [a0], s => scan_Scan_has_fn1.r a0 s
  | _, _ => none
def scan_Scan_has_fn1.an : An := ⟨14, true, [1, 2], [], [], []⟩
theorem scan_Scan_has_fn1.ok (S : Sig) (a0 : Value) (s : St) : evG S Try.prog scan_Scan_has_fn1.ctx scan_Scan_has_fn1.an Try.f64 [a0] s = scan_Scan_has_fn1.t S a0 s := by kernel_rfl
theorem scan_Scan_has_fn1.cok : CtxOk Try.prog scan_Scan_has_fn1.ctx := .cons key_Next.sound key_Next.can <| .nil
theorem scan_Scan_has_fn1.draws : fnDraws scan_Scan_has_fn1.an Try.f64 = true := by kernel_rfl
theorem scan_Scan_has_fn1.can : callOk Try.prog 64 = true := by kernel_rfl
theorem scan_Scan_has_fn1.sound : FnOk Try.prog 64 (.rd scan_Scan_has_fn1.w) := FnOk.rd_of (evG_ok scan_Scan_has_fn1.cok mixed (f := 64) (fn := Try.f64) (by kernel_rfl) scan_Scan_has_fn1.draws) fun args s r h => by
  unfold scan_Scan_has_fn1.w at h; split at h
  · rw [scan_Scan_has_fn1.ok std]; exact h
  · simp at h

/-! ### leapfrog/leapfrogref12.Head: function 9 -/
def leapfrogref12x_Head.ctx : Ctx := []
def leapfrogref12x_Head.t (S : Sig) (a0 : Value) (s : St) : Option Value :=
  S.bd (bx (Go.Value.agg #[(Go.Value.int Go.IntKind.i64 0), (Go.Value.int Go.IntKind.i64 0), (Go.Value.int Go.IntKind.u64 0), (Go.Value.int Go.IntKind.i64 0), (Go.Value.int Go.IntKind.u64 0)])) fun c1 => S.bd (bld [(Go.Value.int Go.IntKind.i64 0), (Go.Value.int Go.IntKind.u64 0)] [(0, 1, (Go.Value.int Go.IntKind.i64 1))]) fun x2 => S.bd (bld [(Go.Value.int Go.IntKind.i64 0), (Go.Value.int Go.IntKind.u64 0)] [(0, 1, a0)]) fun x3 => S.bd (bld [(Go.Value.int Go.IntKind.i64 0), (Go.Value.int Go.IntKind.i64 0), (Go.Value.int Go.IntKind.u64 0), (Go.Value.int Go.IntKind.i64 0), (Go.Value.int Go.IntKind.u64 0)] [(1, 2, x2), (3, 2, x3)]) fun x4 => S.bd (stl c1 0 5 x4) fun c5 => S.bd (lal c5 0 5) fun x6 => some (x6)
def leapfrogref12x_Head.r (a0 : Value) (s : St) : Option Value := leapfrogref12x_Head.t std a0 s
def leapfrogref12x_Head.w : List Value → St → Option Value
  | [a0], s => leapfrogref12x_Head.r a0 s
  | _, _ => none
def leapfrogref12x_Head.an : An := ⟨7, true, [2], [], [], []⟩
theorem leapfrogref12x_Head.ok (S : Sig) (a0 : Value) (s : St) : evG S Try.prog leapfrogref12x_Head.ctx leapfrogref12x_Head.an Try.f9 [a0] s = leapfrogref12x_Head.t S a0 s := by kernel_rfl
theorem leapfrogref12x_Head.cok : CtxOk Try.prog leapfrogref12x_Head.ctx := .nil
theorem leapfrogref12x_Head.draws : fnDraws leapfrogref12x_Head.an Try.f9 = true := by kernel_rfl
theorem leapfrogref12x_Head.can : callOk Try.prog 9 = true := by kernel_rfl
theorem leapfrogref12x_Head.sound : FnOk Try.prog 9 (.rd leapfrogref12x_Head.w) := FnOk.rd_of (evG_ok leapfrogref12x_Head.cok mixed (f := 9) (fn := Try.f9) (by kernel_rfl) leapfrogref12x_Head.draws) fun args s r h => by
  unfold leapfrogref12x_Head.w at h; split at h
  · rw [leapfrogref12x_Head.ok std]; exact h
  · simp at h

/-! ### leapfrog/vec.low: function 78 -/
def vec_low.ctx : Ctx := []
def vec_low.t (S : Sig) (a0 : Value) (s : St) : Option Value :=
  S.bd (cvi .u64 a0) fun x1 => S.bd (bin .shl (Go.Value.int Go.IntKind.u64 1) x1) fun x2 => S.bd (bin .sub x2 (Go.Value.int Go.IntKind.u64 1)) fun x3 => some (x3)
def vec_low.r (a0 : Value) (s : St) : Option Value := vec_low.t std a0 s
def vec_low.w : List Value → St → Option Value
  | [a0], s => vec_low.r a0 s
  | _, _ => none
def vec_low.an : An := ⟨7, true, [], [], [], []⟩
theorem vec_low.ok (S : Sig) (a0 : Value) (s : St) : evG S Try.prog vec_low.ctx vec_low.an Try.f78 [a0] s = vec_low.t S a0 s := by kernel_rfl
theorem vec_low.cok : CtxOk Try.prog vec_low.ctx := .nil
theorem vec_low.draws : fnDraws vec_low.an Try.f78 = true := by kernel_rfl
theorem vec_low.can : callOk Try.prog 78 = true := by kernel_rfl
theorem vec_low.sound : FnOk Try.prog 78 (.rd vec_low.w) := FnOk.rd_of (evG_ok vec_low.cok mixed (f := 78) (fn := Try.f78) (by kernel_rfl) vec_low.draws) fun args s r h => by
  unfold vec_low.w at h; split at h
  · rw [vec_low.ok std]; exact h
  · simp at h

/-! ### leapfrog/vec.Right: function 71 -/
def vec_Right.ctx : Ctx := [(78, .rd vec_low.w)]
def vec_Right.t (S : Sig) (a0 : Value) (s : St) : Option Value :=
  S.bd (bx a0) fun c1 => S.bd (lcl c1 0) fun x2 => S.bd (bin .lss x2 (Go.Value.int Go.IntKind.i64 0)) fun x3 => S.bd (S.gd x3 false (lcl c1 0)) fun x4 => S.bd (S.gd x3 false (bin .gtr x4 (Go.Value.int Go.IntKind.i64 32))) fun x5 => S.bd (pik x3 (Go.Value.bool Bool.true) x5) fun x6 => S.bd (S.gd x6 false (lcl c1 1)) fun x7 => S.bd (S.gd x6 false (lcl c1 0)) fun x8 => S.bd (S.gd x6 false (vec_low.r x8 s)) fun x9 => S.bd (S.gd x6 false (bin .gtr x7 x9)) fun x10 => S.bd (pik x6 (Go.Value.bool Bool.true) x10) fun x11 => S.cnd x11 (some ((Go.Value.int Go.IntKind.i64 10))) (some ((Go.Value.int Go.IntKind.i64 0)))
def vec_Right.r (a0 : Value) (s : St) : Option Value := vec_Right.t std a0 s
def vec_Right.w : List Value → St → Option Value
  | [a0], s => vec_Right.r a0 s
  | _, _ => none
def vec_Right.an : An := ⟨19, true, [1], [], [], [(1, [(0, 0, [], []), (1, 9, [], []), (2, 0, [], []), (3, 0, [], []), (4, 0, [], []), (5, 9, [], []), (6, 0, [], []), (7, 0, [], []), (8, 0, [], []), (9, 0, [], []), (10, 9, [], []), (11, 0, [], []), (12, 9, [], []), (13, 3, [], []), (14, 0, [], []), (15, 0, [], [])])]⟩
theorem vec_Right.ok (S : Sig) (a0 : Value) (s : St) : evG S Try.prog vec_Right.ctx vec_Right.an Try.f71 [a0] s = vec_Right.t S a0 s := by kernel_rfl
theorem vec_Right.cok : CtxOk Try.prog vec_Right.ctx := .cons vec_low.sound vec_low.can <| .nil
theorem vec_Right.draws : fnDraws vec_Right.an Try.f71 = true := by kernel_rfl
theorem vec_Right.can : callOk Try.prog 71 = true := by kernel_rfl
theorem vec_Right.sound : FnOk Try.prog 71 (.rd vec_Right.w) := FnOk.rd_of (evG_ok vec_Right.cok mixed (f := 71) (fn := Try.f71) (by kernel_rfl) vec_Right.draws) fun args s r h => by
  unfold vec_Right.w at h; split at h
  · rw [vec_Right.ok std]; exact h
  · simp at h

/-! ### leapfrog/seek.right: function 57 -/
def seek_right.ctx : Ctx := [(58, .rd key_Check.w), (71, .rd vec_Right.w)]
def seek_right.t (S : Sig) (a0 a1 : Value) (s : St) : Option Value :=
  S.bd (bx a0) fun c1 => S.bd (lal c1 1 2) fun x2 => S.bd (key_Check.r x2 s) fun x3 => S.bd (eqb [1] false false x3 (Go.Value.int Go.IntKind.i64 0)) fun x4 => S.bd (S.gd x4 true (lal c1 3 2)) fun x5 => S.bd (S.gd x4 true (vec_Right.r x5 s)) fun x6 => S.bd (S.gd x4 true (eqb [1] false false x6 (Go.Value.int Go.IntKind.i64 0))) fun x7 => S.bd (pik x4 x7 (Go.Value.bool Bool.false)) fun x8 => S.bd (S.gd x8 true (lcl c1 3)) fun x9 => S.bd (S.gd x8 true (some a1)) fun x10 => S.bd (S.gd x8 true (eqb [1] false false x9 x10)) fun x11 => S.bd (pik x8 x11 (Go.Value.bool Bool.false)) fun x12 => some (x12)
def seek_right.r (a0 a1 : Value) (s : St) : Option Value := seek_right.t std a0 a1 s
def seek_right.w : List Value → St → Option Value
  | [a0, a1], s => seek_right.r a0 a1 s
  | _, _ => none
def seek_right.an : An := ⟨22, true, [2], [], [], []⟩
theorem seek_right.ok (S : Sig) (a0 a1 : Value) (s : St) : evG S Try.prog seek_right.ctx seek_right.an Try.f57 [a0, a1] s = seek_right.t S a0 a1 s := by kernel_rfl
theorem seek_right.cok : CtxOk Try.prog seek_right.ctx := .cons key_Check.sound key_Check.can <| .cons vec_Right.sound vec_Right.can <| .nil
theorem seek_right.draws : fnDraws seek_right.an Try.f57 = true := by kernel_rfl
theorem seek_right.can : callOk Try.prog 57 = true := by kernel_rfl
theorem seek_right.sound : FnOk Try.prog 57 (.rd seek_right.w) := FnOk.rd_of (evG_ok seek_right.cok mixed (f := 57) (fn := Try.f57) (by kernel_rfl) seek_right.draws) fun args s r h => by
  unfold seek_right.w at h; split at h
  · rw [seek_right.ok std]; exact h
  · simp at h

/-! ### leapfrog/seek.New: function 40 -/
def seek_New.ctx : Ctx := [(57, .rd seek_right.w), (58, .rd key_Check.w)]
def seek_New.t.p1 (S : Sig) (x6 : Value) (x9 : Value) (c1 : List Value) (s : St) : Option (Value × St) :=
  S.bd (S.gd x6 false (un .not x9)) fun x10 => S.bd (pik x6 (Go.Value.bool Bool.true) x10) fun x11 => S.bd (S.gd x11 false (lal c1 6 2)) fun x12 => S.bd (S.gd x11 false (key_Check.r x12 s)) fun x13 => S.bd (S.gd x11 false (eqb [1] false true x13 (Go.Value.int Go.IntKind.i64 0))) fun x14 => S.bd (pik x11 (Go.Value.bool Bool.true) x14) fun x15 => S.bd (S.gd x15 false (lcl c1 6)) fun x16 => S.bd (S.gd x15 false (eqb [1] false false x16 (Go.Value.int Go.IntKind.i64 1))) fun x17 => S.bd (pik x15 (Go.Value.bool Bool.true) x17) fun x18 => S.cnd x18 (some ((Value.tuple ⟨[(Go.Value.pointer Option.none), (Go.Value.int Go.IntKind.i64 120)]⟩), s)) (S.bd (lal c1 0 8) fun x19 => S.bd (lal c1 1 5) fun x20 => S.bd (lal c1 4 2) fun x21 => S.bd (mkm s) fun r22 => S.bd (bld [(Go.Value.int Go.IntKind.i64 0), (Go.Value.int Go.IntKind.i64 0), (Go.Value.int Go.IntKind.i64 0), (Go.Value.int Go.IntKind.u64 0), (Go.Value.int Go.IntKind.i64 0), (Go.Value.int Go.IntKind.u64 0), (Go.Value.int Go.IntKind.i64 0), (Go.Value.int Go.IntKind.u64 0), (Go.Value.bool Bool.false), (Go.Value.int Go.IntKind.i64 0), (Go.Value.int Go.IntKind.i64 0), (Go.Value.int Go.IntKind.u64 0), (Go.Value.int Go.IntKind.i64 0), (Go.Value.int Go.IntKind.u64 0), (Go.Value.int Go.IntKind.i64 0), (Go.Value.int Go.IntKind.u64 0), (Go.Value.bool Bool.false), (Go.Value.int Go.IntKind.i64 0), (Go.Value.int Go.IntKind.i64 0), (Go.Value.int Go.IntKind.u64 0), (Go.Value.int Go.IntKind.i64 0), (Go.Value.int Go.IntKind.u64 0), (Go.Value.map Option.none), (Go.Value.int Go.IntKind.i64 0), (Go.Value.bool Bool.false), (Go.Value.int Go.IntKind.i64 0), (Go.Value.int Go.IntKind.u64 0), (Go.Value.slice Option.none 0 0), (Go.Value.slice Option.none 0 0), (Go.Value.int Go.IntKind.i64 0), (Go.Value.int Go.IntKind.i64 0), (Go.Value.int Go.IntKind.u64 0), (Go.Value.int Go.IntKind.i64 0), (Go.Value.int Go.IntKind.u64 0), (Go.Value.int Go.IntKind.i64 0), (Go.Value.int Go.IntKind.i64 0), (Go.Value.int Go.IntKind.u64 0), (Go.Value.int Go.IntKind.i64 0), (Go.Value.int Go.IntKind.u64 0), (Go.Value.bool Bool.false)] [(0, 8, x19), (8, 1, (Go.Value.bool Bool.true)), (9, 5, x20), (14, 2, x21), (22, 1, r22.1)]) fun x23 => S.bd (alv r22.2 x23) fun r24 => some ((Value.tuple ⟨[r24.1, (Go.Value.int Go.IntKind.i64 0)]⟩), r24.2))

def seek_New.t (S : Sig) (a0 : Value) (s : St) : Option (Value × St) :=
  S.bd (bx a0) fun c1 => S.bd (lcl c1 0) fun x2 => S.bd (bin .lss x2 (Go.Value.int Go.IntKind.i64 0)) fun x3 => S.bd (S.gd x3 false (lcl c1 0)) fun x4 => S.bd (S.gd x3 false (bin .gtr x4 (Go.Value.int Go.IntKind.i64 32))) fun x5 => S.bd (pik x3 (Go.Value.bool Bool.true) x5) fun x6 => S.bd (S.gd x6 false (lal c1 1 5)) fun x7 => S.bd (S.gd x6 false (lcl c1 0)) fun x8 => S.bd (S.gd x6 false (seek_right.r x7 x8 s)) fun x9 => seek_New.t.p1 S x6 x9 c1 s
def seek_New.v (a0 : Value) (s : St) : Option (Value × St) := seek_New.t std a0 s
def seek_New.w : List Value → St → Option (Value × St)
  | [a0], s => seek_New.v a0 s
  | _, _ => none
def seek_New.an : An := ⟨41, false, [1], [], [], []⟩
theorem seek_New.ok (S : Sig) (a0 : Value) (s : St) : evF S Try.prog seek_New.ctx seek_New.an Try.f40 [a0] s = seek_New.t S a0 s := by kernel_rfl
theorem seek_New.cok : CtxOk Try.prog seek_New.ctx := .cons seek_right.sound seek_right.can <| .cons key_Check.sound key_Check.can <| .nil
theorem seek_New.draws : fnDraws seek_New.an Try.f40 = true := by kernel_rfl
theorem seek_New.can : callOk Try.prog 40 = true := by kernel_rfl
theorem seek_New.sound : FnOk Try.prog 40 (.st seek_New.w) := FnOk.st_of (evF_ok seek_New.cok mixed (f := 40) (fn := Try.f40) (by kernel_rfl) seek_New.draws) fun args s r h => by
  unfold seek_New.w at h; split at h
  · rw [seek_New.ok std]; exact h
  · simp at h

/-! ### (*leapfrog/scan.Scan).seeks: function 22 -/
def scan_Scan_seeks.ctx : Ctx := [(40, .st seek_New.w)]
def scan_Scan_seeks.t (S : Sig) (a0 : Value) (s : St) : Option (Value × St) :=
  S.bd (nck a0) fun x1 => S.bd (fld 0 x1) fun x2 => S.bd (fld 0 x2) fun x3 => S.bd (ldc s x3) fun x4 => S.bd (nck a0) fun x5 => S.bd (fld 0 x5) fun x6 => S.bd (fld 1 x6) fun x7 => S.bd (lda s 5 x7) fun x8 => S.bd (nck a0) fun x9 => S.bd (fld 8 x9) fun x10 => S.bd (lda s 2 x10) fun x11 => S.bd (bld [(Go.Value.int Go.IntKind.i64 0), (Go.Value.int Go.IntKind.i64 0), (Go.Value.int Go.IntKind.i64 0), (Go.Value.int Go.IntKind.u64 0), (Go.Value.int Go.IntKind.i64 0), (Go.Value.int Go.IntKind.u64 0), (Go.Value.int Go.IntKind.i64 0), (Go.Value.int Go.IntKind.u64 0)] [(0, 1, x4), (1, 5, x8), (6, 2, x11)]) fun x12 => S.bd (seek_New.v x12 s) fun r13 => S.bd (ldc r13.2 x3) fun x14 => S.cnd (Value.bool (sameV x14 x4)) (S.bd (lda r13.2 5 x7) fun x15 => S.cnd (Value.bool (sameV x15 x8)) (S.bd (lda r13.2 2 x10) fun x16 => S.cnd (Value.bool (sameV x16 x11)) (S.bd (xtr 0 r13.1) fun x17 => S.bd (xtr 1 r13.1) fun x18 => some ((Value.tuple ⟨[x17, x18]⟩), r13.2)) (none)) (none)) (none)
def scan_Scan_seeks.v (a0 : Value) (s : St) : Option (Value × St) := scan_Scan_seeks.t std a0 s
def scan_Scan_seeks.w : List Value → St → Option (Value × St)
  | [a0], s => scan_Scan_seeks.v a0 s
  | _, _ => none
def scan_Scan_seeks.an : An := ⟨22, false, [], [], [], [(1, [(0, 0, [], []), (1, 0, [], []), (2, 0, [], []), (3, 0, [], []), (4, 2, [], []), (5, 0, [], []), (6, 0, [], []), (7, 0, [], []), (8, 0, [], []), (9, 2, [], []), (10, 0, [], []), (11, 0, [], []), (12, 0, [], []), (13, 2, [], []), (14, 0, [], []), (15, 4, [4, 9, 13], []), (16, 0, [], []), (17, 0, [], []), (18, 0, [], []), (19, 0, [], [])])]⟩
theorem scan_Scan_seeks.ok (S : Sig) (a0 : Value) (s : St) : evF S Try.prog scan_Scan_seeks.ctx scan_Scan_seeks.an Try.f22 [a0] s = scan_Scan_seeks.t S a0 s := by kernel_rfl
theorem scan_Scan_seeks.cok : CtxOk Try.prog scan_Scan_seeks.ctx := .cons seek_New.sound seek_New.can <| .nil
theorem scan_Scan_seeks.draws : fnDraws scan_Scan_seeks.an Try.f22 = true := by kernel_rfl
theorem scan_Scan_seeks.can : callOk Try.prog 22 = true := by kernel_rfl
theorem scan_Scan_seeks.sound : FnOk Try.prog 22 (.st scan_Scan_seeks.w) := FnOk.st_of (evF_ok scan_Scan_seeks.cok mixed (f := 22) (fn := Try.f22) (by kernel_rfl) scan_Scan_seeks.draws) fun args s r h => by
  unfold scan_Scan_seeks.w at h; split at h
  · rw [scan_Scan_seeks.ok std]; exact h
  · simp at h

/-! ### (*leapfrog/scan.Scan).ends: function 23 -/
def scan_Scan_ends.ctx : Ctx := []
def scan_Scan_ends.t (S : Sig) (a0 a1 : Value) (s : St) : Option (Value × St) :=
  S.bd (bx a1) fun c1 => S.bd (lal c1 0 15) fun x2 => S.bd (nck a0) fun x3 => S.bd (fld 20 x3) fun x4 => S.bd (stv s 1 x4 (Go.Value.bool Bool.true)) fun s5 => S.bd (nck a0) fun x6 => S.bd (fld 21 x6) fun x7 => S.bd (stv s5 15 x7 x2) fun s8 => some ((Value.tuple ⟨[]⟩), s8)
def scan_Scan_ends.v (a0 a1 : Value) (s : St) : Option (Value × St) := scan_Scan_ends.t std a0 a1 s
def scan_Scan_ends.w : List Value → St → Option (Value × St)
  | [a0, a1], s => scan_Scan_ends.v a0 a1 s
  | _, _ => none
def scan_Scan_ends.an : An := ⟨11, false, [3], [], [], [(1, [(0, 0, [], []), (1, 0, [], []), (2, 25, [], []), (3, 0, [], []), (4, 0, [], []), (5, 4, [], []), (6, 0, [], []), (7, 0, [], []), (8, 4, [], [])])]⟩
theorem scan_Scan_ends.ok (S : Sig) (a0 a1 : Value) (s : St) : evF S Try.prog scan_Scan_ends.ctx scan_Scan_ends.an Try.f23 [a0, a1] s = scan_Scan_ends.t S a0 a1 s := by kernel_rfl
theorem scan_Scan_ends.cok : CtxOk Try.prog scan_Scan_ends.ctx := .nil
theorem scan_Scan_ends.draws : fnDraws scan_Scan_ends.an Try.f23 = true := by kernel_rfl
theorem scan_Scan_ends.can : callOk Try.prog 23 = true := by kernel_rfl
theorem scan_Scan_ends.sound : FnOk Try.prog 23 (.st scan_Scan_ends.w) := FnOk.st_of (evF_ok scan_Scan_ends.cok mixed (f := 23) (fn := Try.f23) (by kernel_rfl) scan_Scan_ends.draws) fun args s r h => by
  unfold scan_Scan_ends.w at h; split at h
  · rw [scan_Scan_ends.ok std]; exact h
  · simp at h

/-! ### leapfrog/scan.New: function 8 -/
def scan_New.ctx : Ctx := [(22, .st scan_Scan_seeks.w), (23, .st scan_Scan_ends.w)]
def scan_New.t (S : Sig) (a0 : Value) (s : St) : Option (Value × St) :=
  S.bd (bx a0) fun c1 => S.bd (lal c1 0 8) fun x2 => S.bd (lcl c1 6) fun x3 => S.bd (bld [(Go.Value.int Go.IntKind.i64 0), (Go.Value.int Go.IntKind.u64 0)] [(0, 1, (Go.Value.int Go.IntKind.i64 2)), (1, 1, x3)]) fun x4 => S.bd (bld [(Go.Value.int Go.IntKind.i64 0), (Go.Value.int Go.IntKind.i64 0), (Go.Value.int Go.IntKind.i64 0), (Go.Value.int Go.IntKind.u64 0), (Go.Value.int Go.IntKind.i64 0), (Go.Value.int Go.IntKind.u64 0), (Go.Value.int Go.IntKind.u64 0), (Go.Value.int Go.IntKind.u64 0), (Go.Value.int Go.IntKind.i64 0), (Go.Value.int Go.IntKind.u64 0), (Go.Value.pointer Option.none), (Go.Value.int Go.IntKind.i64 0), (Go.Value.int Go.IntKind.i64 0), (Go.Value.int Go.IntKind.u64 0), (Go.Value.int Go.IntKind.i64 0), (Go.Value.int Go.IntKind.u64 0), (Go.Value.bool Bool.false), (Go.Value.bool Bool.false), (Go.Value.slice Option.none 0 0), (Go.Value.int Go.IntKind.i64 0), (Go.Value.bool Bool.false), (Go.Value.int Go.IntKind.i64 0), (Go.Value.int Go.IntKind.u64 0), (Go.Value.slice Option.none 0 0), (Go.Value.slice Option.none 0 0), (Go.Value.int Go.IntKind.i64 0), (Go.Value.int Go.IntKind.i64 0), (Go.Value.int Go.IntKind.u64 0), (Go.Value.int Go.IntKind.i64 0), (Go.Value.int Go.IntKind.u64 0), (Go.Value.int Go.IntKind.i64 0), (Go.Value.int Go.IntKind.i64 0), (Go.Value.int Go.IntKind.u64 0), (Go.Value.int Go.IntKind.i64 0), (Go.Value.int Go.IntKind.u64 0), (Go.Value.bool Bool.false), (Go.Value.bool Bool.false)] [(0, 8, x2), (8, 2, x4), (36, 1, (Go.Value.bool Bool.true))]) fun x5 => S.bd (alv s x5) fun r6 => S.bd (scan_Scan_seeks.v r6.1 r6.2) fun r7 => S.bd (xtr 0 r7.1) fun x8 => S.bd (xtr 1 r7.1) fun x9 => S.bd (nck r6.1) fun x10 => S.bd (fld 10 x10) fun x11 => S.bd (stv r7.2 1 x11 x8) fun s12 => S.bd (eqb [1] false true x9 (Go.Value.int Go.IntKind.i64 0)) fun x13 => S.cnd x13 (some ((Value.tuple ⟨[(Go.Value.pointer Option.none), (Go.Value.int Go.IntKind.i64 180)]⟩), s12)) (S.bd (lcl c1 6) fun x14 => S.bd (lcl c1 7) fun x15 => S.bd (bin .gtr x14 x15) fun x16 => S.cnd x16 (S.bd (bld [(Go.Value.int Go.IntKind.i64 0), (Go.Value.int Go.IntKind.u64 0), (Go.Value.slice Option.none 0 0), (Go.Value.slice Option.none 0 0), (Go.Value.int Go.IntKind.i64 0), (Go.Value.int Go.IntKind.i64 0), (Go.Value.int Go.IntKind.u64 0), (Go.Value.int Go.IntKind.i64 0), (Go.Value.int Go.IntKind.u64 0), (Go.Value.int Go.IntKind.i64 0), (Go.Value.int Go.IntKind.i64 0), (Go.Value.int Go.IntKind.u64 0), (Go.Value.int Go.IntKind.i64 0), (Go.Value.int Go.IntKind.u64 0), (Go.Value.bool Bool.false)] []) fun x17 => S.bd (scan_Scan_ends.v r6.1 x17 s12) fun r18 => some ((Value.tuple ⟨[r6.1, (Go.Value.int Go.IntKind.i64 0)]⟩), r18.2)) (some ((Value.tuple ⟨[r6.1, (Go.Value.int Go.IntKind.i64 0)]⟩), s12)))
def scan_New.v (a0 : Value) (s : St) : Option (Value × St) := scan_New.t std a0 s
def scan_New.w : List Value → St → Option (Value × St)
  | [a0], s => scan_New.v a0 s
  | _, _ => none
def scan_New.an : An := ⟨31, false, [1], [], [], []⟩
theorem scan_New.ok (S : Sig) (a0 : Value) (s : St) : evF S Try.prog scan_New.ctx scan_New.an Try.f8 [a0] s = scan_New.t S a0 s := by kernel_rfl
theorem scan_New.cok : CtxOk Try.prog scan_New.ctx := .cons scan_Scan_seeks.sound scan_Scan_seeks.can <| .cons scan_Scan_ends.sound scan_Scan_ends.can <| .nil
theorem scan_New.draws : fnDraws scan_New.an Try.f8 = true := by kernel_rfl
theorem scan_New.can : callOk Try.prog 8 = true := by kernel_rfl
theorem scan_New.sound : FnOk Try.prog 8 (.st scan_New.w) := FnOk.st_of (evF_ok scan_New.cok mixed (f := 8) (fn := Try.f8) (by kernel_rfl) scan_New.draws) fun args s r h => by
  unfold scan_New.w at h; split at h
  · rw [scan_New.ok std]; exact h
  · simp at h

/-! ### leapfrog/leapfrogref02.At: function 11 -/
def leapfrogref02x_At.ctx : Ctx := []
def leapfrogref02x_At.t (S : Sig) (a0 : Value) (s : St) : Option Value :=
  S.bd (bx (Go.Value.agg #[(Go.Value.int Go.IntKind.i64 0), (Go.Value.int Go.IntKind.u64 0)])) fun c1 => S.bd (bld [(Go.Value.int Go.IntKind.i64 0), (Go.Value.int Go.IntKind.u64 0)] [(0, 1, (Go.Value.int Go.IntKind.i64 2)), (1, 1, a0)]) fun x2 => S.bd (stl c1 0 2 x2) fun c3 => S.bd (lal c3 0 2) fun x4 => some (x4)
def leapfrogref02x_At.r (a0 : Value) (s : St) : Option Value := leapfrogref02x_At.t std a0 s
def leapfrogref02x_At.w : List Value → St → Option Value
  | [a0], s => leapfrogref02x_At.r a0 s
  | _, _ => none
def leapfrogref02x_At.an : An := ⟨5, true, [2], [], [], []⟩
theorem leapfrogref02x_At.ok (S : Sig) (a0 : Value) (s : St) : evG S Try.prog leapfrogref02x_At.ctx leapfrogref02x_At.an Try.f11 [a0] s = leapfrogref02x_At.t S a0 s := by kernel_rfl
theorem leapfrogref02x_At.cok : CtxOk Try.prog leapfrogref02x_At.ctx := .nil
theorem leapfrogref02x_At.draws : fnDraws leapfrogref02x_At.an Try.f11 = true := by kernel_rfl
theorem leapfrogref02x_At.can : callOk Try.prog 11 = true := by kernel_rfl
theorem leapfrogref02x_At.sound : FnOk Try.prog 11 (.rd leapfrogref02x_At.w) := FnOk.rd_of (evG_ok leapfrogref02x_At.cok mixed (f := 11) (fn := Try.f11) (by kernel_rfl) leapfrogref02x_At.draws) fun args s r h => by
  unfold leapfrogref02x_At.w at h; split at h
  · rw [leapfrogref02x_At.ok std]; exact h
  · simp at h

/-! ### (*leapfrog/scan.Scan).is: function 24 -/
def scan_Scan_is.ctx : Ctx := []
def scan_Scan_is.t (S : Sig) (a0 : Value) (s : St) : Option Value :=
  S.bd (eqb [3] false true a0 (Go.Value.pointer Option.none)) fun x1 => S.bd (S.gd x1 true (some a0)) fun x2 => S.bd (S.gd x1 true (nck x2)) fun x3 => S.bd (S.gd x1 true (fld 36 x3)) fun x4 => S.bd (S.gd x1 true (ldc s x4)) fun x5 => S.bd (pik x1 x5 (Go.Value.bool Bool.false)) fun x6 => some (x6)
def scan_Scan_is.r (a0 : Value) (s : St) : Option Value := scan_Scan_is.t std a0 s
def scan_Scan_is.w : List Value → St → Option Value
  | [a0], s => scan_Scan_is.r a0 s
  | _, _ => none
def scan_Scan_is.an : An := ⟨11, true, [], [], [], []⟩
theorem scan_Scan_is.ok (S : Sig) (a0 : Value) (s : St) : evG S Try.prog scan_Scan_is.ctx scan_Scan_is.an Try.f24 [a0] s = scan_Scan_is.t S a0 s := by kernel_rfl
theorem scan_Scan_is.cok : CtxOk Try.prog scan_Scan_is.ctx := .nil
theorem scan_Scan_is.draws : fnDraws scan_Scan_is.an Try.f24 = true := by kernel_rfl
theorem scan_Scan_is.can : callOk Try.prog 24 = true := by kernel_rfl
theorem scan_Scan_is.sound : FnOk Try.prog 24 (.rd scan_Scan_is.w) := FnOk.rd_of (evG_ok scan_Scan_is.cok mixed (f := 24) (fn := Try.f24) (by kernel_rfl) scan_Scan_is.draws) fun args s r h => by
  unfold scan_Scan_is.w at h; split at h
  · rw [scan_Scan_is.ok std]; exact h
  · simp at h

/-! ### (*leapfrog/seek.Seek).is: function 41 -/
def seek_Seek_is.ctx : Ctx := []
def seek_Seek_is.t (S : Sig) (a0 : Value) (s : St) : Option Value :=
  S.bd (eqb [3] false true a0 (Go.Value.pointer Option.none)) fun x1 => S.bd (S.gd x1 true (some a0)) fun x2 => S.bd (S.gd x1 true (nck x2)) fun x3 => S.bd (S.gd x1 true (fld 8 x3)) fun x4 => S.bd (S.gd x1 true (ldc s x4)) fun x5 => S.bd (pik x1 x5 (Go.Value.bool Bool.false)) fun x6 => some (x6)
def seek_Seek_is.r (a0 : Value) (s : St) : Option Value := seek_Seek_is.t std a0 s
def seek_Seek_is.w : List Value → St → Option Value
  | [a0], s => seek_Seek_is.r a0 s
  | _, _ => none
def seek_Seek_is.an : An := ⟨11, true, [], [], [], []⟩
theorem seek_Seek_is.ok (S : Sig) (a0 : Value) (s : St) : evG S Try.prog seek_Seek_is.ctx seek_Seek_is.an Try.f41 [a0] s = seek_Seek_is.t S a0 s := by kernel_rfl
theorem seek_Seek_is.cok : CtxOk Try.prog seek_Seek_is.ctx := .nil
theorem seek_Seek_is.draws : fnDraws seek_Seek_is.an Try.f41 = true := by kernel_rfl
theorem seek_Seek_is.can : callOk Try.prog 41 = true := by kernel_rfl
theorem seek_Seek_is.sound : FnOk Try.prog 41 (.rd seek_Seek_is.w) := FnOk.rd_of (evG_ok seek_Seek_is.cok mixed (f := 41) (fn := Try.f41) (by kernel_rfl) seek_Seek_is.draws) fun args s r h => by
  unfold seek_Seek_is.w at h; split at h
  · rw [seek_Seek_is.ok std]; exact h
  · simp at h

/-! ### cmp.isNaN[leapfrog/api.Rank]: function 84 -/
def cmp_isNaN_api_Rank.ctx : Ctx := []
def cmp_isNaN_api_Rank.t (S : Sig) (a0 : Value) (s : St) : Option Value :=
  S.bd (eqb [1] false true a0 a0) fun x1 => some (x1)
def cmp_isNaN_api_Rank.r (a0 : Value) (s : St) : Option Value := cmp_isNaN_api_Rank.t std a0 s
def cmp_isNaN_api_Rank.w : List Value → St → Option Value
  | [a0], s => cmp_isNaN_api_Rank.r a0 s
  | _, _ => none
def cmp_isNaN_api_Rank.an : An := ⟨6, true, [], [], [], []⟩
theorem cmp_isNaN_api_Rank.ok (S : Sig) (a0 : Value) (s : St) : evG S Try.prog cmp_isNaN_api_Rank.ctx cmp_isNaN_api_Rank.an Try.f84 [a0] s = cmp_isNaN_api_Rank.t S a0 s := by kernel_rfl
theorem cmp_isNaN_api_Rank.cok : CtxOk Try.prog cmp_isNaN_api_Rank.ctx := .nil
theorem cmp_isNaN_api_Rank.draws : fnDraws cmp_isNaN_api_Rank.an Try.f84 = true := by kernel_rfl
theorem cmp_isNaN_api_Rank.can : callOk Try.prog 84 = true := by kernel_rfl
theorem cmp_isNaN_api_Rank.sound : FnOk Try.prog 84 (.rd cmp_isNaN_api_Rank.w) := FnOk.rd_of (evG_ok cmp_isNaN_api_Rank.cok mixed (f := 84) (fn := Try.f84) (by kernel_rfl) cmp_isNaN_api_Rank.draws) fun args s r h => by
  unfold cmp_isNaN_api_Rank.w at h; split at h
  · rw [cmp_isNaN_api_Rank.ok std]; exact h
  · simp at h

/-! ### cmp.Compare[leapfrog/api.Rank]: function 82 -/
def cmp_Compare_api_Rank.ctx : Ctx := [(84, .rd cmp_isNaN_api_Rank.w)]
def cmp_Compare_api_Rank.t (S : Sig) (a0 a1 : Value) (s : St) : Option Value :=
  S.bd (cmp_isNaN_api_Rank.r a0 s) fun x1 => S.bd (cmp_isNaN_api_Rank.r a1 s) fun x2 => S.cnd x1 (S.cnd x2 (some ((Go.Value.int Go.IntKind.i64 0))) (some ((Go.Value.int Go.IntKind.i64 (-1))))) (S.cnd x2 (some ((Go.Value.int Go.IntKind.i64 1))) (S.bd (bin .lss a0 a1) fun x3 => S.cnd x3 (some ((Go.Value.int Go.IntKind.i64 (-1)))) (S.bd (bin .gtr a0 a1) fun x4 => S.cnd x4 (some ((Go.Value.int Go.IntKind.i64 1))) (some ((Go.Value.int Go.IntKind.i64 0))))))
def cmp_Compare_api_Rank.r (a0 a1 : Value) (s : St) : Option Value := cmp_Compare_api_Rank.t std a0 a1 s
def cmp_Compare_api_Rank.w : List Value → St → Option Value
  | [a0, a1], s => cmp_Compare_api_Rank.r a0 a1 s
  | _, _ => none
def cmp_Compare_api_Rank.an : An := ⟨20, true, [], [], [], []⟩
theorem cmp_Compare_api_Rank.ok (S : Sig) (a0 a1 : Value) (s : St) : evG S Try.prog cmp_Compare_api_Rank.ctx cmp_Compare_api_Rank.an Try.f82 [a0, a1] s = cmp_Compare_api_Rank.t S a0 a1 s := by kernel_rfl
theorem cmp_Compare_api_Rank.cok : CtxOk Try.prog cmp_Compare_api_Rank.ctx := .cons cmp_isNaN_api_Rank.sound cmp_isNaN_api_Rank.can <| .nil
theorem cmp_Compare_api_Rank.draws : fnDraws cmp_Compare_api_Rank.an Try.f82 = true := by kernel_rfl
theorem cmp_Compare_api_Rank.can : callOk Try.prog 82 = true := by kernel_rfl
theorem cmp_Compare_api_Rank.sound : FnOk Try.prog 82 (.rd cmp_Compare_api_Rank.w) := FnOk.rd_of (evG_ok cmp_Compare_api_Rank.cok mixed (f := 82) (fn := Try.f82) (by kernel_rfl) cmp_Compare_api_Rank.draws) fun args s r h => by
  unfold cmp_Compare_api_Rank.w at h; split at h
  · rw [cmp_Compare_api_Rank.ok std]; exact h
  · simp at h

/-! ### cmp.isNaN[uint64]: function 85 -/
def cmp_isNaN_uint64.ctx : Ctx := []
def cmp_isNaN_uint64.t (S : Sig) (a0 : Value) (s : St) : Option Value :=
  S.bd (eqb [1] false true a0 a0) fun x1 => some (x1)
def cmp_isNaN_uint64.r (a0 : Value) (s : St) : Option Value := cmp_isNaN_uint64.t std a0 s
def cmp_isNaN_uint64.w : List Value → St → Option Value
  | [a0], s => cmp_isNaN_uint64.r a0 s
  | _, _ => none
def cmp_isNaN_uint64.an : An := ⟨6, true, [], [], [], []⟩
theorem cmp_isNaN_uint64.ok (S : Sig) (a0 : Value) (s : St) : evG S Try.prog cmp_isNaN_uint64.ctx cmp_isNaN_uint64.an Try.f85 [a0] s = cmp_isNaN_uint64.t S a0 s := by kernel_rfl
theorem cmp_isNaN_uint64.cok : CtxOk Try.prog cmp_isNaN_uint64.ctx := .nil
theorem cmp_isNaN_uint64.draws : fnDraws cmp_isNaN_uint64.an Try.f85 = true := by kernel_rfl
theorem cmp_isNaN_uint64.can : callOk Try.prog 85 = true := by kernel_rfl
theorem cmp_isNaN_uint64.sound : FnOk Try.prog 85 (.rd cmp_isNaN_uint64.w) := FnOk.rd_of (evG_ok cmp_isNaN_uint64.cok mixed (f := 85) (fn := Try.f85) (by kernel_rfl) cmp_isNaN_uint64.draws) fun args s r h => by
  unfold cmp_isNaN_uint64.w at h; split at h
  · rw [cmp_isNaN_uint64.ok std]; exact h
  · simp at h

/-! ### cmp.Compare[uint64]: function 83 -/
def cmp_Compare_uint64.ctx : Ctx := [(85, .rd cmp_isNaN_uint64.w)]
def cmp_Compare_uint64.t (S : Sig) (a0 a1 : Value) (s : St) : Option Value :=
  S.bd (cmp_isNaN_uint64.r a0 s) fun x1 => S.bd (cmp_isNaN_uint64.r a1 s) fun x2 => S.cnd x1 (S.cnd x2 (some ((Go.Value.int Go.IntKind.i64 0))) (some ((Go.Value.int Go.IntKind.i64 (-1))))) (S.cnd x2 (some ((Go.Value.int Go.IntKind.i64 1))) (S.bd (bin .lss a0 a1) fun x3 => S.cnd x3 (some ((Go.Value.int Go.IntKind.i64 (-1)))) (S.bd (bin .gtr a0 a1) fun x4 => S.cnd x4 (some ((Go.Value.int Go.IntKind.i64 1))) (some ((Go.Value.int Go.IntKind.i64 0))))))
def cmp_Compare_uint64.r (a0 a1 : Value) (s : St) : Option Value := cmp_Compare_uint64.t std a0 a1 s
def cmp_Compare_uint64.w : List Value → St → Option Value
  | [a0, a1], s => cmp_Compare_uint64.r a0 a1 s
  | _, _ => none
def cmp_Compare_uint64.an : An := ⟨20, true, [], [], [], []⟩
theorem cmp_Compare_uint64.ok (S : Sig) (a0 a1 : Value) (s : St) : evG S Try.prog cmp_Compare_uint64.ctx cmp_Compare_uint64.an Try.f83 [a0, a1] s = cmp_Compare_uint64.t S a0 a1 s := by kernel_rfl
theorem cmp_Compare_uint64.cok : CtxOk Try.prog cmp_Compare_uint64.ctx := .cons cmp_isNaN_uint64.sound cmp_isNaN_uint64.can <| .nil
theorem cmp_Compare_uint64.draws : fnDraws cmp_Compare_uint64.an Try.f83 = true := by kernel_rfl
theorem cmp_Compare_uint64.can : callOk Try.prog 83 = true := by kernel_rfl
theorem cmp_Compare_uint64.sound : FnOk Try.prog 83 (.rd cmp_Compare_uint64.w) := FnOk.rd_of (evG_ok cmp_Compare_uint64.cok mixed (f := 83) (fn := Try.f83) (by kernel_rfl) cmp_Compare_uint64.draws) fun args s r h => by
  unfold cmp_Compare_uint64.w at h; split at h
  · rw [cmp_Compare_uint64.ok std]; exact h
  · simp at h

/-! ### cmp.Or[int]: function 81 -/
def cmp_Or_int.ctx : Ctx := []
def cmp_Or_int.l3 (S : Sig) (rec9 : List Value → St → Option Cut) (xs7 : List Value) (s8 : St) : Option Cut :=
  S.bd (bin .lss (xs7.getD 3 undef) (xs7.getD 2 undef)) fun x10 => S.cnd x10 (S.bd (idx s8 1 (xs7.getD 1 undef) (xs7.getD 3 undef)) fun x11 => S.bd (ldc s8 x11) fun x12 => S.bd (eqb [1] false true x12 (xs7.getD 0 undef)) fun x13 => S.cnd x13 (some (1, [x12], s8)) (S.bd (bin .add (xs7.getD 3 undef) (Go.Value.int Go.IntKind.i64 1)) fun x14 => rec9 [(xs7.getD 0 undef), (xs7.getD 1 undef), (xs7.getD 2 undef), x14] s8)) (some (0, [(xs7.getD 0 undef)], s8))

def cmp_Or_int.t (S : Sig) (a0 : Value) (s : St) : Option Value :=
  S.bd (lenL a0) fun x1 => S.bd (S.it (cmp_Or_int.l3 S) [(Go.Value.int Go.IntKind.i64 0), a0, x1, (Go.Value.int Go.IntKind.i64 0)] s) fun r15 => if r15.1 = 0 then (some ((r15.2.1.getD 0 undef))) else (some ((r15.2.1.getD 0 undef)))
def cmp_Or_int.r (a0 : Value) (s : St) : Option Value := cmp_Or_int.t std a0 s
def cmp_Or_int.w : List Value → St → Option Value
  | [a0], s => cmp_Or_int.r a0 s
  | _, _ => none
def cmp_Or_int.an : An := ⟨18, true, [], [(3, ⟨[.v 3, .v 6, .v 7, .v 8], [(.exit 0, [.v 3]), (.ret, [.v 2])]⟩)], [], []⟩
theorem cmp_Or_int.ok (S : Sig) (a0 : Value) (s : St) : evG S Try.prog cmp_Or_int.ctx cmp_Or_int.an Try.f81 [a0] s = cmp_Or_int.t S a0 s := by kernel_rfl
theorem cmp_Or_int.cok : CtxOk Try.prog cmp_Or_int.ctx := .nil
theorem cmp_Or_int.draws : fnDraws cmp_Or_int.an Try.f81 = true := by kernel_rfl
theorem cmp_Or_int.can : callOk Try.prog 81 = true := by kernel_rfl
theorem cmp_Or_int.sound : FnOk Try.prog 81 (.rd cmp_Or_int.w) := FnOk.rd_of (evG_ok cmp_Or_int.cok mixed (f := 81) (fn := Try.f81) (by kernel_rfl) cmp_Or_int.draws) fun args s r h => by
  unfold cmp_Or_int.w at h; split at h
  · rw [cmp_Or_int.ok std]; exact h
  · simp at h

/-! ### leapfrog/key.Compare: function 73 -/
def key_Compare.ctx : Ctx := [(82, .rd cmp_Compare_api_Rank.w), (83, .rd cmp_Compare_uint64.w), (81, .rd cmp_Or_int.w)]
def key_Compare.t (S : Sig) (a0 a1 : Value) (s : St) : Option (Value × St) :=
  S.bd (bx a0) fun c1 => S.bd (bx a1) fun c2 => S.bd (lcl c1 0) fun x3 => S.bd (lcl c2 0) fun x4 => S.bd (lcl c1 1) fun x5 => S.bd (lcl c2 1) fun x6 => S.bd (cmp_Compare_api_Rank.r x3 x4 s) fun x7 => S.bd (cmp_Compare_uint64.r x5 x6 s) fun x8 => S.bd (S.bd (bls 1 (List.replicate 2 [(Go.Value.int Go.IntKind.i64 0)]) [(0, x7), (1, x8)]) fun rows => als s 1 2 rows) fun r9 => S.bd (cmp_Or_int.r r9.1 r9.2) fun x10 => some (x10, r9.2)
def key_Compare.v (a0 a1 : Value) (s : St) : Option (Value × St) := key_Compare.t std a0 a1 s
def key_Compare.w : List Value → St → Option (Value × St)
  | [a0, a1], s => key_Compare.v a0 a1 s
  | _, _ => none
def key_Compare.an : An := ⟨17, false, [2, 3], [], [], [(1, [(0, 0, [], []), (1, 17, [], []), (2, 0, [], []), (3, 25, [], []), (5, 0, [], []), (6, 17, [], []), (7, 0, [], []), (8, 25, [], []), (4, 3, [], []), (9, 3, [], []), (10, 3, [], []), (11, 3, [], []), (12, 0, [], [])])]⟩
theorem key_Compare.ok (S : Sig) (a0 a1 : Value) (s : St) : evF S Try.prog key_Compare.ctx key_Compare.an Try.f73 [a0, a1] s = key_Compare.t S a0 a1 s := by kernel_rfl
theorem key_Compare.cok : CtxOk Try.prog key_Compare.ctx := .cons cmp_Compare_api_Rank.sound cmp_Compare_api_Rank.can <| .cons cmp_Compare_uint64.sound cmp_Compare_uint64.can <| .cons cmp_Or_int.sound cmp_Or_int.can <| .nil
theorem key_Compare.draws : fnDraws key_Compare.an Try.f73 = true := by kernel_rfl
theorem key_Compare.can : callOk Try.prog 73 = true := by kernel_rfl
theorem key_Compare.sound : FnOk Try.prog 73 (.st key_Compare.w) := FnOk.st_of (evF_ok key_Compare.cok mixed (f := 73) (fn := Try.f73) (by kernel_rfl) key_Compare.draws) fun args s r h => by
  unfold key_Compare.w at h; split at h
  · rw [key_Compare.ok std]; exact h
  · simp at h

/-! ### leapfrog/key.Compare: function 73, as a reading -/
def key_CompareQ.r (a0 a1 : Value) (s : St) : Option Value := frzR (fun s => key_Compare.v a0 a1 s) s
def key_CompareQ.w : List Value → St → Option Value := fun args s => frzR (key_Compare.w args) s
theorem key_CompareQ.can : callOk Try.prog 73 = true := key_Compare.can
theorem key_CompareQ.sound : FnOk Try.prog 73 (.rd key_CompareQ.w) := FnOk.frozen key_Compare.sound

/-! ### leapfrog/key.Less: function 63 -/
def key_Less.ctx : Ctx := [(73, .rd key_CompareQ.w)]
def key_Less.t (S : Sig) (a0 a1 : Value) (s : St) : Option Value :=
  S.bd (bx a0) fun c1 => S.bd (bx a1) fun c2 => S.bd (lal c1 0 2) fun x3 => S.bd (lal c2 0 2) fun x4 => S.bd (key_CompareQ.r x3 x4 s) fun x5 => S.bd (bin .lss x5 (Go.Value.int Go.IntKind.i64 0)) fun x6 => some (x6)
def key_Less.r (a0 a1 : Value) (s : St) : Option Value := key_Less.t std a0 a1 s
def key_Less.w : List Value → St → Option Value
  | [a0, a1], s => key_Less.r a0 a1 s
  | _, _ => none
def key_Less.an : An := ⟨9, true, [2, 3], [], [], []⟩
theorem key_Less.ok (S : Sig) (a0 a1 : Value) (s : St) : evG S Try.prog key_Less.ctx key_Less.an Try.f63 [a0, a1] s = key_Less.t S a0 a1 s := by kernel_rfl
theorem key_Less.cok : CtxOk Try.prog key_Less.ctx := .cons key_CompareQ.sound key_CompareQ.can <| .nil
theorem key_Less.draws : fnDraws key_Less.an Try.f63 = true := by kernel_rfl
theorem key_Less.can : callOk Try.prog 63 = true := by kernel_rfl
theorem key_Less.sound : FnOk Try.prog 63 (.rd key_Less.w) := FnOk.rd_of (evG_ok key_Less.cok mixed (f := 63) (fn := Try.f63) (by kernel_rfl) key_Less.draws) fun args s r h => by
  unfold key_Less.w at h; split at h
  · rw [key_Less.ok std]; exact h
  · simp at h

/-! ### (*leapfrog/seek.Seek).counts: function 61 -/
def seek_Seek_counts.ctx : Ctx := []
def seek_Seek_counts.t (S : Sig) (a0 : Value) (s : St) : Option (Value × St) :=
  S.bd (nck a0) fun x1 => S.bd (fld 23 x1) fun x2 => S.bd (ldc s x2) fun x3 => S.bd (bin .geq x3 (Go.Value.int Go.IntKind.i64 64)) fun x4 => S.cnd x4 (S.bd (bld [(Go.Value.int Go.IntKind.i64 0), (Go.Value.int Go.IntKind.u64 0), (Go.Value.slice Option.none 0 0), (Go.Value.slice Option.none 0 0), (Go.Value.int Go.IntKind.i64 0), (Go.Value.int Go.IntKind.i64 0), (Go.Value.int Go.IntKind.u64 0), (Go.Value.int Go.IntKind.i64 0), (Go.Value.int Go.IntKind.u64 0), (Go.Value.int Go.IntKind.i64 0), (Go.Value.int Go.IntKind.i64 0), (Go.Value.int Go.IntKind.u64 0), (Go.Value.int Go.IntKind.i64 0), (Go.Value.int Go.IntKind.u64 0), (Go.Value.bool Bool.false)] [(0, 1, (Go.Value.int Go.IntKind.i64 121))]) fun x5 => S.bd (nck a0) fun x6 => S.bd (fld 24 x6) fun x7 => S.bd (stv s 1 x7 (Go.Value.bool Bool.true)) fun s8 => S.bd (nck a0) fun x9 => S.bd (fld 25 x9) fun x10 => S.bd (stv s8 15 x10 x5) fun s11 => some ((Go.Value.bool Bool.false), s11)) (S.bd (nck a0) fun x12 => S.bd (fld 23 x12) fun x13 => S.bd (ldc s x13) fun x14 => S.bd (bin .add x14 (Go.Value.int Go.IntKind.i64 1)) fun x15 => S.bd (nck a0) fun x16 => S.bd (fld 23 x16) fun x17 => S.bd (stv s 1 x17 x15) fun s18 => some ((Go.Value.bool Bool.true), s18))
def seek_Seek_counts.v (a0 : Value) (s : St) : Option (Value × St) := seek_Seek_counts.t std a0 s
def seek_Seek_counts.w : List Value → St → Option (Value × St)
  | [a0], s => seek_Seek_counts.v a0 s
  | _, _ => none
def seek_Seek_counts.an : An := ⟨22, false, [], [], [], []⟩
theorem seek_Seek_counts.ok (S : Sig) (a0 : Value) (s : St) : evF S Try.prog seek_Seek_counts.ctx seek_Seek_counts.an Try.f61 [a0] s = seek_Seek_counts.t S a0 s := by kernel_rfl
theorem seek_Seek_counts.cok : CtxOk Try.prog seek_Seek_counts.ctx := .nil
theorem seek_Seek_counts.draws : fnDraws seek_Seek_counts.an Try.f61 = true := by kernel_rfl
theorem seek_Seek_counts.can : callOk Try.prog 61 = true := by kernel_rfl
theorem seek_Seek_counts.sound : FnOk Try.prog 61 (.st seek_Seek_counts.w) := FnOk.st_of (evF_ok seek_Seek_counts.cok mixed (f := 61) (fn := Try.f61) (by kernel_rfl) seek_Seek_counts.draws) fun args s r h => by
  unfold seek_Seek_counts.w at h; split at h
  · rw [seek_Seek_counts.ok std]; exact h
  · simp at h

/-! ### (*leapfrog/seek.Seek).again: function 62 -/
def seek_Seek_again.ctx : Ctx := [(61, .st seek_Seek_counts.w)]
def seek_Seek_again.t (S : Sig) (a0 : Value) (s : St) : Option (Value × St) :=
  S.bd (seek_Seek_counts.v a0 s) fun r1 => S.cnd r1.1 (S.bd (bld [(Go.Value.int Go.IntKind.i64 0), (Go.Value.int Go.IntKind.u64 0)] [(0, 1, (Go.Value.int Go.IntKind.i64 1))]) fun x2 => S.bd (nck a0) fun x3 => S.bd (fld 0 x3) fun x4 => S.bd (fld 0 x4) fun x5 => S.bd (ldc r1.2 x5) fun x6 => S.bd (bld [(Go.Value.int Go.IntKind.i64 0), (Go.Value.int Go.IntKind.u64 0)] [(0, 1, x6)]) fun x7 => S.bd (bld [(Go.Value.int Go.IntKind.i64 0), (Go.Value.int Go.IntKind.i64 0), (Go.Value.int Go.IntKind.u64 0), (Go.Value.int Go.IntKind.i64 0), (Go.Value.int Go.IntKind.u64 0)] [(1, 2, x2), (3, 2, x7)]) fun x8 => S.bd (nck a0) fun x9 => S.bd (fld 9 x9) fun x10 => S.bd (stv r1.2 5 x10 x8) fun s11 => S.bd (nck a0) fun x12 => S.bd (fld 0 x12) fun x13 => S.bd (fld 0 x13) fun x14 => S.bd (ldc s11 x14) fun x15 => S.bd (bld [(Go.Value.int Go.IntKind.i64 0), (Go.Value.int Go.IntKind.u64 0)] [(0, 1, x15)]) fun x16 => S.bd (nck a0) fun x17 => S.bd (fld 14 x17) fun x18 => S.bd (stv s11 2 x18 x16) fun s19 => S.bd (nck a0) fun x20 => S.bd (fld 16 x20) fun x21 => S.bd (stv s19 1 x21 (Go.Value.bool Bool.false)) fun s22 => some ((Value.tuple ⟨[]⟩), s22)) (some ((Value.tuple ⟨[]⟩), r1.2))
def seek_Seek_again.v (a0 : Value) (s : St) : Option (Value × St) := seek_Seek_again.t std a0 s
def seek_Seek_again.w : List Value → St → Option (Value × St)
  | [a0], s => seek_Seek_again.v a0 s
  | _, _ => none
def seek_Seek_again.an : An := ⟨27, false, [], [], [], []⟩
theorem seek_Seek_again.ok (S : Sig) (a0 : Value) (s : St) : evF S Try.prog seek_Seek_again.ctx seek_Seek_again.an Try.f62 [a0] s = seek_Seek_again.t S a0 s := by kernel_rfl
theorem seek_Seek_again.cok : CtxOk Try.prog seek_Seek_again.ctx := .cons seek_Seek_counts.sound seek_Seek_counts.can <| .nil
theorem seek_Seek_again.draws : fnDraws seek_Seek_again.an Try.f62 = true := by kernel_rfl
theorem seek_Seek_again.can : callOk Try.prog 62 = true := by kernel_rfl
theorem seek_Seek_again.sound : FnOk Try.prog 62 (.st seek_Seek_again.w) := FnOk.st_of (evF_ok seek_Seek_again.cok mixed (f := 62) (fn := Try.f62) (by kernel_rfl) seek_Seek_again.draws) fun args s r h => by
  unfold seek_Seek_again.w at h; split at h
  · rw [seek_Seek_again.ok std]; exact h
  · simp at h

/-! ### leapfrog/vec.upTo: function 79 -/
def vec_upTo.ctx : Ctx := [(71, .rd vec_Right.w)]
def vec_upTo.t (S : Sig) (a0 a1 : Value) (s : St) : Option Value :=
  S.bd (bx a0) fun c1 => S.bd (lal c1 0 2) fun x2 => S.bd (vec_Right.r x2 s) fun x3 => S.bd (eqb [1] false true x3 (Go.Value.int Go.IntKind.i64 0)) fun x4 => S.cnd x4 (some (x3)) (S.bd (bin .lss a1 (Go.Value.int Go.IntKind.i64 0)) fun x5 => S.bd (S.gd x5 false (some a1)) fun x6 => S.bd (S.gd x5 false (lcl c1 0)) fun x7 => S.bd (S.gd x5 false (bin .gtr x6 x7)) fun x8 => S.bd (pik x5 (Go.Value.bool Bool.true) x8) fun x9 => S.cnd x9 (some ((Go.Value.int Go.IntKind.i64 5))) (some ((Go.Value.int Go.IntKind.i64 0))))
def vec_upTo.r (a0 a1 : Value) (s : St) : Option Value := vec_upTo.t std a0 a1 s
def vec_upTo.w : List Value → St → Option Value
  | [a0, a1], s => vec_upTo.r a0 a1 s
  | _, _ => none
def vec_upTo.an : An := ⟨19, true, [2], [], [], []⟩
theorem vec_upTo.ok (S : Sig) (a0 a1 : Value) (s : St) : evG S Try.prog vec_upTo.ctx vec_upTo.an Try.f79 [a0, a1] s = vec_upTo.t S a0 a1 s := by kernel_rfl
theorem vec_upTo.cok : CtxOk Try.prog vec_upTo.ctx := .cons vec_Right.sound vec_Right.can <| .nil
theorem vec_upTo.draws : fnDraws vec_upTo.an Try.f79 = true := by kernel_rfl
theorem vec_upTo.can : callOk Try.prog 79 = true := by kernel_rfl
theorem vec_upTo.sound : FnOk Try.prog 79 (.rd vec_upTo.w) := FnOk.rd_of (evG_ok vec_upTo.cok mixed (f := 79) (fn := Try.f79) (by kernel_rfl) vec_upTo.draws) fun args s r h => by
  unfold vec_upTo.w at h; split at h
  · rw [vec_upTo.ok std]; exact h
  · simp at h

/-! ### leapfrog/vec.prefix: function 80 -/
def vec_prefix.ctx : Ctx := []
def vec_prefix.t (S : Sig) (a0 a1 : Value) (s : St) : Option Value :=
  S.bd (bx a0) fun c1 => S.bd (bx (Go.Value.agg #[(Go.Value.int Go.IntKind.i64 0), (Go.Value.int Go.IntKind.u64 0)])) fun c2 => S.bd (lcl c1 1) fun x3 => S.bd (lcl c1 0) fun x4 => S.bd (bin .sub x4 a1) fun x5 => S.bd (cvi .u64 x5) fun x6 => S.bd (bin .shr x3 x6) fun x7 => S.bd (bld [(Go.Value.int Go.IntKind.i64 0), (Go.Value.int Go.IntKind.u64 0)] [(0, 1, a1), (1, 1, x7)]) fun x8 => S.bd (stl c2 0 2 x8) fun c9 => S.bd (lal c9 0 2) fun x10 => some (x10)
def vec_prefix.r (a0 a1 : Value) (s : St) : Option Value := vec_prefix.t std a0 a1 s
def vec_prefix.w : List Value → St → Option Value
  | [a0, a1], s => vec_prefix.r a0 a1 s
  | _, _ => none
def vec_prefix.an : An := ⟨15, true, [2, 4], [], [], []⟩
theorem vec_prefix.ok (S : Sig) (a0 a1 : Value) (s : St) : evG S Try.prog vec_prefix.ctx vec_prefix.an Try.f80 [a0, a1] s = vec_prefix.t S a0 a1 s := by kernel_rfl
theorem vec_prefix.cok : CtxOk Try.prog vec_prefix.ctx := .nil
theorem vec_prefix.draws : fnDraws vec_prefix.an Try.f80 = true := by kernel_rfl
theorem vec_prefix.can : callOk Try.prog 80 = true := by kernel_rfl
theorem vec_prefix.sound : FnOk Try.prog 80 (.rd vec_prefix.w) := FnOk.rd_of (evG_ok vec_prefix.cok mixed (f := 80) (fn := Try.f80) (by kernel_rfl) vec_prefix.draws) fun args s r h => by
  unfold vec_prefix.w at h; split at h
  · rw [vec_prefix.ok std]; exact h
  · simp at h

/-! ### leapfrog/vec.Prefix: function 72 -/
def vec_Prefix.ctx : Ctx := [(79, .rd vec_upTo.w), (80, .rd vec_prefix.w)]
def vec_Prefix.t (S : Sig) (a0 a1 : Value) (s : St) : Option Value :=
  S.bd (bx a0) fun c1 => S.bd (bx (Go.Value.agg #[(Go.Value.int Go.IntKind.i64 0), (Go.Value.int Go.IntKind.u64 0)])) fun c2 => S.bd (lal c1 0 2) fun x3 => S.bd (vec_upTo.r x3 a1 s) fun x4 => S.bd (eqb [1] false true x4 (Go.Value.int Go.IntKind.i64 0)) fun x5 => S.cnd x5 (S.bd (bld [(Go.Value.int Go.IntKind.i64 0), (Go.Value.int Go.IntKind.u64 0)] []) fun x6 => S.bd (stl c2 0 2 x6) fun c7 => S.bd (lal c7 0 2) fun x8 => some ((Value.tuple ⟨[x8, x4]⟩))) (S.bd (lal c1 0 2) fun x9 => S.bd (vec_prefix.r x9 a1 s) fun x10 => S.bd (stl c2 0 2 x10) fun c11 => S.bd (lal c11 0 2) fun x12 => some ((Value.tuple ⟨[x12, (Go.Value.int Go.IntKind.i64 0)]⟩)))
def vec_Prefix.r (a0 a1 : Value) (s : St) : Option Value := vec_Prefix.t std a0 a1 s
def vec_Prefix.w : List Value → St → Option Value
  | [a0, a1], s => vec_Prefix.r a0 a1 s
  | _, _ => none
def vec_Prefix.an : An := ⟨17, true, [2, 4], [], [], []⟩
theorem vec_Prefix.ok (S : Sig) (a0 a1 : Value) (s : St) : evG S Try.prog vec_Prefix.ctx vec_Prefix.an Try.f72 [a0, a1] s = vec_Prefix.t S a0 a1 s := by kernel_rfl
theorem vec_Prefix.cok : CtxOk Try.prog vec_Prefix.ctx := .cons vec_upTo.sound vec_upTo.can <| .cons vec_prefix.sound vec_prefix.can <| .nil
theorem vec_Prefix.draws : fnDraws vec_Prefix.an Try.f72 = true := by kernel_rfl
theorem vec_Prefix.can : callOk Try.prog 72 = true := by kernel_rfl
theorem vec_Prefix.sound : FnOk Try.prog 72 (.rd vec_Prefix.w) := FnOk.rd_of (evG_ok vec_Prefix.cok mixed (f := 72) (fn := Try.f72) (by kernel_rfl) vec_Prefix.draws) fun args s r h => by
  unfold vec_Prefix.w at h; split at h
  · rw [vec_Prefix.ok std]; exact h
  · simp at h

/-! ### (*leapfrog/seek.Seek).goes: function 59 -/
def seek_Seek_goes.ctx : Ctx := [(58, .rd key_Check.w), (63, .rd key_Less.w), (62, .st seek_Seek_again.w), (72, .rd vec_Prefix.w)]
def seek_Seek_goes.l2 (S : Sig) (rec37 : List Value → St → Option Cut) (xs35 : List Value) (s36 : St) : Option Cut :=
  S.bd (lal (cellsA (xs35.getD 1 undef)) 1 2) fun x38 => S.bd (key_Check.r x38 s36) fun x39 => S.bd (eqb [1] false true x39 (Go.Value.int Go.IntKind.i64 0)) fun x40 => S.bd (S.gd x40 false (lal (cellsA (xs35.getD 2 undef)) 0 2)) fun x41 => S.bd (S.gd x40 false (lal (cellsA (xs35.getD 1 undef)) 1 2)) fun x42 => S.bd (S.gd x40 false (key_Less.r x41 x42 s36)) fun x43 => S.bd (S.gd x40 false (un .not x43)) fun x44 => S.bd (pik x40 (Go.Value.bool Bool.true) x44) fun x45 => S.cnd x45 (S.bd (seek_Seek_again.v (xs35.getD 0 undef) s36) fun r46 => some (1, [], r46.2)) (S.bd (nck (xs35.getD 0 undef)) fun x47 => S.bd (fld 22 x47) fun x48 => S.bd (ldc s36 x48) fun x49 => S.bd (lcl (cellsA (xs35.getD 1 undef)) 0) fun x50 => S.bd (nck (xs35.getD 0 undef)) fun x51 => S.bd (fld 14 x51) fun x52 => S.bd (lda s36 2 x52) fun x53 => S.bd (bld [(Go.Value.int Go.IntKind.i64 0), (Go.Value.int Go.IntKind.i64 0), (Go.Value.int Go.IntKind.u64 0)] [(0, 1, x50), (1, 2, x53)]) fun x54 => S.bd (lkp s36 [1, 1, 1] true (Go.Value.agg #[(Go.Value.int Go.IntKind.i64 0), (Go.Value.int Go.IntKind.i64 0), (Go.Value.int Go.IntKind.u64 0), (Go.Value.int Go.IntKind.i64 0), (Go.Value.int Go.IntKind.u64 0)]) true x49 x54) fun x55 => S.bd (xtr 0 x55) fun x56 => S.bd (xtr 1 x55) fun x57 => S.bd (bx (Go.Value.agg #[(Go.Value.int Go.IntKind.i64 0), (Go.Value.int Go.IntKind.i64 0), (Go.Value.int Go.IntKind.u64 0), (Go.Value.int Go.IntKind.i64 0), (Go.Value.int Go.IntKind.u64 0)])) fun c58 => S.bd (stl c58 0 5 x56) fun c59 => S.bd (un .not x57) fun x60 => S.cnd x60 (some (0, [(xs35.getD 0 undef), (Value.agg ⟨(cellsA (xs35.getD 1 undef))⟩)], s36)) (S.bd (lal (cellsA (xs35.getD 1 undef)) 1 2) fun x61 => S.bd (lal c59 0 5) fun x62 => S.bd (stl (cellsA (xs35.getD 2 undef)) 0 2 x61) fun c63 => S.bd (stl (cellsA (xs35.getD 1 undef)) 0 5 x62) fun c64 => rec37 [(xs35.getD 0 undef), (Value.agg ⟨c64⟩), (Value.agg ⟨c63⟩)] s36))

def seek_Seek_goes.t.p1 (S : Sig) (r65 : Cut) : Option (Value × St) :=
  S.bd (nck (r65.2.1.getD 0 undef)) fun x79 => S.bd (fld 14 x79) fun x80 => S.bd (fld 0 x80) fun x81 => S.bd (ldc r65.2.2 x81) fun x82 => S.bd (bin .gtr x82 (Go.Value.int Go.IntKind.i64 0)) fun x83 => S.cnd x83 (S.bd (nck (r65.2.1.getD 0 undef)) fun x84 => S.bd (fld 14 x84) fun x85 => S.bd (lda r65.2.2 2 x85) fun x86 => S.bd (nck (r65.2.1.getD 0 undef)) fun x87 => S.bd (fld 14 x87) fun x88 => S.bd (fld 0 x88) fun x89 => S.bd (ldc r65.2.2 x89) fun x90 => S.bd (bin .sub x90 (Go.Value.int Go.IntKind.i64 1)) fun x91 => S.bd (vec_Prefix.r x86 x91 r65.2.2) fun x92 => S.bd (xtr 0 x92) fun x93 => S.bd (xtr 1 x92) fun x94 => S.bd (nck (r65.2.1.getD 0 undef)) fun x95 => S.bd (fld 14 x95) fun x96 => S.bd (stv r65.2.2 2 x96 x93) fun s97 => S.bd (nck (r65.2.1.getD 0 undef)) fun x98 => S.bd (fld 16 x98) fun x99 => S.bd (stv s97 1 x99 (Go.Value.bool Bool.false)) fun s100 => some ((Value.tuple ⟨[]⟩), s100)) (S.bd (nck (r65.2.1.getD 0 undef)) fun x101 => S.bd (fld 9 x101) fun x102 => S.bd (lda r65.2.2 5 x102) fun x103 => S.bd (lal (cellsA (r65.2.1.getD 1 undef)) 0 5) fun x104 => S.bd (lal (cellsA (r65.2.1.getD 1 undef)) 1 2) fun x105 => S.bd (nck (r65.2.1.getD 0 undef)) fun x106 => S.bd (fld 0 x106) fun x107 => S.bd (fld 6 x107) fun x108 => S.bd (lda r65.2.2 2 x108) fun x109 => S.bd (eqb [1, 1] true false x105 x109) fun x110 => S.bd (bld [(Go.Value.int Go.IntKind.i64 0), (Go.Value.int Go.IntKind.u64 0), (Go.Value.slice Option.none 0 0), (Go.Value.slice Option.none 0 0), (Go.Value.int Go.IntKind.i64 0), (Go.Value.int Go.IntKind.i64 0), (Go.Value.int Go.IntKind.u64 0), (Go.Value.int Go.IntKind.i64 0), (Go.Value.int Go.IntKind.u64 0), (Go.Value.int Go.IntKind.i64 0), (Go.Value.int Go.IntKind.i64 0), (Go.Value.int Go.IntKind.u64 0), (Go.Value.int Go.IntKind.i64 0), (Go.Value.int Go.IntKind.u64 0), (Go.Value.bool Bool.false)] [(4, 5, x103), (9, 5, x104), (14, 1, x110)]) fun x111 => S.bd (nck (r65.2.1.getD 0 undef)) fun x112 => S.bd (fld 24 x112) fun x113 => S.bd (stv r65.2.2 1 x113 (Go.Value.bool Bool.true)) fun s114 => S.bd (nck (r65.2.1.getD 0 undef)) fun x115 => S.bd (fld 25 x115) fun x116 => S.bd (stv s114 15 x116 x111) fun s117 => some ((Value.tuple ⟨[]⟩), s117))

def seek_Seek_goes.t (S : Sig) (a0 a1 : Value) (s : St) : Option (Value × St) :=
  S.bd (bx a1) fun c1 => S.bd (nck a0) fun x2 => S.bd (fld 9 x2) fun x3 => S.bd (fld 1 x3) fun x4 => S.bd (lda s 2 x4) fun x5 => S.bd (bx (Go.Value.agg #[(Go.Value.int Go.IntKind.i64 0), (Go.Value.int Go.IntKind.u64 0)])) fun c6 => S.bd (stl c6 0 2 x5) fun c7 => S.bd (S.it (seek_Seek_goes.l2 S) [a0, (Value.agg ⟨c1⟩), (Value.agg ⟨c7⟩)] s) fun r65 => if r65.1 = 0 then (S.bd (lal (cellsA (r65.2.1.getD 1 undef)) 1 2) fun x66 => S.bd (nck (r65.2.1.getD 0 undef)) fun x67 => S.bd (fld 0 x67) fun x68 => S.bd (fld 6 x68) fun x69 => S.bd (lda r65.2.2 2 x69) fun x70 => S.bd (key_Less.r x66 x70 r65.2.2) fun x71 => S.cnd x71 (S.bd (lal (cellsA (r65.2.1.getD 1 undef)) 0 5) fun x72 => S.bd (nck (r65.2.1.getD 0 undef)) fun x73 => S.bd (fld 16 x73) fun x74 => S.bd (stv r65.2.2 1 x74 (Go.Value.bool Bool.true)) fun s75 => S.bd (nck (r65.2.1.getD 0 undef)) fun x76 => S.bd (fld 17 x76) fun x77 => S.bd (stv s75 5 x77 x72) fun s78 => some ((Value.tuple ⟨[]⟩), s78)) (seek_Seek_goes.t.p1 S r65)) else (some ((Value.tuple ⟨[]⟩), r65.2.2))
def seek_Seek_goes.v (a0 a1 : Value) (s : St) : Option (Value × St) := seek_Seek_goes.t std a0 a1 s
def seek_Seek_goes.w : List Value → St → Option (Value × St)
  | [a0, a1], s => seek_Seek_goes.v a0 a1 s
  | _, _ => none
def seek_Seek_goes.an : An := ⟨108, false, [3, 4, 5], [(2, ⟨[.v 0, .p 3 3 0, .p 4 4 0, .l 3, .l 4], [(.exit 0, [.v 0, .p 3 3 0, .l 3]), (.ret, [])]⟩)], [], [(4, [(0, 0, [], []), (1, 0, [], []), (2, 0, [], []), (3, 2, [], []), (4, 0, [], []), (5, 25, [], []), (6, 0, [], []), (7, 0, [], []), (8, 0, [], []), (9, 2, [], []), (10, 0, [], []), (11, 2, [], []), (12, 0, [], []), (13, 0, [], []), (14, 0, [], []), (15, 6, [], []), (16, 45, [], []), (17, 0, [], [])]), (6, [(0, 0, [], []), (1, 25, [], []), (2, 41, [], []), (3, 37, [], []), (4, 29, [], [])]), (8, [(0, 0, [], []), (1, 25, [], []), (2, 0, [], []), (3, 0, [], []), (4, 0, [], []), (5, 0, [], []), (6, 2, [], []), (7, 3, [], []), (8, 0, [], [])]), (9, [(0, 0, [], []), (1, 0, [], []), (2, 25, [], []), (3, 0, [], []), (4, 0, [], []), (5, 4, [], []), (6, 0, [], []), (7, 0, [], []), (8, 4, [], [])]), (11, [(0, 0, [], []), (1, 0, [], []), (2, 0, [], []), (3, 0, [], []), (4, 2, [], []), (5, 0, [], []), (6, 0, [], []), (7, 0, [], []), (8, 0, [], []), (9, 2, [], []), (10, 0, [], []), (11, 3, [], []), (12, 0, [], []), (13, 0, [], []), (14, 0, [], []), (15, 0, [], []), (16, 0, [], []), (17, 4, [], [])]), (7, [(0, 0, [], []), (1, 0, [], []), (2, 0, [], []), (3, 0, [], []), (4, 0, [], []), (5, 2, [], []), (6, 25, [], []), (7, 0, [], []), (8, 25, [], []), (9, 0, [], []), (10, 0, [], []), (11, 0, [], []), (12, 0, [], []), (13, 2, [], []), (14, 0, [], []), (15, 0, [], []), (16, 0, [], []), (17, 0, [], []), (18, 4, [], []), (19, 0, [], []), (20, 0, [], []), (21, 4, [], [])])]⟩
theorem seek_Seek_goes.ok (S : Sig) (a0 a1 : Value) (s : St) : evF S Try.prog seek_Seek_goes.ctx seek_Seek_goes.an Try.f59 [a0, a1] s = seek_Seek_goes.t S a0 a1 s := by kernel_rfl
theorem seek_Seek_goes.cok : CtxOk Try.prog seek_Seek_goes.ctx := .cons key_Check.sound key_Check.can <| .cons key_Less.sound key_Less.can <| .cons seek_Seek_again.sound seek_Seek_again.can <| .cons vec_Prefix.sound vec_Prefix.can <| .nil
theorem seek_Seek_goes.draws : fnDraws seek_Seek_goes.an Try.f59 = true := by kernel_rfl
theorem seek_Seek_goes.can : callOk Try.prog 59 = true := by kernel_rfl
theorem seek_Seek_goes.sound : FnOk Try.prog 59 (.st seek_Seek_goes.w) := FnOk.st_of (evF_ok seek_Seek_goes.cok mixed (f := 59) (fn := Try.f59) (by kernel_rfl) seek_Seek_goes.draws) fun args s r h => by
  unfold seek_Seek_goes.w at h; split at h
  · rw [seek_Seek_goes.ok std]; exact h
  · simp at h

/-! ### (*leapfrog/seek.Seek).keep: function 60 -/
def seek_Seek_keep.ctx : Ctx := []
def seek_Seek_keep.t (S : Sig) (a0 a1 a2 : Value) (s : St) : Option (Value × St) :=
  S.bd (bx a1) fun c1 => S.bd (bx a2) fun c2 => S.bd (nck a0) fun x3 => S.bd (fld 22 x3) fun x4 => S.bd (ldc s x4) fun x5 => S.bd (lcl c1 0) fun x6 => S.bd (nck a0) fun x7 => S.bd (fld 14 x7) fun x8 => S.bd (lda s 2 x8) fun x9 => S.bd (bld [(Go.Value.int Go.IntKind.i64 0), (Go.Value.int Go.IntKind.i64 0), (Go.Value.int Go.IntKind.u64 0)] [(0, 1, x6), (1, 2, x9)]) fun x10 => S.bd (lal c2 7 5) fun x11 => S.bd (upm s [1, 1, 1] true x5 x10 x11) fun s12 => some ((Value.tuple ⟨[]⟩), s12)
def seek_Seek_keep.v (a0 a1 a2 : Value) (s : St) : Option (Value × St) := seek_Seek_keep.t std a0 a1 a2 s
def seek_Seek_keep.w : List Value → St → Option (Value × St)
  | [a0, a1, a2], s => seek_Seek_keep.v a0 a1 a2 s
  | _, _ => none
def seek_Seek_keep.an : An := ⟨19, false, [4, 5], [], [], [(1, [(0, 0, [], []), (1, 0, [], []), (2, 0, [], []), (3, 2, [], []), (4, 0, [], []), (5, 33, [], []), (6, 0, [], []), (7, 0, [], []), (8, 0, [], []), (9, 2, [], []), (10, 0, [], []), (11, 0, [], []), (12, 41, [], []), (13, 4, [], [])])]⟩
theorem seek_Seek_keep.ok (S : Sig) (a0 a1 a2 : Value) (s : St) : evF S Try.prog seek_Seek_keep.ctx seek_Seek_keep.an Try.f60 [a0, a1, a2] s = seek_Seek_keep.t S a0 a1 a2 s := by kernel_rfl
theorem seek_Seek_keep.cok : CtxOk Try.prog seek_Seek_keep.ctx := .nil
theorem seek_Seek_keep.draws : fnDraws seek_Seek_keep.an Try.f60 = true := by kernel_rfl
theorem seek_Seek_keep.can : callOk Try.prog 60 = true := by kernel_rfl
theorem seek_Seek_keep.sound : FnOk Try.prog 60 (.st seek_Seek_keep.w) := FnOk.st_of (evF_ok seek_Seek_keep.cok mixed (f := 60) (fn := Try.f60) (by kernel_rfl) seek_Seek_keep.draws) fun args s r h => by
  unfold seek_Seek_keep.w at h; split at h
  · rw [seek_Seek_keep.ok std]; exact h
  · simp at h

/-! ### (*leapfrog/seek.Seek).looked: function 42 -/
def seek_Seek_looked.ctx : Ctx := [(59, .st seek_Seek_goes.w), (60, .st seek_Seek_keep.w), (61, .st seek_Seek_counts.w), (62, .st seek_Seek_again.w)]
def seek_Seek_looked.t (S : Sig) (a0 a1 : Value) (s : St) : Option (Value × St) :=
  S.bd (bx a1) fun c1 => S.bd (lcl c1 0) fun x2 => S.bd (eqb [1] false false x2 (Go.Value.int Go.IntKind.i64 1)) fun x3 => S.cnd x3 (S.bd (nck a0) fun x4 => S.bd (fld 17 x4) fun x5 => S.bd (lda s 5 x5) fun x6 => S.bd (nck a0) fun x7 => S.bd (fld 9 x7) fun x8 => S.bd (stv s 5 x8 x6) fun s9 => S.bd (nck a0) fun x10 => S.bd (fld 16 x10) fun x11 => S.bd (stv s9 1 x11 (Go.Value.bool Bool.false)) fun s12 => S.bd (lal c1 7 5) fun x13 => S.bd (seek_Seek_goes.v a0 x13 s12) fun r14 => some ((Value.tuple ⟨[]⟩), r14.2)) (S.bd (eqb [1] false false x2 (Go.Value.int Go.IntKind.i64 3)) fun x15 => S.cnd x15 (S.bd (nck a0) fun x16 => S.bd (fld 17 x16) fun x17 => S.bd (lda s 5 x17) fun x18 => S.bd (lal c1 0 13) fun x19 => S.bd (seek_Seek_keep.v a0 x18 x19 s) fun r20 => S.bd (seek_Seek_counts.v a0 r20.2) fun r21 => S.cnd r21.1 (S.bd (nck a0) fun x22 => S.bd (fld 16 x22) fun x23 => S.bd (stv r21.2 1 x23 (Go.Value.bool Bool.false)) fun s24 => some ((Value.tuple ⟨[]⟩), s24)) (some ((Value.tuple ⟨[]⟩), r21.2))) (S.bd (seek_Seek_again.v a0 s) fun r25 => some ((Value.tuple ⟨[]⟩), r25.2)))
def seek_Seek_looked.v (a0 a1 : Value) (s : St) : Option (Value × St) := seek_Seek_looked.t std a0 a1 s
def seek_Seek_looked.w : List Value → St → Option (Value × St)
  | [a0, a1], s => seek_Seek_looked.v a0 a1 s
  | _, _ => none
def seek_Seek_looked.an : An := ⟨38, false, [3], [], [], [(7, [(0, 0, [], []), (1, 0, [], []), (2, 0, [], []), (3, 0, [], []), (4, 2, [], []), (5, 25, [], []), (6, 4, [], [])])]⟩
theorem seek_Seek_looked.ok (S : Sig) (a0 a1 : Value) (s : St) : evF S Try.prog seek_Seek_looked.ctx seek_Seek_looked.an Try.f42 [a0, a1] s = seek_Seek_looked.t S a0 a1 s := by kernel_rfl
theorem seek_Seek_looked.cok : CtxOk Try.prog seek_Seek_looked.ctx := .cons seek_Seek_goes.sound seek_Seek_goes.can <| .cons seek_Seek_keep.sound seek_Seek_keep.can <| .cons seek_Seek_counts.sound seek_Seek_counts.can <| .cons seek_Seek_again.sound seek_Seek_again.can <| .nil
theorem seek_Seek_looked.draws : fnDraws seek_Seek_looked.an Try.f42 = true := by kernel_rfl
theorem seek_Seek_looked.can : callOk Try.prog 42 = true := by kernel_rfl
theorem seek_Seek_looked.sound : FnOk Try.prog 42 (.st seek_Seek_looked.w) := FnOk.st_of (evF_ok seek_Seek_looked.cok mixed (f := 42) (fn := Try.f42) (by kernel_rfl) seek_Seek_looked.draws) fun args s r h => by
  unfold seek_Seek_looked.w at h; split at h
  · rw [seek_Seek_looked.ok std]; exact h
  · simp at h

/-! ### (*leapfrog/seek.Seek).stood: function 43 -/
def seek_Seek_stood.ctx : Ctx := [(63, .rd key_Less.w), (59, .st seek_Seek_goes.w), (58, .rd key_Check.w), (62, .st seek_Seek_again.w), (60, .st seek_Seek_keep.w)]
def seek_Seek_stood.t (S : Sig) (a0 a1 : Value) (s : St) : Option (Value × St) :=
  S.bd (bx a1) fun c1 => S.bd (lcl c1 0) fun x2 => S.bd (eqb [1] false false x2 (Go.Value.int Go.IntKind.i64 1)) fun x3 => S.cnd x3 (S.bd (nck a0) fun x4 => S.bd (fld 9 x4) fun x5 => S.bd (fld 1 x5) fun x6 => S.bd (lda s 2 x6) fun x7 => S.bd (nck a0) fun x8 => S.bd (fld 0 x8) fun x9 => S.bd (fld 6 x9) fun x10 => S.bd (lda s 2 x10) fun x11 => S.bd (key_Less.r x7 x11 s) fun x12 => S.cnd x12 (S.bd (lal c1 7 5) fun x13 => S.bd (seek_Seek_goes.v a0 x13 s) fun r14 => some ((Value.tuple ⟨[]⟩), r14.2)) (S.bd (lal c1 3 2) fun x15 => S.bd (key_Check.r x15 s) fun x16 => S.bd (eqb [1] false false x16 (Go.Value.int Go.IntKind.i64 0)) fun x17 => S.bd (S.gd x17 true (lal c1 3 2)) fun x18 => S.bd (S.gd x17 true (some a0)) fun x19 => S.bd (S.gd x17 true (nck x19)) fun x20 => S.bd (S.gd x17 true (fld 9 x20)) fun x21 => S.bd (S.gd x17 true (fld 1 x21)) fun x22 => S.bd (S.gd x17 true (lda s 2 x22)) fun x23 => S.bd (S.gd x17 true (key_Less.r x18 x23 s)) fun x24 => S.bd (pik x17 x24 (Go.Value.bool Bool.false)) fun x25 => S.cnd x25 (S.bd (lal c1 2 5) fun x26 => S.bd (nck a0) fun x27 => S.bd (fld 9 x27) fun x28 => S.bd (stv s 5 x28 x26) fun s29 => some ((Value.tuple ⟨[]⟩), s29)) (S.bd (seek_Seek_again.v a0 s) fun r30 => some ((Value.tuple ⟨[]⟩), r30.2)))) (S.bd (eqb [1] false false x2 (Go.Value.int Go.IntKind.i64 3)) fun x31 => S.cnd x31 (S.bd (nck a0) fun x32 => S.bd (fld 9 x32) fun x33 => S.bd (lda s 5 x33) fun x34 => S.bd (lal c1 0 13) fun x35 => S.bd (seek_Seek_keep.v a0 x34 x35 s) fun r36 => S.bd (seek_Seek_again.v a0 r36.2) fun r37 => some ((Value.tuple ⟨[]⟩), r37.2)) (S.bd (seek_Seek_again.v a0 s) fun r38 => some ((Value.tuple ⟨[]⟩), r38.2)))
def seek_Seek_stood.v (a0 a1 : Value) (s : St) : Option (Value × St) := seek_Seek_stood.t std a0 a1 s
def seek_Seek_stood.w : List Value → St → Option (Value × St)
  | [a0, a1], s => seek_Seek_stood.v a0 a1 s
  | _, _ => none
def seek_Seek_stood.an : An := ⟨55, false, [3], [], [], [(4, [(0, 0, [], []), (1, 0, [], []), (2, 0, [], []), (3, 0, [], []), (4, 2, [], []), (5, 0, [], []), (6, 0, [], []), (7, 0, [], []), (8, 0, [], []), (9, 2, [], []), (10, 3, [], [])]), (6, [(0, 0, [], []), (1, 0, [], []), (2, 25, [], []), (3, 3, [], []), (4, 0, [], []), (5, 0, [], []), (6, 0, [], []), (7, 0, [], []), (8, 25, [], []), (9, 0, [], []), (10, 0, [], []), (11, 0, [], []), (12, 0, [], []), (13, 2, [], []), (14, 3, [], []), (15, 0, [], [])]), (8, [(0, 0, [], []), (1, 0, [], []), (2, 0, [], []), (3, 0, [], []), (4, 2, [], []), (5, 25, [], []), (6, 4, [], [])])]⟩
theorem seek_Seek_stood.ok (S : Sig) (a0 a1 : Value) (s : St) : evF S Try.prog seek_Seek_stood.ctx seek_Seek_stood.an Try.f43 [a0, a1] s = seek_Seek_stood.t S a0 a1 s := by kernel_rfl
theorem seek_Seek_stood.cok : CtxOk Try.prog seek_Seek_stood.ctx := .cons key_Less.sound key_Less.can <| .cons seek_Seek_goes.sound seek_Seek_goes.can <| .cons key_Check.sound key_Check.can <| .cons seek_Seek_again.sound seek_Seek_again.can <| .cons seek_Seek_keep.sound seek_Seek_keep.can <| .nil
theorem seek_Seek_stood.draws : fnDraws seek_Seek_stood.an Try.f43 = true := by kernel_rfl
theorem seek_Seek_stood.can : callOk Try.prog 43 = true := by kernel_rfl
theorem seek_Seek_stood.sound : FnOk Try.prog 43 (.st seek_Seek_stood.w) := FnOk.st_of (evF_ok seek_Seek_stood.cok mixed (f := 43) (fn := Try.f43) (by kernel_rfl) seek_Seek_stood.draws) fun args s r h => by
  unfold seek_Seek_stood.w at h; split at h
  · rw [seek_Seek_stood.ok std]; exact h
  · simp at h

/-! ### (*leapfrog/seek.Seek).Tell: function 25 -/
def seek_Seek_Tell.ctx : Ctx := [(41, .rd seek_Seek_is.w), (42, .st seek_Seek_looked.w), (43, .st seek_Seek_stood.w)]
def seek_Seek_Tell.t (S : Sig) (a0 a1 : Value) (s : St) : Option (Value × St) :=
  S.bd (bx a1) fun c1 => S.bd (seek_Seek_is.r a0 s) fun x2 => S.bd (un .not x2) fun x3 => S.bd (S.gd x3 false (some a0)) fun x4 => S.bd (S.gd x3 false (nck x4)) fun x5 => S.bd (S.gd x3 false (fld 24 x5)) fun x6 => S.bd (S.gd x3 false (ldc s x6)) fun x7 => S.bd (pik x3 (Go.Value.bool Bool.true) x7) fun x8 => S.cnd x8 (some ((Value.tuple ⟨[]⟩), s)) (S.bd (nck a0) fun x9 => S.bd (fld 16 x9) fun x10 => S.bd (ldc s x10) fun x11 => S.cnd x11 (S.bd (lal c1 0 13) fun x12 => S.bd (seek_Seek_looked.v a0 x12 s) fun r13 => some ((Value.tuple ⟨[]⟩), r13.2)) (S.bd (lal c1 0 13) fun x14 => S.bd (seek_Seek_stood.v a0 x14 s) fun r15 => some ((Value.tuple ⟨[]⟩), r15.2)))
def seek_Seek_Tell.v (a0 a1 : Value) (s : St) : Option (Value × St) := seek_Seek_Tell.t std a0 a1 s
def seek_Seek_Tell.w : List Value → St → Option (Value × St)
  | [a0, a1], s => seek_Seek_Tell.v a0 a1 s
  | _, _ => none
def seek_Seek_Tell.an : An := ⟨25, false, [3], [], [], []⟩
theorem seek_Seek_Tell.ok (S : Sig) (a0 a1 : Value) (s : St) : evF S Try.prog seek_Seek_Tell.ctx seek_Seek_Tell.an Try.f25 [a0, a1] s = seek_Seek_Tell.t S a0 a1 s := by kernel_rfl
theorem seek_Seek_Tell.cok : CtxOk Try.prog seek_Seek_Tell.ctx := .cons seek_Seek_is.sound seek_Seek_is.can <| .cons seek_Seek_looked.sound seek_Seek_looked.can <| .cons seek_Seek_stood.sound seek_Seek_stood.can <| .nil
theorem seek_Seek_Tell.draws : fnDraws seek_Seek_Tell.an Try.f25 = true := by kernel_rfl
theorem seek_Seek_Tell.can : callOk Try.prog 25 = true := by kernel_rfl
theorem seek_Seek_Tell.sound : FnOk Try.prog 25 (.st seek_Seek_Tell.w) := FnOk.st_of (evF_ok seek_Seek_Tell.cok mixed (f := 25) (fn := Try.f25) (by kernel_rfl) seek_Seek_Tell.draws) fun args s r h => by
  unfold seek_Seek_Tell.w at h; split at h
  · rw [seek_Seek_Tell.ok std]; exact h
  · simp at h

/-! ### (*leapfrog/seek.Seek).Next: function 29 -/
def seek_Seek_Next.ctx : Ctx := [(41, .rd seek_Seek_is.w)]
def seek_Seek_Next.t.p1 (S : Sig) (r35 : Cut) (x38 : Value) (x36 : Value) : Option Value :=
  S.bd (lda r35.2.2 2 x38) fun x39 => S.bd (bld [(Go.Value.int Go.IntKind.i64 0), (Go.Value.int Go.IntKind.i64 0), (Go.Value.int Go.IntKind.u64 0), (Go.Value.int Go.IntKind.i64 0), (Go.Value.int Go.IntKind.i64 0), (Go.Value.int Go.IntKind.u64 0), (Go.Value.int Go.IntKind.i64 0), (Go.Value.int Go.IntKind.u64 0), (Go.Value.int Go.IntKind.i64 0), (Go.Value.int Go.IntKind.i64 0), (Go.Value.int Go.IntKind.u64 0), (Go.Value.int Go.IntKind.i64 0), (Go.Value.int Go.IntKind.u64 0), (Go.Value.int Go.IntKind.i64 0), (Go.Value.int Go.IntKind.i64 0)] [(0, 1, (Go.Value.int Go.IntKind.i64 1)), (1, 2, x39)]) fun x40 => S.bd (bld [(Go.Value.int Go.IntKind.i64 0), (Go.Value.int Go.IntKind.i64 0), (Go.Value.int Go.IntKind.i64 0), (Go.Value.int Go.IntKind.u64 0), (Go.Value.int Go.IntKind.i64 0), (Go.Value.int Go.IntKind.u64 0), (Go.Value.int Go.IntKind.i64 0), (Go.Value.int Go.IntKind.i64 0), (Go.Value.int Go.IntKind.u64 0), (Go.Value.int Go.IntKind.i64 0), (Go.Value.int Go.IntKind.i64 0), (Go.Value.int Go.IntKind.u64 0), (Go.Value.int Go.IntKind.i64 0), (Go.Value.int Go.IntKind.u64 0), (Go.Value.int Go.IntKind.i64 0), (Go.Value.int Go.IntKind.i64 0), (Go.Value.int Go.IntKind.u64 0), (Go.Value.int Go.IntKind.i64 0), (Go.Value.int Go.IntKind.u64 0), (Go.Value.int Go.IntKind.i64 0), (Go.Value.int Go.IntKind.i64 0), (Go.Value.int Go.IntKind.i64 0), (Go.Value.int Go.IntKind.u64 0), (Go.Value.slice Option.none 0 0), (Go.Value.slice Option.none 0 0), (Go.Value.int Go.IntKind.i64 0), (Go.Value.int Go.IntKind.i64 0), (Go.Value.int Go.IntKind.u64 0), (Go.Value.int Go.IntKind.i64 0), (Go.Value.int Go.IntKind.u64 0), (Go.Value.int Go.IntKind.i64 0), (Go.Value.int Go.IntKind.i64 0), (Go.Value.int Go.IntKind.u64 0), (Go.Value.int Go.IntKind.i64 0), (Go.Value.int Go.IntKind.u64 0), (Go.Value.bool Bool.false)] [(0, 1, (Go.Value.int Go.IntKind.i64 1)), (1, 5, x36), (6, 15, x40)]) fun x41 => S.bd (stl (cellsA (r35.2.1.getD 1 undef)) 0 36 x41) fun c42 => S.bd (lal c42 0 36) fun x43 => some (x43)

def seek_Seek_Next.t.p2 (S : Sig) (a0 : Value) (s : St) (c1 : List Value) : Option Value :=
  S.bd (nck a0) fun x7 => S.bd (fld 24 x7) fun x8 => S.bd (ldc s x8) fun x9 => S.cnd x9 (S.bd (nck a0) fun x10 => S.bd (fld 25 x10) fun x11 => S.bd (lda s 15 x11) fun x12 => S.bd (bld [(Go.Value.int Go.IntKind.i64 0), (Go.Value.int Go.IntKind.i64 0), (Go.Value.int Go.IntKind.i64 0), (Go.Value.int Go.IntKind.u64 0), (Go.Value.int Go.IntKind.i64 0), (Go.Value.int Go.IntKind.u64 0), (Go.Value.int Go.IntKind.i64 0), (Go.Value.int Go.IntKind.i64 0), (Go.Value.int Go.IntKind.u64 0), (Go.Value.int Go.IntKind.i64 0), (Go.Value.int Go.IntKind.i64 0), (Go.Value.int Go.IntKind.u64 0), (Go.Value.int Go.IntKind.i64 0), (Go.Value.int Go.IntKind.u64 0), (Go.Value.int Go.IntKind.i64 0), (Go.Value.int Go.IntKind.i64 0), (Go.Value.int Go.IntKind.u64 0), (Go.Value.int Go.IntKind.i64 0), (Go.Value.int Go.IntKind.u64 0), (Go.Value.int Go.IntKind.i64 0), (Go.Value.int Go.IntKind.i64 0), (Go.Value.int Go.IntKind.i64 0), (Go.Value.int Go.IntKind.u64 0), (Go.Value.slice Option.none 0 0), (Go.Value.slice Option.none 0 0), (Go.Value.int Go.IntKind.i64 0), (Go.Value.int Go.IntKind.i64 0), (Go.Value.int Go.IntKind.u64 0), (Go.Value.int Go.IntKind.i64 0), (Go.Value.int Go.IntKind.u64 0), (Go.Value.int Go.IntKind.i64 0), (Go.Value.int Go.IntKind.i64 0), (Go.Value.int Go.IntKind.u64 0), (Go.Value.int Go.IntKind.i64 0), (Go.Value.int Go.IntKind.u64 0), (Go.Value.bool Bool.false)] [(0, 1, (Go.Value.int Go.IntKind.i64 3)), (21, 15, x12)]) fun x13 => S.bd (stl c1 0 36 x13) fun c14 => S.bd (lal c14 0 36) fun x15 => some (x15)) (S.bd (nck a0) fun x16 => S.bd (fld 9 x16) fun x17 => S.bd (lda s 5 x17) fun x18 => S.bd (bx (Go.Value.agg #[(Go.Value.int Go.IntKind.i64 0), (Go.Value.int Go.IntKind.i64 0), (Go.Value.int Go.IntKind.u64 0), (Go.Value.int Go.IntKind.i64 0), (Go.Value.int Go.IntKind.u64 0)])) fun c19 => S.bd (stl c19 0 5 x18) fun c20 => S.bd (show Option Cut from S.bd (nck a0) fun x28 => S.bd (fld 16 x28) fun x29 => S.bd (ldc s x29) fun x30 => S.cnd x30 (S.bd (nck a0) fun x31 => S.bd (fld 17 x31) fun x32 => S.bd (lda s 5 x32) fun x33 => S.bd (stl c20 0 5 x33) fun c34 => some (0, [a0, (Value.agg ⟨c1⟩), (Value.agg ⟨c34⟩)], s)) (some (0, [a0, (Value.agg ⟨c1⟩), (Value.agg ⟨c20⟩)], s))) fun r35 => S.bd (lal (cellsA (r35.2.1.getD 2 undef)) 0 5) fun x36 => S.bd (nck (r35.2.1.getD 0 undef)) fun x37 => S.bd (fld 14 x37) fun x38 => seek_Seek_Next.t.p1 S r35 x38 x36)

def seek_Seek_Next.t (S : Sig) (a0 : Value) (s : St) : Option Value :=
  S.bd (bx (Go.Value.agg #[(Go.Value.int Go.IntKind.i64 0), (Go.Value.int Go.IntKind.i64 0), (Go.Value.int Go.IntKind.i64 0), (Go.Value.int Go.IntKind.u64 0), (Go.Value.int Go.IntKind.i64 0), (Go.Value.int Go.IntKind.u64 0), (Go.Value.int Go.IntKind.i64 0), (Go.Value.int Go.IntKind.i64 0), (Go.Value.int Go.IntKind.u64 0), (Go.Value.int Go.IntKind.i64 0), (Go.Value.int Go.IntKind.i64 0), (Go.Value.int Go.IntKind.u64 0), (Go.Value.int Go.IntKind.i64 0), (Go.Value.int Go.IntKind.u64 0), (Go.Value.int Go.IntKind.i64 0), (Go.Value.int Go.IntKind.i64 0), (Go.Value.int Go.IntKind.u64 0), (Go.Value.int Go.IntKind.i64 0), (Go.Value.int Go.IntKind.u64 0), (Go.Value.int Go.IntKind.i64 0), (Go.Value.int Go.IntKind.i64 0), (Go.Value.int Go.IntKind.i64 0), (Go.Value.int Go.IntKind.u64 0), (Go.Value.slice Option.none 0 0), (Go.Value.slice Option.none 0 0), (Go.Value.int Go.IntKind.i64 0), (Go.Value.int Go.IntKind.i64 0), (Go.Value.int Go.IntKind.u64 0), (Go.Value.int Go.IntKind.i64 0), (Go.Value.int Go.IntKind.u64 0), (Go.Value.int Go.IntKind.i64 0), (Go.Value.int Go.IntKind.i64 0), (Go.Value.int Go.IntKind.u64 0), (Go.Value.int Go.IntKind.i64 0), (Go.Value.int Go.IntKind.u64 0), (Go.Value.bool Bool.false)])) fun c1 => S.bd (seek_Seek_is.r a0 s) fun x2 => S.bd (un .not x2) fun x3 => S.cnd x3 (S.bd (bld [(Go.Value.int Go.IntKind.i64 0), (Go.Value.int Go.IntKind.i64 0), (Go.Value.int Go.IntKind.i64 0), (Go.Value.int Go.IntKind.u64 0), (Go.Value.int Go.IntKind.i64 0), (Go.Value.int Go.IntKind.u64 0), (Go.Value.int Go.IntKind.i64 0), (Go.Value.int Go.IntKind.i64 0), (Go.Value.int Go.IntKind.u64 0), (Go.Value.int Go.IntKind.i64 0), (Go.Value.int Go.IntKind.i64 0), (Go.Value.int Go.IntKind.u64 0), (Go.Value.int Go.IntKind.i64 0), (Go.Value.int Go.IntKind.u64 0), (Go.Value.int Go.IntKind.i64 0), (Go.Value.int Go.IntKind.i64 0), (Go.Value.int Go.IntKind.u64 0), (Go.Value.int Go.IntKind.i64 0), (Go.Value.int Go.IntKind.u64 0), (Go.Value.int Go.IntKind.i64 0), (Go.Value.int Go.IntKind.i64 0), (Go.Value.int Go.IntKind.i64 0), (Go.Value.int Go.IntKind.u64 0), (Go.Value.slice Option.none 0 0), (Go.Value.slice Option.none 0 0), (Go.Value.int Go.IntKind.i64 0), (Go.Value.int Go.IntKind.i64 0), (Go.Value.int Go.IntKind.u64 0), (Go.Value.int Go.IntKind.i64 0), (Go.Value.int Go.IntKind.u64 0), (Go.Value.int Go.IntKind.i64 0), (Go.Value.int Go.IntKind.i64 0), (Go.Value.int Go.IntKind.u64 0), (Go.Value.int Go.IntKind.i64 0), (Go.Value.int Go.IntKind.u64 0), (Go.Value.bool Bool.false)] []) fun x4 => S.bd (stl c1 0 36 x4) fun c5 => S.bd (lal c5 0 36) fun x6 => some (x6)) (seek_Seek_Next.t.p2 S a0 s c1)
def seek_Seek_Next.r (a0 : Value) (s : St) : Option Value := seek_Seek_Next.t std a0 s
def seek_Seek_Next.w : List Value → St → Option Value
  | [a0], s => seek_Seek_Next.r a0 s
  | _, _ => none
def seek_Seek_Next.an : An := ⟨36, true, [2, 3], [], [(8, ⟨[], [(.normal, [.v 0, .p 2 2 0, .p 3 3 0, .l 2, .l 3])]⟩)], [(8, [(0, 25, [], []), (1, 0, [], []), (2, 0, [], []), (3, 0, [], []), (4, 2, [], []), (5, 0, [], []), (6, 0, [], []), (7, 21, [], [])])]⟩
theorem seek_Seek_Next.ok (S : Sig) (a0 : Value) (s : St) : evG S Try.prog seek_Seek_Next.ctx seek_Seek_Next.an Try.f29 [a0] s = seek_Seek_Next.t S a0 s := by kernel_rfl
theorem seek_Seek_Next.cok : CtxOk Try.prog seek_Seek_Next.ctx := .cons seek_Seek_is.sound seek_Seek_is.can <| .nil
theorem seek_Seek_Next.draws : fnDraws seek_Seek_Next.an Try.f29 = true := by kernel_rfl
theorem seek_Seek_Next.can : callOk Try.prog 29 = true := by kernel_rfl
theorem seek_Seek_Next.sound : FnOk Try.prog 29 (.rd seek_Seek_Next.w) := FnOk.rd_of (evG_ok seek_Seek_Next.cok mixed (f := 29) (fn := Try.f29) (by kernel_rfl) seek_Seek_Next.draws) fun args s r h => by
  unfold seek_Seek_Next.w at h; split at h
  · rw [seek_Seek_Next.ok std]; exact h
  · simp at h

/-! ### (*leapfrog/scan.Scan).takes: function 44 -/
def scan_Scan_takes.ctx : Ctx := [(63, .rd key_Less.w), (23, .st scan_Scan_ends.w)]
def scan_Scan_takes.t (S : Sig) (a0 a1 a2 : Value) (s : St) : Option (Value × St) :=
  S.bd (bx a1) fun c1 => S.bd (lal c1 0 5) fun x2 => S.bd (nck a0) fun x3 => S.bd (fld 11 x3) fun x4 => S.bd (stv s 5 x4 x2) fun s5 => S.bd (nck a0) fun x6 => S.bd (fld 16 x6) fun x7 => S.bd (stv s5 1 x7 a2) fun s8 => S.bd (show Option Cut from S.bd (un .not a2) fun x13 => S.cnd x13 (S.bd (nck a0) fun x14 => S.bd (fld 10 x14) fun x15 => S.bd (stv s8 1 x15 (Go.Value.pointer Option.none)) fun s16 => some (0, [a0, (Value.agg ⟨c1⟩)], s16)) (some (0, [a0, (Value.agg ⟨c1⟩)], s8))) fun r17 => S.bd (nck (r17.2.1.getD 0 undef)) fun x18 => S.bd (fld 0 x18) fun x19 => S.bd (fld 7 x19) fun x20 => S.bd (ldc r17.2.2 x20) fun x21 => S.bd (bld [(Go.Value.int Go.IntKind.i64 0), (Go.Value.int Go.IntKind.u64 0)] [(0, 1, (Go.Value.int Go.IntKind.i64 2)), (1, 1, x21)]) fun x22 => S.bd (lal (cellsA (r17.2.1.getD 1 undef)) 1 2) fun x23 => S.bd (key_Less.r x22 x23 r17.2.2) fun x24 => S.cnd x24 (S.bd (nck (r17.2.1.getD 0 undef)) fun x25 => S.bd (fld 18 x25) fun x26 => S.bd (ldc r17.2.2 x26) fun x27 => S.bd (bld [(Go.Value.int Go.IntKind.i64 0), (Go.Value.int Go.IntKind.u64 0), (Go.Value.slice Option.none 0 0), (Go.Value.slice Option.none 0 0), (Go.Value.int Go.IntKind.i64 0), (Go.Value.int Go.IntKind.i64 0), (Go.Value.int Go.IntKind.u64 0), (Go.Value.int Go.IntKind.i64 0), (Go.Value.int Go.IntKind.u64 0), (Go.Value.int Go.IntKind.i64 0), (Go.Value.int Go.IntKind.i64 0), (Go.Value.int Go.IntKind.u64 0), (Go.Value.int Go.IntKind.i64 0), (Go.Value.int Go.IntKind.u64 0), (Go.Value.bool Bool.false)] [(3, 1, x27)]) fun x28 => S.bd (scan_Scan_ends.v (r17.2.1.getD 0 undef) x28 r17.2.2) fun r29 => some ((Value.tuple ⟨[]⟩), r29.2)) (some ((Value.tuple ⟨[]⟩), r17.2.2))
def scan_Scan_takes.v (a0 a1 a2 : Value) (s : St) : Option (Value × St) := scan_Scan_takes.t std a0 a1 a2 s
def scan_Scan_takes.w : List Value → St → Option (Value × St)
  | [a0, a1, a2], s => scan_Scan_takes.v a0 a1 a2 s
  | _, _ => none
def scan_Scan_takes.an : An := ⟨35, false, [4], [], [(4, ⟨[], [(.normal, [.v 0, .p 4 4 0, .l 4])]⟩)], [(4, [(0, 0, [], []), (1, 0, [], []), (2, 0, [], []), (3, 0, [], []), (4, 2, [], []), (5, 0, [], []), (6, 0, [], []), (7, 33, [], []), (8, 3, [], [])])]⟩
theorem scan_Scan_takes.ok (S : Sig) (a0 a1 a2 : Value) (s : St) : evF S Try.prog scan_Scan_takes.ctx scan_Scan_takes.an Try.f44 [a0, a1, a2] s = scan_Scan_takes.t S a0 a1 a2 s := by kernel_rfl
theorem scan_Scan_takes.cok : CtxOk Try.prog scan_Scan_takes.ctx := .cons key_Less.sound key_Less.can <| .cons scan_Scan_ends.sound scan_Scan_ends.can <| .nil
theorem scan_Scan_takes.draws : fnDraws scan_Scan_takes.an Try.f44 = true := by kernel_rfl
theorem scan_Scan_takes.can : callOk Try.prog 44 = true := by kernel_rfl
theorem scan_Scan_takes.sound : FnOk Try.prog 44 (.st scan_Scan_takes.w) := FnOk.st_of (evF_ok scan_Scan_takes.cok mixed (f := 44) (fn := Try.f44) (by kernel_rfl) scan_Scan_takes.draws) fun args s r h => by
  unfold scan_Scan_takes.w at h; split at h
  · rw [scan_Scan_takes.ok std]; exact h
  · simp at h

/-! ### (*leapfrog/scan.Scan).found: function 26 -/
def scan_Scan_found.ctx : Ctx := [(29, .rd seek_Seek_Next.w), (23, .st scan_Scan_ends.w), (44, .st scan_Scan_takes.w)]
def scan_Scan_found.t (S : Sig) (a0 : Value) (s : St) : Option (Value × St) :=
  S.bd (nck a0) fun x1 => S.bd (fld 10 x1) fun x2 => S.bd (ldc s x2) fun x3 => S.bd (seek_Seek_Next.r x3 s) fun x4 => S.bd (bx (Go.Value.agg #[(Go.Value.int Go.IntKind.i64 0), (Go.Value.int Go.IntKind.i64 0), (Go.Value.int Go.IntKind.i64 0), (Go.Value.int Go.IntKind.u64 0), (Go.Value.int Go.IntKind.i64 0), (Go.Value.int Go.IntKind.u64 0), (Go.Value.int Go.IntKind.i64 0), (Go.Value.int Go.IntKind.i64 0), (Go.Value.int Go.IntKind.u64 0), (Go.Value.int Go.IntKind.i64 0), (Go.Value.int Go.IntKind.i64 0), (Go.Value.int Go.IntKind.u64 0), (Go.Value.int Go.IntKind.i64 0), (Go.Value.int Go.IntKind.u64 0), (Go.Value.int Go.IntKind.i64 0), (Go.Value.int Go.IntKind.i64 0), (Go.Value.int Go.IntKind.u64 0), (Go.Value.int Go.IntKind.i64 0), (Go.Value.int Go.IntKind.u64 0), (Go.Value.int Go.IntKind.i64 0), (Go.Value.int Go.IntKind.i64 0), (Go.Value.int Go.IntKind.i64 0), (Go.Value.int Go.IntKind.u64 0), (Go.Value.slice Option.none 0 0), (Go.Value.slice Option.none 0 0), (Go.Value.int Go.IntKind.i64 0), (Go.Value.int Go.IntKind.i64 0), (Go.Value.int Go.IntKind.u64 0), (Go.Value.int Go.IntKind.i64 0), (Go.Value.int Go.IntKind.u64 0), (Go.Value.int Go.IntKind.i64 0), (Go.Value.int Go.IntKind.i64 0), (Go.Value.int Go.IntKind.u64 0), (Go.Value.int Go.IntKind.i64 0), (Go.Value.int Go.IntKind.u64 0), (Go.Value.bool Bool.false)])) fun c5 => S.bd (stl c5 0 36 x4) fun c6 => S.bd (lcl c6 0) fun x7 => S.bd (eqb [1] false true x7 (Go.Value.int Go.IntKind.i64 3)) fun x8 => S.cnd x8 (some ((Value.tuple ⟨[]⟩), s)) (S.bd (lcl c6 21) fun x9 => S.bd (eqb [1] false true x9 (Go.Value.int Go.IntKind.i64 0)) fun x10 => S.cnd x10 (S.bd (lcl c6 21) fun x11 => S.bd (bld [(Go.Value.int Go.IntKind.i64 0), (Go.Value.int Go.IntKind.u64 0), (Go.Value.slice Option.none 0 0), (Go.Value.slice Option.none 0 0), (Go.Value.int Go.IntKind.i64 0), (Go.Value.int Go.IntKind.i64 0), (Go.Value.int Go.IntKind.u64 0), (Go.Value.int Go.IntKind.i64 0), (Go.Value.int Go.IntKind.u64 0), (Go.Value.int Go.IntKind.i64 0), (Go.Value.int Go.IntKind.i64 0), (Go.Value.int Go.IntKind.u64 0), (Go.Value.int Go.IntKind.i64 0), (Go.Value.int Go.IntKind.u64 0), (Go.Value.bool Bool.false)] [(0, 1, x11)]) fun x12 => S.bd (scan_Scan_ends.v a0 x12 s) fun r13 => some ((Value.tuple ⟨[]⟩), r13.2)) (S.bd (lal c6 30 5) fun x14 => S.bd (scan_Scan_takes.v a0 x14 (Go.Value.bool Bool.true) s) fun r15 => some ((Value.tuple ⟨[]⟩), r15.2)))
def scan_Scan_found.v (a0 : Value) (s : St) : Option (Value × St) := scan_Scan_found.t std a0 s
def scan_Scan_found.w : List Value → St → Option (Value × St)
  | [a0], s => scan_Scan_found.v a0 s
  | _, _ => none
def scan_Scan_found.an : An := ⟨28, false, [2], [], [], []⟩
theorem scan_Scan_found.ok (S : Sig) (a0 : Value) (s : St) : evF S Try.prog scan_Scan_found.ctx scan_Scan_found.an Try.f26 [a0] s = scan_Scan_found.t S a0 s := by kernel_rfl
theorem scan_Scan_found.cok : CtxOk Try.prog scan_Scan_found.ctx := .cons seek_Seek_Next.sound seek_Seek_Next.can <| .cons scan_Scan_ends.sound scan_Scan_ends.can <| .cons scan_Scan_takes.sound scan_Scan_takes.can <| .nil
theorem scan_Scan_found.draws : fnDraws scan_Scan_found.an Try.f26 = true := by kernel_rfl
theorem scan_Scan_found.can : callOk Try.prog 26 = true := by kernel_rfl
theorem scan_Scan_found.sound : FnOk Try.prog 26 (.st scan_Scan_found.w) := FnOk.st_of (evF_ok scan_Scan_found.cok mixed (f := 26) (fn := Try.f26) (by kernel_rfl) scan_Scan_found.draws) fun args s r h => by
  unfold scan_Scan_found.w at h; split at h
  · rw [scan_Scan_found.ok std]; exact h
  · simp at h

/-! ### slices.Clone[[]byte,byte]: function 28 -/
def slices_Clone_byte_byte.ctx : Ctx := []
def slices_Clone_byte_byte.t (S : Sig) (a0 : Value) (s : St) : Option (Value × St) :=
  S.bd (eqb [4] false false a0 (Go.Value.slice Option.none 0 0)) fun x1 => S.cnd x1 (some ((Go.Value.slice Option.none 0 0), s)) (S.bd (S.bd (bls 1 (List.replicate 0 [(Go.Value.int Go.IntKind.u8 0)]) []) fun rows => als s 1 0 rows) fun r2 => S.bd (app r2.2 1 1 r2.1 a0) fun r3 => some (r3.1, r3.2))
def slices_Clone_byte_byte.v (a0 : Value) (s : St) : Option (Value × St) := slices_Clone_byte_byte.t std a0 s
def slices_Clone_byte_byte.w : List Value → St → Option (Value × St)
  | [a0], s => slices_Clone_byte_byte.v a0 s
  | _, _ => none
def slices_Clone_byte_byte.an : An := ⟨8, false, [], [], [], []⟩
theorem slices_Clone_byte_byte.ok (S : Sig) (a0 : Value) (s : St) : evF S Try.prog slices_Clone_byte_byte.ctx slices_Clone_byte_byte.an Try.f28 [a0] s = slices_Clone_byte_byte.t S a0 s := by kernel_rfl
theorem slices_Clone_byte_byte.cok : CtxOk Try.prog slices_Clone_byte_byte.ctx := .nil
theorem slices_Clone_byte_byte.draws : fnDraws slices_Clone_byte_byte.an Try.f28 = true := by kernel_rfl
theorem slices_Clone_byte_byte.can : callOk Try.prog 28 = true := by kernel_rfl
theorem slices_Clone_byte_byte.sound : FnOk Try.prog 28 (.st slices_Clone_byte_byte.w) := FnOk.st_of (evF_ok slices_Clone_byte_byte.cok mixed (f := 28) (fn := Try.f28) (by kernel_rfl) slices_Clone_byte_byte.draws) fun args s r h => by
  unfold slices_Clone_byte_byte.w at h; split at h
  · rw [slices_Clone_byte_byte.ok std]; exact h
  · simp at h

/-! ### (*leapfrog/scan.Scan).again: function 30 -/
def scan_Scan_again.ctx : Ctx := [(23, .st scan_Scan_ends.w), (22, .st scan_Scan_seeks.w)]
def scan_Scan_again.t (S : Sig) (a0 : Value) (s : St) : Option (Value × St) :=
  S.bd (nck a0) fun x1 => S.bd (fld 19 x1) fun x2 => S.bd (ldc s x2) fun x3 => S.bd (bin .geq x3 (Go.Value.int Go.IntKind.i64 64)) fun x4 => S.cnd x4 (S.bd (bld [(Go.Value.int Go.IntKind.i64 0), (Go.Value.int Go.IntKind.u64 0), (Go.Value.slice Option.none 0 0), (Go.Value.slice Option.none 0 0), (Go.Value.int Go.IntKind.i64 0), (Go.Value.int Go.IntKind.i64 0), (Go.Value.int Go.IntKind.u64 0), (Go.Value.int Go.IntKind.i64 0), (Go.Value.int Go.IntKind.u64 0), (Go.Value.int Go.IntKind.i64 0), (Go.Value.int Go.IntKind.i64 0), (Go.Value.int Go.IntKind.u64 0), (Go.Value.int Go.IntKind.i64 0), (Go.Value.int Go.IntKind.u64 0), (Go.Value.bool Bool.false)] [(0, 1, (Go.Value.int Go.IntKind.i64 121))]) fun x5 => S.bd (scan_Scan_ends.v a0 x5 s) fun r6 => some ((Value.tuple ⟨[]⟩), r6.2)) (S.bd (nck a0) fun x7 => S.bd (fld 19 x7) fun x8 => S.bd (ldc s x8) fun x9 => S.bd (bin .add x9 (Go.Value.int Go.IntKind.i64 1)) fun x10 => S.bd (nck a0) fun x11 => S.bd (fld 19 x11) fun x12 => S.bd (stv s 1 x12 x10) fun s13 => S.bd (scan_Scan_seeks.v a0 s13) fun r14 => S.bd (xtr 0 r14.1) fun x15 => S.bd (xtr 1 r14.1) fun x16 => S.bd (nck a0) fun x17 => S.bd (fld 10 x17) fun x18 => S.bd (stv r14.2 1 x18 x15) fun s19 => S.bd (nck a0) fun x20 => S.bd (fld 16 x20) fun x21 => S.bd (stv s19 1 x21 (Go.Value.bool Bool.false)) fun s22 => some ((Value.tuple ⟨[]⟩), s22))
def scan_Scan_again.v (a0 : Value) (s : St) : Option (Value × St) := scan_Scan_again.t std a0 s
def scan_Scan_again.w : List Value → St → Option (Value × St)
  | [a0], s => scan_Scan_again.v a0 s
  | _, _ => none
def scan_Scan_again.an : An := ⟨28, false, [], [], [], []⟩
theorem scan_Scan_again.ok (S : Sig) (a0 : Value) (s : St) : evF S Try.prog scan_Scan_again.ctx scan_Scan_again.an Try.f30 [a0] s = scan_Scan_again.t S a0 s := by kernel_rfl
theorem scan_Scan_again.cok : CtxOk Try.prog scan_Scan_again.ctx := .cons scan_Scan_ends.sound scan_Scan_ends.can <| .cons scan_Scan_seeks.sound scan_Scan_seeks.can <| .nil
theorem scan_Scan_again.draws : fnDraws scan_Scan_again.an Try.f30 = true := by kernel_rfl
theorem scan_Scan_again.can : callOk Try.prog 30 = true := by kernel_rfl
theorem scan_Scan_again.sound : FnOk Try.prog 30 (.st scan_Scan_again.w) := FnOk.st_of (evF_ok scan_Scan_again.cok mixed (f := 30) (fn := Try.f30) (by kernel_rfl) scan_Scan_again.draws) fun args s r h => by
  unfold scan_Scan_again.w at h; split at h
  · rw [scan_Scan_again.ok std]; exact h
  · simp at h

/-! ### (*leapfrog/scan.Scan).has: function 45 -/
def scan_Scan_has.ctx : Ctx := [(23, .st scan_Scan_ends.w), (28, .st slices_Clone_byte_byte.w), (64, .rd scan_Scan_has_fn1.w), (63, .rd key_Less.w), (44, .st scan_Scan_takes.w), (30, .st scan_Scan_again.w)]
def scan_Scan_has.t.p1 (S : Sig) (r1 : Value × St) (c2 : List Value) : Option Cut :=
  S.bd (ldc r1.2 r1.1) fun x44 => S.bd (nck x44) fun x45 => S.bd (fld 18 x45) fun x46 => S.bd (ldc r1.2 x46) fun x47 => S.bd (lenL x47) fun x48 => S.bd (bin .geq x48 (Go.Value.int Go.IntKind.i64 64)) fun x49 => S.cnd x49 (S.bd (ldc r1.2 r1.1) fun x50 => S.bd (bld [(Go.Value.int Go.IntKind.i64 0), (Go.Value.int Go.IntKind.u64 0), (Go.Value.slice Option.none 0 0), (Go.Value.slice Option.none 0 0), (Go.Value.int Go.IntKind.i64 0), (Go.Value.int Go.IntKind.i64 0), (Go.Value.int Go.IntKind.u64 0), (Go.Value.int Go.IntKind.i64 0), (Go.Value.int Go.IntKind.u64 0), (Go.Value.int Go.IntKind.i64 0), (Go.Value.int Go.IntKind.i64 0), (Go.Value.int Go.IntKind.u64 0), (Go.Value.int Go.IntKind.i64 0), (Go.Value.int Go.IntKind.u64 0), (Go.Value.bool Bool.false)] [(0, 1, (Go.Value.int Go.IntKind.i64 102))]) fun x51 => S.bd (scan_Scan_ends.v x50 x51 r1.2) fun r52 => some (1, [], r52.2)) (S.bd (ldc r1.2 r1.1) fun x53 => S.bd (ldc r1.2 r1.1) fun x54 => S.bd (nck x54) fun x55 => S.bd (fld 18 x55) fun x56 => S.bd (ldc r1.2 x56) fun x57 => S.bd (ldc r1.2 r1.1) fun x58 => S.bd (nck x58) fun x59 => S.bd (fld 11 x59) fun x60 => S.bd (fld 1 x60) fun x61 => S.bd (fld 1 x61) fun x62 => S.bd (ldc r1.2 x62) fun x63 => S.bd (lcl c2 12) fun x64 => S.bd (slices_Clone_byte_byte.v x64 r1.2) fun r65 => S.bd (ldc r65.2 r1.1) fun x66 => S.cnd (Value.bool (sameV x66 x53)) (S.bd (ldc r65.2 r1.1) fun x67 => S.cnd (Value.bool (sameV x67 x54)) (S.bd (ldc r65.2 x56) fun x68 => S.cnd (Value.bool (sameV x68 x57)) (S.bd (ldc r65.2 r1.1) fun x69 => S.cnd (Value.bool (sameV x69 x58)) (S.bd (ldc r65.2 x62) fun x70 => S.cnd (Value.bool (sameV x70 x63)) (S.bd (bld [(Go.Value.int Go.IntKind.u64 0), (Go.Value.slice Option.none 0 0)] [(0, 1, x63), (1, 1, r65.1)]) fun x71 => S.bd (S.bd (bls 2 (List.replicate 1 [(Go.Value.int Go.IntKind.u64 0), (Go.Value.slice Option.none 0 0)]) [(0, x71)]) fun rows => als r65.2 2 1 rows) fun r72 => S.bd (app r72.2 2 32 x57 r72.1) fun r73 => S.bd (ldc r73.2 r1.1) fun x74 => S.cnd (Value.bool (sameV x74 x53)) (S.bd (ldc r73.2 r1.1) fun x75 => S.cnd (Value.bool (sameV x75 x54)) (S.bd (ldc r73.2 r1.1) fun x76 => S.cnd (Value.bool (sameV x76 x58)) (S.bd (ldc r73.2 x62) fun x77 => S.cnd (Value.bool (sameV x77 x63)) (S.bd (nck x53) fun x78 => S.bd (fld 18 x78) fun x79 => S.bd (stv r73.2 1 x79 r73.1) fun s80 => some (0, [r1.1, (Value.agg ⟨c2⟩)], s80)) (none)) (none)) (none)) (none)) (none)) (none)) (none)) (none)) (none))

def scan_Scan_has.t (S : Sig) (a0 a1 : Value) (s : St) : Option (Value × St) :=
  S.bd (alv s a0) fun r1 => S.bd (bx a1) fun c2 => S.bd (show Option Cut from S.bd (lcl c2 1) fun x42 => S.bd (un .not x42) fun x43 => S.cnd x43 (scan_Scan_has.t.p1 S r1 c2) (some (0, [r1.1, (Value.agg ⟨c2⟩)], r1.2))) fun r81 => if r81.1 = 0 then (S.bd (ldc r81.2.2 (r81.2.1.getD 0 undef)) fun x82 => S.bd (callV (scan_Scan_has.ctx) (Value.func (.func 64) ⟨[]⟩ ⟨[(r81.2.1.getD 0 undef)]⟩) [] r81.2.2) fun r83 => S.bd (ldc r83.2 (r81.2.1.getD 0 undef)) fun x84 => S.cnd (Value.bool (sameV x84 x82)) (S.bd (nck x82) fun x85 => S.bd (fld 8 x85) fun x86 => S.bd (stv r83.2 2 x86 r83.1) fun s87 => S.bd (ldc s87 (r81.2.1.getD 0 undef)) fun x88 => S.bd (nck x88) fun x89 => S.bd (fld 11 x89) fun x90 => S.bd (fld 1 x90) fun x91 => S.bd (lda s87 2 x91) fun x92 => S.bd (lal (cellsA (r81.2.1.getD 1 undef)) 8 2) fun x93 => S.bd (key_Less.r x92 x93 s87) fun x94 => S.cnd x94 (S.bd (ldc s87 (r81.2.1.getD 0 undef)) fun x95 => S.bd (lal (cellsA (r81.2.1.getD 1 undef)) 7 5) fun x96 => S.bd (scan_Scan_takes.v x95 x96 (Go.Value.bool Bool.false) s87) fun r97 => some ((Value.tuple ⟨[]⟩), r97.2)) (S.bd (ldc s87 (r81.2.1.getD 0 undef)) fun x98 => S.bd (scan_Scan_again.v x98 s87) fun r99 => some ((Value.tuple ⟨[]⟩), r99.2))) (none)) else (some ((Value.tuple ⟨[]⟩), r81.2.2))
def scan_Scan_has.v (a0 a1 : Value) (s : St) : Option (Value × St) := scan_Scan_has.t std a0 a1 s
def scan_Scan_has.w : List Value → St → Option (Value × St)
  | [a0, a1], s => scan_Scan_has.v a0 a1 s
  | _, _ => none
def scan_Scan_has.an : An := ⟨57, false, [3], [], [(5, ⟨[], [(.normal, [.v 2, .p 3 3 0, .l 3]), (.ret, [])]⟩)], [(4, [(0, 2, [], []), (1, 2, [], []), (2, 0, [], []), (3, 0, [], []), (4, 2, [], []), (5, 2, [], []), (6, 0, [], []), (7, 0, [], []), (8, 0, [], []), (9, 0, [], []), (10, 2, [], []), (11, 0, [], []), (12, 25, [], []), (13, 4, [0, 1, 4, 5, 10], []), (14, 0, [], []), (15, 3, [], []), (16, 4, [0, 1, 5, 10], []), (17, 0, [], []), (18, 0, [], []), (19, 4, [], [])]), (6, [(0, 2, [], []), (1, 0, [], []), (2, 4, [0], []), (3, 0, [], []), (4, 0, [], []), (5, 4, [], [])]), (7, [(0, 2, [], []), (1, 0, [], []), (2, 0, [], []), (3, 0, [], []), (4, 2, [], []), (5, 0, [], []), (6, 0, [], []), (7, 25, [], []), (8, 3, [], [])])]⟩
theorem scan_Scan_has.ok (S : Sig) (a0 a1 : Value) (s : St) : evF S Try.prog scan_Scan_has.ctx scan_Scan_has.an Try.f45 [a0, a1] s = scan_Scan_has.t S a0 a1 s := by kernel_rfl
theorem scan_Scan_has.cok : CtxOk Try.prog scan_Scan_has.ctx := .cons scan_Scan_ends.sound scan_Scan_ends.can <| .cons slices_Clone_byte_byte.sound slices_Clone_byte_byte.can <| .cons scan_Scan_has_fn1.sound scan_Scan_has_fn1.can <| .cons key_Less.sound key_Less.can <| .cons scan_Scan_takes.sound scan_Scan_takes.can <| .cons scan_Scan_again.sound scan_Scan_again.can <| .nil
theorem scan_Scan_has.draws : fnDraws scan_Scan_has.an Try.f45 = true := by kernel_rfl
theorem scan_Scan_has.can : callOk Try.prog 45 = true := by kernel_rfl
theorem scan_Scan_has.sound : FnOk Try.prog 45 (.st scan_Scan_has.w) := FnOk.st_of (evF_ok scan_Scan_has.cok mixed (f := 45) (fn := Try.f45) (by kernel_rfl) scan_Scan_has.draws) fun args s r h => by
  unfold scan_Scan_has.w at h; split at h
  · rw [scan_Scan_has.ok std]; exact h
  · simp at h

/-! ### (*leapfrog/seek.Seek).Dead: function 46 -/
def seek_Seek_Dead.ctx : Ctx := [(41, .rd seek_Seek_is.w), (60, .st seek_Seek_keep.w), (61, .st seek_Seek_counts.w)]
def seek_Seek_Dead.t (S : Sig) (a0 a1 : Value) (s : St) : Option (Value × St) :=
  S.bd (bx a1) fun c1 => S.bd (seek_Seek_is.r a0 s) fun x2 => S.bd (un .not x2) fun x3 => S.bd (S.gd x3 false (some a0)) fun x4 => S.bd (S.gd x3 false (nck x4)) fun x5 => S.bd (S.gd x3 false (fld 24 x5)) fun x6 => S.bd (S.gd x3 false (ldc s x6)) fun x7 => S.bd (S.gd x3 false (un .not x7)) fun x8 => S.bd (pik x3 (Go.Value.bool Bool.true) x8) fun x9 => S.bd (S.gd x9 false (some a0)) fun x10 => S.bd (S.gd x9 false (nck x10)) fun x11 => S.bd (S.gd x9 false (fld 25 x11)) fun x12 => S.bd (S.gd x9 false (fld 0 x12)) fun x13 => S.bd (S.gd x9 false (ldc s x13)) fun x14 => S.bd (S.gd x9 false (eqb [1] false true x14 (Go.Value.int Go.IntKind.i64 0))) fun x15 => S.bd (pik x9 (Go.Value.bool Bool.true) x15) fun x16 => S.cnd x16 (some ((Value.tuple ⟨[]⟩), s)) (S.bd (nck a0) fun x17 => S.bd (fld 25 x17) fun x18 => S.bd (fld 9 x18) fun x19 => S.bd (lda s 5 x19) fun x20 => S.bd (lal c1 0 13) fun x21 => S.bd (seek_Seek_keep.v a0 x20 x21 s) fun r22 => S.bd (bld [(Go.Value.int Go.IntKind.i64 0), (Go.Value.int Go.IntKind.u64 0), (Go.Value.slice Option.none 0 0), (Go.Value.slice Option.none 0 0), (Go.Value.int Go.IntKind.i64 0), (Go.Value.int Go.IntKind.i64 0), (Go.Value.int Go.IntKind.u64 0), (Go.Value.int Go.IntKind.i64 0), (Go.Value.int Go.IntKind.u64 0), (Go.Value.int Go.IntKind.i64 0), (Go.Value.int Go.IntKind.i64 0), (Go.Value.int Go.IntKind.u64 0), (Go.Value.int Go.IntKind.i64 0), (Go.Value.int Go.IntKind.u64 0), (Go.Value.bool Bool.false)] []) fun x23 => S.bd (nck a0) fun x24 => S.bd (fld 24 x24) fun x25 => S.bd (stv r22.2 1 x25 (Go.Value.bool Bool.false)) fun s26 => S.bd (nck a0) fun x27 => S.bd (fld 25 x27) fun x28 => S.bd (stv s26 15 x28 x23) fun s29 => S.bd (seek_Seek_counts.v a0 s29) fun r30 => some ((Value.tuple ⟨[]⟩), r30.2))
def seek_Seek_Dead.v (a0 a1 : Value) (s : St) : Option (Value × St) := seek_Seek_Dead.t std a0 a1 s
def seek_Seek_Dead.w : List Value → St → Option (Value × St)
  | [a0, a1], s => seek_Seek_Dead.v a0 a1 s
  | _, _ => none
def seek_Seek_Dead.an : An := ⟨39, false, [3], [], [], [(2, [(0, 0, [], []), (1, 0, [], []), (2, 0, [], []), (3, 0, [], []), (4, 0, [], []), (5, 2, [], []), (6, 25, [], []), (7, 4, [], [])])]⟩
theorem seek_Seek_Dead.ok (S : Sig) (a0 a1 : Value) (s : St) : evF S Try.prog seek_Seek_Dead.ctx seek_Seek_Dead.an Try.f46 [a0, a1] s = seek_Seek_Dead.t S a0 a1 s := by kernel_rfl
theorem seek_Seek_Dead.cok : CtxOk Try.prog seek_Seek_Dead.ctx := .cons seek_Seek_is.sound seek_Seek_is.can <| .cons seek_Seek_keep.sound seek_Seek_keep.can <| .cons seek_Seek_counts.sound seek_Seek_counts.can <| .nil
theorem seek_Seek_Dead.draws : fnDraws seek_Seek_Dead.an Try.f46 = true := by kernel_rfl
theorem seek_Seek_Dead.can : callOk Try.prog 46 = true := by kernel_rfl
theorem seek_Seek_Dead.sound : FnOk Try.prog 46 (.st seek_Seek_Dead.w) := FnOk.st_of (evF_ok seek_Seek_Dead.cok mixed (f := 46) (fn := Try.f46) (by kernel_rfl) seek_Seek_Dead.draws) fun args s r h => by
  unfold seek_Seek_Dead.w at h; split at h
  · rw [seek_Seek_Dead.ok std]; exact h
  · simp at h

/-! ### (*leapfrog/scan.Scan).got: function 27 -/
def scan_Scan_got.ctx : Ctx := [(45, .st scan_Scan_has.w), (46, .st seek_Seek_Dead.w), (26, .st scan_Scan_found.w)]
def scan_Scan_got.t (S : Sig) (a0 a1 : Value) (s : St) : Option (Value × St) :=
  S.bd (bx a1) fun c1 => S.bd (lcl c1 0) fun x2 => S.bd (show Option Cut from S.bd (eqb [1] false false x2 (Go.Value.int Go.IntKind.i64 1)) fun x19 => S.cnd x19 (S.bd (lal c1 0 13) fun x20 => S.bd (scan_Scan_has.v a0 x20 s) fun r21 => some (0, [], r21.2)) (S.bd (eqb [1] false false x2 (Go.Value.int Go.IntKind.i64 3)) fun x22 => S.cnd x22 (S.bd (nck a0) fun x23 => S.bd (fld 16 x23) fun x24 => S.bd (ldc s x24) fun x25 => S.cnd x25 (S.bd (nck a0) fun x26 => S.bd (fld 10 x26) fun x27 => S.bd (ldc s x27) fun x28 => S.bd (lal c1 0 13) fun x29 => S.bd (seek_Seek_Dead.v x28 x29 s) fun r30 => S.bd (nck a0) fun x31 => S.bd (fld 16 x31) fun x32 => S.bd (stv r30.2 1 x32 (Go.Value.bool Bool.false)) fun s33 => S.bd (scan_Scan_found.v a0 s33) fun r34 => some (2, [], r34.2)) (some (1, [a0], s))) (some (1, [a0], s)))) fun r35 => if r35.1 = 0 then (some ((Value.tuple ⟨[]⟩), r35.2.2)) else (if r35.1 = 1 then (S.bd (nck (r35.2.1.getD 0 undef)) fun x36 => S.bd (fld 17 x36) fun x37 => S.bd (stv r35.2.2 1 x37 (Go.Value.bool Bool.true)) fun s38 => some ((Value.tuple ⟨[]⟩), s38)) else (some ((Value.tuple ⟨[]⟩), r35.2.2)))
def scan_Scan_got.v (a0 a1 : Value) (s : St) : Option (Value × St) := scan_Scan_got.t std a0 a1 s
def scan_Scan_got.w : List Value → St → Option (Value × St)
  | [a0, a1], s => scan_Scan_got.v a0 a1 s
  | _, _ => none
def scan_Scan_got.an : An := ⟨31, false, [3], [], [(9, ⟨[], [(.exit 0, []), (.normal, [.v 0]), (.ret, [])]⟩)], [(6, [(0, 0, [], []), (1, 0, [], []), (2, 0, [], []), (3, 2, [], []), (4, 25, [], []), (5, 4, [], [])])]⟩
theorem scan_Scan_got.ok (S : Sig) (a0 a1 : Value) (s : St) : evF S Try.prog scan_Scan_got.ctx scan_Scan_got.an Try.f27 [a0, a1] s = scan_Scan_got.t S a0 a1 s := by kernel_rfl
theorem scan_Scan_got.cok : CtxOk Try.prog scan_Scan_got.ctx := .cons scan_Scan_has.sound scan_Scan_has.can <| .cons seek_Seek_Dead.sound seek_Seek_Dead.can <| .cons scan_Scan_found.sound scan_Scan_found.can <| .nil
theorem scan_Scan_got.draws : fnDraws scan_Scan_got.an Try.f27 = true := by kernel_rfl
theorem scan_Scan_got.can : callOk Try.prog 27 = true := by kernel_rfl
theorem scan_Scan_got.sound : FnOk Try.prog 27 (.st scan_Scan_got.w) := FnOk.st_of (evF_ok scan_Scan_got.cok mixed (f := 27) (fn := Try.f27) (by kernel_rfl) scan_Scan_got.draws) fun args s r h => by
  unfold scan_Scan_got.w at h; split at h
  · rw [scan_Scan_got.ok std]; exact h
  · simp at h

/-! ### (*leapfrog/scan.Scan).Tell: function 12 -/
def scan_Scan_Tell.ctx : Ctx := [(24, .rd scan_Scan_is.w), (25, .st seek_Seek_Tell.w), (26, .st scan_Scan_found.w), (27, .st scan_Scan_got.w)]
def scan_Scan_Tell.t (S : Sig) (a0 a1 : Value) (s : St) : Option (Value × St) :=
  S.bd (bx a1) fun c1 => S.bd (scan_Scan_is.r a0 s) fun x2 => S.bd (un .not x2) fun x3 => S.bd (S.gd x3 false (some a0)) fun x4 => S.bd (S.gd x3 false (nck x4)) fun x5 => S.bd (S.gd x3 false (fld 20 x5)) fun x6 => S.bd (S.gd x3 false (ldc s x6)) fun x7 => S.bd (pik x3 (Go.Value.bool Bool.true) x7) fun x8 => S.bd (S.gd x8 false (some a0)) fun x9 => S.bd (S.gd x8 false (nck x9)) fun x10 => S.bd (S.gd x8 false (fld 17 x10)) fun x11 => S.bd (S.gd x8 false (ldc s x11)) fun x12 => S.bd (pik x8 (Go.Value.bool Bool.true) x12) fun x13 => S.cnd x13 (some ((Value.tuple ⟨[]⟩), s)) (S.bd (nck a0) fun x14 => S.bd (fld 10 x14) fun x15 => S.bd (ldc s x15) fun x16 => S.bd (eqb [3] false true x16 (Go.Value.pointer Option.none)) fun x17 => S.bd (S.gd x17 true (some a0)) fun x18 => S.bd (S.gd x17 true (nck x18)) fun x19 => S.bd (S.gd x17 true (fld 16 x19)) fun x20 => S.bd (S.gd x17 true (ldc s x20)) fun x21 => S.bd (S.gd x17 true (un .not x21)) fun x22 => S.bd (pik x17 x22 (Go.Value.bool Bool.false)) fun x23 => S.cnd x23 (S.bd (nck a0) fun x24 => S.bd (fld 10 x24) fun x25 => S.bd (ldc s x25) fun x26 => S.bd (lal c1 0 13) fun x27 => S.bd (seek_Seek_Tell.v x26 x27 s) fun r28 => S.bd (scan_Scan_found.v a0 r28.2) fun r29 => some ((Value.tuple ⟨[]⟩), r29.2)) (S.bd (lal c1 0 13) fun x30 => S.bd (scan_Scan_got.v a0 x30 s) fun r31 => some ((Value.tuple ⟨[]⟩), r31.2)))
def scan_Scan_Tell.v (a0 a1 : Value) (s : St) : Option (Value × St) := scan_Scan_Tell.t std a0 a1 s
def scan_Scan_Tell.w : List Value → St → Option (Value × St)
  | [a0, a1], s => scan_Scan_Tell.v a0 a1 s
  | _, _ => none
def scan_Scan_Tell.an : An := ⟨44, false, [3], [], [], [(4, [(0, 0, [], []), (1, 0, [], []), (2, 0, [], []), (3, 2, [], []), (4, 25, [], []), (5, 4, [], [])])]⟩
theorem scan_Scan_Tell.ok (S : Sig) (a0 a1 : Value) (s : St) : evF S Try.prog scan_Scan_Tell.ctx scan_Scan_Tell.an Try.f12 [a0, a1] s = scan_Scan_Tell.t S a0 a1 s := by kernel_rfl
theorem scan_Scan_Tell.cok : CtxOk Try.prog scan_Scan_Tell.ctx := .cons scan_Scan_is.sound scan_Scan_is.can <| .cons seek_Seek_Tell.sound seek_Seek_Tell.can <| .cons scan_Scan_found.sound scan_Scan_found.can <| .cons scan_Scan_got.sound scan_Scan_got.can <| .nil
theorem scan_Scan_Tell.draws : fnDraws scan_Scan_Tell.an Try.f12 = true := by kernel_rfl
theorem scan_Scan_Tell.can : callOk Try.prog 12 = true := by kernel_rfl
theorem scan_Scan_Tell.sound : FnOk Try.prog 12 (.st scan_Scan_Tell.w) := FnOk.st_of (evF_ok scan_Scan_Tell.cok mixed (f := 12) (fn := Try.f12) (by kernel_rfl) scan_Scan_Tell.draws) fun args s r h => by
  unfold scan_Scan_Tell.w at h; split at h
  · rw [scan_Scan_Tell.ok std]; exact h
  · simp at h

/-! ### (*leapfrog/scan.Scan).Next: function 13 -/
def scan_Scan_Next.ctx : Ctx := [(24, .rd scan_Scan_is.w), (28, .st slices_Clone_byte_byte.w), (29, .rd seek_Seek_Next.w)]
def scan_Scan_Next.l7 (S : Sig) (rec37 : List Value → St → Option Cut) (xs35 : List Value) (s36 : St) : Option Cut :=
  S.bd (bin .lss (xs35.getD 2 undef) (xs35.getD 1 undef)) fun x38 => S.cnd x38 (S.bd (idx s36 2 (xs35.getD 0 undef) (xs35.getD 2 undef)) fun x39 => S.bd (lda s36 2 x39) fun x40 => S.bd (bx (Go.Value.agg #[(Go.Value.int Go.IntKind.u64 0), (Go.Value.slice Option.none 0 0)])) fun c41 => S.bd (stl c41 0 2 x40) fun c42 => S.bd (lcl (cellsA (xs35.getD 4 undef)) 3) fun x43 => S.bd (lcl c42 0) fun x44 => S.bd (lcl c42 1) fun x45 => S.bd (slices_Clone_byte_byte.v x45 s36) fun r46 => S.bd (bld [(Go.Value.int Go.IntKind.u64 0), (Go.Value.slice Option.none 0 0)] [(0, 1, x44), (1, 1, r46.1)]) fun x47 => S.bd (S.bd (bls 2 (List.replicate 1 [(Go.Value.int Go.IntKind.u64 0), (Go.Value.slice Option.none 0 0)]) [(0, x47)]) fun rows => als r46.2 2 1 rows) fun r48 => S.bd (app r48.2 2 32 x43 r48.1) fun r49 => S.bd (stl (cellsA (xs35.getD 4 undef)) 3 1 r49.1) fun c50 => S.bd (bin .add (xs35.getD 2 undef) (Go.Value.int Go.IntKind.i64 1)) fun x51 => rec37 [(xs35.getD 0 undef), (xs35.getD 1 undef), x51, (Value.agg ⟨(cellsA (xs35.getD 3 undef))⟩), (Value.agg ⟨c50⟩)] r49.2) (some (0, [(Value.agg ⟨(cellsA (xs35.getD 3 undef))⟩), (Value.agg ⟨(cellsA (xs35.getD 4 undef))⟩)], s36))

def scan_Scan_Next.t.p1 (S : Sig) (a0 : Value) (s : St) (c1 : List Value) : Option (Value × St) :=
  S.bd (nck a0) fun x10 => S.bd (fld 21 x10) fun x11 => S.bd (lda s 15 x11) fun x12 => S.bd (bx (Go.Value.agg #[(Go.Value.int Go.IntKind.i64 0), (Go.Value.int Go.IntKind.u64 0), (Go.Value.slice Option.none 0 0), (Go.Value.slice Option.none 0 0), (Go.Value.int Go.IntKind.i64 0), (Go.Value.int Go.IntKind.i64 0), (Go.Value.int Go.IntKind.u64 0), (Go.Value.int Go.IntKind.i64 0), (Go.Value.int Go.IntKind.u64 0), (Go.Value.int Go.IntKind.i64 0), (Go.Value.int Go.IntKind.i64 0), (Go.Value.int Go.IntKind.u64 0), (Go.Value.int Go.IntKind.i64 0), (Go.Value.int Go.IntKind.u64 0), (Go.Value.bool Bool.false)])) fun c13 => S.bd (stl c13 0 15 x12) fun c14 => S.bd (stl c14 3 1 (Go.Value.slice Option.none 0 0)) fun c15 => S.bd (nck a0) fun x16 => S.bd (fld 21 x16) fun x17 => S.bd (fld 3 x17) fun x18 => S.bd (ldc s x18) fun x19 => S.bd (lenL x19) fun x20 => S.bd (S.it (scan_Scan_Next.l7 S) [x19, x20, (Go.Value.int Go.IntKind.i64 0), (Value.agg ⟨c1⟩), (Value.agg ⟨c15⟩)] s) fun r52 => S.bd (lal (cellsA (r52.2.1.getD 1 undef)) 0 15) fun x53 => S.bd (bld [(Go.Value.int Go.IntKind.i64 0), (Go.Value.int Go.IntKind.i64 0), (Go.Value.int Go.IntKind.i64 0), (Go.Value.int Go.IntKind.u64 0), (Go.Value.int Go.IntKind.i64 0), (Go.Value.int Go.IntKind.u64 0), (Go.Value.int Go.IntKind.i64 0), (Go.Value.int Go.IntKind.i64 0), (Go.Value.int Go.IntKind.u64 0), (Go.Value.int Go.IntKind.i64 0), (Go.Value.int Go.IntKind.i64 0), (Go.Value.int Go.IntKind.u64 0), (Go.Value.int Go.IntKind.i64 0), (Go.Value.int Go.IntKind.u64 0), (Go.Value.int Go.IntKind.i64 0), (Go.Value.int Go.IntKind.i64 0), (Go.Value.int Go.IntKind.u64 0), (Go.Value.int Go.IntKind.i64 0), (Go.Value.int Go.IntKind.u64 0), (Go.Value.int Go.IntKind.i64 0), (Go.Value.int Go.IntKind.i64 0), (Go.Value.int Go.IntKind.i64 0), (Go.Value.int Go.IntKind.u64 0), (Go.Value.slice Option.none 0 0), (Go.Value.slice Option.none 0 0), (Go.Value.int Go.IntKind.i64 0), (Go.Value.int Go.IntKind.i64 0), (Go.Value.int Go.IntKind.u64 0), (Go.Value.int Go.IntKind.i64 0), (Go.Value.int Go.IntKind.u64 0), (Go.Value.int Go.IntKind.i64 0), (Go.Value.int Go.IntKind.i64 0), (Go.Value.int Go.IntKind.u64 0), (Go.Value.int Go.IntKind.i64 0), (Go.Value.int Go.IntKind.u64 0), (Go.Value.bool Bool.false)] [(0, 1, (Go.Value.int Go.IntKind.i64 3)), (21, 15, x53)]) fun x54 => S.bd (stl (cellsA (r52.2.1.getD 0 undef)) 0 36 x54) fun c55 => S.bd (lal c55 0 36) fun x56 => some (x56, r52.2.2)

def scan_Scan_Next.t.p2 (S : Sig) (a0 : Value) (s : St) (c1 : List Value) : Option (Value × St) :=
  S.bd (nck a0) fun x79 => S.bd (fld 11 x79) fun x80 => S.bd (lda s 5 x80) fun x81 => S.bd (bld [(Go.Value.int Go.IntKind.i64 0), (Go.Value.int Go.IntKind.i64 0), (Go.Value.int Go.IntKind.u64 0), (Go.Value.int Go.IntKind.i64 0), (Go.Value.int Go.IntKind.i64 0), (Go.Value.int Go.IntKind.u64 0), (Go.Value.int Go.IntKind.i64 0), (Go.Value.int Go.IntKind.u64 0), (Go.Value.int Go.IntKind.i64 0), (Go.Value.int Go.IntKind.i64 0), (Go.Value.int Go.IntKind.u64 0), (Go.Value.int Go.IntKind.i64 0), (Go.Value.int Go.IntKind.u64 0), (Go.Value.int Go.IntKind.i64 0), (Go.Value.int Go.IntKind.i64 0)] [(0, 1, (Go.Value.int Go.IntKind.i64 2))]) fun x82 => S.bd (bld [(Go.Value.int Go.IntKind.i64 0), (Go.Value.int Go.IntKind.i64 0), (Go.Value.int Go.IntKind.i64 0), (Go.Value.int Go.IntKind.u64 0), (Go.Value.int Go.IntKind.i64 0), (Go.Value.int Go.IntKind.u64 0), (Go.Value.int Go.IntKind.i64 0), (Go.Value.int Go.IntKind.i64 0), (Go.Value.int Go.IntKind.u64 0), (Go.Value.int Go.IntKind.i64 0), (Go.Value.int Go.IntKind.i64 0), (Go.Value.int Go.IntKind.u64 0), (Go.Value.int Go.IntKind.i64 0), (Go.Value.int Go.IntKind.u64 0), (Go.Value.int Go.IntKind.i64 0), (Go.Value.int Go.IntKind.i64 0), (Go.Value.int Go.IntKind.u64 0), (Go.Value.int Go.IntKind.i64 0), (Go.Value.int Go.IntKind.u64 0), (Go.Value.int Go.IntKind.i64 0), (Go.Value.int Go.IntKind.i64 0), (Go.Value.int Go.IntKind.i64 0), (Go.Value.int Go.IntKind.u64 0), (Go.Value.slice Option.none 0 0), (Go.Value.slice Option.none 0 0), (Go.Value.int Go.IntKind.i64 0), (Go.Value.int Go.IntKind.i64 0), (Go.Value.int Go.IntKind.u64 0), (Go.Value.int Go.IntKind.i64 0), (Go.Value.int Go.IntKind.u64 0), (Go.Value.int Go.IntKind.i64 0), (Go.Value.int Go.IntKind.i64 0), (Go.Value.int Go.IntKind.u64 0), (Go.Value.int Go.IntKind.i64 0), (Go.Value.int Go.IntKind.u64 0), (Go.Value.bool Bool.false)] [(0, 1, (Go.Value.int Go.IntKind.i64 1)), (1, 5, x81), (6, 15, x82)]) fun x83 => S.bd (stl c1 0 36 x83) fun c84 => S.bd (lal c84 0 36) fun x85 => some (x85, s)

def scan_Scan_Next.t.p3 (S : Sig) (a0 : Value) (s : St) (c1 : List Value) : Option (Value × St) :=
  S.bd (nck a0) fun x57 => S.bd (fld 17 x57) fun x58 => S.bd (ldc s x58) fun x59 => S.cnd x59 (S.bd (bld [(Go.Value.int Go.IntKind.i64 0), (Go.Value.int Go.IntKind.i64 0), (Go.Value.int Go.IntKind.i64 0), (Go.Value.int Go.IntKind.u64 0), (Go.Value.int Go.IntKind.i64 0), (Go.Value.int Go.IntKind.u64 0), (Go.Value.int Go.IntKind.i64 0), (Go.Value.int Go.IntKind.i64 0), (Go.Value.int Go.IntKind.u64 0), (Go.Value.int Go.IntKind.i64 0), (Go.Value.int Go.IntKind.i64 0), (Go.Value.int Go.IntKind.u64 0), (Go.Value.int Go.IntKind.i64 0), (Go.Value.int Go.IntKind.u64 0), (Go.Value.int Go.IntKind.i64 0), (Go.Value.int Go.IntKind.i64 0), (Go.Value.int Go.IntKind.u64 0), (Go.Value.int Go.IntKind.i64 0), (Go.Value.int Go.IntKind.u64 0), (Go.Value.int Go.IntKind.i64 0), (Go.Value.int Go.IntKind.i64 0), (Go.Value.int Go.IntKind.i64 0), (Go.Value.int Go.IntKind.u64 0), (Go.Value.slice Option.none 0 0), (Go.Value.slice Option.none 0 0), (Go.Value.int Go.IntKind.i64 0), (Go.Value.int Go.IntKind.i64 0), (Go.Value.int Go.IntKind.u64 0), (Go.Value.int Go.IntKind.i64 0), (Go.Value.int Go.IntKind.u64 0), (Go.Value.int Go.IntKind.i64 0), (Go.Value.int Go.IntKind.i64 0), (Go.Value.int Go.IntKind.u64 0), (Go.Value.int Go.IntKind.i64 0), (Go.Value.int Go.IntKind.u64 0), (Go.Value.bool Bool.false)] [(0, 1, (Go.Value.int Go.IntKind.i64 2))]) fun x60 => S.bd (stl c1 0 36 x60) fun c61 => S.bd (lal c61 0 36) fun x62 => some (x62, s)) (S.bd (nck a0) fun x63 => S.bd (fld 10 x63) fun x64 => S.bd (ldc s x64) fun x65 => S.bd (eqb [3] false true x65 (Go.Value.pointer Option.none)) fun x66 => S.bd (S.gd x66 true (some a0)) fun x67 => S.bd (S.gd x66 true (nck x67)) fun x68 => S.bd (S.gd x66 true (fld 16 x68)) fun x69 => S.bd (S.gd x66 true (ldc s x69)) fun x70 => S.bd (S.gd x66 true (un .not x70)) fun x71 => S.bd (pik x66 x71 (Go.Value.bool Bool.false)) fun x72 => S.cnd x72 (S.bd (nck a0) fun x73 => S.bd (fld 10 x73) fun x74 => S.bd (ldc s x74) fun x75 => S.bd (seek_Seek_Next.r x75 s) fun x76 => S.bd (stl c1 0 36 x76) fun c77 => S.bd (lal c77 0 36) fun x78 => some (x78, s)) (scan_Scan_Next.t.p2 S a0 s c1))

def scan_Scan_Next.t (S : Sig) (a0 : Value) (s : St) : Option (Value × St) :=
  S.bd (bx (Go.Value.agg #[(Go.Value.int Go.IntKind.i64 0), (Go.Value.int Go.IntKind.i64 0), (Go.Value.int Go.IntKind.i64 0), (Go.Value.int Go.IntKind.u64 0), (Go.Value.int Go.IntKind.i64 0), (Go.Value.int Go.IntKind.u64 0), (Go.Value.int Go.IntKind.i64 0), (Go.Value.int Go.IntKind.i64 0), (Go.Value.int Go.IntKind.u64 0), (Go.Value.int Go.IntKind.i64 0), (Go.Value.int Go.IntKind.i64 0), (Go.Value.int Go.IntKind.u64 0), (Go.Value.int Go.IntKind.i64 0), (Go.Value.int Go.IntKind.u64 0), (Go.Value.int Go.IntKind.i64 0), (Go.Value.int Go.IntKind.i64 0), (Go.Value.int Go.IntKind.u64 0), (Go.Value.int Go.IntKind.i64 0), (Go.Value.int Go.IntKind.u64 0), (Go.Value.int Go.IntKind.i64 0), (Go.Value.int Go.IntKind.i64 0), (Go.Value.int Go.IntKind.i64 0), (Go.Value.int Go.IntKind.u64 0), (Go.Value.slice Option.none 0 0), (Go.Value.slice Option.none 0 0), (Go.Value.int Go.IntKind.i64 0), (Go.Value.int Go.IntKind.i64 0), (Go.Value.int Go.IntKind.u64 0), (Go.Value.int Go.IntKind.i64 0), (Go.Value.int Go.IntKind.u64 0), (Go.Value.int Go.IntKind.i64 0), (Go.Value.int Go.IntKind.i64 0), (Go.Value.int Go.IntKind.u64 0), (Go.Value.int Go.IntKind.i64 0), (Go.Value.int Go.IntKind.u64 0), (Go.Value.bool Bool.false)])) fun c1 => S.bd (scan_Scan_is.r a0 s) fun x2 => S.bd (un .not x2) fun x3 => S.cnd x3 (S.bd (bld [(Go.Value.int Go.IntKind.i64 0), (Go.Value.int Go.IntKind.i64 0), (Go.Value.int Go.IntKind.i64 0), (Go.Value.int Go.IntKind.u64 0), (Go.Value.int Go.IntKind.i64 0), (Go.Value.int Go.IntKind.u64 0), (Go.Value.int Go.IntKind.i64 0), (Go.Value.int Go.IntKind.i64 0), (Go.Value.int Go.IntKind.u64 0), (Go.Value.int Go.IntKind.i64 0), (Go.Value.int Go.IntKind.i64 0), (Go.Value.int Go.IntKind.u64 0), (Go.Value.int Go.IntKind.i64 0), (Go.Value.int Go.IntKind.u64 0), (Go.Value.int Go.IntKind.i64 0), (Go.Value.int Go.IntKind.i64 0), (Go.Value.int Go.IntKind.u64 0), (Go.Value.int Go.IntKind.i64 0), (Go.Value.int Go.IntKind.u64 0), (Go.Value.int Go.IntKind.i64 0), (Go.Value.int Go.IntKind.i64 0), (Go.Value.int Go.IntKind.i64 0), (Go.Value.int Go.IntKind.u64 0), (Go.Value.slice Option.none 0 0), (Go.Value.slice Option.none 0 0), (Go.Value.int Go.IntKind.i64 0), (Go.Value.int Go.IntKind.i64 0), (Go.Value.int Go.IntKind.u64 0), (Go.Value.int Go.IntKind.i64 0), (Go.Value.int Go.IntKind.u64 0), (Go.Value.int Go.IntKind.i64 0), (Go.Value.int Go.IntKind.i64 0), (Go.Value.int Go.IntKind.u64 0), (Go.Value.int Go.IntKind.i64 0), (Go.Value.int Go.IntKind.u64 0), (Go.Value.bool Bool.false)] []) fun x4 => S.bd (stl c1 0 36 x4) fun c5 => S.bd (lal c5 0 36) fun x6 => some (x6, s)) (S.bd (nck a0) fun x7 => S.bd (fld 20 x7) fun x8 => S.bd (ldc s x8) fun x9 => S.cnd x9 (scan_Scan_Next.t.p1 S a0 s c1) (scan_Scan_Next.t.p3 S a0 s c1))
def scan_Scan_Next.v (a0 : Value) (s : St) : Option (Value × St) := scan_Scan_Next.t std a0 s
def scan_Scan_Next.w : List Value → St → Option (Value × St)
  | [a0], s => scan_Scan_Next.v a0 s
  | _, _ => none
def scan_Scan_Next.an : An := ⟨75, false, [2, 3, 5], [(7, ⟨[.p 2 2 0, .p 3 3 0, .v 25, .v 26, .v 27, .l 2, .l 3], [(.exit 1, [.p 2 2 0, .p 3 3 0, .l 2, .l 3])]⟩)], [], [(9, [(0, 0, [], []), (1, 25, [], []), (2, 0, [], []), (3, 41, [], []), (4, 0, [], []), (5, 41, [], []), (6, 4, [], []), (7, 0, [], []), (8, 3, [], []), (9, 4, [], []), (10, 0, [], []), (11, 29, [], [])])]⟩
theorem scan_Scan_Next.ok (S : Sig) (a0 : Value) (s : St) : evF S Try.prog scan_Scan_Next.ctx scan_Scan_Next.an Try.f13 [a0] s = scan_Scan_Next.t S a0 s := by kernel_rfl
theorem scan_Scan_Next.cok : CtxOk Try.prog scan_Scan_Next.ctx := .cons scan_Scan_is.sound scan_Scan_is.can <| .cons slices_Clone_byte_byte.sound slices_Clone_byte_byte.can <| .cons seek_Seek_Next.sound seek_Seek_Next.can <| .nil
theorem scan_Scan_Next.draws : fnDraws scan_Scan_Next.an Try.f13 = true := by kernel_rfl
theorem scan_Scan_Next.can : callOk Try.prog 13 = true := by kernel_rfl
theorem scan_Scan_Next.sound : FnOk Try.prog 13 (.st scan_Scan_Next.w) := FnOk.st_of (evF_ok scan_Scan_Next.cok mixed (f := 13) (fn := Try.f13) (by kernel_rfl) scan_Scan_Next.draws) fun args s r h => by
  unfold scan_Scan_Next.w at h; split at h
  · rw [scan_Scan_Next.ok std]; exact h
  · simp at h

/-! ### leapfrog/leapfrogref12.Tail: function 10 -/
def leapfrogref12x_Tail.ctx : Ctx := []
def leapfrogref12x_Tail.t (S : Sig) (a0 : Value) (s : St) : Option Value :=
  S.bd (bx (Go.Value.agg #[(Go.Value.int Go.IntKind.i64 0), (Go.Value.int Go.IntKind.i64 0), (Go.Value.int Go.IntKind.u64 0), (Go.Value.int Go.IntKind.i64 0), (Go.Value.int Go.IntKind.u64 0)])) fun c1 => S.bd (bld [(Go.Value.int Go.IntKind.i64 0), (Go.Value.int Go.IntKind.u64 0)] [(0, 1, (Go.Value.int Go.IntKind.i64 3))]) fun x2 => S.bd (bld [(Go.Value.int Go.IntKind.i64 0), (Go.Value.int Go.IntKind.u64 0)] [(0, 1, a0)]) fun x3 => S.bd (bld [(Go.Value.int Go.IntKind.i64 0), (Go.Value.int Go.IntKind.i64 0), (Go.Value.int Go.IntKind.u64 0), (Go.Value.int Go.IntKind.i64 0), (Go.Value.int Go.IntKind.u64 0)] [(0, 1, (Go.Value.int Go.IntKind.i64 1)), (1, 2, x2), (3, 2, x3)]) fun x4 => S.bd (stl c1 0 5 x4) fun c5 => S.bd (lal c5 0 5) fun x6 => some (x6)
def leapfrogref12x_Tail.r (a0 : Value) (s : St) : Option Value := leapfrogref12x_Tail.t std a0 s
def leapfrogref12x_Tail.w : List Value → St → Option Value
  | [a0], s => leapfrogref12x_Tail.r a0 s
  | _, _ => none
def leapfrogref12x_Tail.an : An := ⟨7, true, [2], [], [], []⟩
theorem leapfrogref12x_Tail.ok (S : Sig) (a0 : Value) (s : St) : evG S Try.prog leapfrogref12x_Tail.ctx leapfrogref12x_Tail.an Try.f10 [a0] s = leapfrogref12x_Tail.t S a0 s := by kernel_rfl
theorem leapfrogref12x_Tail.cok : CtxOk Try.prog leapfrogref12x_Tail.ctx := .nil
theorem leapfrogref12x_Tail.draws : fnDraws leapfrogref12x_Tail.an Try.f10 = true := by kernel_rfl
theorem leapfrogref12x_Tail.can : callOk Try.prog 10 = true := by kernel_rfl
theorem leapfrogref12x_Tail.sound : FnOk Try.prog 10 (.rd leapfrogref12x_Tail.w) := FnOk.rd_of (evG_ok leapfrogref12x_Tail.cok mixed (f := 10) (fn := Try.f10) (by kernel_rfl) leapfrogref12x_Tail.draws) fun args s r h => by
  unfold leapfrogref12x_Tail.w at h; split at h
  · rw [leapfrogref12x_Tail.ok std]; exact h
  · simp at h

/-! ### leapfrog/leapfroglaw18.awake: function 7 -/
def leapfroglaw18x_awake.ctx : Ctx := [(9, .rd leapfrogref12x_Head.w), (8, .st scan_New.w), (11, .rd leapfrogref02x_At.w), (12, .st scan_Scan_Tell.w), (13, .st scan_Scan_Next.w), (10, .rd leapfrogref12x_Tail.w)]
def leapfroglaw18x_awake.t.p1 (S : Sig) (c18 : List Value) (r17 : Value × St) (x4 : Value) (c13 : List Value) : Option (Value × St) :=
  S.bd (stl c18 0 36 r17.1) fun c19 => S.bd (leapfrogref12x_Tail.r (Go.Value.int Go.IntKind.i64 0) r17.2) fun x20 => S.bd (S.bd (bls 1 (List.replicate 1 [(Go.Value.int Go.IntKind.u8 0)]) [(0, (Go.Value.int Go.IntKind.u8 118))]) fun rows => als r17.2 1 1 rows) fun r21 => S.bd (cvl r21.2 r21.1) fun r22 => S.bd (bld [(Go.Value.int Go.IntKind.i64 0), (Go.Value.bool Bool.false), (Go.Value.int Go.IntKind.i64 0), (Go.Value.int Go.IntKind.i64 0), (Go.Value.int Go.IntKind.u64 0), (Go.Value.int Go.IntKind.i64 0), (Go.Value.int Go.IntKind.u64 0), (Go.Value.int Go.IntKind.i64 0), (Go.Value.int Go.IntKind.i64 0), (Go.Value.int Go.IntKind.u64 0), (Go.Value.int Go.IntKind.i64 0), (Go.Value.int Go.IntKind.u64 0), (Go.Value.slice Option.none 0 0)] [(0, 1, (Go.Value.int Go.IntKind.i64 1)), (7, 5, x20), (12, 1, r22.1)]) fun x23 => S.bd (scan_Scan_Tell.v x4 x23 r22.2) fun r24 => S.bd (scan_Scan_Next.v x4 r24.2) fun r25 => S.bd (bx (Go.Value.agg #[(Go.Value.int Go.IntKind.i64 0), (Go.Value.int Go.IntKind.i64 0), (Go.Value.int Go.IntKind.i64 0), (Go.Value.int Go.IntKind.u64 0), (Go.Value.int Go.IntKind.i64 0), (Go.Value.int Go.IntKind.u64 0), (Go.Value.int Go.IntKind.i64 0), (Go.Value.int Go.IntKind.i64 0), (Go.Value.int Go.IntKind.u64 0), (Go.Value.int Go.IntKind.i64 0), (Go.Value.int Go.IntKind.i64 0), (Go.Value.int Go.IntKind.u64 0), (Go.Value.int Go.IntKind.i64 0), (Go.Value.int Go.IntKind.u64 0), (Go.Value.int Go.IntKind.i64 0), (Go.Value.int Go.IntKind.i64 0), (Go.Value.int Go.IntKind.u64 0), (Go.Value.int Go.IntKind.i64 0), (Go.Value.int Go.IntKind.u64 0), (Go.Value.int Go.IntKind.i64 0), (Go.Value.int Go.IntKind.i64 0), (Go.Value.int Go.IntKind.i64 0), (Go.Value.int Go.IntKind.u64 0), (Go.Value.slice Option.none 0 0), (Go.Value.slice Option.none 0 0), (Go.Value.int Go.IntKind.i64 0), (Go.Value.int Go.IntKind.i64 0), (Go.Value.int Go.IntKind.u64 0), (Go.Value.int Go.IntKind.i64 0), (Go.Value.int Go.IntKind.u64 0), (Go.Value.int Go.IntKind.i64 0), (Go.Value.int Go.IntKind.i64 0), (Go.Value.int Go.IntKind.u64 0), (Go.Value.int Go.IntKind.i64 0), (Go.Value.int Go.IntKind.u64 0), (Go.Value.bool Bool.false)])) fun c26 => S.bd (stl c26 0 36 r25.1) fun c27 => S.bd (lcl c19 0) fun x28 => S.bd (eqb [1] false false x28 (Go.Value.int Go.IntKind.i64 1)) fun x29 => S.bd (S.gd x29 true (lal c19 1 5)) fun x30 => S.bd (S.gd x29 true (lal c13 0 5)) fun x31 => S.bd (S.gd x29 true (eqb [1, 1, 1, 1, 1] true false x30 x31)) fun x32 => S.bd (pik x29 x32 (Go.Value.bool Bool.false)) fun x33 => S.bd (S.gd x33 true (lcl c19 6)) fun x34 => S.bd (S.gd x33 true (eqb [1] false false x34 (Go.Value.int Go.IntKind.i64 2))) fun x35 => S.bd (pik x33 x35 (Go.Value.bool Bool.false)) fun x36 => S.bd (S.gd x36 true (lcl c27 0)) fun x37 => S.bd (S.gd x36 true (eqb [1] false false x37 (Go.Value.int Go.IntKind.i64 3))) fun x38 => S.bd (pik x36 x38 (Go.Value.bool Bool.false)) fun x39 => S.bd (S.gd x39 true (lcl c27 21)) fun x40 => S.bd (S.gd x39 true (eqb [1] false false x40 (Go.Value.int Go.IntKind.i64 0))) fun x41 => S.bd (pik x39 x41 (Go.Value.bool Bool.false)) fun x42 => S.bd (S.gd x42 true (lcl c27 24)) fun x43 => S.bd (S.gd x42 true (lenL x43)) fun x44 => S.bd (S.gd x42 true (eqb [1] false false x44 (Go.Value.int Go.IntKind.i64 1))) fun x45 => S.bd (pik x42 x45 (Go.Value.bool Bool.false)) fun x46 => S.bd (S.gd x46 true (lcl c27 24)) fun x47 => S.bd (S.gd x46 true (idx r25.2 2 x47 (Go.Value.int Go.IntKind.i64 0))) fun x48 => S.bd (S.gd x46 true (fld 0 x48)) fun x49 => S.bd (S.gd x46 true (ldc r25.2 x49)) fun x50 => S.bd (S.gd x46 true (eqb [1] false false x50 (Go.Value.int Go.IntKind.u64 5))) fun x51 => S.bd (pik x46 x51 (Go.Value.bool Bool.false)) fun x52 => some (x52, r25.2)

def leapfroglaw18x_awake.t.p2 (S : Sig) (r3 : Value × St) (x4 : Value) : Option (Value × St) :=
  S.bd (leapfrogref02x_At.r (Go.Value.int Go.IntKind.u64 5) r3.2) fun x10 => S.bd (bld [(Go.Value.int Go.IntKind.i64 0), (Go.Value.int Go.IntKind.i64 0), (Go.Value.int Go.IntKind.u64 0), (Go.Value.int Go.IntKind.i64 0), (Go.Value.int Go.IntKind.u64 0)] [(0, 1, (Go.Value.int Go.IntKind.i64 5)), (1, 2, x10)]) fun x11 => S.bd (bx (Go.Value.agg #[(Go.Value.int Go.IntKind.i64 0), (Go.Value.int Go.IntKind.i64 0), (Go.Value.int Go.IntKind.u64 0), (Go.Value.int Go.IntKind.i64 0), (Go.Value.int Go.IntKind.u64 0)])) fun c12 => S.bd (stl c12 0 5 x11) fun c13 => S.bd (lal c13 0 5) fun x14 => S.bd (bld [(Go.Value.int Go.IntKind.i64 0), (Go.Value.bool Bool.false), (Go.Value.int Go.IntKind.i64 0), (Go.Value.int Go.IntKind.i64 0), (Go.Value.int Go.IntKind.u64 0), (Go.Value.int Go.IntKind.i64 0), (Go.Value.int Go.IntKind.u64 0), (Go.Value.int Go.IntKind.i64 0), (Go.Value.int Go.IntKind.i64 0), (Go.Value.int Go.IntKind.u64 0), (Go.Value.int Go.IntKind.i64 0), (Go.Value.int Go.IntKind.u64 0), (Go.Value.slice Option.none 0 0)] [(0, 1, (Go.Value.int Go.IntKind.i64 1)), (7, 5, x14)]) fun x15 => S.bd (scan_Scan_Tell.v x4 x15 r3.2) fun r16 => S.bd (scan_Scan_Next.v x4 r16.2) fun r17 => S.bd (bx (Go.Value.agg #[(Go.Value.int Go.IntKind.i64 0), (Go.Value.int Go.IntKind.i64 0), (Go.Value.int Go.IntKind.i64 0), (Go.Value.int Go.IntKind.u64 0), (Go.Value.int Go.IntKind.i64 0), (Go.Value.int Go.IntKind.u64 0), (Go.Value.int Go.IntKind.i64 0), (Go.Value.int Go.IntKind.i64 0), (Go.Value.int Go.IntKind.u64 0), (Go.Value.int Go.IntKind.i64 0), (Go.Value.int Go.IntKind.i64 0), (Go.Value.int Go.IntKind.u64 0), (Go.Value.int Go.IntKind.i64 0), (Go.Value.int Go.IntKind.u64 0), (Go.Value.int Go.IntKind.i64 0), (Go.Value.int Go.IntKind.i64 0), (Go.Value.int Go.IntKind.u64 0), (Go.Value.int Go.IntKind.i64 0), (Go.Value.int Go.IntKind.u64 0), (Go.Value.int Go.IntKind.i64 0), (Go.Value.int Go.IntKind.i64 0), (Go.Value.int Go.IntKind.i64 0), (Go.Value.int Go.IntKind.u64 0), (Go.Value.slice Option.none 0 0), (Go.Value.slice Option.none 0 0), (Go.Value.int Go.IntKind.i64 0), (Go.Value.int Go.IntKind.i64 0), (Go.Value.int Go.IntKind.u64 0), (Go.Value.int Go.IntKind.i64 0), (Go.Value.int Go.IntKind.u64 0), (Go.Value.int Go.IntKind.i64 0), (Go.Value.int Go.IntKind.i64 0), (Go.Value.int Go.IntKind.u64 0), (Go.Value.int Go.IntKind.i64 0), (Go.Value.int Go.IntKind.u64 0), (Go.Value.bool Bool.false)])) fun c18 => leapfroglaw18x_awake.t.p1 S c18 r17 x4 c13

def leapfroglaw18x_awake.t (S : Sig) (s : St) : Option (Value × St) :=
  S.bd (leapfrogref12x_Head.r (Go.Value.int Go.IntKind.i64 0) s) fun x1 => S.bd (bld [(Go.Value.int Go.IntKind.i64 0), (Go.Value.int Go.IntKind.i64 0), (Go.Value.int Go.IntKind.i64 0), (Go.Value.int Go.IntKind.u64 0), (Go.Value.int Go.IntKind.i64 0), (Go.Value.int Go.IntKind.u64 0), (Go.Value.int Go.IntKind.u64 0), (Go.Value.int Go.IntKind.u64 0)] [(1, 5, x1), (6, 1, (Go.Value.int Go.IntKind.u64 4)), (7, 1, (Go.Value.int Go.IntKind.u64 8))]) fun x2 => S.bd (scan_New.v x2 s) fun r3 => S.bd (xtr 0 r3.1) fun x4 => S.bd (xtr 1 r3.1) fun x5 => S.bd (eqb [1] false true x5 (Go.Value.int Go.IntKind.i64 0)) fun x6 => S.bd (S.gd x6 false (some x4)) fun x7 => S.bd (S.gd x6 false (eqb [3] false false x7 (Go.Value.pointer Option.none))) fun x8 => S.bd (pik x6 (Go.Value.bool Bool.true) x8) fun x9 => S.cnd x9 (some ((Go.Value.bool Bool.false), r3.2)) (leapfroglaw18x_awake.t.p2 S r3 x4)
def leapfroglaw18x_awake.v (s : St) : Option (Value × St) := leapfroglaw18x_awake.t std  s
def leapfroglaw18x_awake.w : List Value → St → Option (Value × St)
  | [], s => leapfroglaw18x_awake.v  s
  | _, _ => none
def leapfroglaw18x_awake.an : An := ⟨76, false, [3, 4, 5], [], [], []⟩
theorem leapfroglaw18x_awake.ok (S : Sig) (s : St) : evF S Try.prog leapfroglaw18x_awake.ctx leapfroglaw18x_awake.an Try.f7 [] s = leapfroglaw18x_awake.t S  s := by kernel_rfl
theorem leapfroglaw18x_awake.cok : CtxOk Try.prog leapfroglaw18x_awake.ctx := .cons leapfrogref12x_Head.sound leapfrogref12x_Head.can <| .cons scan_New.sound scan_New.can <| .cons leapfrogref02x_At.sound leapfrogref02x_At.can <| .cons scan_Scan_Tell.sound scan_Scan_Tell.can <| .cons scan_Scan_Next.sound scan_Scan_Next.can <| .cons leapfrogref12x_Tail.sound leapfrogref12x_Tail.can <| .nil
theorem leapfroglaw18x_awake.draws : fnDraws leapfroglaw18x_awake.an Try.f7 = true := by kernel_rfl
theorem leapfroglaw18x_awake.can : callOk Try.prog 7 = true := by kernel_rfl
theorem leapfroglaw18x_awake.sound : FnOk Try.prog 7 (.st leapfroglaw18x_awake.w) := FnOk.st_of (evF_ok leapfroglaw18x_awake.cok mixed (f := 7) (fn := Try.f7) (by kernel_rfl) leapfroglaw18x_awake.draws) fun args s r h => by
  unfold leapfroglaw18x_awake.w at h; split at h
  · rw [leapfroglaw18x_awake.ok std]; exact h
  · simp at h

/-! ### leapfrog/leapfroglaw18.awake: function 7, closed -/
def leapfroglaw18x_awakeC.r (s : St) : Option Value := some (Value.bool true)
def leapfroglaw18x_awakeC.w : List Value → St → Option Value := closedW (Value.bool true)
theorem leapfroglaw18x_awakeC.can : callOk Try.prog 7 = true := leapfroglaw18x_awake.can
theorem leapfroglaw18x_awakeC.sound : FnOk Try.prog 7 (.rd leapfroglaw18x_awakeC.w) := FnOk.closed leapfroglaw18x_awake.sound (by kernel_rfl) rfl

/-! ### leapfrog/leapfroglaw18.ScanLarge: function 3 -/
def leapfroglaw18x_ScanLarge.ctx : Ctx := [(7, .rd leapfroglaw18x_awakeC.w), (9, .rd leapfrogref12x_Head.w), (8, .st scan_New.w), (10, .rd leapfrogref12x_Tail.w), (11, .rd leapfrogref02x_At.w), (12, .st scan_Scan_Tell.w), (13, .st scan_Scan_Next.w)]
def leapfroglaw18x_ScanLarge.l12 (S : Sig) (rec51 : List Value → St → Option Cut) (xs49 : List Value) (s50 : St) : Option Cut :=
  S.bd (bin .leq (xs49.getD 2 undef) (xs49.getD 1 undef)) fun x52 => S.cnd x52 (S.bd (leapfrogref12x_Tail.r (Go.Value.int Go.IntKind.i64 0) s50) fun x53 => S.bd (stl (cellsA (xs49.getD 3 undef)) 0 5 x53) fun c54 => S.bd (show Option Cut from S.bd (bin .lss (xs49.getD 2 undef) (xs49.getD 1 undef)) fun x55 => S.cnd x55 (S.bd (bin .add (Go.Value.int Go.IntKind.i64 2) (xs49.getD 2 undef)) fun x56 => S.bd (cvi .u64 (xs49.getD 2 undef)) fun x57 => S.bd (leapfrogref02x_At.r x57 s50) fun x58 => S.bd (bld [(Go.Value.int Go.IntKind.i64 0), (Go.Value.int Go.IntKind.i64 0), (Go.Value.int Go.IntKind.u64 0), (Go.Value.int Go.IntKind.i64 0), (Go.Value.int Go.IntKind.u64 0)] [(0, 1, x56), (1, 2, x58)]) fun x59 => S.bd (stl c54 0 5 x59) fun c60 => some (0, [(xs49.getD 0 undef), (xs49.getD 1 undef), (xs49.getD 2 undef), (Value.agg ⟨c60⟩)], s50)) (some (0, [(xs49.getD 0 undef), (xs49.getD 1 undef), (xs49.getD 2 undef), (Value.agg ⟨c54⟩)], s50))) fun r61 => S.bd (lal (cellsA (r61.2.1.getD 3 undef)) 0 5) fun x62 => S.bd (bld [(Go.Value.int Go.IntKind.i64 0), (Go.Value.bool Bool.false), (Go.Value.int Go.IntKind.i64 0), (Go.Value.int Go.IntKind.i64 0), (Go.Value.int Go.IntKind.u64 0), (Go.Value.int Go.IntKind.i64 0), (Go.Value.int Go.IntKind.u64 0), (Go.Value.int Go.IntKind.i64 0), (Go.Value.int Go.IntKind.i64 0), (Go.Value.int Go.IntKind.u64 0), (Go.Value.int Go.IntKind.i64 0), (Go.Value.int Go.IntKind.u64 0), (Go.Value.slice Option.none 0 0)] [(0, 1, (Go.Value.int Go.IntKind.i64 1)), (7, 5, x62)]) fun x63 => S.bd (scan_Scan_Tell.v (r61.2.1.getD 0 undef) x63 r61.2.2) fun r64 => S.bd (bin .add (r61.2.1.getD 2 undef) (Go.Value.int Go.IntKind.i64 1)) fun x65 => rec51 [(r61.2.1.getD 0 undef), (r61.2.1.getD 1 undef), x65, (Value.agg ⟨(cellsA (r61.2.1.getD 3 undef))⟩)] r64.2) (some (0, [(xs49.getD 0 undef), (xs49.getD 1 undef)], s50))

def leapfroglaw18x_ScanLarge.t.p1 (S : Sig) (r25 : Cut) (r28 : Value × St) : Option (Value × St) :=
  S.bd (S.it (leapfroglaw18x_ScanLarge.l12 S) [(r25.2.1.getD 0 undef), (r25.2.1.getD 1 undef), (Go.Value.int Go.IntKind.i64 1), (Value.agg ⟨(cellsA (r25.2.1.getD 2 undef))⟩)] r28.2) fun r66 => S.bd (scan_Scan_Next.v (r66.2.1.getD 0 undef) r66.2.2) fun r67 => S.bd (bx (Go.Value.agg #[(Go.Value.int Go.IntKind.i64 0), (Go.Value.int Go.IntKind.i64 0), (Go.Value.int Go.IntKind.i64 0), (Go.Value.int Go.IntKind.u64 0), (Go.Value.int Go.IntKind.i64 0), (Go.Value.int Go.IntKind.u64 0), (Go.Value.int Go.IntKind.i64 0), (Go.Value.int Go.IntKind.i64 0), (Go.Value.int Go.IntKind.u64 0), (Go.Value.int Go.IntKind.i64 0), (Go.Value.int Go.IntKind.i64 0), (Go.Value.int Go.IntKind.u64 0), (Go.Value.int Go.IntKind.i64 0), (Go.Value.int Go.IntKind.u64 0), (Go.Value.int Go.IntKind.i64 0), (Go.Value.int Go.IntKind.i64 0), (Go.Value.int Go.IntKind.u64 0), (Go.Value.int Go.IntKind.i64 0), (Go.Value.int Go.IntKind.u64 0), (Go.Value.int Go.IntKind.i64 0), (Go.Value.int Go.IntKind.i64 0), (Go.Value.int Go.IntKind.i64 0), (Go.Value.int Go.IntKind.u64 0), (Go.Value.slice Option.none 0 0), (Go.Value.slice Option.none 0 0), (Go.Value.int Go.IntKind.i64 0), (Go.Value.int Go.IntKind.i64 0), (Go.Value.int Go.IntKind.u64 0), (Go.Value.int Go.IntKind.i64 0), (Go.Value.int Go.IntKind.u64 0), (Go.Value.int Go.IntKind.i64 0), (Go.Value.int Go.IntKind.i64 0), (Go.Value.int Go.IntKind.u64 0), (Go.Value.int Go.IntKind.i64 0), (Go.Value.int Go.IntKind.u64 0), (Go.Value.bool Bool.false)])) fun c68 => S.bd (stl c68 0 36 r67.1) fun c69 => S.bd (bin .gtr (r66.2.1.getD 1 undef) (Go.Value.int Go.IntKind.i64 64)) fun x70 => S.cnd x70 (S.bd (lcl c69 0) fun x71 => S.bd (eqb [1] false false x71 (Go.Value.int Go.IntKind.i64 3)) fun x72 => S.bd (S.gd x72 true (lcl c69 21)) fun x73 => S.bd (S.gd x72 true (eqb [1] false false x73 (Go.Value.int Go.IntKind.i64 102))) fun x74 => S.bd (pik x72 x74 (Go.Value.bool Bool.false)) fun x75 => S.bd (S.gd x75 true (lcl c69 24)) fun x76 => S.bd (S.gd x75 true (lenL x76)) fun x77 => S.bd (S.gd x75 true (eqb [1] false false x77 (Go.Value.int Go.IntKind.i64 0))) fun x78 => S.bd (pik x75 x78 (Go.Value.bool Bool.false)) fun x79 => some (x79, r67.2)) (S.bd (lcl c69 0) fun x80 => S.bd (eqb [1] false false x80 (Go.Value.int Go.IntKind.i64 3)) fun x81 => S.bd (S.gd x81 true (lcl c69 21)) fun x82 => S.bd (S.gd x81 true (eqb [1] false false x82 (Go.Value.int Go.IntKind.i64 0))) fun x83 => S.bd (pik x81 x83 (Go.Value.bool Bool.false)) fun x84 => S.bd (S.gd x84 true (lcl c69 24)) fun x85 => S.bd (S.gd x84 true (lenL x85)) fun x86 => S.bd (S.gd x84 true (some (r66.2.1.getD 1 undef))) fun x87 => S.bd (S.gd x84 true (eqb [1] false false x86 x87)) fun x88 => S.bd (pik x84 x88 (Go.Value.bool Bool.false)) fun x89 => some (x89, r67.2))

def leapfroglaw18x_ScanLarge.t.p2 (S : Sig) (s : St) (a0 : Value) : Option (Value × St) :=
  S.bd (leapfrogref12x_Head.r (Go.Value.int Go.IntKind.i64 0) s) fun x3 => S.bd (bld [(Go.Value.int Go.IntKind.i64 0), (Go.Value.int Go.IntKind.i64 0), (Go.Value.int Go.IntKind.i64 0), (Go.Value.int Go.IntKind.u64 0), (Go.Value.int Go.IntKind.i64 0), (Go.Value.int Go.IntKind.u64 0), (Go.Value.int Go.IntKind.u64 0), (Go.Value.int Go.IntKind.u64 0)] [(1, 5, x3), (7, 1, (Go.Value.int Go.IntKind.u64 1048576))]) fun x4 => S.bd (scan_New.v x4 s) fun r5 => S.bd (xtr 0 r5.1) fun x6 => S.bd (xtr 1 r5.1) fun x7 => S.bd (eqb [1] false true x7 (Go.Value.int Go.IntKind.i64 0)) fun x8 => S.bd (S.gd x8 false (some x6)) fun x9 => S.bd (S.gd x8 false (eqb [3] false false x9 (Go.Value.pointer Option.none))) fun x10 => S.bd (pik x8 (Go.Value.bool Bool.true) x10) fun x11 => S.cnd x11 (some ((Go.Value.bool Bool.false), r5.2)) (S.bd (cvi .i64 a0) fun x12 => S.bd (bin .rem x12 (Go.Value.int Go.IntKind.i64 80)) fun x13 => S.bd (leapfrogref12x_Tail.r (Go.Value.int Go.IntKind.i64 0) r5.2) fun x14 => S.bd (bx (Go.Value.agg #[(Go.Value.int Go.IntKind.i64 0), (Go.Value.int Go.IntKind.i64 0), (Go.Value.int Go.IntKind.u64 0), (Go.Value.int Go.IntKind.i64 0), (Go.Value.int Go.IntKind.u64 0)])) fun c15 => S.bd (stl c15 0 5 x14) fun c16 => S.bd (show Option Cut from S.bd (bin .gtr x13 (Go.Value.int Go.IntKind.i64 0)) fun x21 => S.cnd x21 (S.bd (leapfrogref02x_At.r (Go.Value.int Go.IntKind.u64 0) r5.2) fun x22 => S.bd (bld [(Go.Value.int Go.IntKind.i64 0), (Go.Value.int Go.IntKind.i64 0), (Go.Value.int Go.IntKind.u64 0), (Go.Value.int Go.IntKind.i64 0), (Go.Value.int Go.IntKind.u64 0)] [(0, 1, (Go.Value.int Go.IntKind.i64 2)), (1, 2, x22)]) fun x23 => S.bd (stl c16 0 5 x23) fun c24 => some (0, [x6, x13, (Value.agg ⟨c24⟩)], r5.2)) (some (0, [x6, x13, (Value.agg ⟨c16⟩)], r5.2))) fun r25 => S.bd (lal (cellsA (r25.2.1.getD 2 undef)) 0 5) fun x26 => S.bd (bld [(Go.Value.int Go.IntKind.i64 0), (Go.Value.bool Bool.false), (Go.Value.int Go.IntKind.i64 0), (Go.Value.int Go.IntKind.i64 0), (Go.Value.int Go.IntKind.u64 0), (Go.Value.int Go.IntKind.i64 0), (Go.Value.int Go.IntKind.u64 0), (Go.Value.int Go.IntKind.i64 0), (Go.Value.int Go.IntKind.i64 0), (Go.Value.int Go.IntKind.u64 0), (Go.Value.int Go.IntKind.i64 0), (Go.Value.int Go.IntKind.u64 0), (Go.Value.slice Option.none 0 0)] [(0, 1, (Go.Value.int Go.IntKind.i64 1)), (7, 5, x26)]) fun x27 => S.bd (scan_Scan_Tell.v (r25.2.1.getD 0 undef) x27 r25.2.2) fun r28 => leapfroglaw18x_ScanLarge.t.p1 S r25 r28)

def leapfroglaw18x_ScanLarge.t (S : Sig) (a0 : Value) (s : St) : Option (Value × St) :=
  S.bd (leapfroglaw18x_awakeC.r  s) fun x1 => S.bd (un .not x1) fun x2 => S.cnd x2 (some ((Go.Value.bool Bool.false), s)) (leapfroglaw18x_ScanLarge.t.p2 S s a0)
def leapfroglaw18x_ScanLarge.v (a0 : Value) (s : St) : Option (Value × St) := leapfroglaw18x_ScanLarge.t std a0 s
def leapfroglaw18x_ScanLarge.w : List Value → St → Option (Value × St)
  | [a0], s => leapfroglaw18x_ScanLarge.v a0 s
  | _, _ => none
def leapfroglaw18x_ScanLarge.an : An := ⟨91, false, [6, 8], [(12, ⟨[.v 3, .v 5, .p 6 6 0, .v 7, .l 6], [(.exit 0, [.v 3, .v 5])]⟩)], [(10, ⟨[], [(.normal, [.v 3, .v 5, .p 6 6 0, .l 6])]⟩), (17, ⟨[], [(.normal, [.v 3, .v 5, .p 6 6 0, .v 7, .l 6])]⟩)], []⟩
theorem leapfroglaw18x_ScanLarge.ok (S : Sig) (a0 : Value) (s : St) : evF S Try.prog leapfroglaw18x_ScanLarge.ctx leapfroglaw18x_ScanLarge.an Try.f3 [a0] s = leapfroglaw18x_ScanLarge.t S a0 s := by kernel_rfl
theorem leapfroglaw18x_ScanLarge.cok : CtxOk Try.prog leapfroglaw18x_ScanLarge.ctx := .cons leapfroglaw18x_awakeC.sound leapfroglaw18x_awakeC.can <| .cons leapfrogref12x_Head.sound leapfrogref12x_Head.can <| .cons scan_New.sound scan_New.can <| .cons leapfrogref12x_Tail.sound leapfrogref12x_Tail.can <| .cons leapfrogref02x_At.sound leapfrogref02x_At.can <| .cons scan_Scan_Tell.sound scan_Scan_Tell.can <| .cons scan_Scan_Next.sound scan_Scan_Next.can <| .nil
theorem leapfroglaw18x_ScanLarge.draws : fnDraws leapfroglaw18x_ScanLarge.an Try.f3 = true := by kernel_rfl
theorem leapfroglaw18x_ScanLarge.can : callOk Try.prog 3 = true := by kernel_rfl
theorem leapfroglaw18x_ScanLarge.sound : FnOk Try.prog 3 (.st leapfroglaw18x_ScanLarge.w) := FnOk.st_of (evF_ok leapfroglaw18x_ScanLarge.cok mixed (f := 3) (fn := Try.f3) (by kernel_rfl) leapfroglaw18x_ScanLarge.draws) fun args s r h => by
  unfold leapfroglaw18x_ScanLarge.w at h; split at h
  · rw [leapfroglaw18x_ScanLarge.ok std]; exact h
  · simp at h

/-! ### (*leapfrog/scan.Scan).Wake: function 14 -/
def scan_Scan_Wake.ctx : Ctx := [(24, .rd scan_Scan_is.w), (30, .st scan_Scan_again.w)]
def scan_Scan_Wake.t (S : Sig) (a0 : Value) (s : St) : Option (Value × St) :=
  S.bd (scan_Scan_is.r a0 s) fun x1 => S.bd (S.gd x1 true (some a0)) fun x2 => S.bd (S.gd x1 true (nck x2)) fun x3 => S.bd (S.gd x1 true (fld 20 x3)) fun x4 => S.bd (S.gd x1 true (ldc s x4)) fun x5 => S.bd (S.gd x1 true (un .not x5)) fun x6 => S.bd (pik x1 x6 (Go.Value.bool Bool.false)) fun x7 => S.bd (S.gd x7 true (some a0)) fun x8 => S.bd (S.gd x7 true (nck x8)) fun x9 => S.bd (S.gd x7 true (fld 17 x9)) fun x10 => S.bd (S.gd x7 true (ldc s x10)) fun x11 => S.bd (pik x7 x11 (Go.Value.bool Bool.false)) fun x12 => S.cnd x12 (S.bd (nck a0) fun x13 => S.bd (fld 17 x13) fun x14 => S.bd (stv s 1 x14 (Go.Value.bool Bool.false)) fun s15 => S.bd (scan_Scan_again.v a0 s15) fun r16 => some ((Value.tuple ⟨[]⟩), r16.2)) (some ((Value.tuple ⟨[]⟩), s))
def scan_Scan_Wake.v (a0 : Value) (s : St) : Option (Value × St) := scan_Scan_Wake.t std a0 s
def scan_Scan_Wake.w : List Value → St → Option (Value × St)
  | [a0], s => scan_Scan_Wake.v a0 s
  | _, _ => none
def scan_Scan_Wake.an : An := ⟨22, false, [], [], [], []⟩
theorem scan_Scan_Wake.ok (S : Sig) (a0 : Value) (s : St) : evF S Try.prog scan_Scan_Wake.ctx scan_Scan_Wake.an Try.f14 [a0] s = scan_Scan_Wake.t S a0 s := by kernel_rfl
theorem scan_Scan_Wake.cok : CtxOk Try.prog scan_Scan_Wake.ctx := .cons scan_Scan_is.sound scan_Scan_is.can <| .cons scan_Scan_again.sound scan_Scan_again.can <| .nil
theorem scan_Scan_Wake.draws : fnDraws scan_Scan_Wake.an Try.f14 = true := by kernel_rfl
theorem scan_Scan_Wake.can : callOk Try.prog 14 = true := by kernel_rfl
theorem scan_Scan_Wake.sound : FnOk Try.prog 14 (.st scan_Scan_Wake.w) := FnOk.st_of (evF_ok scan_Scan_Wake.cok mixed (f := 14) (fn := Try.f14) (by kernel_rfl) scan_Scan_Wake.draws) fun args s r h => by
  unfold scan_Scan_Wake.w at h; split at h
  · rw [scan_Scan_Wake.ok std]; exact h
  · simp at h

/-! ### leapfrog/leapfroglaw18.in: function 15 -/
def leapfroglaw18x_in.ctx : Ctx := []
def leapfroglaw18x_in.l2 (S : Sig) (rec22 : List Value → St → Option Cut) (xs20 : List Value) (s21 : St) : Option Cut :=
  S.bd (lenL (xs20.getD 0 undef)) fun x23 => S.bd (bin .lss (xs20.getD 1 undef) x23) fun x24 => S.cnd x24 (S.bd (idx s21 2 (xs20.getD 0 undef) (xs20.getD 1 undef)) fun x25 => S.bd (fld 0 x25) fun x26 => S.bd (ldc s21 x26) fun x27 => S.bd (lcl (cellsA (xs20.getD 2 undef)) 0) fun x28 => S.bd (eqb [1] false false x27 x28) fun x29 => S.bd (S.gd x29 true (some (xs20.getD 0 undef))) fun x30 => S.bd (S.gd x29 true (some (xs20.getD 1 undef))) fun x31 => S.bd (S.gd x29 true (idx s21 2 x30 x31)) fun x32 => S.bd (S.gd x29 true (fld 1 x32)) fun x33 => S.bd (S.gd x29 true (ldc s21 x33)) fun x34 => S.bd (S.gd x29 true (b2s s21 x34)) fun x35 => S.bd (S.gd x29 true (lcl (cellsA (xs20.getD 2 undef)) 1)) fun x36 => S.bd (S.gd x29 true (b2s s21 x36)) fun x37 => S.bd (S.gd x29 true (eqb [2] false false x35 x37)) fun x38 => S.bd (pik x29 x38 (Go.Value.bool Bool.false)) fun x39 => S.cnd x39 (some (1, [(Go.Value.bool Bool.true)], s21)) (S.bd (bin .add (xs20.getD 1 undef) (Go.Value.int Go.IntKind.i64 1)) fun x40 => rec22 [(xs20.getD 0 undef), x40, (Value.agg ⟨(cellsA (xs20.getD 2 undef))⟩)] s21)) (some (0, [], s21))

def leapfroglaw18x_in.t (S : Sig) (a0 a1 : Value) (s : St) : Option Value :=
  S.bd (bx a1) fun c1 => S.bd (S.it (leapfroglaw18x_in.l2 S) [a0, (Go.Value.int Go.IntKind.i64 0), (Value.agg ⟨c1⟩)] s) fun r41 => if r41.1 = 0 then (some ((Go.Value.bool Bool.false))) else (some ((r41.2.1.getD 0 undef)))
def leapfroglaw18x_in.r (a0 a1 : Value) (s : St) : Option Value := leapfroglaw18x_in.t std a0 a1 s
def leapfroglaw18x_in.w : List Value → St → Option Value
  | [a0, a1], s => leapfroglaw18x_in.r a0 a1 s
  | _, _ => none
def leapfroglaw18x_in.an : An := ⟨32, true, [3], [(2, ⟨[.v 0, .p 3 3 0, .v 5, .l 3], [(.exit 0, []), (.ret, [.v 4])]⟩)], [], [(4, [(0, 0, [], []), (1, 0, [], []), (2, 2, [], []), (3, 0, [], []), (4, 2, [], []), (5, 0, [], []), (6, 25, [], []), (7, 0, [], []), (8, 0, [], []), (9, 0, [], []), (10, 0, [], []), (11, 2, [], []), (12, 0, [], []), (13, 2, [], []), (14, 2, [], []), (15, 0, [], []), (16, 25, [], []), (17, 2, [], []), (18, 0, [], []), (19, 0, [], [])])]⟩
theorem leapfroglaw18x_in.ok (S : Sig) (a0 a1 : Value) (s : St) : evG S Try.prog leapfroglaw18x_in.ctx leapfroglaw18x_in.an Try.f15 [a0, a1] s = leapfroglaw18x_in.t S a0 a1 s := by kernel_rfl
theorem leapfroglaw18x_in.cok : CtxOk Try.prog leapfroglaw18x_in.ctx := .nil
theorem leapfroglaw18x_in.draws : fnDraws leapfroglaw18x_in.an Try.f15 = true := by kernel_rfl
theorem leapfroglaw18x_in.can : callOk Try.prog 15 = true := by kernel_rfl
theorem leapfroglaw18x_in.sound : FnOk Try.prog 15 (.rd leapfroglaw18x_in.w) := FnOk.rd_of (evG_ok leapfroglaw18x_in.cok mixed (f := 15) (fn := Try.f15) (by kernel_rfl) leapfroglaw18x_in.draws) fun args s r h => by
  unfold leapfroglaw18x_in.w at h; split at h
  · rw [leapfroglaw18x_in.ok std]; exact h
  · simp at h

/-! ### leapfrog/leapfroglaw18.ScanRises: function 4 -/
def leapfroglaw18x_ScanRises.ctx : Ctx := [(7, .rd leapfroglaw18x_awakeC.w), (8, .st scan_New.w), (13, .st scan_Scan_Next.w), (12, .st scan_Scan_Tell.w), (14, .st scan_Scan_Wake.w), (15, .rd leapfroglaw18x_in.w)]
def leapfroglaw18x_ScanRises.l8.p1 (S : Sig) (x95 : Value) (xs80 : List Value) (r88 : Value × St) (x96 : Value) (c90 : List Value) (x85 : Value) (x86 : Value) (x93 : Value) (x94 : Value) : Option Cut :=
  S.bd (S.gd x95 true (some (xs80.getD 3 undef))) fun x97 => S.bd (S.gd x95 true (idx r88.2 13 x96 x97)) fun x98 => S.bd (S.gd x95 true (fld 0 x98)) fun x99 => S.bd (S.gd x95 true (ldc r88.2 x99)) fun x100 => S.bd (S.gd x95 true (eqb [1] false false x100 (Go.Value.int Go.IntKind.i64 1))) fun x101 => S.bd (pik x95 x101 (Go.Value.bool Bool.false)) fun x102 => S.bd (S.gd x102 true (some (xs80.getD 0 undef))) fun x103 => S.bd (S.gd x102 true (some (xs80.getD 3 undef))) fun x104 => S.bd (S.gd x102 true (idx r88.2 13 x103 x104)) fun x105 => S.bd (S.gd x102 true (fld 1 x105)) fun x106 => S.bd (S.gd x102 true (ldc r88.2 x106)) fun x107 => S.bd (S.gd x102 true (un .not x107)) fun x108 => S.bd (pik x102 x108 (Go.Value.bool Bool.false)) fun x109 => S.cnd x109 (S.bd (lcl c90 3) fun x110 => S.bd (idx r88.2 13 (xs80.getD 0 undef) (xs80.getD 3 undef)) fun x111 => S.bd (fld 12 x111) fun x112 => S.bd (ldc r88.2 x112) fun x113 => S.bd (bld [(Go.Value.int Go.IntKind.u64 0), (Go.Value.slice Option.none 0 0)] [(0, 1, x110), (1, 1, x113)]) fun x114 => S.bd (S.bd (bls 2 (List.replicate 1 [(Go.Value.int Go.IntKind.u64 0), (Go.Value.slice Option.none 0 0)]) [(0, x114)]) fun rows => als r88.2 2 1 rows) fun r115 => S.bd (app r115.2 2 32 (xs80.getD 2 undef) r115.1) fun r116 => S.bd (idx r116.2 13 (xs80.getD 0 undef) (xs80.getD 3 undef)) fun x117 => S.cnd (Value.bool (sameV x117 x111)) (S.bd (ldc r116.2 x112) fun x118 => S.cnd (Value.bool (sameV x118 x113)) (some (0, [(xs80.getD 0 undef), (xs80.getD 1 undef), r116.1, (xs80.getD 3 undef), x85, x86, x93, x94, x96, x97, x98, x99, x100, x101, x103, x104, x105, x106, x107, x108, (Value.agg ⟨(cellsA (xs80.getD 4 undef))⟩)], r116.2)) (none)) (none)) (some (0, [(xs80.getD 0 undef), (xs80.getD 1 undef), (xs80.getD 2 undef), (xs80.getD 3 undef), x85, x86, x93, x94, x96, x97, x98, x99, x100, x101, x103, x104, x105, x106, x107, x108, (Value.agg ⟨(cellsA (xs80.getD 4 undef))⟩)], r88.2))

def leapfroglaw18x_ScanRises.l8.p2 (S : Sig) (xs80 : List Value) (s81 : St) (x85 : Value) (x86 : Value) (rec82 : List Value → St → Option Cut) : Option Cut :=
  S.bd (scan_Scan_Next.v (xs80.getD 1 undef) s81) fun r88 => S.bd (bx (Go.Value.agg #[(Go.Value.int Go.IntKind.i64 0), (Go.Value.int Go.IntKind.i64 0), (Go.Value.int Go.IntKind.i64 0), (Go.Value.int Go.IntKind.u64 0), (Go.Value.int Go.IntKind.i64 0), (Go.Value.int Go.IntKind.u64 0), (Go.Value.int Go.IntKind.i64 0), (Go.Value.int Go.IntKind.i64 0), (Go.Value.int Go.IntKind.u64 0), (Go.Value.int Go.IntKind.i64 0), (Go.Value.int Go.IntKind.i64 0), (Go.Value.int Go.IntKind.u64 0), (Go.Value.int Go.IntKind.i64 0), (Go.Value.int Go.IntKind.u64 0), (Go.Value.int Go.IntKind.i64 0), (Go.Value.int Go.IntKind.i64 0), (Go.Value.int Go.IntKind.u64 0), (Go.Value.int Go.IntKind.i64 0), (Go.Value.int Go.IntKind.u64 0), (Go.Value.int Go.IntKind.i64 0), (Go.Value.int Go.IntKind.i64 0), (Go.Value.int Go.IntKind.i64 0), (Go.Value.int Go.IntKind.u64 0), (Go.Value.slice Option.none 0 0), (Go.Value.slice Option.none 0 0), (Go.Value.int Go.IntKind.i64 0), (Go.Value.int Go.IntKind.i64 0), (Go.Value.int Go.IntKind.u64 0), (Go.Value.int Go.IntKind.i64 0), (Go.Value.int Go.IntKind.u64 0), (Go.Value.int Go.IntKind.i64 0), (Go.Value.int Go.IntKind.i64 0), (Go.Value.int Go.IntKind.u64 0), (Go.Value.int Go.IntKind.i64 0), (Go.Value.int Go.IntKind.u64 0), (Go.Value.bool Bool.false)])) fun c89 => S.bd (stl c89 0 36 r88.1) fun c90 => S.bd (show Option Cut from S.bd (lcl c90 0) fun x91 => S.bd (eqb [1] false false x91 (Go.Value.int Go.IntKind.i64 1)) fun x92 => S.bd (S.gd x92 true (lcl c90 6)) fun x93 => S.bd (S.gd x92 true (eqb [1] false false x93 (Go.Value.int Go.IntKind.i64 2))) fun x94 => S.bd (pik x92 x94 (Go.Value.bool Bool.false)) fun x95 => S.bd (S.gd x95 true (some (xs80.getD 0 undef))) fun x96 => leapfroglaw18x_ScanRises.l8.p1 S x95 xs80 r88 x96 c90 x85 x86 x93 x94) fun r119 => S.bd (idx r119.2.2 13 (r119.2.1.getD 0 undef) (r119.2.1.getD 3 undef)) fun x120 => S.bd (lda r119.2.2 13 x120) fun x121 => S.bd (scan_Scan_Tell.v (r119.2.1.getD 1 undef) x121 r119.2.2) fun r122 => S.bd (scan_Scan_Wake.v (r119.2.1.getD 1 undef) r122.2) fun r123 => S.bd (bin .add (r119.2.1.getD 3 undef) (Go.Value.int Go.IntKind.i64 1)) fun x124 => rec82 [(r119.2.1.getD 0 undef), (r119.2.1.getD 1 undef), (r119.2.1.getD 2 undef), x124, (Value.agg ⟨(cellsA (r119.2.1.getD 20 undef))⟩)] r123.2

def leapfroglaw18x_ScanRises.l8 (S : Sig) (rec82 : List Value → St → Option Cut) (xs80 : List Value) (s81 : St) : Option Cut :=
  S.bd (lenL (xs80.getD 0 undef)) fun x83 => S.bd (bin .lss (xs80.getD 3 undef) x83) fun x84 => S.bd (S.gd x84 true (some (xs80.getD 3 undef))) fun x85 => S.bd (S.gd x84 true (bin .lss x85 (Go.Value.int Go.IntKind.i64 400))) fun x86 => S.bd (pik x84 x86 (Go.Value.bool Bool.false)) fun x87 => S.cnd x87 (leapfroglaw18x_ScanRises.l8.p2 S xs80 s81 x85 x86 rec82) (some (0, [(xs80.getD 1 undef), (xs80.getD 2 undef), (Value.agg ⟨(cellsA (xs80.getD 4 undef))⟩)], s81))

def leapfroglaw18x_ScanRises.l22.p1 (S : Sig) (x192 : Value) (s184 : St) (x196 : Value) (xs183 : List Value) (rec185 : List Value → St → Option Cut) : Option Cut :=
  S.bd (S.gd x192 false (ldc s184 x196)) fun x197 => S.bd (S.gd x192 false (lcl (cellsA (xs183.getD 3 undef)) 7)) fun x198 => S.bd (S.gd x192 false (bin .gtr x197 x198)) fun x199 => S.bd (pik x192 (Go.Value.bool Bool.true) x199) fun x200 => S.bd (S.gd x200 false (some (xs183.getD 2 undef))) fun x201 => S.bd (S.gd x200 false (bin .gtr x201 (Go.Value.int Go.IntKind.i64 0))) fun x202 => S.bd (S.gd x200 false (some x202)) fun x203 => S.bd (S.gd x203 true (some (xs183.getD 1 undef))) fun x204 => S.bd (S.gd x203 true (some (xs183.getD 2 undef))) fun x205 => S.bd (S.gd x203 true (bin .sub x205 (Go.Value.int Go.IntKind.i64 1))) fun x206 => S.bd (S.gd x203 true (idx s184 2 x204 x206)) fun x207 => S.bd (S.gd x203 true (fld 0 x207)) fun x208 => S.bd (S.gd x203 true (ldc s184 x208)) fun x209 => S.bd (S.gd x203 true (some (xs183.getD 1 undef))) fun x210 => S.bd (S.gd x203 true (some (xs183.getD 2 undef))) fun x211 => S.bd (S.gd x203 true (idx s184 2 x210 x211)) fun x212 => S.bd (S.gd x203 true (fld 0 x212)) fun x213 => S.bd (S.gd x203 true (ldc s184 x213)) fun x214 => S.bd (S.gd x203 true (bin .geq x209 x214)) fun x215 => S.bd (S.gd x200 false (pik x203 x215 (Go.Value.bool Bool.false))) fun x216 => S.bd (pik x200 (Go.Value.bool Bool.true) x216) fun x217 => S.bd (S.gd x217 false (some (xs183.getD 0 undef))) fun x218 => S.bd (S.gd x217 false (some (xs183.getD 1 undef))) fun x219 => S.bd (S.gd x217 false (some (xs183.getD 2 undef))) fun x220 => S.bd (S.gd x217 false (idx s184 2 x219 x220)) fun x221 => S.bd (S.gd x217 false (lda s184 2 x221)) fun x222 => S.bd (S.gd x217 false (leapfroglaw18x_in.r x218 x222 s184)) fun x223 => S.bd (S.gd x217 false (un .not x223)) fun x224 => S.bd (pik x217 (Go.Value.bool Bool.true) x224) fun x225 => S.cnd x225 (some (1, [(Go.Value.bool Bool.false)], s184)) (S.bd (bin .add (xs183.getD 2 undef) (Go.Value.int Go.IntKind.i64 1)) fun x226 => rec185 [(xs183.getD 0 undef), (xs183.getD 1 undef), x226, (Value.agg ⟨(cellsA (xs183.getD 3 undef))⟩)] s184)

def leapfroglaw18x_ScanRises.l22 (S : Sig) (rec185 : List Value → St → Option Cut) (xs183 : List Value) (s184 : St) : Option Cut :=
  S.bd (lenL (xs183.getD 1 undef)) fun x186 => S.bd (bin .lss (xs183.getD 2 undef) x186) fun x187 => S.cnd x187 (S.bd (idx s184 2 (xs183.getD 1 undef) (xs183.getD 2 undef)) fun x188 => S.bd (fld 0 x188) fun x189 => S.bd (ldc s184 x189) fun x190 => S.bd (lcl (cellsA (xs183.getD 3 undef)) 6) fun x191 => S.bd (bin .lss x190 x191) fun x192 => S.bd (S.gd x192 false (some (xs183.getD 1 undef))) fun x193 => S.bd (S.gd x192 false (some (xs183.getD 2 undef))) fun x194 => S.bd (S.gd x192 false (idx s184 2 x193 x194)) fun x195 => S.bd (S.gd x192 false (fld 0 x195)) fun x196 => leapfroglaw18x_ScanRises.l22.p1 S x192 s184 x196 xs183 rec185) (some (0, [], s184))

def leapfroglaw18x_ScanRises.t.p1 (S : Sig) (a1 : Value) (x6 : Value) (c1 : List Value) (r5 : Value × St) : Option (Value × St) :=
  S.bd (S.it (leapfroglaw18x_ScanRises.l8 S) [a1, x6, (Go.Value.slice Option.none 0 0), (Go.Value.int Go.IntKind.i64 0), (Value.agg ⟨c1⟩)] r5.2) fun r125 => S.bd (scan_Scan_Next.v (r125.2.1.getD 0 undef) r125.2.2) fun r126 => S.bd (bx (Go.Value.agg #[(Go.Value.int Go.IntKind.i64 0), (Go.Value.int Go.IntKind.i64 0), (Go.Value.int Go.IntKind.i64 0), (Go.Value.int Go.IntKind.u64 0), (Go.Value.int Go.IntKind.i64 0), (Go.Value.int Go.IntKind.u64 0), (Go.Value.int Go.IntKind.i64 0), (Go.Value.int Go.IntKind.i64 0), (Go.Value.int Go.IntKind.u64 0), (Go.Value.int Go.IntKind.i64 0), (Go.Value.int Go.IntKind.i64 0), (Go.Value.int Go.IntKind.u64 0), (Go.Value.int Go.IntKind.i64 0), (Go.Value.int Go.IntKind.u64 0), (Go.Value.int Go.IntKind.i64 0), (Go.Value.int Go.IntKind.i64 0), (Go.Value.int Go.IntKind.u64 0), (Go.Value.int Go.IntKind.i64 0), (Go.Value.int Go.IntKind.u64 0), (Go.Value.int Go.IntKind.i64 0), (Go.Value.int Go.IntKind.i64 0), (Go.Value.int Go.IntKind.i64 0), (Go.Value.int Go.IntKind.u64 0), (Go.Value.slice Option.none 0 0), (Go.Value.slice Option.none 0 0), (Go.Value.int Go.IntKind.i64 0), (Go.Value.int Go.IntKind.i64 0), (Go.Value.int Go.IntKind.u64 0), (Go.Value.int Go.IntKind.i64 0), (Go.Value.int Go.IntKind.u64 0), (Go.Value.int Go.IntKind.i64 0), (Go.Value.int Go.IntKind.i64 0), (Go.Value.int Go.IntKind.u64 0), (Go.Value.int Go.IntKind.i64 0), (Go.Value.int Go.IntKind.u64 0), (Go.Value.bool Bool.false)])) fun c127 => S.bd (stl c127 0 36 r126.1) fun c128 => S.bd (lcl c128 0) fun x129 => S.bd (eqb [1] false true x129 (Go.Value.int Go.IntKind.i64 3)) fun x130 => S.cnd x130 (some ((Go.Value.bool Bool.true), r126.2)) (S.bd (lcl c128 24) fun x131 => S.bd (lcl c128 21) fun x132 => S.bd (eqb [1] false true x132 (Go.Value.int Go.IntKind.i64 0)) fun x133 => S.bd (S.gd x133 true (some x131)) fun x134 => S.bd (S.gd x133 true (lenL x134)) fun x135 => S.bd (S.gd x133 true (bin .gtr x135 (Go.Value.int Go.IntKind.i64 0))) fun x136 => S.bd (pik x133 x136 (Go.Value.bool Bool.false)) fun x137 => S.bd (S.gd x137 false (some x131)) fun x138 => S.bd (S.gd x137 false (lenL x138)) fun x139 => S.bd (S.gd x137 false (bin .gtr x139 (Go.Value.int Go.IntKind.i64 64))) fun x140 => S.bd (pik x137 (Go.Value.bool Bool.true) x140) fun x141 => S.cnd x141 (some ((Go.Value.bool Bool.false), r126.2)) (S.bd (S.it (leapfroglaw18x_ScanRises.l22 S) [(r125.2.1.getD 1 undef), x131, (Go.Value.int Go.IntKind.i64 0), (Value.agg ⟨(cellsA (r125.2.1.getD 2 undef))⟩)] r126.2) fun r227 => if r227.1 = 0 then (some ((Go.Value.bool Bool.true), r227.2.2)) else (some ((r227.2.1.getD 0 undef), r227.2.2))))

def leapfroglaw18x_ScanRises.t (S : Sig) (a0 a1 : Value) (s : St) : Option (Value × St) :=
  S.bd (bx a0) fun c1 => S.bd (leapfroglaw18x_awakeC.r  s) fun x2 => S.bd (un .not x2) fun x3 => S.cnd x3 (some ((Go.Value.bool Bool.false), s)) (S.bd (lal c1 0 8) fun x4 => S.bd (scan_New.v x4 s) fun r5 => S.bd (xtr 0 r5.1) fun x6 => S.bd (xtr 1 r5.1) fun x7 => S.bd (eqb [1] false true x7 (Go.Value.int Go.IntKind.i64 0)) fun x8 => S.cnd x8 (S.bd (eqb [3] false false x6 (Go.Value.pointer Option.none)) fun x9 => some (x9, r5.2)) (leapfroglaw18x_ScanRises.t.p1 S a1 x6 c1 r5))
def leapfroglaw18x_ScanRises.v (a0 a1 : Value) (s : St) : Option (Value × St) := leapfroglaw18x_ScanRises.t std a0 a1 s
def leapfroglaw18x_ScanRises.w : List Value → St → Option (Value × St)
  | [a0, a1], s => leapfroglaw18x_ScanRises.v a0 a1 s
  | _, _ => none
def leapfroglaw18x_ScanRises.an : An := ⟨155, false, [2, 9, 10], [(8, ⟨[.v 1, .p 2 2 0, .v 5, .v 7, .v 8, .l 2], [(.exit 0, [.p 2 2 0, .v 5, .v 7, .l 2])]⟩), (22, ⟨[.p 2 2 0, .v 7, .v 11, .v 12, .l 2], [(.exit 2, []), (.ret, [.v 4])]⟩)], [(13, ⟨[], [(.normal, [.v 1, .p 2 2 0, .v 5, .v 7, .v 8, .v 29, .v 30, .v 42, .v 43, .v 46, .v 47, .v 48, .v 49, .v 50, .v 51, .v 54, .v 55, .v 56, .v 57, .v 58, .v 59, .l 2])]⟩)], [(12, [(0, 0, [], []), (1, 0, [], []), (2, 0, [], []), (3, 0, [], []), (4, 73, [], []), (5, 0, [], []), (6, 0, [], []), (7, 2, [], []), (8, 0, [], []), (9, 2, [], []), (10, 0, [], []), (11, 3, [], []), (12, 4, [7, 9], []), (13, 0, [], [])]), (24, [(0, 0, [], []), (1, 0, [], []), (2, 2, [], []), (3, 0, [], []), (4, 2, [], []), (5, 0, [], []), (6, 17, [], []), (7, 0, [], []), (8, 0, [], []), (9, 0, [], []), (10, 0, [], []), (11, 2, [], []), (12, 0, [], []), (13, 2, [], []), (14, 0, [], []), (15, 17, [], []), (16, 0, [], []), (17, 0, [], []), (18, 0, [], []), (19, 0, [], []), (20, 0, [], []), (21, 0, [], []), (22, 0, [], []), (23, 0, [], []), (24, 0, [], []), (25, 2, [], []), (26, 0, [], []), (27, 2, [], []), (28, 0, [], []), (29, 0, [], []), (30, 2, [], []), (31, 0, [], []), (32, 2, [], []), (33, 0, [], []), (34, 0, [], []), (35, 0, [], []), (36, 0, [], []), (37, 0, [], []), (38, 0, [], []), (39, 0, [], []), (40, 2, [], []), (41, 2, [], []), (42, 3, [], []), (43, 0, [], []), (44, 0, [], [])])]⟩
theorem leapfroglaw18x_ScanRises.ok (S : Sig) (a0 a1 : Value) (s : St) : evF S Try.prog leapfroglaw18x_ScanRises.ctx leapfroglaw18x_ScanRises.an Try.f4 [a0, a1] s = leapfroglaw18x_ScanRises.t S a0 a1 s := by kernel_rfl
theorem leapfroglaw18x_ScanRises.cok : CtxOk Try.prog leapfroglaw18x_ScanRises.ctx := .cons leapfroglaw18x_awakeC.sound leapfroglaw18x_awakeC.can <| .cons scan_New.sound scan_New.can <| .cons scan_Scan_Next.sound scan_Scan_Next.can <| .cons scan_Scan_Tell.sound scan_Scan_Tell.can <| .cons scan_Scan_Wake.sound scan_Scan_Wake.can <| .cons leapfroglaw18x_in.sound leapfroglaw18x_in.can <| .nil
theorem leapfroglaw18x_ScanRises.draws : fnDraws leapfroglaw18x_ScanRises.an Try.f4 = true := by kernel_rfl
theorem leapfroglaw18x_ScanRises.can : callOk Try.prog 4 = true := by kernel_rfl
theorem leapfroglaw18x_ScanRises.sound : FnOk Try.prog 4 (.st leapfroglaw18x_ScanRises.w) := FnOk.st_of (evF_ok leapfroglaw18x_ScanRises.cok mixed (f := 4) (fn := Try.f4) (by kernel_rfl) leapfroglaw18x_ScanRises.draws) fun args s r h => by
  unfold leapfroglaw18x_ScanRises.w at h; split at h
  · rw [leapfroglaw18x_ScanRises.ok std]; exact h
  · simp at h

/-! ### leapfrog/leapfrogref02.Check: function 48 -/
def leapfrogref02x_Check.ctx : Ctx := []
def leapfrogref02x_Check.t (S : Sig) (a0 : Value) (s : St) : Option Value :=
  S.bd (bx a0) fun c1 => S.bd (lcl c1 0) fun x2 => S.bd (eqb [1] false false x2 (Go.Value.int Go.IntKind.i64 2)) fun x3 => S.bd (S.gd x3 false (lcl c1 0)) fun x4 => S.bd (S.gd x3 false (eqb [1] false false x4 (Go.Value.int Go.IntKind.i64 1))) fun x5 => S.bd (S.gd x3 false (some x5)) fun x6 => S.bd (S.gd x6 false (lcl c1 0)) fun x7 => S.bd (S.gd x6 false (eqb [1] false false x7 (Go.Value.int Go.IntKind.i64 3))) fun x8 => S.bd (S.gd x3 false (pik x6 (Go.Value.bool Bool.true) x8)) fun x9 => S.bd (S.gd x3 false (some x9)) fun x10 => S.bd (S.gd x10 true (lcl c1 1)) fun x11 => S.bd (S.gd x10 true (eqb [1] false false x11 (Go.Value.int Go.IntKind.u64 0))) fun x12 => S.bd (S.gd x3 false (pik x10 x12 (Go.Value.bool Bool.false))) fun x13 => S.bd (pik x3 (Go.Value.bool Bool.true) x13) fun x14 => S.cnd x14 (some ((Go.Value.int Go.IntKind.i64 0))) (some ((Go.Value.int Go.IntKind.i64 20)))
def leapfrogref02x_Check.r (a0 : Value) (s : St) : Option Value := leapfrogref02x_Check.t std a0 s
def leapfrogref02x_Check.w : List Value → St → Option Value
  | [a0], s => leapfrogref02x_Check.r a0 s
  | _, _ => none
def leapfrogref02x_Check.an : An := ⟨21, true, [1], [], [], []⟩
theorem leapfrogref02x_Check.ok (S : Sig) (a0 : Value) (s : St) : evG S Try.prog leapfrogref02x_Check.ctx leapfrogref02x_Check.an Try.f48 [a0] s = leapfrogref02x_Check.t S a0 s := by kernel_rfl
theorem leapfrogref02x_Check.cok : CtxOk Try.prog leapfrogref02x_Check.ctx := .nil
theorem leapfrogref02x_Check.draws : fnDraws leapfrogref02x_Check.an Try.f48 = true := by kernel_rfl
theorem leapfrogref02x_Check.can : callOk Try.prog 48 = true := by kernel_rfl
theorem leapfrogref02x_Check.sound : FnOk Try.prog 48 (.rd leapfrogref02x_Check.w) := FnOk.rd_of (evG_ok leapfrogref02x_Check.cok mixed (f := 48) (fn := Try.f48) (by kernel_rfl) leapfrogref02x_Check.draws) fun args s r h => by
  unfold leapfrogref02x_Check.w at h; split at h
  · rw [leapfrogref02x_Check.ok std]; exact h
  · simp at h

/-! ### leapfrog/leapfrogref01.Power: function 75 -/
def leapfrogref01x_Power.ctx : Ctx := []
def leapfrogref01x_Power.l2 (S : Sig) (rec6 : List Value → St → Option Cut) (xs4 : List Value) (s5 : St) : Option Cut :=
  S.bd (bin .gtr (xs4.getD 0 undef) (Go.Value.int Go.IntKind.i64 0)) fun x7 => S.cnd x7 (S.bd (bin .mul (xs4.getD 1 undef) (Go.Value.int Go.IntKind.u64 2)) fun x8 => S.bd (bin .sub (xs4.getD 0 undef) (Go.Value.int Go.IntKind.i64 1)) fun x9 => rec6 [x9, x8] s5) (some (0, [(xs4.getD 1 undef)], s5))

def leapfrogref01x_Power.t (S : Sig) (a0 : Value) (s : St) : Option Value :=
  S.bd (S.it (leapfrogref01x_Power.l2 S) [a0, (Go.Value.int Go.IntKind.u64 1)] s) fun r10 => some ((r10.2.1.getD 0 undef))
def leapfrogref01x_Power.r (a0 : Value) (s : St) : Option Value := leapfrogref01x_Power.t std a0 s
def leapfrogref01x_Power.w : List Value → St → Option Value
  | [a0], s => leapfrogref01x_Power.r a0 s
  | _, _ => none
def leapfrogref01x_Power.an : An := ⟨11, true, [], [(2, ⟨[.v 0, .v 3], [(.exit 0, [.v 3])]⟩)], [], []⟩
theorem leapfrogref01x_Power.ok (S : Sig) (a0 : Value) (s : St) : evG S Try.prog leapfrogref01x_Power.ctx leapfrogref01x_Power.an Try.f75 [a0] s = leapfrogref01x_Power.t S a0 s := by kernel_rfl
theorem leapfrogref01x_Power.cok : CtxOk Try.prog leapfrogref01x_Power.ctx := .nil
theorem leapfrogref01x_Power.draws : fnDraws leapfrogref01x_Power.an Try.f75 = true := by kernel_rfl
theorem leapfrogref01x_Power.can : callOk Try.prog 75 = true := by kernel_rfl
theorem leapfrogref01x_Power.sound : FnOk Try.prog 75 (.rd leapfrogref01x_Power.w) := FnOk.rd_of (evG_ok leapfrogref01x_Power.cok mixed (f := 75) (fn := Try.f75) (by kernel_rfl) leapfrogref01x_Power.draws) fun args s r h => by
  unfold leapfrogref01x_Power.w at h; split at h
  · rw [leapfrogref01x_Power.ok std]; exact h
  · simp at h

/-! ### leapfrog/leapfrogref01.Right: function 66 -/
def leapfrogref01x_Right.ctx : Ctx := [(75, .rd leapfrogref01x_Power.w)]
def leapfrogref01x_Right.t (S : Sig) (a0 : Value) (s : St) : Option Value :=
  S.bd (bx a0) fun c1 => S.bd (lcl c1 0) fun x2 => S.bd (bin .geq x2 (Go.Value.int Go.IntKind.i64 0)) fun x3 => S.bd (S.gd x3 true (lcl c1 0)) fun x4 => S.bd (S.gd x3 true (bin .leq x4 (Go.Value.int Go.IntKind.i64 32))) fun x5 => S.bd (pik x3 x5 (Go.Value.bool Bool.false)) fun x6 => S.bd (S.gd x6 true (lcl c1 1)) fun x7 => S.bd (S.gd x6 true (lcl c1 0)) fun x8 => S.bd (S.gd x6 true (leapfrogref01x_Power.r x8 s)) fun x9 => S.bd (S.gd x6 true (bin .lss x7 x9)) fun x10 => S.bd (pik x6 x10 (Go.Value.bool Bool.false)) fun x11 => some (x11)
def leapfrogref01x_Right.r (a0 : Value) (s : St) : Option Value := leapfrogref01x_Right.t std a0 s
def leapfrogref01x_Right.w : List Value → St → Option Value
  | [a0], s => leapfrogref01x_Right.r a0 s
  | _, _ => none
def leapfrogref01x_Right.an : An := ⟨19, true, [1], [], [], [(1, [(0, 0, [], []), (1, 9, [], []), (2, 0, [], []), (3, 0, [], []), (4, 0, [], []), (5, 9, [], []), (6, 0, [], []), (7, 0, [], []), (8, 0, [], []), (9, 0, [], []), (10, 9, [], []), (11, 0, [], []), (12, 9, [], []), (13, 3, [], []), (14, 0, [], []), (15, 0, [], []), (16, 0, [], [])])]⟩
theorem leapfrogref01x_Right.ok (S : Sig) (a0 : Value) (s : St) : evG S Try.prog leapfrogref01x_Right.ctx leapfrogref01x_Right.an Try.f66 [a0] s = leapfrogref01x_Right.t S a0 s := by kernel_rfl
theorem leapfrogref01x_Right.cok : CtxOk Try.prog leapfrogref01x_Right.ctx := .cons leapfrogref01x_Power.sound leapfrogref01x_Power.can <| .nil
theorem leapfrogref01x_Right.draws : fnDraws leapfrogref01x_Right.an Try.f66 = true := by kernel_rfl
theorem leapfrogref01x_Right.can : callOk Try.prog 66 = true := by kernel_rfl
theorem leapfrogref01x_Right.sound : FnOk Try.prog 66 (.rd leapfrogref01x_Right.w) := FnOk.rd_of (evG_ok leapfrogref01x_Right.cok mixed (f := 66) (fn := Try.f66) (by kernel_rfl) leapfrogref01x_Right.draws) fun args s r h => by
  unfold leapfrogref01x_Right.w at h; split at h
  · rw [leapfrogref01x_Right.ok std]; exact h
  · simp at h

/-! ### leapfrog/leapfrogref12.Right: function 47 -/
def leapfrogref12x_Right.ctx : Ctx := [(48, .rd leapfrogref02x_Check.w), (66, .rd leapfrogref01x_Right.w)]
def leapfrogref12x_Right.t (S : Sig) (a0 a1 : Value) (s : St) : Option Value :=
  S.bd (bx a0) fun c1 => S.bd (lal c1 1 2) fun x2 => S.bd (leapfrogref02x_Check.r x2 s) fun x3 => S.bd (eqb [1] false false x3 (Go.Value.int Go.IntKind.i64 0)) fun x4 => S.bd (S.gd x4 true (lal c1 3 2)) fun x5 => S.bd (S.gd x4 true (leapfrogref01x_Right.r x5 s)) fun x6 => S.bd (pik x4 x6 (Go.Value.bool Bool.false)) fun x7 => S.bd (S.gd x7 true (lcl c1 3)) fun x8 => S.bd (S.gd x7 true (some a1)) fun x9 => S.bd (S.gd x7 true (eqb [1] false false x8 x9)) fun x10 => S.bd (pik x7 x10 (Go.Value.bool Bool.false)) fun x11 => some (x11)
def leapfrogref12x_Right.r (a0 a1 : Value) (s : St) : Option Value := leapfrogref12x_Right.t std a0 a1 s
def leapfrogref12x_Right.w : List Value → St → Option Value
  | [a0, a1], s => leapfrogref12x_Right.r a0 a1 s
  | _, _ => none
def leapfrogref12x_Right.an : An := ⟨21, true, [2], [], [], []⟩
theorem leapfrogref12x_Right.ok (S : Sig) (a0 a1 : Value) (s : St) : evG S Try.prog leapfrogref12x_Right.ctx leapfrogref12x_Right.an Try.f47 [a0, a1] s = leapfrogref12x_Right.t S a0 a1 s := by kernel_rfl
theorem leapfrogref12x_Right.cok : CtxOk Try.prog leapfrogref12x_Right.ctx := .cons leapfrogref02x_Check.sound leapfrogref02x_Check.can <| .cons leapfrogref01x_Right.sound leapfrogref01x_Right.can <| .nil
theorem leapfrogref12x_Right.draws : fnDraws leapfrogref12x_Right.an Try.f47 = true := by kernel_rfl
theorem leapfrogref12x_Right.can : callOk Try.prog 47 = true := by kernel_rfl
theorem leapfrogref12x_Right.sound : FnOk Try.prog 47 (.rd leapfrogref12x_Right.w) := FnOk.rd_of (evG_ok leapfrogref12x_Right.cok mixed (f := 47) (fn := Try.f47) (by kernel_rfl) leapfrogref12x_Right.draws) fun args s r h => by
  unfold leapfrogref12x_Right.w at h; split at h
  · rw [leapfrogref12x_Right.ok std]; exact h
  · simp at h

/-! ### leapfrog/leapfrogref12.New: function 31 -/
def leapfrogref12x_New.ctx : Ctx := [(47, .rd leapfrogref12x_Right.w), (48, .rd leapfrogref02x_Check.w)]
def leapfrogref12x_New.t.p1 (S : Sig) (x6 : Value) (x9 : Value) (c1 : List Value) (s : St) : Option (Value × St) :=
  S.bd (S.gd x6 false (un .not x9)) fun x10 => S.bd (pik x6 (Go.Value.bool Bool.true) x10) fun x11 => S.bd (S.gd x11 false (lal c1 6 2)) fun x12 => S.bd (S.gd x11 false (leapfrogref02x_Check.r x12 s)) fun x13 => S.bd (S.gd x11 false (eqb [1] false true x13 (Go.Value.int Go.IntKind.i64 0))) fun x14 => S.bd (pik x11 (Go.Value.bool Bool.true) x14) fun x15 => S.bd (S.gd x15 false (lcl c1 6)) fun x16 => S.bd (S.gd x15 false (eqb [1] false false x16 (Go.Value.int Go.IntKind.i64 1))) fun x17 => S.bd (pik x15 (Go.Value.bool Bool.true) x17) fun x18 => S.cnd x18 (some ((Value.tuple ⟨[(Go.Value.pointer Option.none), (Go.Value.int Go.IntKind.i64 120)]⟩), s)) (S.bd (lal c1 0 8) fun x19 => S.bd (lal c1 1 5) fun x20 => S.bd (lal c1 4 2) fun x21 => S.bd (bld [(Go.Value.int Go.IntKind.i64 0), (Go.Value.int Go.IntKind.i64 0), (Go.Value.int Go.IntKind.i64 0), (Go.Value.int Go.IntKind.u64 0), (Go.Value.int Go.IntKind.i64 0), (Go.Value.int Go.IntKind.u64 0), (Go.Value.int Go.IntKind.i64 0), (Go.Value.int Go.IntKind.u64 0), (Go.Value.int Go.IntKind.i64 0), (Go.Value.int Go.IntKind.i64 0), (Go.Value.int Go.IntKind.u64 0), (Go.Value.int Go.IntKind.i64 0), (Go.Value.int Go.IntKind.u64 0), (Go.Value.int Go.IntKind.i64 0), (Go.Value.int Go.IntKind.u64 0), (Go.Value.bool Bool.false), (Go.Value.int Go.IntKind.i64 0), (Go.Value.int Go.IntKind.i64 0), (Go.Value.int Go.IntKind.u64 0), (Go.Value.int Go.IntKind.i64 0), (Go.Value.int Go.IntKind.u64 0), (Go.Value.slice Option.none 0 0), (Go.Value.int Go.IntKind.i64 0), (Go.Value.bool Bool.false), (Go.Value.int Go.IntKind.i64 0), (Go.Value.int Go.IntKind.u64 0), (Go.Value.slice Option.none 0 0), (Go.Value.slice Option.none 0 0), (Go.Value.int Go.IntKind.i64 0), (Go.Value.int Go.IntKind.i64 0), (Go.Value.int Go.IntKind.u64 0), (Go.Value.int Go.IntKind.i64 0), (Go.Value.int Go.IntKind.u64 0), (Go.Value.int Go.IntKind.i64 0), (Go.Value.int Go.IntKind.i64 0), (Go.Value.int Go.IntKind.u64 0), (Go.Value.int Go.IntKind.i64 0), (Go.Value.int Go.IntKind.u64 0), (Go.Value.bool Bool.false)] [(0, 8, x19), (8, 5, x20), (13, 2, x21)]) fun x22 => S.bd (alv s x22) fun r23 => some ((Value.tuple ⟨[r23.1, (Go.Value.int Go.IntKind.i64 0)]⟩), r23.2))

def leapfrogref12x_New.t (S : Sig) (a0 : Value) (s : St) : Option (Value × St) :=
  S.bd (bx a0) fun c1 => S.bd (lcl c1 0) fun x2 => S.bd (bin .lss x2 (Go.Value.int Go.IntKind.i64 0)) fun x3 => S.bd (S.gd x3 false (lcl c1 0)) fun x4 => S.bd (S.gd x3 false (bin .gtr x4 (Go.Value.int Go.IntKind.i64 32))) fun x5 => S.bd (pik x3 (Go.Value.bool Bool.true) x5) fun x6 => S.bd (S.gd x6 false (lal c1 1 5)) fun x7 => S.bd (S.gd x6 false (lcl c1 0)) fun x8 => S.bd (S.gd x6 false (leapfrogref12x_Right.r x7 x8 s)) fun x9 => leapfrogref12x_New.t.p1 S x6 x9 c1 s
def leapfrogref12x_New.v (a0 : Value) (s : St) : Option (Value × St) := leapfrogref12x_New.t std a0 s
def leapfrogref12x_New.w : List Value → St → Option (Value × St)
  | [a0], s => leapfrogref12x_New.v a0 s
  | _, _ => none
def leapfrogref12x_New.an : An := ⟨40, false, [1], [], [], []⟩
theorem leapfrogref12x_New.ok (S : Sig) (a0 : Value) (s : St) : evF S Try.prog leapfrogref12x_New.ctx leapfrogref12x_New.an Try.f31 [a0] s = leapfrogref12x_New.t S a0 s := by kernel_rfl
theorem leapfrogref12x_New.cok : CtxOk Try.prog leapfrogref12x_New.ctx := .cons leapfrogref12x_Right.sound leapfrogref12x_Right.can <| .cons leapfrogref02x_Check.sound leapfrogref02x_Check.can <| .nil
theorem leapfrogref12x_New.draws : fnDraws leapfrogref12x_New.an Try.f31 = true := by kernel_rfl
theorem leapfrogref12x_New.can : callOk Try.prog 31 = true := by kernel_rfl
theorem leapfrogref12x_New.sound : FnOk Try.prog 31 (.st leapfrogref12x_New.w) := FnOk.st_of (evF_ok leapfrogref12x_New.cok mixed (f := 31) (fn := Try.f31) (by kernel_rfl) leapfrogref12x_New.draws) fun args s r h => by
  unfold leapfrogref12x_New.w at h; split at h
  · rw [leapfrogref12x_New.ok std]; exact h
  · simp at h

/-! ### (*leapfrog/leapfrogref18.Scan).end: function 32 -/
def leapfrogref18x_Scan_end.ctx : Ctx := []
def leapfrogref18x_Scan_end.t (S : Sig) (a0 a1 : Value) (s : St) : Option (Value × St) :=
  S.bd (bx a1) fun c1 => S.bd (lal c1 0 15) fun x2 => S.bd (nck a0) fun x3 => S.bd (fld 20 x3) fun x4 => S.bd (stv s 1 x4 (Go.Value.bool Bool.true)) fun s5 => S.bd (nck a0) fun x6 => S.bd (fld 21 x6) fun x7 => S.bd (stv s5 15 x7 x2) fun s8 => some ((Value.tuple ⟨[]⟩), s8)
def leapfrogref18x_Scan_end.v (a0 a1 : Value) (s : St) : Option (Value × St) := leapfrogref18x_Scan_end.t std a0 a1 s
def leapfrogref18x_Scan_end.w : List Value → St → Option (Value × St)
  | [a0, a1], s => leapfrogref18x_Scan_end.v a0 a1 s
  | _, _ => none
def leapfrogref18x_Scan_end.an : An := ⟨11, false, [3], [], [], [(1, [(0, 0, [], []), (1, 0, [], []), (2, 25, [], []), (3, 0, [], []), (4, 0, [], []), (5, 4, [], []), (6, 0, [], []), (7, 0, [], []), (8, 4, [], [])])]⟩
theorem leapfrogref18x_Scan_end.ok (S : Sig) (a0 a1 : Value) (s : St) : evF S Try.prog leapfrogref18x_Scan_end.ctx leapfrogref18x_Scan_end.an Try.f32 [a0, a1] s = leapfrogref18x_Scan_end.t S a0 a1 s := by kernel_rfl
theorem leapfrogref18x_Scan_end.cok : CtxOk Try.prog leapfrogref18x_Scan_end.ctx := .nil
theorem leapfrogref18x_Scan_end.draws : fnDraws leapfrogref18x_Scan_end.an Try.f32 = true := by kernel_rfl
theorem leapfrogref18x_Scan_end.can : callOk Try.prog 32 = true := by kernel_rfl
theorem leapfrogref18x_Scan_end.sound : FnOk Try.prog 32 (.st leapfrogref18x_Scan_end.w) := FnOk.st_of (evF_ok leapfrogref18x_Scan_end.cok mixed (f := 32) (fn := Try.f32) (by kernel_rfl) leapfrogref18x_Scan_end.draws) fun args s r h => by
  unfold leapfrogref18x_Scan_end.w at h; split at h
  · rw [leapfrogref18x_Scan_end.ok std]; exact h
  · simp at h

/-! ### leapfrog/leapfrogref18.New: function 16 -/
def leapfrogref18x_New.ctx : Ctx := [(11, .rd leapfrogref02x_At.w), (31, .st leapfrogref12x_New.w), (32, .st leapfrogref18x_Scan_end.w)]
def leapfrogref18x_New.t (S : Sig) (a0 : Value) (s : St) : Option (Value × St) :=
  S.bd (bx a0) fun c1 => S.bd (lal c1 0 8) fun x2 => S.bd (lcl c1 6) fun x3 => S.bd (leapfrogref02x_At.r x3 s) fun x4 => S.bd (bld [(Go.Value.int Go.IntKind.i64 0), (Go.Value.int Go.IntKind.i64 0), (Go.Value.int Go.IntKind.i64 0), (Go.Value.int Go.IntKind.u64 0), (Go.Value.int Go.IntKind.i64 0), (Go.Value.int Go.IntKind.u64 0), (Go.Value.int Go.IntKind.u64 0), (Go.Value.int Go.IntKind.u64 0), (Go.Value.int Go.IntKind.i64 0), (Go.Value.int Go.IntKind.u64 0), (Go.Value.pointer Option.none), (Go.Value.int Go.IntKind.i64 0), (Go.Value.int Go.IntKind.i64 0), (Go.Value.int Go.IntKind.u64 0), (Go.Value.int Go.IntKind.i64 0), (Go.Value.int Go.IntKind.u64 0), (Go.Value.bool Bool.false), (Go.Value.bool Bool.false), (Go.Value.slice Option.none 0 0), (Go.Value.int Go.IntKind.i64 0), (Go.Value.bool Bool.false), (Go.Value.int Go.IntKind.i64 0), (Go.Value.int Go.IntKind.u64 0), (Go.Value.slice Option.none 0 0), (Go.Value.slice Option.none 0 0), (Go.Value.int Go.IntKind.i64 0), (Go.Value.int Go.IntKind.i64 0), (Go.Value.int Go.IntKind.u64 0), (Go.Value.int Go.IntKind.i64 0), (Go.Value.int Go.IntKind.u64 0), (Go.Value.int Go.IntKind.i64 0), (Go.Value.int Go.IntKind.i64 0), (Go.Value.int Go.IntKind.u64 0), (Go.Value.int Go.IntKind.i64 0), (Go.Value.int Go.IntKind.u64 0), (Go.Value.bool Bool.false)] [(0, 8, x2), (8, 2, x4)]) fun x5 => S.bd (alv s x5) fun r6 => S.bd (lcl c1 0) fun x7 => S.bd (lal c1 1 5) fun x8 => S.bd (nck r6.1) fun x9 => S.bd (fld 8 x9) fun x10 => S.bd (lda r6.2 2 x10) fun x11 => S.bd (bld [(Go.Value.int Go.IntKind.i64 0), (Go.Value.int Go.IntKind.i64 0), (Go.Value.int Go.IntKind.i64 0), (Go.Value.int Go.IntKind.u64 0), (Go.Value.int Go.IntKind.i64 0), (Go.Value.int Go.IntKind.u64 0), (Go.Value.int Go.IntKind.i64 0), (Go.Value.int Go.IntKind.u64 0)] [(0, 1, x7), (1, 5, x8), (6, 2, x11)]) fun x12 => S.bd (leapfrogref12x_New.v x12 r6.2) fun r13 => S.bd (lda r13.2 2 x10) fun x14 => S.cnd (Value.bool (sameV x14 x11)) (S.bd (xtr 0 r13.1) fun x15 => S.bd (xtr 1 r13.1) fun x16 => S.bd (eqb [1] false true x16 (Go.Value.int Go.IntKind.i64 0)) fun x17 => S.cnd x17 (some ((Value.tuple ⟨[(Go.Value.pointer Option.none), (Go.Value.int Go.IntKind.i64 180)]⟩), r13.2)) (S.bd (nck r6.1) fun x18 => S.bd (fld 10 x18) fun x19 => S.bd (stv r13.2 1 x19 x15) fun s20 => S.bd (lcl c1 6) fun x21 => S.bd (lcl c1 7) fun x22 => S.bd (bin .gtr x21 x22) fun x23 => S.cnd x23 (S.bd (bld [(Go.Value.int Go.IntKind.i64 0), (Go.Value.int Go.IntKind.u64 0), (Go.Value.slice Option.none 0 0), (Go.Value.slice Option.none 0 0), (Go.Value.int Go.IntKind.i64 0), (Go.Value.int Go.IntKind.i64 0), (Go.Value.int Go.IntKind.u64 0), (Go.Value.int Go.IntKind.i64 0), (Go.Value.int Go.IntKind.u64 0), (Go.Value.int Go.IntKind.i64 0), (Go.Value.int Go.IntKind.i64 0), (Go.Value.int Go.IntKind.u64 0), (Go.Value.int Go.IntKind.i64 0), (Go.Value.int Go.IntKind.u64 0), (Go.Value.bool Bool.false)] []) fun x24 => S.bd (leapfrogref18x_Scan_end.v r6.1 x24 s20) fun r25 => some ((Value.tuple ⟨[r6.1, (Go.Value.int Go.IntKind.i64 0)]⟩), r25.2)) (some ((Value.tuple ⟨[r6.1, (Go.Value.int Go.IntKind.i64 0)]⟩), s20)))) (none)
def leapfrogref18x_New.v (a0 : Value) (s : St) : Option (Value × St) := leapfrogref18x_New.t std a0 s
def leapfrogref18x_New.w : List Value → St → Option (Value × St)
  | [a0], s => leapfrogref18x_New.v a0 s
  | _, _ => none
def leapfrogref18x_New.an : An := ⟨41, false, [1], [], [], [(1, [(0, 9, [], []), (1, 0, [], []), (2, 9, [], []), (3, 3, [], []), (4, 0, [], []), (5, 3, [], []), (6, 0, [], [])]), (2, [(0, 0, [], []), (1, 9, [], []), (2, 0, [], []), (3, 9, [], []), (4, 0, [], []), (5, 0, [], []), (6, 0, [], []), (7, 2, [], []), (8, 0, [], []), (9, 4, [7], []), (10, 0, [], []), (11, 0, [], []), (12, 0, [], []), (13, 0, [], []), (14, 0, [], [])])]⟩
theorem leapfrogref18x_New.ok (S : Sig) (a0 : Value) (s : St) : evF S Try.prog leapfrogref18x_New.ctx leapfrogref18x_New.an Try.f16 [a0] s = leapfrogref18x_New.t S a0 s := by kernel_rfl
theorem leapfrogref18x_New.cok : CtxOk Try.prog leapfrogref18x_New.ctx := .cons leapfrogref02x_At.sound leapfrogref02x_At.can <| .cons leapfrogref12x_New.sound leapfrogref12x_New.can <| .cons leapfrogref18x_Scan_end.sound leapfrogref18x_Scan_end.can <| .nil
theorem leapfrogref18x_New.draws : fnDraws leapfrogref18x_New.an Try.f16 = true := by kernel_rfl
theorem leapfrogref18x_New.can : callOk Try.prog 16 = true := by kernel_rfl
theorem leapfrogref18x_New.sound : FnOk Try.prog 16 (.st leapfrogref18x_New.w) := FnOk.st_of (evF_ok leapfrogref18x_New.cok mixed (f := 16) (fn := Try.f16) (by kernel_rfl) leapfrogref18x_New.draws) fun args s r h => by
  unfold leapfrogref18x_New.w at h; split at h
  · rw [leapfrogref18x_New.ok std]; exact h
  · simp at h

/-! ### (*leapfrog/leapfrogref12.Seek).Next: function 34 -/
def leapfrogref12x_Seek_Next.ctx : Ctx := []
def leapfrogref12x_Seek_Next.t.p1 (S : Sig) (a0 : Value) (s : St) (c1 : List Value) : Option Value :=
  S.bd (nck a0) fun x11 => S.bd (fld 8 x11) fun x12 => S.bd (lda s 5 x12) fun x13 => S.bd (nck a0) fun x14 => S.bd (fld 13 x14) fun x15 => S.bd (lda s 2 x15) fun x16 => S.bd (bld [(Go.Value.int Go.IntKind.i64 0), (Go.Value.int Go.IntKind.i64 0), (Go.Value.int Go.IntKind.u64 0), (Go.Value.int Go.IntKind.i64 0), (Go.Value.int Go.IntKind.i64 0), (Go.Value.int Go.IntKind.u64 0), (Go.Value.int Go.IntKind.i64 0), (Go.Value.int Go.IntKind.u64 0), (Go.Value.int Go.IntKind.i64 0), (Go.Value.int Go.IntKind.i64 0), (Go.Value.int Go.IntKind.u64 0), (Go.Value.int Go.IntKind.i64 0), (Go.Value.int Go.IntKind.u64 0), (Go.Value.int Go.IntKind.i64 0), (Go.Value.int Go.IntKind.i64 0)] [(0, 1, (Go.Value.int Go.IntKind.i64 1)), (1, 2, x16)]) fun x17 => S.bd (bld [(Go.Value.int Go.IntKind.i64 0), (Go.Value.int Go.IntKind.i64 0), (Go.Value.int Go.IntKind.i64 0), (Go.Value.int Go.IntKind.u64 0), (Go.Value.int Go.IntKind.i64 0), (Go.Value.int Go.IntKind.u64 0), (Go.Value.int Go.IntKind.i64 0), (Go.Value.int Go.IntKind.i64 0), (Go.Value.int Go.IntKind.u64 0), (Go.Value.int Go.IntKind.i64 0), (Go.Value.int Go.IntKind.i64 0), (Go.Value.int Go.IntKind.u64 0), (Go.Value.int Go.IntKind.i64 0), (Go.Value.int Go.IntKind.u64 0), (Go.Value.int Go.IntKind.i64 0), (Go.Value.int Go.IntKind.i64 0), (Go.Value.int Go.IntKind.u64 0), (Go.Value.int Go.IntKind.i64 0), (Go.Value.int Go.IntKind.u64 0), (Go.Value.int Go.IntKind.i64 0), (Go.Value.int Go.IntKind.i64 0), (Go.Value.int Go.IntKind.i64 0), (Go.Value.int Go.IntKind.u64 0), (Go.Value.slice Option.none 0 0), (Go.Value.slice Option.none 0 0), (Go.Value.int Go.IntKind.i64 0), (Go.Value.int Go.IntKind.i64 0), (Go.Value.int Go.IntKind.u64 0), (Go.Value.int Go.IntKind.i64 0), (Go.Value.int Go.IntKind.u64 0), (Go.Value.int Go.IntKind.i64 0), (Go.Value.int Go.IntKind.i64 0), (Go.Value.int Go.IntKind.u64 0), (Go.Value.int Go.IntKind.i64 0), (Go.Value.int Go.IntKind.u64 0), (Go.Value.bool Bool.false)] [(0, 1, (Go.Value.int Go.IntKind.i64 1)), (1, 5, x13), (6, 15, x17)]) fun x18 => S.bd (bx (Go.Value.agg #[(Go.Value.int Go.IntKind.i64 0), (Go.Value.int Go.IntKind.i64 0), (Go.Value.int Go.IntKind.i64 0), (Go.Value.int Go.IntKind.u64 0), (Go.Value.int Go.IntKind.i64 0), (Go.Value.int Go.IntKind.u64 0), (Go.Value.int Go.IntKind.i64 0), (Go.Value.int Go.IntKind.i64 0), (Go.Value.int Go.IntKind.u64 0), (Go.Value.int Go.IntKind.i64 0), (Go.Value.int Go.IntKind.i64 0), (Go.Value.int Go.IntKind.u64 0), (Go.Value.int Go.IntKind.i64 0), (Go.Value.int Go.IntKind.u64 0), (Go.Value.int Go.IntKind.i64 0), (Go.Value.int Go.IntKind.i64 0), (Go.Value.int Go.IntKind.u64 0), (Go.Value.int Go.IntKind.i64 0), (Go.Value.int Go.IntKind.u64 0), (Go.Value.int Go.IntKind.i64 0), (Go.Value.int Go.IntKind.i64 0), (Go.Value.int Go.IntKind.i64 0), (Go.Value.int Go.IntKind.u64 0), (Go.Value.slice Option.none 0 0), (Go.Value.slice Option.none 0 0), (Go.Value.int Go.IntKind.i64 0), (Go.Value.int Go.IntKind.i64 0), (Go.Value.int Go.IntKind.u64 0), (Go.Value.int Go.IntKind.i64 0), (Go.Value.int Go.IntKind.u64 0), (Go.Value.int Go.IntKind.i64 0), (Go.Value.int Go.IntKind.i64 0), (Go.Value.int Go.IntKind.u64 0), (Go.Value.int Go.IntKind.i64 0), (Go.Value.int Go.IntKind.u64 0), (Go.Value.bool Bool.false)])) fun c19 => S.bd (stl c19 0 36 x18) fun c20 => S.bd (nck a0) fun x21 => S.bd (fld 15 x21) fun x22 => S.bd (ldc s x22) fun x23 => S.cnd x23 (S.bd (nck a0) fun x24 => S.bd (fld 16 x24) fun x25 => S.bd (lda s 5 x25) fun x26 => S.bd (stl c20 1 5 x26) fun c27 => S.bd (lal c27 0 36) fun x28 => S.bd (stl c1 0 36 x28) fun c29 => S.bd (lal c29 0 36) fun x30 => some (x30)) (S.bd (lal c20 0 36) fun x31 => S.bd (stl c1 0 36 x31) fun c32 => S.bd (lal c32 0 36) fun x33 => some (x33))

def leapfrogref12x_Seek_Next.t (S : Sig) (a0 : Value) (s : St) : Option Value :=
  S.bd (bx (Go.Value.agg #[(Go.Value.int Go.IntKind.i64 0), (Go.Value.int Go.IntKind.i64 0), (Go.Value.int Go.IntKind.i64 0), (Go.Value.int Go.IntKind.u64 0), (Go.Value.int Go.IntKind.i64 0), (Go.Value.int Go.IntKind.u64 0), (Go.Value.int Go.IntKind.i64 0), (Go.Value.int Go.IntKind.i64 0), (Go.Value.int Go.IntKind.u64 0), (Go.Value.int Go.IntKind.i64 0), (Go.Value.int Go.IntKind.i64 0), (Go.Value.int Go.IntKind.u64 0), (Go.Value.int Go.IntKind.i64 0), (Go.Value.int Go.IntKind.u64 0), (Go.Value.int Go.IntKind.i64 0), (Go.Value.int Go.IntKind.i64 0), (Go.Value.int Go.IntKind.u64 0), (Go.Value.int Go.IntKind.i64 0), (Go.Value.int Go.IntKind.u64 0), (Go.Value.int Go.IntKind.i64 0), (Go.Value.int Go.IntKind.i64 0), (Go.Value.int Go.IntKind.i64 0), (Go.Value.int Go.IntKind.u64 0), (Go.Value.slice Option.none 0 0), (Go.Value.slice Option.none 0 0), (Go.Value.int Go.IntKind.i64 0), (Go.Value.int Go.IntKind.i64 0), (Go.Value.int Go.IntKind.u64 0), (Go.Value.int Go.IntKind.i64 0), (Go.Value.int Go.IntKind.u64 0), (Go.Value.int Go.IntKind.i64 0), (Go.Value.int Go.IntKind.i64 0), (Go.Value.int Go.IntKind.u64 0), (Go.Value.int Go.IntKind.i64 0), (Go.Value.int Go.IntKind.u64 0), (Go.Value.bool Bool.false)])) fun c1 => S.bd (nck a0) fun x2 => S.bd (fld 23 x2) fun x3 => S.bd (ldc s x3) fun x4 => S.cnd x4 (S.bd (nck a0) fun x5 => S.bd (fld 24 x5) fun x6 => S.bd (lda s 15 x6) fun x7 => S.bd (bld [(Go.Value.int Go.IntKind.i64 0), (Go.Value.int Go.IntKind.i64 0), (Go.Value.int Go.IntKind.i64 0), (Go.Value.int Go.IntKind.u64 0), (Go.Value.int Go.IntKind.i64 0), (Go.Value.int Go.IntKind.u64 0), (Go.Value.int Go.IntKind.i64 0), (Go.Value.int Go.IntKind.i64 0), (Go.Value.int Go.IntKind.u64 0), (Go.Value.int Go.IntKind.i64 0), (Go.Value.int Go.IntKind.i64 0), (Go.Value.int Go.IntKind.u64 0), (Go.Value.int Go.IntKind.i64 0), (Go.Value.int Go.IntKind.u64 0), (Go.Value.int Go.IntKind.i64 0), (Go.Value.int Go.IntKind.i64 0), (Go.Value.int Go.IntKind.u64 0), (Go.Value.int Go.IntKind.i64 0), (Go.Value.int Go.IntKind.u64 0), (Go.Value.int Go.IntKind.i64 0), (Go.Value.int Go.IntKind.i64 0), (Go.Value.int Go.IntKind.i64 0), (Go.Value.int Go.IntKind.u64 0), (Go.Value.slice Option.none 0 0), (Go.Value.slice Option.none 0 0), (Go.Value.int Go.IntKind.i64 0), (Go.Value.int Go.IntKind.i64 0), (Go.Value.int Go.IntKind.u64 0), (Go.Value.int Go.IntKind.i64 0), (Go.Value.int Go.IntKind.u64 0), (Go.Value.int Go.IntKind.i64 0), (Go.Value.int Go.IntKind.i64 0), (Go.Value.int Go.IntKind.u64 0), (Go.Value.int Go.IntKind.i64 0), (Go.Value.int Go.IntKind.u64 0), (Go.Value.bool Bool.false)] [(0, 1, (Go.Value.int Go.IntKind.i64 3)), (21, 15, x7)]) fun x8 => S.bd (stl c1 0 36 x8) fun c9 => S.bd (lal c9 0 36) fun x10 => some (x10)) (leapfrogref12x_Seek_Next.t.p1 S a0 s c1)
def leapfrogref12x_Seek_Next.r (a0 : Value) (s : St) : Option Value := leapfrogref12x_Seek_Next.t std a0 s
def leapfrogref12x_Seek_Next.w : List Value → St → Option Value
  | [a0], s => leapfrogref12x_Seek_Next.r a0 s
  | _, _ => none
def leapfrogref12x_Seek_Next.an : An := ⟨33, true, [2, 3], [], [], [(3, [(0, 0, [], []), (1, 0, [], []), (2, 0, [], []), (3, 2, [], []), (4, 0, [], []), (5, 0, [], []), (6, 0, [], []), (7, 2, [], []), (8, 0, [], []), (9, 0, [], []), (10, 6, [], []), (11, 29, [], [])])]⟩
theorem leapfrogref12x_Seek_Next.ok (S : Sig) (a0 : Value) (s : St) : evG S Try.prog leapfrogref12x_Seek_Next.ctx leapfrogref12x_Seek_Next.an Try.f34 [a0] s = leapfrogref12x_Seek_Next.t S a0 s := by kernel_rfl
theorem leapfrogref12x_Seek_Next.cok : CtxOk Try.prog leapfrogref12x_Seek_Next.ctx := .nil
theorem leapfrogref12x_Seek_Next.draws : fnDraws leapfrogref12x_Seek_Next.an Try.f34 = true := by kernel_rfl
theorem leapfrogref12x_Seek_Next.can : callOk Try.prog 34 = true := by kernel_rfl
theorem leapfrogref12x_Seek_Next.sound : FnOk Try.prog 34 (.rd leapfrogref12x_Seek_Next.w) := FnOk.rd_of (evG_ok leapfrogref12x_Seek_Next.cok mixed (f := 34) (fn := Try.f34) (by kernel_rfl) leapfrogref12x_Seek_Next.draws) fun args s r h => by
  unfold leapfrogref12x_Seek_Next.w at h; split at h
  · rw [leapfrogref12x_Seek_Next.ok std]; exact h
  · simp at h

/-! ### (*leapfrog/leapfrogref18.Scan).Next: function 18 -/
def leapfrogref18x_Scan_Next.ctx : Ctx := [(34, .rd leapfrogref12x_Seek_Next.w)]
def leapfrogref18x_Scan_Next.t.p1 (S : Sig) (a0 : Value) (s : St) (c1 : List Value) : Option Value :=
  S.bd (nck a0) fun x30 => S.bd (fld 11 x30) fun x31 => S.bd (lda s 5 x31) fun x32 => S.bd (bld [(Go.Value.int Go.IntKind.i64 0), (Go.Value.int Go.IntKind.i64 0), (Go.Value.int Go.IntKind.u64 0), (Go.Value.int Go.IntKind.i64 0), (Go.Value.int Go.IntKind.i64 0), (Go.Value.int Go.IntKind.u64 0), (Go.Value.int Go.IntKind.i64 0), (Go.Value.int Go.IntKind.u64 0), (Go.Value.int Go.IntKind.i64 0), (Go.Value.int Go.IntKind.i64 0), (Go.Value.int Go.IntKind.u64 0), (Go.Value.int Go.IntKind.i64 0), (Go.Value.int Go.IntKind.u64 0), (Go.Value.int Go.IntKind.i64 0), (Go.Value.int Go.IntKind.i64 0)] [(0, 1, (Go.Value.int Go.IntKind.i64 2))]) fun x33 => S.bd (bld [(Go.Value.int Go.IntKind.i64 0), (Go.Value.int Go.IntKind.i64 0), (Go.Value.int Go.IntKind.i64 0), (Go.Value.int Go.IntKind.u64 0), (Go.Value.int Go.IntKind.i64 0), (Go.Value.int Go.IntKind.u64 0), (Go.Value.int Go.IntKind.i64 0), (Go.Value.int Go.IntKind.i64 0), (Go.Value.int Go.IntKind.u64 0), (Go.Value.int Go.IntKind.i64 0), (Go.Value.int Go.IntKind.i64 0), (Go.Value.int Go.IntKind.u64 0), (Go.Value.int Go.IntKind.i64 0), (Go.Value.int Go.IntKind.u64 0), (Go.Value.int Go.IntKind.i64 0), (Go.Value.int Go.IntKind.i64 0), (Go.Value.int Go.IntKind.u64 0), (Go.Value.int Go.IntKind.i64 0), (Go.Value.int Go.IntKind.u64 0), (Go.Value.int Go.IntKind.i64 0), (Go.Value.int Go.IntKind.i64 0), (Go.Value.int Go.IntKind.i64 0), (Go.Value.int Go.IntKind.u64 0), (Go.Value.slice Option.none 0 0), (Go.Value.slice Option.none 0 0), (Go.Value.int Go.IntKind.i64 0), (Go.Value.int Go.IntKind.i64 0), (Go.Value.int Go.IntKind.u64 0), (Go.Value.int Go.IntKind.i64 0), (Go.Value.int Go.IntKind.u64 0), (Go.Value.int Go.IntKind.i64 0), (Go.Value.int Go.IntKind.i64 0), (Go.Value.int Go.IntKind.u64 0), (Go.Value.int Go.IntKind.i64 0), (Go.Value.int Go.IntKind.u64 0), (Go.Value.bool Bool.false)] [(0, 1, (Go.Value.int Go.IntKind.i64 1)), (1, 5, x32), (6, 15, x33)]) fun x34 => S.bd (stl c1 0 36 x34) fun c35 => S.bd (lal c35 0 36) fun x36 => some (x36)

def leapfrogref18x_Scan_Next.t.p2 (S : Sig) (a0 : Value) (s : St) (c1 : List Value) : Option Value :=
  S.bd (nck a0) fun x11 => S.bd (fld 17 x11) fun x12 => S.bd (ldc s x12) fun x13 => S.cnd x13 (S.bd (bld [(Go.Value.int Go.IntKind.i64 0), (Go.Value.int Go.IntKind.i64 0), (Go.Value.int Go.IntKind.i64 0), (Go.Value.int Go.IntKind.u64 0), (Go.Value.int Go.IntKind.i64 0), (Go.Value.int Go.IntKind.u64 0), (Go.Value.int Go.IntKind.i64 0), (Go.Value.int Go.IntKind.i64 0), (Go.Value.int Go.IntKind.u64 0), (Go.Value.int Go.IntKind.i64 0), (Go.Value.int Go.IntKind.i64 0), (Go.Value.int Go.IntKind.u64 0), (Go.Value.int Go.IntKind.i64 0), (Go.Value.int Go.IntKind.u64 0), (Go.Value.int Go.IntKind.i64 0), (Go.Value.int Go.IntKind.i64 0), (Go.Value.int Go.IntKind.u64 0), (Go.Value.int Go.IntKind.i64 0), (Go.Value.int Go.IntKind.u64 0), (Go.Value.int Go.IntKind.i64 0), (Go.Value.int Go.IntKind.i64 0), (Go.Value.int Go.IntKind.i64 0), (Go.Value.int Go.IntKind.u64 0), (Go.Value.slice Option.none 0 0), (Go.Value.slice Option.none 0 0), (Go.Value.int Go.IntKind.i64 0), (Go.Value.int Go.IntKind.i64 0), (Go.Value.int Go.IntKind.u64 0), (Go.Value.int Go.IntKind.i64 0), (Go.Value.int Go.IntKind.u64 0), (Go.Value.int Go.IntKind.i64 0), (Go.Value.int Go.IntKind.i64 0), (Go.Value.int Go.IntKind.u64 0), (Go.Value.int Go.IntKind.i64 0), (Go.Value.int Go.IntKind.u64 0), (Go.Value.bool Bool.false)] [(0, 1, (Go.Value.int Go.IntKind.i64 2))]) fun x14 => S.bd (stl c1 0 36 x14) fun c15 => S.bd (lal c15 0 36) fun x16 => some (x16)) (S.bd (nck a0) fun x17 => S.bd (fld 10 x17) fun x18 => S.bd (ldc s x18) fun x19 => S.bd (nck x19) fun x20 => S.bd (fld 23 x20) fun x21 => S.bd (ldc s x21) fun x22 => S.bd (un .not x22) fun x23 => S.cnd x23 (S.bd (nck a0) fun x24 => S.bd (fld 10 x24) fun x25 => S.bd (ldc s x25) fun x26 => S.bd (leapfrogref12x_Seek_Next.r x26 s) fun x27 => S.bd (stl c1 0 36 x27) fun c28 => S.bd (lal c28 0 36) fun x29 => some (x29)) (leapfrogref18x_Scan_Next.t.p1 S a0 s c1))

def leapfrogref18x_Scan_Next.t (S : Sig) (a0 : Value) (s : St) : Option Value :=
  S.bd (bx (Go.Value.agg #[(Go.Value.int Go.IntKind.i64 0), (Go.Value.int Go.IntKind.i64 0), (Go.Value.int Go.IntKind.i64 0), (Go.Value.int Go.IntKind.u64 0), (Go.Value.int Go.IntKind.i64 0), (Go.Value.int Go.IntKind.u64 0), (Go.Value.int Go.IntKind.i64 0), (Go.Value.int Go.IntKind.i64 0), (Go.Value.int Go.IntKind.u64 0), (Go.Value.int Go.IntKind.i64 0), (Go.Value.int Go.IntKind.i64 0), (Go.Value.int Go.IntKind.u64 0), (Go.Value.int Go.IntKind.i64 0), (Go.Value.int Go.IntKind.u64 0), (Go.Value.int Go.IntKind.i64 0), (Go.Value.int Go.IntKind.i64 0), (Go.Value.int Go.IntKind.u64 0), (Go.Value.int Go.IntKind.i64 0), (Go.Value.int Go.IntKind.u64 0), (Go.Value.int Go.IntKind.i64 0), (Go.Value.int Go.IntKind.i64 0), (Go.Value.int Go.IntKind.i64 0), (Go.Value.int Go.IntKind.u64 0), (Go.Value.slice Option.none 0 0), (Go.Value.slice Option.none 0 0), (Go.Value.int Go.IntKind.i64 0), (Go.Value.int Go.IntKind.i64 0), (Go.Value.int Go.IntKind.u64 0), (Go.Value.int Go.IntKind.i64 0), (Go.Value.int Go.IntKind.u64 0), (Go.Value.int Go.IntKind.i64 0), (Go.Value.int Go.IntKind.i64 0), (Go.Value.int Go.IntKind.u64 0), (Go.Value.int Go.IntKind.i64 0), (Go.Value.int Go.IntKind.u64 0), (Go.Value.bool Bool.false)])) fun c1 => S.bd (nck a0) fun x2 => S.bd (fld 20 x2) fun x3 => S.bd (ldc s x3) fun x4 => S.cnd x4 (S.bd (nck a0) fun x5 => S.bd (fld 21 x5) fun x6 => S.bd (lda s 15 x6) fun x7 => S.bd (bld [(Go.Value.int Go.IntKind.i64 0), (Go.Value.int Go.IntKind.i64 0), (Go.Value.int Go.IntKind.i64 0), (Go.Value.int Go.IntKind.u64 0), (Go.Value.int Go.IntKind.i64 0), (Go.Value.int Go.IntKind.u64 0), (Go.Value.int Go.IntKind.i64 0), (Go.Value.int Go.IntKind.i64 0), (Go.Value.int Go.IntKind.u64 0), (Go.Value.int Go.IntKind.i64 0), (Go.Value.int Go.IntKind.i64 0), (Go.Value.int Go.IntKind.u64 0), (Go.Value.int Go.IntKind.i64 0), (Go.Value.int Go.IntKind.u64 0), (Go.Value.int Go.IntKind.i64 0), (Go.Value.int Go.IntKind.i64 0), (Go.Value.int Go.IntKind.u64 0), (Go.Value.int Go.IntKind.i64 0), (Go.Value.int Go.IntKind.u64 0), (Go.Value.int Go.IntKind.i64 0), (Go.Value.int Go.IntKind.i64 0), (Go.Value.int Go.IntKind.i64 0), (Go.Value.int Go.IntKind.u64 0), (Go.Value.slice Option.none 0 0), (Go.Value.slice Option.none 0 0), (Go.Value.int Go.IntKind.i64 0), (Go.Value.int Go.IntKind.i64 0), (Go.Value.int Go.IntKind.u64 0), (Go.Value.int Go.IntKind.i64 0), (Go.Value.int Go.IntKind.u64 0), (Go.Value.int Go.IntKind.i64 0), (Go.Value.int Go.IntKind.i64 0), (Go.Value.int Go.IntKind.u64 0), (Go.Value.int Go.IntKind.i64 0), (Go.Value.int Go.IntKind.u64 0), (Go.Value.bool Bool.false)] [(0, 1, (Go.Value.int Go.IntKind.i64 3)), (21, 15, x7)]) fun x8 => S.bd (stl c1 0 36 x8) fun c9 => S.bd (lal c9 0 36) fun x10 => some (x10)) (leapfrogref18x_Scan_Next.t.p2 S a0 s c1)
def leapfrogref18x_Scan_Next.r (a0 : Value) (s : St) : Option Value := leapfrogref18x_Scan_Next.t std a0 s
def leapfrogref18x_Scan_Next.w : List Value → St → Option Value
  | [a0], s => leapfrogref18x_Scan_Next.r a0 s
  | _, _ => none
def leapfrogref18x_Scan_Next.an : An := ⟨39, true, [2], [], [], []⟩
theorem leapfrogref18x_Scan_Next.ok (S : Sig) (a0 : Value) (s : St) : evG S Try.prog leapfrogref18x_Scan_Next.ctx leapfrogref18x_Scan_Next.an Try.f18 [a0] s = leapfrogref18x_Scan_Next.t S a0 s := by kernel_rfl
theorem leapfrogref18x_Scan_Next.cok : CtxOk Try.prog leapfrogref18x_Scan_Next.ctx := .cons leapfrogref12x_Seek_Next.sound leapfrogref12x_Seek_Next.can <| .nil
theorem leapfrogref18x_Scan_Next.draws : fnDraws leapfrogref18x_Scan_Next.an Try.f18 = true := by kernel_rfl
theorem leapfrogref18x_Scan_Next.can : callOk Try.prog 18 = true := by kernel_rfl
theorem leapfrogref18x_Scan_Next.sound : FnOk Try.prog 18 (.rd leapfrogref18x_Scan_Next.w) := FnOk.rd_of (evG_ok leapfrogref18x_Scan_Next.cok mixed (f := 18) (fn := Try.f18) (by kernel_rfl) leapfrogref18x_Scan_Next.draws) fun args s r h => by
  unfold leapfrogref18x_Scan_Next.w at h; split at h
  · rw [leapfrogref18x_Scan_Next.ok std]; exact h
  · simp at h

/-! ### leapfrog/leapfrogref12.SameResult: function 33 -/
def leapfrogref12x_SameResult.ctx : Ctx := []
def leapfrogref12x_SameResult.l4 (S : Sig) (rec63 : List Value → St → Option Cut) (xs61 : List Value) (s62 : St) : Option Cut :=
  S.bd (lcl (cellsA (xs61.getD 1 undef)) 3) fun x64 => S.bd (lenL x64) fun x65 => S.bd (bin .lss (xs61.getD 0 undef) x65) fun x66 => S.cnd x66 (S.bd (lcl (cellsA (xs61.getD 1 undef)) 3) fun x67 => S.bd (idx s62 2 x67 (xs61.getD 0 undef)) fun x68 => S.bd (fld 0 x68) fun x69 => S.bd (ldc s62 x69) fun x70 => S.bd (lcl (cellsA (xs61.getD 2 undef)) 3) fun x71 => S.bd (idx s62 2 x71 (xs61.getD 0 undef)) fun x72 => S.bd (fld 0 x72) fun x73 => S.bd (ldc s62 x73) fun x74 => S.bd (eqb [1] false true x70 x74) fun x75 => S.bd (S.gd x75 false (lcl (cellsA (xs61.getD 1 undef)) 3)) fun x76 => S.bd (S.gd x75 false (some (xs61.getD 0 undef))) fun x77 => S.bd (S.gd x75 false (idx s62 2 x76 x77)) fun x78 => S.bd (S.gd x75 false (fld 1 x78)) fun x79 => S.bd (S.gd x75 false (ldc s62 x79)) fun x80 => S.bd (S.gd x75 false (b2s s62 x80)) fun x81 => S.bd (S.gd x75 false (lcl (cellsA (xs61.getD 2 undef)) 3)) fun x82 => S.bd (S.gd x75 false (some (xs61.getD 0 undef))) fun x83 => S.bd (S.gd x75 false (idx s62 2 x82 x83)) fun x84 => S.bd (S.gd x75 false (fld 1 x84)) fun x85 => S.bd (S.gd x75 false (ldc s62 x85)) fun x86 => S.bd (S.gd x75 false (b2s s62 x86)) fun x87 => S.bd (S.gd x75 false (eqb [2] false true x81 x87)) fun x88 => S.bd (pik x75 (Go.Value.bool Bool.true) x88) fun x89 => S.cnd x89 (some (1, [(Go.Value.bool Bool.false)], s62)) (S.bd (bin .add (xs61.getD 0 undef) (Go.Value.int Go.IntKind.i64 1)) fun x90 => rec63 [x90, (Value.agg ⟨(cellsA (xs61.getD 1 undef))⟩), (Value.agg ⟨(cellsA (xs61.getD 2 undef))⟩)] s62)) (some (0, [], s62))

def leapfrogref12x_SameResult.t (S : Sig) (a0 a1 : Value) (s : St) : Option Value :=
  S.bd (bx a0) fun c1 => S.bd (bx a1) fun c2 => S.bd (lcl c1 0) fun x3 => S.bd (lcl c2 0) fun x4 => S.bd (eqb [1] false true x3 x4) fun x5 => S.bd (S.gd x5 false (lcl c1 1)) fun x6 => S.bd (S.gd x5 false (lcl c2 1)) fun x7 => S.bd (S.gd x5 false (eqb [1] false true x6 x7)) fun x8 => S.bd (pik x5 (Go.Value.bool Bool.true) x8) fun x9 => S.bd (S.gd x9 false (lcl c1 2)) fun x10 => S.bd (S.gd x9 false (b2s s x10)) fun x11 => S.bd (S.gd x9 false (lcl c2 2)) fun x12 => S.bd (S.gd x9 false (b2s s x12)) fun x13 => S.bd (S.gd x9 false (eqb [2] false true x11 x13)) fun x14 => S.bd (pik x9 (Go.Value.bool Bool.true) x14) fun x15 => S.bd (S.gd x15 false (lcl c1 3)) fun x16 => S.bd (S.gd x15 false (lenL x16)) fun x17 => S.bd (S.gd x15 false (lcl c2 3)) fun x18 => S.bd (S.gd x15 false (lenL x18)) fun x19 => S.bd (S.gd x15 false (eqb [1] false true x17 x19)) fun x20 => S.bd (pik x15 (Go.Value.bool Bool.true) x20) fun x21 => S.bd (S.gd x21 false (lal c1 4 5)) fun x22 => S.bd (S.gd x21 false (lal c2 4 5)) fun x23 => S.bd (S.gd x21 false (eqb [1, 1, 1, 1, 1] true true x22 x23)) fun x24 => S.bd (pik x21 (Go.Value.bool Bool.true) x24) fun x25 => S.bd (S.gd x25 false (lal c1 9 5)) fun x26 => S.bd (S.gd x25 false (lal c2 9 5)) fun x27 => S.bd (S.gd x25 false (eqb [1, 1, 1, 1, 1] true true x26 x27)) fun x28 => S.bd (pik x25 (Go.Value.bool Bool.true) x28) fun x29 => S.bd (S.gd x29 false (lcl c1 14)) fun x30 => S.bd (S.gd x29 false (lcl c2 14)) fun x31 => S.bd (S.gd x29 false (eqb [0] false true x30 x31)) fun x32 => S.bd (pik x29 (Go.Value.bool Bool.true) x32) fun x33 => S.cnd x33 (some ((Go.Value.bool Bool.false))) (S.bd (S.it (leapfrogref12x_SameResult.l4 S) [(Go.Value.int Go.IntKind.i64 0), (Value.agg ⟨c1⟩), (Value.agg ⟨c2⟩)] s) fun r91 => if r91.1 = 0 then (some ((Go.Value.bool Bool.true))) else (some ((r91.2.1.getD 0 undef))))
def leapfrogref12x_SameResult.r (a0 a1 : Value) (s : St) : Option Value := leapfrogref12x_SameResult.t std a0 a1 s
def leapfrogref12x_SameResult.w : List Value → St → Option Value
  | [a0, a1], s => leapfrogref12x_SameResult.r a0 a1 s
  | _, _ => none
def leapfrogref12x_SameResult.an : An := ⟨94, true, [2, 3], [(4, ⟨[.p 2 2 0, .p 3 3 0, .v 5, .l 2, .l 3], [(.exit 0, []), (.ret, [.v 4])]⟩)], [], [(6, [(0, 0, [], []), (1, 17, [], []), (2, 0, [], []), (3, 2, [], []), (4, 0, [], []), (5, 2, [], []), (6, 0, [], []), (7, 25, [], []), (8, 0, [], []), (9, 2, [], []), (10, 0, [], []), (11, 2, [], []), (12, 0, [], []), (13, 0, [], []), (14, 0, [], []), (15, 17, [], []), (16, 0, [], []), (17, 2, [], []), (18, 0, [], []), (19, 2, [], []), (20, 2, [], []), (21, 0, [], []), (22, 25, [], []), (23, 0, [], []), (24, 2, [], []), (25, 0, [], []), (26, 2, [], []), (27, 2, [], []), (28, 0, [], []), (29, 0, [], [])])]⟩
theorem leapfrogref12x_SameResult.ok (S : Sig) (a0 a1 : Value) (s : St) : evG S Try.prog leapfrogref12x_SameResult.ctx leapfrogref12x_SameResult.an Try.f33 [a0, a1] s = leapfrogref12x_SameResult.t S a0 a1 s := by kernel_rfl
theorem leapfrogref12x_SameResult.cok : CtxOk Try.prog leapfrogref12x_SameResult.ctx := .nil
theorem leapfrogref12x_SameResult.draws : fnDraws leapfrogref12x_SameResult.an Try.f33 = true := by kernel_rfl
theorem leapfrogref12x_SameResult.can : callOk Try.prog 33 = true := by kernel_rfl
theorem leapfrogref12x_SameResult.sound : FnOk Try.prog 33 (.rd leapfrogref12x_SameResult.w) := FnOk.rd_of (evG_ok leapfrogref12x_SameResult.cok mixed (f := 33) (fn := Try.f33) (by kernel_rfl) leapfrogref12x_SameResult.draws) fun args s r h => by
  unfold leapfrogref12x_SameResult.w at h; split at h
  · rw [leapfrogref12x_SameResult.ok std]; exact h
  · simp at h

/-! ### leapfrog/leapfrogref12.SameStep: function 17 -/
def leapfrogref12x_SameStep.ctx : Ctx := [(33, .rd leapfrogref12x_SameResult.w)]
def leapfrogref12x_SameStep.t (S : Sig) (a0 a1 : Value) (s : St) : Option Value :=
  S.bd (bx a0) fun c1 => S.bd (bx a1) fun c2 => S.bd (lcl c1 0) fun x3 => S.bd (lcl c2 0) fun x4 => S.bd (eqb [1] false false x3 x4) fun x5 => S.bd (S.gd x5 true (lal c1 1 5)) fun x6 => S.bd (S.gd x5 true (lal c2 1 5)) fun x7 => S.bd (S.gd x5 true (eqb [1, 1, 1, 1, 1] true false x6 x7)) fun x8 => S.bd (pik x5 x8 (Go.Value.bool Bool.false)) fun x9 => S.bd (S.gd x9 true (lal c1 6 15)) fun x10 => S.bd (S.gd x9 true (lal c2 6 15)) fun x11 => S.bd (S.gd x9 true (eqb [1, 1, 1, 1, 1, 1, 1, 1, 1, 1, 1, 1, 1, 1, 1] true false x10 x11)) fun x12 => S.bd (pik x9 x12 (Go.Value.bool Bool.false)) fun x13 => S.bd (S.gd x13 true (lal c1 21 15)) fun x14 => S.bd (S.gd x13 true (lal c2 21 15)) fun x15 => S.bd (S.gd x13 true (leapfrogref12x_SameResult.r x14 x15 s)) fun x16 => S.bd (pik x13 x16 (Go.Value.bool Bool.false)) fun x17 => some (x17)
def leapfrogref12x_SameStep.r (a0 a1 : Value) (s : St) : Option Value := leapfrogref12x_SameStep.t std a0 a1 s
def leapfrogref12x_SameStep.w : List Value → St → Option Value
  | [a0, a1], s => leapfrogref12x_SameStep.r a0 a1 s
  | _, _ => none
def leapfrogref12x_SameStep.an : An := ⟨31, true, [2, 3], [], [], []⟩
theorem leapfrogref12x_SameStep.ok (S : Sig) (a0 a1 : Value) (s : St) : evG S Try.prog leapfrogref12x_SameStep.ctx leapfrogref12x_SameStep.an Try.f17 [a0, a1] s = leapfrogref12x_SameStep.t S a0 a1 s := by kernel_rfl
theorem leapfrogref12x_SameStep.cok : CtxOk Try.prog leapfrogref12x_SameStep.ctx := .cons leapfrogref12x_SameResult.sound leapfrogref12x_SameResult.can <| .nil
theorem leapfrogref12x_SameStep.draws : fnDraws leapfrogref12x_SameStep.an Try.f17 = true := by kernel_rfl
theorem leapfrogref12x_SameStep.can : callOk Try.prog 17 = true := by kernel_rfl
theorem leapfrogref12x_SameStep.sound : FnOk Try.prog 17 (.rd leapfrogref12x_SameStep.w) := FnOk.rd_of (evG_ok leapfrogref12x_SameStep.cok mixed (f := 17) (fn := Try.f17) (by kernel_rfl) leapfrogref12x_SameStep.draws) fun args s r h => by
  unfold leapfrogref12x_SameStep.w at h; split at h
  · rw [leapfrogref12x_SameStep.ok std]; exact h
  · simp at h

/-! ### (*leapfrog/scan.Scan).Tries: function 19 -/
def scan_Scan_Tries.ctx : Ctx := [(24, .rd scan_Scan_is.w)]
def scan_Scan_Tries.t (S : Sig) (a0 : Value) (s : St) : Option Value :=
  S.bd (scan_Scan_is.r a0 s) fun x1 => S.bd (un .not x1) fun x2 => S.cnd x2 (some ((Go.Value.int Go.IntKind.i64 0))) (S.bd (nck a0) fun x3 => S.bd (fld 19 x3) fun x4 => S.bd (ldc s x4) fun x5 => some (x5))
def scan_Scan_Tries.r (a0 : Value) (s : St) : Option Value := scan_Scan_Tries.t std a0 s
def scan_Scan_Tries.w : List Value → St → Option Value
  | [a0], s => scan_Scan_Tries.r a0 s
  | _, _ => none
def scan_Scan_Tries.an : An := ⟨10, true, [], [], [], []⟩
theorem scan_Scan_Tries.ok (S : Sig) (a0 : Value) (s : St) : evG S Try.prog scan_Scan_Tries.ctx scan_Scan_Tries.an Try.f19 [a0] s = scan_Scan_Tries.t S a0 s := by kernel_rfl
theorem scan_Scan_Tries.cok : CtxOk Try.prog scan_Scan_Tries.ctx := .cons scan_Scan_is.sound scan_Scan_is.can <| .nil
theorem scan_Scan_Tries.draws : fnDraws scan_Scan_Tries.an Try.f19 = true := by kernel_rfl
theorem scan_Scan_Tries.can : callOk Try.prog 19 = true := by kernel_rfl
theorem scan_Scan_Tries.sound : FnOk Try.prog 19 (.rd scan_Scan_Tries.w) := FnOk.rd_of (evG_ok scan_Scan_Tries.cok mixed (f := 19) (fn := Try.f19) (by kernel_rfl) scan_Scan_Tries.draws) fun args s r h => by
  unfold scan_Scan_Tries.w at h; split at h
  · rw [scan_Scan_Tries.ok std]; exact h
  · simp at h

/-! ### leapfrog/leapfrogref02.Compare: function 67 -/
def leapfrogref02x_Compare.ctx : Ctx := []
def leapfrogref02x_Compare.t (S : Sig) (a0 a1 : Value) (s : St) : Option Value :=
  S.bd (bx a0) fun c1 => S.bd (bx a1) fun c2 => S.bd (lcl c1 0) fun x3 => S.bd (lcl c2 0) fun x4 => S.bd (bin .lss x3 x4) fun x5 => S.bd (S.gd x5 false (lcl c1 0)) fun x6 => S.bd (S.gd x5 false (lcl c2 0)) fun x7 => S.bd (S.gd x5 false (eqb [1] false false x6 x7)) fun x8 => S.bd (S.gd x5 false (some x8)) fun x9 => S.bd (S.gd x9 true (lcl c1 1)) fun x10 => S.bd (S.gd x9 true (lcl c2 1)) fun x11 => S.bd (S.gd x9 true (bin .lss x10 x11)) fun x12 => S.bd (S.gd x5 false (pik x9 x12 (Go.Value.bool Bool.false))) fun x13 => S.bd (pik x5 (Go.Value.bool Bool.true) x13) fun x14 => S.cnd x14 (some ((Go.Value.int Go.IntKind.i64 (-1)))) (S.bd (lal c1 0 2) fun x15 => S.bd (lal c2 0 2) fun x16 => S.bd (eqb [1, 1] true false x15 x16) fun x17 => S.cnd x17 (some ((Go.Value.int Go.IntKind.i64 0))) (some ((Go.Value.int Go.IntKind.i64 1))))
def leapfrogref02x_Compare.r (a0 a1 : Value) (s : St) : Option Value := leapfrogref02x_Compare.t std a0 a1 s
def leapfrogref02x_Compare.w : List Value → St → Option Value
  | [a0, a1], s => leapfrogref02x_Compare.r a0 a1 s
  | _, _ => none
def leapfrogref02x_Compare.an : An := ⟨29, true, [2, 3], [], [], []⟩
theorem leapfrogref02x_Compare.ok (S : Sig) (a0 a1 : Value) (s : St) : evG S Try.prog leapfrogref02x_Compare.ctx leapfrogref02x_Compare.an Try.f67 [a0, a1] s = leapfrogref02x_Compare.t S a0 a1 s := by kernel_rfl
theorem leapfrogref02x_Compare.cok : CtxOk Try.prog leapfrogref02x_Compare.ctx := .nil
theorem leapfrogref02x_Compare.draws : fnDraws leapfrogref02x_Compare.an Try.f67 = true := by kernel_rfl
theorem leapfrogref02x_Compare.can : callOk Try.prog 67 = true := by kernel_rfl
theorem leapfrogref02x_Compare.sound : FnOk Try.prog 67 (.rd leapfrogref02x_Compare.w) := FnOk.rd_of (evG_ok leapfrogref02x_Compare.cok mixed (f := 67) (fn := Try.f67) (by kernel_rfl) leapfrogref02x_Compare.draws) fun args s r h => by
  unfold leapfrogref02x_Compare.w at h; split at h
  · rw [leapfrogref02x_Compare.ok std]; exact h
  · simp at h

/-! ### leapfrog/leapfrogref02.Less: function 50 -/
def leapfrogref02x_Less.ctx : Ctx := [(67, .rd leapfrogref02x_Compare.w)]
def leapfrogref02x_Less.t (S : Sig) (a0 a1 : Value) (s : St) : Option Value :=
  S.bd (bx a0) fun c1 => S.bd (bx a1) fun c2 => S.bd (lal c1 0 2) fun x3 => S.bd (lal c2 0 2) fun x4 => S.bd (leapfrogref02x_Compare.r x3 x4 s) fun x5 => S.bd (bin .lss x5 (Go.Value.int Go.IntKind.i64 0)) fun x6 => some (x6)
def leapfrogref02x_Less.r (a0 a1 : Value) (s : St) : Option Value := leapfrogref02x_Less.t std a0 a1 s
def leapfrogref02x_Less.w : List Value → St → Option Value
  | [a0, a1], s => leapfrogref02x_Less.r a0 a1 s
  | _, _ => none
def leapfrogref02x_Less.an : An := ⟨9, true, [2, 3], [], [], []⟩
theorem leapfrogref02x_Less.ok (S : Sig) (a0 a1 : Value) (s : St) : evG S Try.prog leapfrogref02x_Less.ctx leapfrogref02x_Less.an Try.f50 [a0, a1] s = leapfrogref02x_Less.t S a0 a1 s := by kernel_rfl
theorem leapfrogref02x_Less.cok : CtxOk Try.prog leapfrogref02x_Less.ctx := .cons leapfrogref02x_Compare.sound leapfrogref02x_Compare.can <| .nil
theorem leapfrogref02x_Less.draws : fnDraws leapfrogref02x_Less.an Try.f50 = true := by kernel_rfl
theorem leapfrogref02x_Less.can : callOk Try.prog 50 = true := by kernel_rfl
theorem leapfrogref02x_Less.sound : FnOk Try.prog 50 (.rd leapfrogref02x_Less.w) := FnOk.rd_of (evG_ok leapfrogref02x_Less.cok mixed (f := 50) (fn := Try.f50) (by kernel_rfl) leapfrogref02x_Less.draws) fun args s r h => by
  unfold leapfrogref02x_Less.w at h; split at h
  · rw [leapfrogref02x_Less.ok std]; exact h
  · simp at h

/-! ### (*leapfrog/leapfrogref12.Seek).end: function 70 -/
def leapfrogref12x_Seek_end.ctx : Ctx := []
def leapfrogref12x_Seek_end.t (S : Sig) (a0 a1 : Value) (s : St) : Option (Value × St) :=
  S.bd (bx a1) fun c1 => S.bd (lal c1 0 15) fun x2 => S.bd (nck a0) fun x3 => S.bd (fld 23 x3) fun x4 => S.bd (stv s 1 x4 (Go.Value.bool Bool.true)) fun s5 => S.bd (nck a0) fun x6 => S.bd (fld 24 x6) fun x7 => S.bd (stv s5 15 x7 x2) fun s8 => some ((Value.tuple ⟨[]⟩), s8)
def leapfrogref12x_Seek_end.v (a0 a1 : Value) (s : St) : Option (Value × St) := leapfrogref12x_Seek_end.t std a0 a1 s
def leapfrogref12x_Seek_end.w : List Value → St → Option (Value × St)
  | [a0, a1], s => leapfrogref12x_Seek_end.v a0 a1 s
  | _, _ => none
def leapfrogref12x_Seek_end.an : An := ⟨11, false, [3], [], [], [(1, [(0, 0, [], []), (1, 0, [], []), (2, 25, [], []), (3, 0, [], []), (4, 0, [], []), (5, 4, [], []), (6, 0, [], []), (7, 0, [], []), (8, 4, [], [])])]⟩
theorem leapfrogref12x_Seek_end.ok (S : Sig) (a0 a1 : Value) (s : St) : evF S Try.prog leapfrogref12x_Seek_end.ctx leapfrogref12x_Seek_end.an Try.f70 [a0, a1] s = leapfrogref12x_Seek_end.t S a0 a1 s := by kernel_rfl
theorem leapfrogref12x_Seek_end.cok : CtxOk Try.prog leapfrogref12x_Seek_end.ctx := .nil
theorem leapfrogref12x_Seek_end.draws : fnDraws leapfrogref12x_Seek_end.an Try.f70 = true := by kernel_rfl
theorem leapfrogref12x_Seek_end.can : callOk Try.prog 70 = true := by kernel_rfl
theorem leapfrogref12x_Seek_end.sound : FnOk Try.prog 70 (.st leapfrogref12x_Seek_end.w) := FnOk.st_of (evF_ok leapfrogref12x_Seek_end.cok mixed (f := 70) (fn := Try.f70) (by kernel_rfl) leapfrogref12x_Seek_end.draws) fun args s r h => by
  unfold leapfrogref12x_Seek_end.w at h; split at h
  · rw [leapfrogref12x_Seek_end.ok std]; exact h
  · simp at h

/-! ### (*leapfrog/leapfrogref12.Seek).counts: function 56 -/
def leapfrogref12x_Seek_counts.ctx : Ctx := [(70, .st leapfrogref12x_Seek_end.w)]
def leapfrogref12x_Seek_counts.t (S : Sig) (a0 : Value) (s : St) : Option (Value × St) :=
  S.bd (nck a0) fun x1 => S.bd (fld 22 x1) fun x2 => S.bd (ldc s x2) fun x3 => S.bd (bin .geq x3 (Go.Value.int Go.IntKind.i64 64)) fun x4 => S.cnd x4 (S.bd (bld [(Go.Value.int Go.IntKind.i64 0), (Go.Value.int Go.IntKind.u64 0), (Go.Value.slice Option.none 0 0), (Go.Value.slice Option.none 0 0), (Go.Value.int Go.IntKind.i64 0), (Go.Value.int Go.IntKind.i64 0), (Go.Value.int Go.IntKind.u64 0), (Go.Value.int Go.IntKind.i64 0), (Go.Value.int Go.IntKind.u64 0), (Go.Value.int Go.IntKind.i64 0), (Go.Value.int Go.IntKind.i64 0), (Go.Value.int Go.IntKind.u64 0), (Go.Value.int Go.IntKind.i64 0), (Go.Value.int Go.IntKind.u64 0), (Go.Value.bool Bool.false)] [(0, 1, (Go.Value.int Go.IntKind.i64 121))]) fun x5 => S.bd (leapfrogref12x_Seek_end.v a0 x5 s) fun r6 => some ((Go.Value.bool Bool.false), r6.2)) (S.bd (nck a0) fun x7 => S.bd (fld 22 x7) fun x8 => S.bd (ldc s x8) fun x9 => S.bd (bin .add x9 (Go.Value.int Go.IntKind.i64 1)) fun x10 => S.bd (nck a0) fun x11 => S.bd (fld 22 x11) fun x12 => S.bd (stv s 1 x12 x10) fun s13 => some ((Go.Value.bool Bool.true), s13))
def leapfrogref12x_Seek_counts.v (a0 : Value) (s : St) : Option (Value × St) := leapfrogref12x_Seek_counts.t std a0 s
def leapfrogref12x_Seek_counts.w : List Value → St → Option (Value × St)
  | [a0], s => leapfrogref12x_Seek_counts.v a0 s
  | _, _ => none
def leapfrogref12x_Seek_counts.an : An := ⟨18, false, [], [], [], []⟩
theorem leapfrogref12x_Seek_counts.ok (S : Sig) (a0 : Value) (s : St) : evF S Try.prog leapfrogref12x_Seek_counts.ctx leapfrogref12x_Seek_counts.an Try.f56 [a0] s = leapfrogref12x_Seek_counts.t S a0 s := by kernel_rfl
theorem leapfrogref12x_Seek_counts.cok : CtxOk Try.prog leapfrogref12x_Seek_counts.ctx := .cons leapfrogref12x_Seek_end.sound leapfrogref12x_Seek_end.can <| .nil
theorem leapfrogref12x_Seek_counts.draws : fnDraws leapfrogref12x_Seek_counts.an Try.f56 = true := by kernel_rfl
theorem leapfrogref12x_Seek_counts.can : callOk Try.prog 56 = true := by kernel_rfl
theorem leapfrogref12x_Seek_counts.sound : FnOk Try.prog 56 (.st leapfrogref12x_Seek_counts.w) := FnOk.st_of (evF_ok leapfrogref12x_Seek_counts.cok mixed (f := 56) (fn := Try.f56) (by kernel_rfl) leapfrogref12x_Seek_counts.draws) fun args s r h => by
  unfold leapfrogref12x_Seek_counts.w at h; split at h
  · rw [leapfrogref12x_Seek_counts.ok std]; exact h
  · simp at h

/-! ### (*leapfrog/leapfrogref12.Seek).again: function 53 -/
def leapfrogref12x_Seek_again.ctx : Ctx := [(56, .st leapfrogref12x_Seek_counts.w), (9, .rd leapfrogref12x_Head.w)]
def leapfrogref12x_Seek_again.t (S : Sig) (a0 : Value) (s : St) : Option (Value × St) :=
  S.bd (leapfrogref12x_Seek_counts.v a0 s) fun r1 => S.cnd r1.1 (S.bd (nck a0) fun x2 => S.bd (fld 0 x2) fun x3 => S.bd (fld 0 x3) fun x4 => S.bd (ldc r1.2 x4) fun x5 => S.bd (nck a0) fun x6 => S.bd (fld 0 x6) fun x7 => S.bd (fld 0 x7) fun x8 => S.bd (ldc r1.2 x8) fun x9 => S.bd (bld [(Go.Value.int Go.IntKind.i64 0), (Go.Value.int Go.IntKind.u64 0)] [(0, 1, x9)]) fun x10 => S.bd (leapfrogref12x_Head.r x5 r1.2) fun x11 => S.bd (nck a0) fun x12 => S.bd (fld 8 x12) fun x13 => S.bd (stv r1.2 5 x13 x11) fun s14 => S.bd (nck a0) fun x15 => S.bd (fld 13 x15) fun x16 => S.bd (stv s14 2 x16 x10) fun s17 => S.bd (nck a0) fun x18 => S.bd (fld 15 x18) fun x19 => S.bd (stv s17 1 x19 (Go.Value.bool Bool.false)) fun s20 => some ((Value.tuple ⟨[]⟩), s20)) (some ((Value.tuple ⟨[]⟩), r1.2))
def leapfrogref12x_Seek_again.v (a0 : Value) (s : St) : Option (Value × St) := leapfrogref12x_Seek_again.t std a0 s
def leapfrogref12x_Seek_again.w : List Value → St → Option (Value × St)
  | [a0], s => leapfrogref12x_Seek_again.v a0 s
  | _, _ => none
def leapfrogref12x_Seek_again.an : An := ⟨25, false, [], [], [], [(1, [(0, 0, [], []), (1, 0, [], []), (2, 0, [], []), (3, 0, [], []), (4, 0, [], []), (5, 0, [], []), (6, 0, [], []), (7, 2, [], []), (9, 0, [], []), (10, 0, [], []), (11, 0, [], []), (12, 0, [], []), (13, 2, [], []), (14, 0, [], []), (8, 3, [], []), (15, 0, [], []), (16, 0, [], []), (17, 4, [], []), (18, 0, [], []), (19, 0, [], []), (20, 4, [], []), (21, 0, [], []), (22, 0, [], []), (23, 4, [], [])])]⟩
theorem leapfrogref12x_Seek_again.ok (S : Sig) (a0 : Value) (s : St) : evF S Try.prog leapfrogref12x_Seek_again.ctx leapfrogref12x_Seek_again.an Try.f53 [a0] s = leapfrogref12x_Seek_again.t S a0 s := by kernel_rfl
theorem leapfrogref12x_Seek_again.cok : CtxOk Try.prog leapfrogref12x_Seek_again.ctx := .cons leapfrogref12x_Seek_counts.sound leapfrogref12x_Seek_counts.can <| .cons leapfrogref12x_Head.sound leapfrogref12x_Head.can <| .nil
theorem leapfrogref12x_Seek_again.draws : fnDraws leapfrogref12x_Seek_again.an Try.f53 = true := by kernel_rfl
theorem leapfrogref12x_Seek_again.can : callOk Try.prog 53 = true := by kernel_rfl
theorem leapfrogref12x_Seek_again.sound : FnOk Try.prog 53 (.st leapfrogref12x_Seek_again.w) := FnOk.st_of (evF_ok leapfrogref12x_Seek_again.cok mixed (f := 53) (fn := Try.f53) (by kernel_rfl) leapfrogref12x_Seek_again.draws) fun args s r h => by
  unfold leapfrogref12x_Seek_again.w at h; split at h
  · rw [leapfrogref12x_Seek_again.ok std]; exact h
  · simp at h

/-! ### (*leapfrog/leapfrogref12.Seek).known: function 68 -/
def leapfrogref12x_Seek_known.ctx : Ctx := []
def leapfrogref12x_Seek_known.l2 (S : Sig) (rec32 : List Value → St → Option Cut) (xs30 : List Value) (s31 : St) : Option Cut :=
  S.bd (nck (xs30.getD 0 undef)) fun x33 => S.bd (fld 21 x33) fun x34 => S.bd (ldc s31 x34) fun x35 => S.bd (lenL x35) fun x36 => S.bd (bin .lss (xs30.getD 1 undef) x36) fun x37 => S.cnd x37 (S.bd (nck (xs30.getD 0 undef)) fun x38 => S.bd (fld 21 x38) fun x39 => S.bd (ldc s31 x39) fun x40 => S.bd (idx s31 13 x40 (xs30.getD 1 undef)) fun x41 => S.bd (fld 0 x41) fun x42 => S.bd (ldc s31 x42) fun x43 => S.bd (lcl (cellsA (xs30.getD 2 undef)) 0) fun x44 => S.bd (eqb [1] false false x43 x44) fun x45 => S.bd (S.gd x45 true (some (xs30.getD 0 undef))) fun x46 => S.bd (S.gd x45 true (nck x46)) fun x47 => S.bd (S.gd x45 true (fld 21 x47)) fun x48 => S.bd (S.gd x45 true (ldc s31 x48)) fun x49 => S.bd (S.gd x45 true (some (xs30.getD 1 undef))) fun x50 => S.bd (S.gd x45 true (idx s31 13 x49 x50)) fun x51 => S.bd (S.gd x45 true (fld 1 x51)) fun x52 => S.bd (S.gd x45 true (lda s31 2 x52)) fun x53 => S.bd (S.gd x45 true (some (xs30.getD 0 undef))) fun x54 => S.bd (S.gd x45 true (nck x54)) fun x55 => S.bd (S.gd x45 true (fld 13 x55)) fun x56 => S.bd (S.gd x45 true (lda s31 2 x56)) fun x57 => S.bd (S.gd x45 true (eqb [1, 1] true false x53 x57)) fun x58 => S.bd (pik x45 x58 (Go.Value.bool Bool.false)) fun x59 => S.cnd x59 (some (1, [(xs30.getD 1 undef)], s31)) (S.bd (bin .add (xs30.getD 1 undef) (Go.Value.int Go.IntKind.i64 1)) fun x60 => rec32 [(xs30.getD 0 undef), x60, (Value.agg ⟨(cellsA (xs30.getD 2 undef))⟩)] s31)) (some (0, [], s31))

def leapfrogref12x_Seek_known.t (S : Sig) (a0 a1 : Value) (s : St) : Option Value :=
  S.bd (bx a1) fun c1 => S.bd (S.it (leapfrogref12x_Seek_known.l2 S) [a0, (Go.Value.int Go.IntKind.i64 0), (Value.agg ⟨c1⟩)] s) fun r61 => if r61.1 = 0 then (some ((Go.Value.int Go.IntKind.i64 (-1)))) else (some ((r61.2.1.getD 0 undef)))
def leapfrogref12x_Seek_known.r (a0 a1 : Value) (s : St) : Option Value := leapfrogref12x_Seek_known.t std a0 a1 s
def leapfrogref12x_Seek_known.w : List Value → St → Option Value
  | [a0, a1], s => leapfrogref12x_Seek_known.r a0 a1 s
  | _, _ => none
def leapfrogref12x_Seek_known.an : An := ⟨42, true, [3], [(2, ⟨[.v 0, .p 3 3 0, .v 5, .l 3], [(.exit 0, []), (.ret, [.v 4])]⟩)], [], [(4, [(0, 0, [], []), (1, 0, [], []), (2, 0, [], []), (3, 2, [], []), (4, 0, [], []), (5, 2, [], []), (6, 0, [], []), (7, 2, [], []), (8, 0, [], []), (9, 25, [], []), (10, 0, [], []), (11, 0, [], []), (12, 0, [], []), (13, 0, [], []), (14, 0, [], []), (15, 2, [], []), (16, 0, [], []), (17, 2, [], []), (18, 0, [], []), (19, 2, [], []), (20, 0, [], []), (21, 0, [], []), (22, 0, [], []), (23, 2, [], []), (24, 0, [], []), (25, 0, [], [])])]⟩
theorem leapfrogref12x_Seek_known.ok (S : Sig) (a0 a1 : Value) (s : St) : evG S Try.prog leapfrogref12x_Seek_known.ctx leapfrogref12x_Seek_known.an Try.f68 [a0, a1] s = leapfrogref12x_Seek_known.t S a0 a1 s := by kernel_rfl
theorem leapfrogref12x_Seek_known.cok : CtxOk Try.prog leapfrogref12x_Seek_known.ctx := .nil
theorem leapfrogref12x_Seek_known.draws : fnDraws leapfrogref12x_Seek_known.an Try.f68 = true := by kernel_rfl
theorem leapfrogref12x_Seek_known.can : callOk Try.prog 68 = true := by kernel_rfl
theorem leapfrogref12x_Seek_known.sound : FnOk Try.prog 68 (.rd leapfrogref12x_Seek_known.w) := FnOk.rd_of (evG_ok leapfrogref12x_Seek_known.cok mixed (f := 68) (fn := Try.f68) (by kernel_rfl) leapfrogref12x_Seek_known.draws) fun args s r h => by
  unfold leapfrogref12x_Seek_known.w at h; split at h
  · rw [leapfrogref12x_Seek_known.ok std]; exact h
  · simp at h

/-! ### leapfrog/leapfrogref01.Bits: function 77 -/
def leapfrogref01x_Bits.ctx : Ctx := []
def leapfrogref01x_Bits.l4 (S : Sig) (rec16 : List Value → St → Option Cut) (xs14 : List Value) (s15 : St) : Option Cut :=
  S.bd (bin .geq (xs14.getD 2 undef) (Go.Value.int Go.IntKind.i64 0)) fun x17 => S.cnd x17 (S.bd (bin .rem (xs14.getD 1 undef) (Go.Value.int Go.IntKind.u64 2)) fun x18 => S.bd (cvi .i64 x18) fun x19 => S.bd (idx s15 1 (xs14.getD 0 undef) (xs14.getD 2 undef)) fun x20 => S.bd (stv s15 1 x20 x19) fun s21 => S.bd (bin .quo (xs14.getD 1 undef) (Go.Value.int Go.IntKind.u64 2)) fun x22 => S.bd (bin .sub (xs14.getD 2 undef) (Go.Value.int Go.IntKind.i64 1)) fun x23 => rec16 [(xs14.getD 0 undef), x22, x23] s21) (some (0, [(xs14.getD 0 undef)], s15))

def leapfrogref01x_Bits.t (S : Sig) (a0 : Value) (s : St) : Option (Value × St) :=
  S.bd (bx a0) fun c1 => S.bd (lcl c1 0) fun x2 => S.bd (mks s 1 8 [(Go.Value.int Go.IntKind.i64 0)] x2 x2) fun r3 => S.bd (lcl c1 1) fun x4 => S.bd (lcl c1 0) fun x5 => S.bd (bin .sub x5 (Go.Value.int Go.IntKind.i64 1)) fun x6 => S.bd (S.it (leapfrogref01x_Bits.l4 S) [r3.1, x4, x6] r3.2) fun r24 => some ((r24.2.1.getD 0 undef), r24.2.2)
def leapfrogref01x_Bits.v (a0 : Value) (s : St) : Option (Value × St) := leapfrogref01x_Bits.t std a0 s
def leapfrogref01x_Bits.w : List Value → St → Option (Value × St)
  | [a0], s => leapfrogref01x_Bits.v a0 s
  | _, _ => none
def leapfrogref01x_Bits.an : An := ⟨27, false, [1], [(4, ⟨[.v 3, .v 4, .v 5], [(.exit 0, [.v 3])]⟩)], [], []⟩
theorem leapfrogref01x_Bits.ok (S : Sig) (a0 : Value) (s : St) : evF S Try.prog leapfrogref01x_Bits.ctx leapfrogref01x_Bits.an Try.f77 [a0] s = leapfrogref01x_Bits.t S a0 s := by kernel_rfl
theorem leapfrogref01x_Bits.cok : CtxOk Try.prog leapfrogref01x_Bits.ctx := .nil
theorem leapfrogref01x_Bits.draws : fnDraws leapfrogref01x_Bits.an Try.f77 = true := by kernel_rfl
theorem leapfrogref01x_Bits.can : callOk Try.prog 77 = true := by kernel_rfl
theorem leapfrogref01x_Bits.sound : FnOk Try.prog 77 (.st leapfrogref01x_Bits.w) := FnOk.st_of (evF_ok leapfrogref01x_Bits.cok mixed (f := 77) (fn := Try.f77) (by kernel_rfl) leapfrogref01x_Bits.draws) fun args s r h => by
  unfold leapfrogref01x_Bits.w at h; split at h
  · rw [leapfrogref01x_Bits.ok std]; exact h
  · simp at h

/-! ### leapfrog/leapfrogref01.Of: function 76 -/
def leapfrogref01x_Of.ctx : Ctx := []
def leapfrogref01x_Of.l3 (S : Sig) (rec18 : List Value → St → Option Cut) (xs16 : List Value) (s17 : St) : Option Cut :=
  S.bd (lenL (xs16.getD 0 undef)) fun x19 => S.bd (bin .lss (xs16.getD 1 undef) x19) fun x20 => S.cnd x20 (S.bd (lcl (cellsA (xs16.getD 3 undef)) 1) fun x21 => S.bd (bin .mul x21 (Go.Value.int Go.IntKind.u64 2)) fun x22 => S.bd (idx s17 1 (xs16.getD 0 undef) (xs16.getD 1 undef)) fun x23 => S.bd (ldc s17 x23) fun x24 => S.bd (cvi .u64 x24) fun x25 => S.bd (bin .add x22 x25) fun x26 => S.bd (stl (cellsA (xs16.getD 3 undef)) 1 1 x26) fun c27 => S.bd (bin .add (xs16.getD 1 undef) (Go.Value.int Go.IntKind.i64 1)) fun x28 => rec18 [(xs16.getD 0 undef), x28, (Value.agg ⟨(cellsA (xs16.getD 2 undef))⟩), (Value.agg ⟨c27⟩)] s17) (some (0, [(Value.agg ⟨(cellsA (xs16.getD 2 undef))⟩), (Value.agg ⟨(cellsA (xs16.getD 3 undef))⟩)], s17))

def leapfrogref01x_Of.t (S : Sig) (a0 : Value) (s : St) : Option Value :=
  S.bd (bx (Go.Value.agg #[(Go.Value.int Go.IntKind.i64 0), (Go.Value.int Go.IntKind.u64 0)])) fun c1 => S.bd (lenL a0) fun x2 => S.bd (bld [(Go.Value.int Go.IntKind.i64 0), (Go.Value.int Go.IntKind.u64 0)] [(0, 1, x2)]) fun x3 => S.bd (bx (Go.Value.agg #[(Go.Value.int Go.IntKind.i64 0), (Go.Value.int Go.IntKind.u64 0)])) fun c4 => S.bd (stl c4 0 2 x3) fun c5 => S.bd (S.it (leapfrogref01x_Of.l3 S) [a0, (Go.Value.int Go.IntKind.i64 0), (Value.agg ⟨c1⟩), (Value.agg ⟨c5⟩)] s) fun r29 => S.bd (lal (cellsA (r29.2.1.getD 1 undef)) 0 2) fun x30 => S.bd (stl (cellsA (r29.2.1.getD 0 undef)) 0 2 x30) fun c31 => S.bd (lal c31 0 2) fun x32 => some (x32)
def leapfrogref01x_Of.r (a0 : Value) (s : St) : Option Value := leapfrogref01x_Of.t std a0 s
def leapfrogref01x_Of.w : List Value → St → Option Value
  | [a0], s => leapfrogref01x_Of.r a0 s
  | _, _ => none
def leapfrogref01x_Of.an : An := ⟨25, true, [2, 3], [(3, ⟨[.v 0, .p 2 2 0, .p 3 3 0, .v 4, .l 2, .l 3], [(.exit 0, [.p 2 2 0, .p 3 3 0, .l 2, .l 3])]⟩)], [], [(5, [(0, 0, [], []), (1, 25, [], []), (2, 0, [], []), (3, 0, [], []), (4, 0, [], []), (5, 2, [], []), (6, 2, [], []), (7, 0, [], []), (8, 0, [], []), (9, 0, [], []), (10, 29, [], [])])]⟩
theorem leapfrogref01x_Of.ok (S : Sig) (a0 : Value) (s : St) : evG S Try.prog leapfrogref01x_Of.ctx leapfrogref01x_Of.an Try.f76 [a0] s = leapfrogref01x_Of.t S a0 s := by kernel_rfl
theorem leapfrogref01x_Of.cok : CtxOk Try.prog leapfrogref01x_Of.ctx := .nil
theorem leapfrogref01x_Of.draws : fnDraws leapfrogref01x_Of.an Try.f76 = true := by kernel_rfl
theorem leapfrogref01x_Of.can : callOk Try.prog 76 = true := by kernel_rfl
theorem leapfrogref01x_Of.sound : FnOk Try.prog 76 (.rd leapfrogref01x_Of.w) := FnOk.rd_of (evG_ok leapfrogref01x_Of.cok mixed (f := 76) (fn := Try.f76) (by kernel_rfl) leapfrogref01x_Of.draws) fun args s r h => by
  unfold leapfrogref01x_Of.w at h; split at h
  · rw [leapfrogref01x_Of.ok std]; exact h
  · simp at h

/-! ### leapfrog/leapfrogref01.Prefix: function 69 -/
def leapfrogref01x_Prefix.ctx : Ctx := [(66, .rd leapfrogref01x_Right.w), (77, .st leapfrogref01x_Bits.w), (76, .rd leapfrogref01x_Of.w)]
def leapfrogref01x_Prefix.t (S : Sig) (a0 a1 : Value) (s : St) : Option (Value × St) :=
  S.bd (bx a0) fun c1 => S.bd (bx (Go.Value.agg #[(Go.Value.int Go.IntKind.i64 0), (Go.Value.int Go.IntKind.u64 0)])) fun c2 => S.bd (lal c1 0 2) fun x3 => S.bd (leapfrogref01x_Right.r x3 s) fun x4 => S.bd (un .not x4) fun x5 => S.cnd x5 (S.bd (bld [(Go.Value.int Go.IntKind.i64 0), (Go.Value.int Go.IntKind.u64 0)] []) fun x6 => S.bd (stl c2 0 2 x6) fun c7 => S.bd (lal c7 0 2) fun x8 => some ((Value.tuple ⟨[x8, (Go.Value.int Go.IntKind.i64 10)]⟩), s)) (S.bd (bin .lss a1 (Go.Value.int Go.IntKind.i64 0)) fun x9 => S.bd (S.gd x9 false (some a1)) fun x10 => S.bd (S.gd x9 false (lcl c1 0)) fun x11 => S.bd (S.gd x9 false (bin .gtr x10 x11)) fun x12 => S.bd (pik x9 (Go.Value.bool Bool.true) x12) fun x13 => S.cnd x13 (S.bd (bld [(Go.Value.int Go.IntKind.i64 0), (Go.Value.int Go.IntKind.u64 0)] []) fun x14 => S.bd (stl c2 0 2 x14) fun c15 => S.bd (lal c15 0 2) fun x16 => some ((Value.tuple ⟨[x16, (Go.Value.int Go.IntKind.i64 5)]⟩), s)) (S.bd (lal c1 0 2) fun x17 => S.bd (leapfrogref01x_Bits.v x17 s) fun r18 => S.bd (slc r18.2 1 r18.1 none (some a1) none) fun x19 => S.bd (leapfrogref01x_Of.r x19 r18.2) fun x20 => S.bd (stl c2 0 2 x20) fun c21 => S.bd (lal c21 0 2) fun x22 => some ((Value.tuple ⟨[x22, (Go.Value.int Go.IntKind.i64 0)]⟩), r18.2)))
def leapfrogref01x_Prefix.v (a0 a1 : Value) (s : St) : Option (Value × St) := leapfrogref01x_Prefix.t std a0 a1 s
def leapfrogref01x_Prefix.w : List Value → St → Option (Value × St)
  | [a0, a1], s => leapfrogref01x_Prefix.v a0 a1 s
  | _, _ => none
def leapfrogref01x_Prefix.an : An := ⟨24, false, [2, 4], [], [], []⟩
theorem leapfrogref01x_Prefix.ok (S : Sig) (a0 a1 : Value) (s : St) : evF S Try.prog leapfrogref01x_Prefix.ctx leapfrogref01x_Prefix.an Try.f69 [a0, a1] s = leapfrogref01x_Prefix.t S a0 a1 s := by kernel_rfl
theorem leapfrogref01x_Prefix.cok : CtxOk Try.prog leapfrogref01x_Prefix.ctx := .cons leapfrogref01x_Right.sound leapfrogref01x_Right.can <| .cons leapfrogref01x_Bits.sound leapfrogref01x_Bits.can <| .cons leapfrogref01x_Of.sound leapfrogref01x_Of.can <| .nil
theorem leapfrogref01x_Prefix.draws : fnDraws leapfrogref01x_Prefix.an Try.f69 = true := by kernel_rfl
theorem leapfrogref01x_Prefix.can : callOk Try.prog 69 = true := by kernel_rfl
theorem leapfrogref01x_Prefix.sound : FnOk Try.prog 69 (.st leapfrogref01x_Prefix.w) := FnOk.st_of (evF_ok leapfrogref01x_Prefix.cok mixed (f := 69) (fn := Try.f69) (by kernel_rfl) leapfrogref01x_Prefix.draws) fun args s r h => by
  unfold leapfrogref01x_Prefix.w at h; split at h
  · rw [leapfrogref01x_Prefix.ok std]; exact h
  · simp at h

/-! ### leapfrog/leapfrogref01.Prefix: function 69, as a reading -/
def leapfrogref01x_PrefixQ.r (a0 a1 : Value) (s : St) : Option Value := frzR (fun s => leapfrogref01x_Prefix.v a0 a1 s) s
def leapfrogref01x_PrefixQ.w : List Value → St → Option Value := fun args s => frzR (leapfrogref01x_Prefix.w args) s
theorem leapfrogref01x_PrefixQ.can : callOk Try.prog 69 = true := leapfrogref01x_Prefix.can
theorem leapfrogref01x_PrefixQ.sound : FnOk Try.prog 69 (.rd leapfrogref01x_PrefixQ.w) := FnOk.frozen leapfrogref01x_Prefix.sound

/-! ### (*leapfrog/leapfrogref12.Seek).right: function 51 -/
def leapfrogref12x_Seek_right.ctx : Ctx := [(48, .rd leapfrogref02x_Check.w), (50, .rd leapfrogref02x_Less.w), (53, .st leapfrogref12x_Seek_again.w), (68, .rd leapfrogref12x_Seek_known.w), (69, .rd leapfrogref01x_PrefixQ.w), (70, .st leapfrogref12x_Seek_end.w)]
def leapfrogref12x_Seek_right.l2 (S : Sig) (rec31 : List Value → St → Option Cut) (xs29 : List Value) (s30 : St) : Option Cut :=
  S.bd (lal (cellsA (xs29.getD 1 undef)) 1 2) fun x32 => S.bd (leapfrogref02x_Check.r x32 s30) fun x33 => S.bd (eqb [1] false true x33 (Go.Value.int Go.IntKind.i64 0)) fun x34 => S.bd (S.gd x34 false (lal (cellsA (xs29.getD 2 undef)) 0 2)) fun x35 => S.bd (S.gd x34 false (lal (cellsA (xs29.getD 1 undef)) 1 2)) fun x36 => S.bd (S.gd x34 false (leapfrogref02x_Less.r x35 x36 s30)) fun x37 => S.bd (S.gd x34 false (un .not x37)) fun x38 => S.bd (pik x34 (Go.Value.bool Bool.true) x38) fun x39 => S.cnd x39 (S.bd (leapfrogref12x_Seek_again.v (xs29.getD 0 undef) s30) fun r40 => some (1, [], r40.2)) (S.bd (lal (cellsA (xs29.getD 1 undef)) 0 5) fun x41 => S.bd (leapfrogref12x_Seek_known.r (xs29.getD 0 undef) x41 s30) fun x42 => S.bd (bin .lss x42 (Go.Value.int Go.IntKind.i64 0)) fun x43 => S.cnd x43 (some (0, [(xs29.getD 0 undef), (Value.agg ⟨(cellsA (xs29.getD 1 undef))⟩)], s30)) (S.bd (lal (cellsA (xs29.getD 1 undef)) 1 2) fun x44 => S.bd (nck (xs29.getD 0 undef)) fun x45 => S.bd (fld 21 x45) fun x46 => S.bd (ldc s30 x46) fun x47 => S.bd (idx s30 13 x47 x42) fun x48 => S.bd (fld 8 x48) fun x49 => S.bd (lda s30 5 x49) fun x50 => S.bd (stl (cellsA (xs29.getD 2 undef)) 0 2 x44) fun c51 => S.bd (stl (cellsA (xs29.getD 1 undef)) 0 5 x50) fun c52 => rec31 [(xs29.getD 0 undef), (Value.agg ⟨c52⟩), (Value.agg ⟨c51⟩)] s30))

def leapfrogref12x_Seek_right.t.p1 (S : Sig) (r53 : Cut) : Option (Value × St) :=
  S.bd (nck (r53.2.1.getD 0 undef)) fun x67 => S.bd (fld 13 x67) fun x68 => S.bd (fld 0 x68) fun x69 => S.bd (ldc r53.2.2 x69) fun x70 => S.bd (bin .gtr x70 (Go.Value.int Go.IntKind.i64 0)) fun x71 => S.cnd x71 (S.bd (nck (r53.2.1.getD 0 undef)) fun x72 => S.bd (fld 13 x72) fun x73 => S.bd (lda r53.2.2 2 x73) fun x74 => S.bd (nck (r53.2.1.getD 0 undef)) fun x75 => S.bd (fld 13 x75) fun x76 => S.bd (fld 0 x76) fun x77 => S.bd (ldc r53.2.2 x77) fun x78 => S.bd (bin .sub x78 (Go.Value.int Go.IntKind.i64 1)) fun x79 => S.bd (leapfrogref01x_PrefixQ.r x74 x79 r53.2.2) fun x80 => S.bd (xtr 0 x80) fun x81 => S.bd (xtr 1 x80) fun x82 => S.bd (nck (r53.2.1.getD 0 undef)) fun x83 => S.bd (fld 13 x83) fun x84 => S.bd (stv r53.2.2 2 x84 x81) fun s85 => S.bd (nck (r53.2.1.getD 0 undef)) fun x86 => S.bd (fld 15 x86) fun x87 => S.bd (stv s85 1 x87 (Go.Value.bool Bool.false)) fun s88 => some ((Value.tuple ⟨[]⟩), s88)) (S.bd (nck (r53.2.1.getD 0 undef)) fun x89 => S.bd (fld 8 x89) fun x90 => S.bd (lda r53.2.2 5 x90) fun x91 => S.bd (lal (cellsA (r53.2.1.getD 1 undef)) 0 5) fun x92 => S.bd (lal (cellsA (r53.2.1.getD 1 undef)) 1 2) fun x93 => S.bd (nck (r53.2.1.getD 0 undef)) fun x94 => S.bd (fld 0 x94) fun x95 => S.bd (fld 6 x95) fun x96 => S.bd (lda r53.2.2 2 x96) fun x97 => S.bd (eqb [1, 1] true false x93 x97) fun x98 => S.bd (bld [(Go.Value.int Go.IntKind.i64 0), (Go.Value.int Go.IntKind.u64 0), (Go.Value.slice Option.none 0 0), (Go.Value.slice Option.none 0 0), (Go.Value.int Go.IntKind.i64 0), (Go.Value.int Go.IntKind.i64 0), (Go.Value.int Go.IntKind.u64 0), (Go.Value.int Go.IntKind.i64 0), (Go.Value.int Go.IntKind.u64 0), (Go.Value.int Go.IntKind.i64 0), (Go.Value.int Go.IntKind.i64 0), (Go.Value.int Go.IntKind.u64 0), (Go.Value.int Go.IntKind.i64 0), (Go.Value.int Go.IntKind.u64 0), (Go.Value.bool Bool.false)] [(4, 5, x91), (9, 5, x92), (14, 1, x98)]) fun x99 => S.bd (leapfrogref12x_Seek_end.v (r53.2.1.getD 0 undef) x99 r53.2.2) fun r100 => S.bd (lda r100.2 5 x90) fun x101 => S.cnd (Value.bool (sameV x101 x91)) (S.bd (lda r100.2 2 x96) fun x102 => S.cnd (Value.bool (sameV x102 x97)) (some ((Value.tuple ⟨[]⟩), r100.2)) (none)) (none))

def leapfrogref12x_Seek_right.t (S : Sig) (a0 a1 : Value) (s : St) : Option (Value × St) :=
  S.bd (bx a1) fun c1 => S.bd (nck a0) fun x2 => S.bd (fld 8 x2) fun x3 => S.bd (fld 1 x3) fun x4 => S.bd (lda s 2 x4) fun x5 => S.bd (bx (Go.Value.agg #[(Go.Value.int Go.IntKind.i64 0), (Go.Value.int Go.IntKind.u64 0)])) fun c6 => S.bd (stl c6 0 2 x5) fun c7 => S.bd (S.it (leapfrogref12x_Seek_right.l2 S) [a0, (Value.agg ⟨c1⟩), (Value.agg ⟨c7⟩)] s) fun r53 => if r53.1 = 0 then (S.bd (lal (cellsA (r53.2.1.getD 1 undef)) 1 2) fun x54 => S.bd (nck (r53.2.1.getD 0 undef)) fun x55 => S.bd (fld 0 x55) fun x56 => S.bd (fld 6 x56) fun x57 => S.bd (lda r53.2.2 2 x57) fun x58 => S.bd (leapfrogref02x_Less.r x54 x58 r53.2.2) fun x59 => S.cnd x59 (S.bd (lal (cellsA (r53.2.1.getD 1 undef)) 0 5) fun x60 => S.bd (nck (r53.2.1.getD 0 undef)) fun x61 => S.bd (fld 15 x61) fun x62 => S.bd (stv r53.2.2 1 x62 (Go.Value.bool Bool.true)) fun s63 => S.bd (nck (r53.2.1.getD 0 undef)) fun x64 => S.bd (fld 16 x64) fun x65 => S.bd (stv s63 5 x65 x60) fun s66 => some ((Value.tuple ⟨[]⟩), s66)) (leapfrogref12x_Seek_right.t.p1 S r53)) else (some ((Value.tuple ⟨[]⟩), r53.2.2))
def leapfrogref12x_Seek_right.v (a0 a1 : Value) (s : St) : Option (Value × St) := leapfrogref12x_Seek_right.t std a0 a1 s
def leapfrogref12x_Seek_right.w : List Value → St → Option (Value × St)
  | [a0, a1], s => leapfrogref12x_Seek_right.v a0 a1 s
  | _, _ => none
def leapfrogref12x_Seek_right.an : An := ⟨98, false, [3, 4], [(2, ⟨[.v 0, .p 3 3 0, .p 4 4 0, .l 3, .l 4], [(.exit 0, [.v 0, .p 3 3 0, .l 3]), (.ret, [])]⟩)], [], [(6, [(0, 0, [], []), (1, 25, [], []), (2, 0, [], []), (3, 0, [], []), (4, 0, [], []), (5, 2, [], []), (6, 0, [], []), (7, 2, [], []), (8, 0, [], []), (9, 2, [], []), (10, 37, [], []), (11, 29, [], [])]), (8, [(0, 0, [], []), (1, 25, [], []), (2, 0, [], []), (3, 0, [], []), (4, 0, [], []), (5, 0, [], []), (6, 2, [], []), (7, 3, [], []), (8, 0, [], [])]), (9, [(0, 0, [], []), (1, 0, [], []), (2, 25, [], []), (3, 0, [], []), (4, 0, [], []), (5, 4, [], []), (6, 0, [], []), (7, 0, [], []), (8, 4, [], [])]), (11, [(0, 0, [], []), (1, 0, [], []), (2, 0, [], []), (3, 0, [], []), (4, 2, [], []), (5, 0, [], []), (6, 0, [], []), (7, 0, [], []), (8, 0, [], []), (9, 2, [], []), (10, 0, [], []), (11, 3, [], []), (12, 0, [], []), (13, 0, [], []), (14, 0, [], []), (15, 0, [], []), (16, 0, [], []), (17, 4, [], [])]), (7, [(0, 0, [], []), (1, 0, [], []), (2, 0, [], []), (3, 0, [], []), (4, 2, [], []), (5, 25, [], []), (6, 0, [], []), (7, 25, [], []), (8, 0, [], []), (9, 0, [], []), (10, 0, [], []), (11, 0, [], []), (12, 2, [], []), (13, 0, [], []), (14, 0, [], []), (15, 4, [4, 12], [])])]⟩
theorem leapfrogref12x_Seek_right.ok (S : Sig) (a0 a1 : Value) (s : St) : evF S Try.prog leapfrogref12x_Seek_right.ctx leapfrogref12x_Seek_right.an Try.f51 [a0, a1] s = leapfrogref12x_Seek_right.t S a0 a1 s := by kernel_rfl
theorem leapfrogref12x_Seek_right.cok : CtxOk Try.prog leapfrogref12x_Seek_right.ctx := .cons leapfrogref02x_Check.sound leapfrogref02x_Check.can <| .cons leapfrogref02x_Less.sound leapfrogref02x_Less.can <| .cons leapfrogref12x_Seek_again.sound leapfrogref12x_Seek_again.can <| .cons leapfrogref12x_Seek_known.sound leapfrogref12x_Seek_known.can <| .cons leapfrogref01x_PrefixQ.sound leapfrogref01x_PrefixQ.can <| .cons leapfrogref12x_Seek_end.sound leapfrogref12x_Seek_end.can <| .nil
theorem leapfrogref12x_Seek_right.draws : fnDraws leapfrogref12x_Seek_right.an Try.f51 = true := by kernel_rfl
theorem leapfrogref12x_Seek_right.can : callOk Try.prog 51 = true := by kernel_rfl
theorem leapfrogref12x_Seek_right.sound : FnOk Try.prog 51 (.st leapfrogref12x_Seek_right.w) := FnOk.st_of (evF_ok leapfrogref12x_Seek_right.cok mixed (f := 51) (fn := Try.f51) (by kernel_rfl) leapfrogref12x_Seek_right.draws) fun args s r h => by
  unfold leapfrogref12x_Seek_right.w at h; split at h
  · rw [leapfrogref12x_Seek_right.ok std]; exact h
  · simp at h

/-! ### (*leapfrog/leapfrogref12.Seek).keep: function 52 -/
def leapfrogref12x_Seek_keep.ctx : Ctx := [(68, .rd leapfrogref12x_Seek_known.w)]
def leapfrogref12x_Seek_keep.t.p1 (S : Sig) (c2 : List Value) (x5 : Value) (x8 : Value) (x9 : Value) (x4 : Value) (a0 : Value) (s : St) : Option (Value × St) :=
  S.bd (lal c2 7 5) fun x10 => S.bd (bld [(Go.Value.int Go.IntKind.i64 0), (Go.Value.int Go.IntKind.i64 0), (Go.Value.int Go.IntKind.u64 0), (Go.Value.int Go.IntKind.i64 0), (Go.Value.int Go.IntKind.i64 0), (Go.Value.int Go.IntKind.u64 0), (Go.Value.int Go.IntKind.i64 0), (Go.Value.int Go.IntKind.u64 0), (Go.Value.int Go.IntKind.i64 0), (Go.Value.int Go.IntKind.i64 0), (Go.Value.int Go.IntKind.u64 0), (Go.Value.int Go.IntKind.i64 0), (Go.Value.int Go.IntKind.u64 0)] [(0, 1, x5), (1, 2, x8), (3, 5, x9), (8, 5, x10)]) fun x11 => S.bd (bx (Go.Value.agg #[(Go.Value.int Go.IntKind.i64 0), (Go.Value.int Go.IntKind.i64 0), (Go.Value.int Go.IntKind.u64 0), (Go.Value.int Go.IntKind.i64 0), (Go.Value.int Go.IntKind.i64 0), (Go.Value.int Go.IntKind.u64 0), (Go.Value.int Go.IntKind.i64 0), (Go.Value.int Go.IntKind.u64 0), (Go.Value.int Go.IntKind.i64 0), (Go.Value.int Go.IntKind.i64 0), (Go.Value.int Go.IntKind.u64 0), (Go.Value.int Go.IntKind.i64 0), (Go.Value.int Go.IntKind.u64 0)])) fun c12 => S.bd (stl c12 0 13 x11) fun c13 => S.bd (bin .geq x4 (Go.Value.int Go.IntKind.i64 0)) fun x14 => S.cnd x14 (S.bd (nck a0) fun x15 => S.bd (fld 21 x15) fun x16 => S.bd (ldc s x16) fun x17 => S.bd (lal c13 0 13) fun x18 => S.bd (idx s 13 x17 x4) fun x19 => S.bd (stv s 13 x19 x18) fun s20 => some ((Value.tuple ⟨[]⟩), s20)) (S.bd (nck a0) fun x21 => S.bd (fld 21 x21) fun x22 => S.bd (ldc s x22) fun x23 => S.bd (lal c13 0 13) fun x24 => S.bd (S.bd (bls 13 (List.replicate 1 [(Go.Value.int Go.IntKind.i64 0), (Go.Value.int Go.IntKind.i64 0), (Go.Value.int Go.IntKind.u64 0), (Go.Value.int Go.IntKind.i64 0), (Go.Value.int Go.IntKind.i64 0), (Go.Value.int Go.IntKind.u64 0), (Go.Value.int Go.IntKind.i64 0), (Go.Value.int Go.IntKind.u64 0), (Go.Value.int Go.IntKind.i64 0), (Go.Value.int Go.IntKind.i64 0), (Go.Value.int Go.IntKind.u64 0), (Go.Value.int Go.IntKind.i64 0), (Go.Value.int Go.IntKind.u64 0)]) [(0, x24)]) fun rows => als s 13 1 rows) fun r25 => S.bd (app r25.2 13 104 x23 r25.1) fun r26 => S.bd (nck a0) fun x27 => S.bd (fld 21 x27) fun x28 => S.bd (stv r26.2 1 x28 r26.1) fun s29 => some ((Value.tuple ⟨[]⟩), s29))

def leapfrogref12x_Seek_keep.t (S : Sig) (a0 a1 a2 : Value) (s : St) : Option (Value × St) :=
  S.bd (bx a1) fun c1 => S.bd (bx a2) fun c2 => S.bd (lal c1 0 5) fun x3 => S.bd (leapfrogref12x_Seek_known.r a0 x3 s) fun x4 => S.bd (lcl c1 0) fun x5 => S.bd (nck a0) fun x6 => S.bd (fld 13 x6) fun x7 => S.bd (lda s 2 x7) fun x8 => S.bd (lal c2 2 5) fun x9 => leapfrogref12x_Seek_keep.t.p1 S c2 x5 x8 x9 x4 a0 s
def leapfrogref12x_Seek_keep.v (a0 a1 a2 : Value) (s : St) : Option (Value × St) := leapfrogref12x_Seek_keep.t std a0 a1 a2 s
def leapfrogref12x_Seek_keep.w : List Value → St → Option (Value × St)
  | [a0, a1, a2], s => leapfrogref12x_Seek_keep.v a0 a1 a2 s
  | _, _ => none
def leapfrogref12x_Seek_keep.an : An := ⟨41, false, [4, 5, 7], [], [], [(2, [(0, 0, [], []), (1, 33, [], []), (2, 0, [], []), (3, 0, [], []), (4, 0, [], []), (5, 2, [], []), (6, 0, [], []), (7, 41, [], []), (8, 0, [], []), (9, 41, [], []), (10, 0, [], []), (11, 6, [], []), (12, 61, [], [])]), (4, [(0, 0, [], []), (1, 0, [], []), (2, 0, [], []), (3, 2, [], []), (4, 0, [], []), (5, 57, [], []), (6, 2, [], []), (7, 4, [], [])]), (5, [(0, 0, [], []), (1, 0, [], []), (2, 0, [], []), (3, 0, [], []), (4, 2, [], []), (5, 57, [], []), (6, 3, [], []), (7, 4, [], []), (8, 0, [], []), (9, 0, [], []), (10, 4, [], [])])]⟩
theorem leapfrogref12x_Seek_keep.ok (S : Sig) (a0 a1 a2 : Value) (s : St) : evF S Try.prog leapfrogref12x_Seek_keep.ctx leapfrogref12x_Seek_keep.an Try.f52 [a0, a1, a2] s = leapfrogref12x_Seek_keep.t S a0 a1 a2 s := by kernel_rfl
theorem leapfrogref12x_Seek_keep.cok : CtxOk Try.prog leapfrogref12x_Seek_keep.ctx := .cons leapfrogref12x_Seek_known.sound leapfrogref12x_Seek_known.can <| .nil
theorem leapfrogref12x_Seek_keep.draws : fnDraws leapfrogref12x_Seek_keep.an Try.f52 = true := by kernel_rfl
theorem leapfrogref12x_Seek_keep.can : callOk Try.prog 52 = true := by kernel_rfl
theorem leapfrogref12x_Seek_keep.sound : FnOk Try.prog 52 (.st leapfrogref12x_Seek_keep.w) := FnOk.st_of (evF_ok leapfrogref12x_Seek_keep.cok mixed (f := 52) (fn := Try.f52) (by kernel_rfl) leapfrogref12x_Seek_keep.draws) fun args s r h => by
  unfold leapfrogref12x_Seek_keep.w at h; split at h
  · rw [leapfrogref12x_Seek_keep.ok std]; exact h
  · simp at h

/-! ### (*leapfrog/leapfrogref12.Seek).looked: function 49 -/
def leapfrogref12x_Seek_looked.ctx : Ctx := [(51, .st leapfrogref12x_Seek_right.w), (52, .st leapfrogref12x_Seek_keep.w), (56, .st leapfrogref12x_Seek_counts.w), (53, .st leapfrogref12x_Seek_again.w)]
def leapfrogref12x_Seek_looked.t (S : Sig) (a0 a1 : Value) (s : St) : Option (Value × St) :=
  S.bd (bx a1) fun c1 => S.bd (lcl c1 0) fun x2 => S.bd (eqb [1] false false x2 (Go.Value.int Go.IntKind.i64 1)) fun x3 => S.cnd x3 (S.bd (nck a0) fun x4 => S.bd (fld 16 x4) fun x5 => S.bd (lda s 5 x5) fun x6 => S.bd (nck a0) fun x7 => S.bd (fld 8 x7) fun x8 => S.bd (stv s 5 x8 x6) fun s9 => S.bd (nck a0) fun x10 => S.bd (fld 15 x10) fun x11 => S.bd (stv s9 1 x11 (Go.Value.bool Bool.false)) fun s12 => S.bd (lal c1 7 5) fun x13 => S.bd (leapfrogref12x_Seek_right.v a0 x13 s12) fun r14 => some ((Value.tuple ⟨[]⟩), r14.2)) (S.bd (eqb [1] false false x2 (Go.Value.int Go.IntKind.i64 3)) fun x15 => S.cnd x15 (S.bd (nck a0) fun x16 => S.bd (fld 16 x16) fun x17 => S.bd (lda s 5 x17) fun x18 => S.bd (lal c1 0 13) fun x19 => S.bd (leapfrogref12x_Seek_keep.v a0 x18 x19 s) fun r20 => S.bd (leapfrogref12x_Seek_counts.v a0 r20.2) fun r21 => S.cnd r21.1 (S.bd (nck a0) fun x22 => S.bd (fld 15 x22) fun x23 => S.bd (stv r21.2 1 x23 (Go.Value.bool Bool.false)) fun s24 => some ((Value.tuple ⟨[]⟩), s24)) (some ((Value.tuple ⟨[]⟩), r21.2))) (S.bd (leapfrogref12x_Seek_again.v a0 s) fun r25 => some ((Value.tuple ⟨[]⟩), r25.2)))
def leapfrogref12x_Seek_looked.v (a0 a1 : Value) (s : St) : Option (Value × St) := leapfrogref12x_Seek_looked.t std a0 a1 s
def leapfrogref12x_Seek_looked.w : List Value → St → Option (Value × St)
  | [a0, a1], s => leapfrogref12x_Seek_looked.v a0 a1 s
  | _, _ => none
def leapfrogref12x_Seek_looked.an : An := ⟨38, false, [3], [], [], [(7, [(0, 0, [], []), (1, 0, [], []), (2, 0, [], []), (3, 0, [], []), (4, 2, [], []), (5, 25, [], []), (6, 4, [], [])])]⟩
theorem leapfrogref12x_Seek_looked.ok (S : Sig) (a0 a1 : Value) (s : St) : evF S Try.prog leapfrogref12x_Seek_looked.ctx leapfrogref12x_Seek_looked.an Try.f49 [a0, a1] s = leapfrogref12x_Seek_looked.t S a0 a1 s := by kernel_rfl
theorem leapfrogref12x_Seek_looked.cok : CtxOk Try.prog leapfrogref12x_Seek_looked.ctx := .cons leapfrogref12x_Seek_right.sound leapfrogref12x_Seek_right.can <| .cons leapfrogref12x_Seek_keep.sound leapfrogref12x_Seek_keep.can <| .cons leapfrogref12x_Seek_counts.sound leapfrogref12x_Seek_counts.can <| .cons leapfrogref12x_Seek_again.sound leapfrogref12x_Seek_again.can <| .nil
theorem leapfrogref12x_Seek_looked.draws : fnDraws leapfrogref12x_Seek_looked.an Try.f49 = true := by kernel_rfl
theorem leapfrogref12x_Seek_looked.can : callOk Try.prog 49 = true := by kernel_rfl
theorem leapfrogref12x_Seek_looked.sound : FnOk Try.prog 49 (.st leapfrogref12x_Seek_looked.w) := FnOk.st_of (evF_ok leapfrogref12x_Seek_looked.cok mixed (f := 49) (fn := Try.f49) (by kernel_rfl) leapfrogref12x_Seek_looked.draws) fun args s r h => by
  unfold leapfrogref12x_Seek_looked.w at h; split at h
  · rw [leapfrogref12x_Seek_looked.ok std]; exact h
  · simp at h

/-! ### (*leapfrog/leapfrogref12.Seek).Tell: function 35 -/
def leapfrogref12x_Seek_Tell.ctx : Ctx := [(49, .st leapfrogref12x_Seek_looked.w), (50, .rd leapfrogref02x_Less.w), (51, .st leapfrogref12x_Seek_right.w), (48, .rd leapfrogref02x_Check.w), (52, .st leapfrogref12x_Seek_keep.w), (53, .st leapfrogref12x_Seek_again.w)]
def leapfrogref12x_Seek_Tell.t.p1 (S : Sig) (c1 : List Value) (a0 : Value) (s : St) : Option (Value × St) :=
  S.bd (lcl c1 0) fun x10 => S.bd (eqb [1] false false x10 (Go.Value.int Go.IntKind.i64 1)) fun x11 => S.bd (S.gd x11 true (some a0)) fun x12 => S.bd (S.gd x11 true (nck x12)) fun x13 => S.bd (S.gd x11 true (fld 8 x13)) fun x14 => S.bd (S.gd x11 true (fld 1 x14)) fun x15 => S.bd (S.gd x11 true (lda s 2 x15)) fun x16 => S.bd (S.gd x11 true (some a0)) fun x17 => S.bd (S.gd x11 true (nck x17)) fun x18 => S.bd (S.gd x11 true (fld 0 x18)) fun x19 => S.bd (S.gd x11 true (fld 6 x19)) fun x20 => S.bd (S.gd x11 true (lda s 2 x20)) fun x21 => S.bd (S.gd x11 true (leapfrogref02x_Less.r x16 x21 s)) fun x22 => S.bd (pik x11 x22 (Go.Value.bool Bool.false)) fun x23 => S.cnd x23 (S.bd (lal c1 7 5) fun x24 => S.bd (leapfrogref12x_Seek_right.v a0 x24 s) fun r25 => some ((Value.tuple ⟨[]⟩), r25.2)) (S.bd (lcl c1 0) fun x26 => S.bd (eqb [1] false false x26 (Go.Value.int Go.IntKind.i64 1)) fun x27 => S.bd (S.gd x27 true (lal c1 3 2)) fun x28 => S.bd (S.gd x27 true (leapfrogref02x_Check.r x28 s)) fun x29 => S.bd (S.gd x27 true (eqb [1] false false x29 (Go.Value.int Go.IntKind.i64 0))) fun x30 => S.bd (pik x27 x30 (Go.Value.bool Bool.false)) fun x31 => S.bd (S.gd x31 true (lal c1 3 2)) fun x32 => S.bd (S.gd x31 true (some a0)) fun x33 => S.bd (S.gd x31 true (nck x33)) fun x34 => S.bd (S.gd x31 true (fld 8 x34)) fun x35 => S.bd (S.gd x31 true (fld 1 x35)) fun x36 => S.bd (S.gd x31 true (lda s 2 x36)) fun x37 => S.bd (S.gd x31 true (leapfrogref02x_Less.r x32 x37 s)) fun x38 => S.bd (pik x31 x38 (Go.Value.bool Bool.false)) fun x39 => S.cnd x39 (S.bd (lal c1 2 5) fun x40 => S.bd (nck a0) fun x41 => S.bd (fld 8 x41) fun x42 => S.bd (stv s 5 x42 x40) fun s43 => some ((Value.tuple ⟨[]⟩), s43)) (S.bd (lcl c1 0) fun x44 => S.bd (eqb [1] false false x44 (Go.Value.int Go.IntKind.i64 3)) fun x45 => S.cnd x45 (S.bd (nck a0) fun x46 => S.bd (fld 8 x46) fun x47 => S.bd (lda s 5 x47) fun x48 => S.bd (lal c1 0 13) fun x49 => S.bd (leapfrogref12x_Seek_keep.v a0 x48 x49 s) fun r50 => S.bd (leapfrogref12x_Seek_again.v a0 r50.2) fun r51 => some ((Value.tuple ⟨[]⟩), r51.2)) (S.bd (leapfrogref12x_Seek_again.v a0 s) fun r52 => some ((Value.tuple ⟨[]⟩), r52.2))))

def leapfrogref12x_Seek_Tell.t (S : Sig) (a0 a1 : Value) (s : St) : Option (Value × St) :=
  S.bd (bx a1) fun c1 => S.bd (nck a0) fun x2 => S.bd (fld 23 x2) fun x3 => S.bd (ldc s x3) fun x4 => S.cnd x4 (some ((Value.tuple ⟨[]⟩), s)) (S.bd (nck a0) fun x5 => S.bd (fld 15 x5) fun x6 => S.bd (ldc s x6) fun x7 => S.cnd x7 (S.bd (lal c1 0 13) fun x8 => S.bd (leapfrogref12x_Seek_looked.v a0 x8 s) fun r9 => some ((Value.tuple ⟨[]⟩), r9.2)) (leapfrogref12x_Seek_Tell.t.p1 S c1 a0 s))
def leapfrogref12x_Seek_Tell.v (a0 a1 : Value) (s : St) : Option (Value × St) := leapfrogref12x_Seek_Tell.t std a0 a1 s
def leapfrogref12x_Seek_Tell.w : List Value → St → Option (Value × St)
  | [a0, a1], s => leapfrogref12x_Seek_Tell.v a0 a1 s
  | _, _ => none
def leapfrogref12x_Seek_Tell.an : An := ⟨77, false, [3], [], [], [(7, [(0, 0, [], []), (1, 25, [], []), (2, 0, [], []), (3, 0, [], []), (4, 0, [], []), (5, 0, [], []), (6, 0, [], []), (7, 0, [], []), (8, 2, [], []), (9, 0, [], []), (10, 0, [], []), (11, 0, [], []), (12, 0, [], []), (13, 2, [], []), (14, 3, [], []), (15, 0, [], []), (16, 0, [], [])]), (9, [(0, 0, [], []), (1, 25, [], []), (2, 0, [], []), (3, 0, [], []), (4, 0, [], []), (5, 0, [], []), (6, 25, [], []), (7, 3, [], []), (8, 0, [], []), (9, 0, [], []), (10, 0, [], []), (11, 0, [], []), (12, 0, [], []), (13, 25, [], []), (14, 0, [], []), (15, 0, [], []), (16, 0, [], []), (17, 0, [], []), (18, 2, [], []), (19, 3, [], []), (20, 0, [], []), (21, 0, [], [])]), (2, [(0, 0, [], []), (1, 0, [], []), (2, 0, [], []), (3, 0, [], []), (4, 2, [], []), (5, 25, [], []), (6, 4, [], [])])]⟩
theorem leapfrogref12x_Seek_Tell.ok (S : Sig) (a0 a1 : Value) (s : St) : evF S Try.prog leapfrogref12x_Seek_Tell.ctx leapfrogref12x_Seek_Tell.an Try.f35 [a0, a1] s = leapfrogref12x_Seek_Tell.t S a0 a1 s := by kernel_rfl
theorem leapfrogref12x_Seek_Tell.cok : CtxOk Try.prog leapfrogref12x_Seek_Tell.ctx := .cons leapfrogref12x_Seek_looked.sound leapfrogref12x_Seek_looked.can <| .cons leapfrogref02x_Less.sound leapfrogref02x_Less.can <| .cons leapfrogref12x_Seek_right.sound leapfrogref12x_Seek_right.can <| .cons leapfrogref02x_Check.sound leapfrogref02x_Check.can <| .cons leapfrogref12x_Seek_keep.sound leapfrogref12x_Seek_keep.can <| .cons leapfrogref12x_Seek_again.sound leapfrogref12x_Seek_again.can <| .nil
theorem leapfrogref12x_Seek_Tell.draws : fnDraws leapfrogref12x_Seek_Tell.an Try.f35 = true := by kernel_rfl
theorem leapfrogref12x_Seek_Tell.can : callOk Try.prog 35 = true := by kernel_rfl
theorem leapfrogref12x_Seek_Tell.sound : FnOk Try.prog 35 (.st leapfrogref12x_Seek_Tell.w) := FnOk.st_of (evF_ok leapfrogref12x_Seek_Tell.cok mixed (f := 35) (fn := Try.f35) (by kernel_rfl) leapfrogref12x_Seek_Tell.draws) fun args s r h => by
  unfold leapfrogref12x_Seek_Tell.w at h; split at h
  · rw [leapfrogref12x_Seek_Tell.ok std]; exact h
  · simp at h


end
end Go.Proofs.Ytmobdijoaebilaa
