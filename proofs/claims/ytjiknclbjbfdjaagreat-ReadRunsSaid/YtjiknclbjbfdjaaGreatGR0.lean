/-
  What the functions answer that ReadAsks, ReadRuns reaches (part 0): for each function of the program a plain function over abstract values, and that the model answers as it does.
-/
import Derived.Test.YtjiknclbjbfdjaaGreatSimZ
import Derived.Test.YtjiknclbjbfdjaaGreatProg
import Derived.KernelRfl
set_option linter.unusedVariables false
set_option maxRecDepth 100000
namespace Go.Proofs.YtjiknclbjbfdjaaGreat
open Go.Sim
noncomputable section
theorem mixed : Tryz.prog.follows .mixedOrders = true := by kernel_rfl
/-! ### (*leapfrog/seek.Seek).is: function 43 -/
def seek_Seek_is.ctx : Ctx := []
def seek_Seek_is.t (S : Sig) (a0 : Value) (s : St) : Option Value :=
  S.bd (eqb [3] false true a0 (Go.Value.pointer Option.none)) fun x1 => S.bd (S.gd x1 true (some a0)) fun x2 => S.bd (S.gd x1 true (nck x2)) fun x3 => S.bd (S.gd x1 true (fld 8 x3)) fun x4 => S.bd (S.gd x1 true (ldc s x4)) fun x5 => S.bd (pik x1 x5 (Go.Value.bool Bool.false)) fun x6 => some (x6)
def seek_Seek_is.r (a0 : Value) (s : St) : Option Value := seek_Seek_is.t std a0 s
def seek_Seek_is.w : List Value → St → Option Value
  | [a0], s => seek_Seek_is.r a0 s
  | _, _ => none
def seek_Seek_is.an : An := ⟨11, true, [], [], [], []⟩
theorem seek_Seek_is.ok (S : Sig) (a0 : Value) (s : St) : evG S Tryz.prog seek_Seek_is.ctx seek_Seek_is.an Tryz.f43 [a0] s = seek_Seek_is.t S a0 s := by kernel_rfl
theorem seek_Seek_is.cok : CtxOk Tryz.prog seek_Seek_is.ctx := .nil
theorem seek_Seek_is.draws : fnDraws seek_Seek_is.an Tryz.f43 = true := by kernel_rfl
theorem seek_Seek_is.can : callOk Tryz.prog 43 = true := by kernel_rfl
theorem seek_Seek_is.sound : FnOk Tryz.prog 43 (.rd seek_Seek_is.w) := FnOk.rd_of (evG_ok seek_Seek_is.cok mixed (f := 43) (fn := Tryz.f43) (by kernel_rfl) seek_Seek_is.draws) fun args s r h => by
  unfold seek_Seek_is.w at h; split at h
  · rw [seek_Seek_is.ok std]; exact h
  · simp at h

/-! ### (*leapfrog/seek.Seek).keep: function 64 -/
def seek_Seek_keep.ctx : Ctx := []
def seek_Seek_keep.t (S : Sig) (a0 a1 a2 : Value) (s : St) : Option (Value × St) :=
  S.bd (bx a1) fun c1 => S.bd (bx a2) fun c2 => S.bd (nck a0) fun x3 => S.bd (fld 22 x3) fun x4 => S.bd (ldc s x4) fun x5 => S.bd (lcl c1 0) fun x6 => S.bd (nck a0) fun x7 => S.bd (fld 14 x7) fun x8 => S.bd (lda s 2 x8) fun x9 => S.bd (bld [(Go.Value.int Go.IntKind.i64 0), (Go.Value.int Go.IntKind.i64 0), (Go.Value.int Go.IntKind.u64 0)] [(0, 1, x6), (1, 2, x9)]) fun x10 => S.bd (lal c2 7 5) fun x11 => S.bd (upm s [1, 1, 1] true x5 x10 x11) fun s12 => some ((Value.tuple ⟨[]⟩), s12)
def seek_Seek_keep.v (a0 a1 a2 : Value) (s : St) : Option (Value × St) := seek_Seek_keep.t std a0 a1 a2 s
def seek_Seek_keep.w : List Value → St → Option (Value × St)
  | [a0, a1, a2], s => seek_Seek_keep.v a0 a1 a2 s
  | _, _ => none
def seek_Seek_keep.an : An := ⟨19, false, [4, 5], [], [], [(1, [(0, 0, [], []), (1, 0, [], []), (2, 0, [], []), (3, 2, [], []), (4, 0, [], []), (5, 33, [], []), (6, 0, [], []), (7, 0, [], []), (8, 0, [], []), (9, 2, [], []), (10, 0, [], []), (11, 0, [], []), (12, 41, [], []), (13, 4, [], [])])]⟩
theorem seek_Seek_keep.ok (S : Sig) (a0 a1 a2 : Value) (s : St) : evF S Tryz.prog seek_Seek_keep.ctx seek_Seek_keep.an Tryz.f64 [a0, a1, a2] s = seek_Seek_keep.t S a0 a1 a2 s := by kernel_rfl
theorem seek_Seek_keep.cok : CtxOk Tryz.prog seek_Seek_keep.ctx := .nil
theorem seek_Seek_keep.draws : fnDraws seek_Seek_keep.an Tryz.f64 = true := by kernel_rfl
theorem seek_Seek_keep.can : callOk Tryz.prog 64 = true := by kernel_rfl
theorem seek_Seek_keep.sound : FnOk Tryz.prog 64 (.st seek_Seek_keep.w) := FnOk.st_of (evF_ok seek_Seek_keep.cok mixed (f := 64) (fn := Tryz.f64) (by kernel_rfl) seek_Seek_keep.draws) fun args s r h => by
  unfold seek_Seek_keep.w at h; split at h
  · rw [seek_Seek_keep.ok std]; exact h
  · simp at h

/-! ### (*leapfrog/seek.Seek).counts: function 65 -/
def seek_Seek_counts.ctx : Ctx := []
def seek_Seek_counts.t (S : Sig) (a0 : Value) (s : St) : Option (Value × St) :=
  S.bd (nck a0) fun x1 => S.bd (fld 23 x1) fun x2 => S.bd (ldc s x2) fun x3 => S.bd (bin .geq x3 (Go.Value.int Go.IntKind.i64 64)) fun x4 => S.cnd x4 (S.bd (bld [(Go.Value.int Go.IntKind.i64 0), (Go.Value.int Go.IntKind.u64 0), (Go.Value.slice Option.none 0 0), (Go.Value.slice Option.none 0 0), (Go.Value.int Go.IntKind.i64 0), (Go.Value.int Go.IntKind.i64 0), (Go.Value.int Go.IntKind.u64 0), (Go.Value.int Go.IntKind.i64 0), (Go.Value.int Go.IntKind.u64 0), (Go.Value.int Go.IntKind.i64 0), (Go.Value.int Go.IntKind.i64 0), (Go.Value.int Go.IntKind.u64 0), (Go.Value.int Go.IntKind.i64 0), (Go.Value.int Go.IntKind.u64 0), (Go.Value.bool Bool.false)] [(0, 1, (Go.Value.int Go.IntKind.i64 121))]) fun x5 => S.bd (nck a0) fun x6 => S.bd (fld 24 x6) fun x7 => S.bd (stv s 1 x7 (Go.Value.bool Bool.true)) fun s8 => S.bd (nck a0) fun x9 => S.bd (fld 25 x9) fun x10 => S.bd (stv s8 15 x10 x5) fun s11 => some ((Go.Value.bool Bool.false), s11)) (S.bd (nck a0) fun x12 => S.bd (fld 23 x12) fun x13 => S.bd (ldc s x13) fun x14 => S.bd (bin .add x14 (Go.Value.int Go.IntKind.i64 1)) fun x15 => S.bd (nck a0) fun x16 => S.bd (fld 23 x16) fun x17 => S.bd (stv s 1 x17 x15) fun s18 => some ((Go.Value.bool Bool.true), s18))
def seek_Seek_counts.v (a0 : Value) (s : St) : Option (Value × St) := seek_Seek_counts.t std a0 s
def seek_Seek_counts.w : List Value → St → Option (Value × St)
  | [a0], s => seek_Seek_counts.v a0 s
  | _, _ => none
def seek_Seek_counts.an : An := ⟨22, false, [], [], [], []⟩
theorem seek_Seek_counts.ok (S : Sig) (a0 : Value) (s : St) : evF S Tryz.prog seek_Seek_counts.ctx seek_Seek_counts.an Tryz.f65 [a0] s = seek_Seek_counts.t S a0 s := by kernel_rfl
theorem seek_Seek_counts.cok : CtxOk Tryz.prog seek_Seek_counts.ctx := .nil
theorem seek_Seek_counts.draws : fnDraws seek_Seek_counts.an Tryz.f65 = true := by kernel_rfl
theorem seek_Seek_counts.can : callOk Tryz.prog 65 = true := by kernel_rfl
theorem seek_Seek_counts.sound : FnOk Tryz.prog 65 (.st seek_Seek_counts.w) := FnOk.st_of (evF_ok seek_Seek_counts.cok mixed (f := 65) (fn := Tryz.f65) (by kernel_rfl) seek_Seek_counts.draws) fun args s r h => by
  unfold seek_Seek_counts.w at h; split at h
  · rw [seek_Seek_counts.ok std]; exact h
  · simp at h

/-! ### (*leapfrog/seek.Seek).Dead: function 50 -/
def seek_Seek_Dead.ctx : Ctx := [(43, .rd seek_Seek_is.w), (64, .st seek_Seek_keep.w), (65, .st seek_Seek_counts.w)]
def seek_Seek_Dead.t (S : Sig) (a0 a1 : Value) (s : St) : Option (Value × St) :=
  S.bd (bx a1) fun c1 => S.bd (seek_Seek_is.r a0 s) fun x2 => S.bd (un .not x2) fun x3 => S.bd (S.gd x3 false (some a0)) fun x4 => S.bd (S.gd x3 false (nck x4)) fun x5 => S.bd (S.gd x3 false (fld 24 x5)) fun x6 => S.bd (S.gd x3 false (ldc s x6)) fun x7 => S.bd (S.gd x3 false (un .not x7)) fun x8 => S.bd (pik x3 (Go.Value.bool Bool.true) x8) fun x9 => S.bd (S.gd x9 false (some a0)) fun x10 => S.bd (S.gd x9 false (nck x10)) fun x11 => S.bd (S.gd x9 false (fld 25 x11)) fun x12 => S.bd (S.gd x9 false (fld 0 x12)) fun x13 => S.bd (S.gd x9 false (ldc s x13)) fun x14 => S.bd (S.gd x9 false (eqb [1] false true x14 (Go.Value.int Go.IntKind.i64 0))) fun x15 => S.bd (pik x9 (Go.Value.bool Bool.true) x15) fun x16 => S.cnd x16 (some ((Value.tuple ⟨[]⟩), s)) (S.bd (nck a0) fun x17 => S.bd (fld 25 x17) fun x18 => S.bd (fld 9 x18) fun x19 => S.bd (lda s 5 x19) fun x20 => S.bd (lal c1 0 13) fun x21 => S.bd (seek_Seek_keep.v a0 x20 x21 s) fun r22 => S.bd (bld [(Go.Value.int Go.IntKind.i64 0), (Go.Value.int Go.IntKind.u64 0), (Go.Value.slice Option.none 0 0), (Go.Value.slice Option.none 0 0), (Go.Value.int Go.IntKind.i64 0), (Go.Value.int Go.IntKind.i64 0), (Go.Value.int Go.IntKind.u64 0), (Go.Value.int Go.IntKind.i64 0), (Go.Value.int Go.IntKind.u64 0), (Go.Value.int Go.IntKind.i64 0), (Go.Value.int Go.IntKind.i64 0), (Go.Value.int Go.IntKind.u64 0), (Go.Value.int Go.IntKind.i64 0), (Go.Value.int Go.IntKind.u64 0), (Go.Value.bool Bool.false)] []) fun x23 => S.bd (nck a0) fun x24 => S.bd (fld 24 x24) fun x25 => S.bd (stv r22.2 1 x25 (Go.Value.bool Bool.false)) fun s26 => S.bd (nck a0) fun x27 => S.bd (fld 25 x27) fun x28 => S.bd (stv s26 15 x28 x23) fun s29 => S.bd (seek_Seek_counts.v a0 s29) fun r30 => some ((Value.tuple ⟨[]⟩), r30.2))
def seek_Seek_Dead.v (a0 a1 : Value) (s : St) : Option (Value × St) := seek_Seek_Dead.t std a0 a1 s
def seek_Seek_Dead.w : List Value → St → Option (Value × St)
  | [a0, a1], s => seek_Seek_Dead.v a0 a1 s
  | _, _ => none
def seek_Seek_Dead.an : An := ⟨39, false, [3], [], [], [(2, [(0, 0, [], []), (1, 0, [], []), (2, 0, [], []), (3, 0, [], []), (4, 0, [], []), (5, 2, [], []), (6, 25, [], []), (7, 4, [], [])])]⟩
theorem seek_Seek_Dead.ok (S : Sig) (a0 a1 : Value) (s : St) : evF S Tryz.prog seek_Seek_Dead.ctx seek_Seek_Dead.an Tryz.f50 [a0, a1] s = seek_Seek_Dead.t S a0 a1 s := by kernel_rfl
theorem seek_Seek_Dead.cok : CtxOk Tryz.prog seek_Seek_Dead.ctx := .cons seek_Seek_is.sound seek_Seek_is.can <| .cons seek_Seek_keep.sound seek_Seek_keep.can <| .cons seek_Seek_counts.sound seek_Seek_counts.can <| .nil
theorem seek_Seek_Dead.draws : fnDraws seek_Seek_Dead.an Tryz.f50 = true := by kernel_rfl
theorem seek_Seek_Dead.can : callOk Tryz.prog 50 = true := by kernel_rfl
theorem seek_Seek_Dead.sound : FnOk Tryz.prog 50 (.st seek_Seek_Dead.w) := FnOk.st_of (evF_ok seek_Seek_Dead.cok mixed (f := 50) (fn := Tryz.f50) (by kernel_rfl) seek_Seek_Dead.draws) fun args s r h => by
  unfold seek_Seek_Dead.w at h; split at h
  · rw [seek_Seek_Dead.ok std]; exact h
  · simp at h

/-! ### (*leapfrog/seek.Seek).Next: function 25 -/
def seek_Seek_Next.ctx : Ctx := [(43, .rd seek_Seek_is.w)]
def seek_Seek_Next.t.p1 (S : Sig) (r35 : Cut) (x38 : Value) (x36 : Value) : Option Value :=
  S.bd (lda r35.2.2 2 x38) fun x39 => S.bd (bld [(Go.Value.int Go.IntKind.i64 0), (Go.Value.int Go.IntKind.i64 0), (Go.Value.int Go.IntKind.u64 0), (Go.Value.int Go.IntKind.i64 0), (Go.Value.int Go.IntKind.i64 0), (Go.Value.int Go.IntKind.u64 0), (Go.Value.int Go.IntKind.i64 0), (Go.Value.int Go.IntKind.u64 0), (Go.Value.int Go.IntKind.i64 0), (Go.Value.int Go.IntKind.i64 0), (Go.Value.int Go.IntKind.u64 0), (Go.Value.int Go.IntKind.i64 0), (Go.Value.int Go.IntKind.u64 0), (Go.Value.int Go.IntKind.i64 0), (Go.Value.int Go.IntKind.i64 0)] [(0, 1, (Go.Value.int Go.IntKind.i64 1)), (1, 2, x39)]) fun x40 => S.bd (bld [(Go.Value.int Go.IntKind.i64 0), (Go.Value.int Go.IntKind.i64 0), (Go.Value.int Go.IntKind.i64 0), (Go.Value.int Go.IntKind.u64 0), (Go.Value.int Go.IntKind.i64 0), (Go.Value.int Go.IntKind.u64 0), (Go.Value.int Go.IntKind.i64 0), (Go.Value.int Go.IntKind.i64 0), (Go.Value.int Go.IntKind.u64 0), (Go.Value.int Go.IntKind.i64 0), (Go.Value.int Go.IntKind.i64 0), (Go.Value.int Go.IntKind.u64 0), (Go.Value.int Go.IntKind.i64 0), (Go.Value.int Go.IntKind.u64 0), (Go.Value.int Go.IntKind.i64 0), (Go.Value.int Go.IntKind.i64 0), (Go.Value.int Go.IntKind.u64 0), (Go.Value.int Go.IntKind.i64 0), (Go.Value.int Go.IntKind.u64 0), (Go.Value.int Go.IntKind.i64 0), (Go.Value.int Go.IntKind.i64 0), (Go.Value.int Go.IntKind.i64 0), (Go.Value.int Go.IntKind.u64 0), (Go.Value.slice Option.none 0 0), (Go.Value.slice Option.none 0 0), (Go.Value.int Go.IntKind.i64 0), (Go.Value.int Go.IntKind.i64 0), (Go.Value.int Go.IntKind.u64 0), (Go.Value.int Go.IntKind.i64 0), (Go.Value.int Go.IntKind.u64 0), (Go.Value.int Go.IntKind.i64 0), (Go.Value.int Go.IntKind.i64 0), (Go.Value.int Go.IntKind.u64 0), (Go.Value.int Go.IntKind.i64 0), (Go.Value.int Go.IntKind.u64 0), (Go.Value.bool Bool.false)] [(0, 1, (Go.Value.int Go.IntKind.i64 1)), (1, 5, x36), (6, 15, x40)]) fun x41 => S.bd (stl (cellsA (r35.2.1.getD 1 undef)) 0 36 x41) fun c42 => S.bd (lal c42 0 36) fun x43 => some (x43)

def seek_Seek_Next.t.p2 (S : Sig) (a0 : Value) (s : St) (c1 : List Value) : Option Value :=
  S.bd (nck a0) fun x7 => S.bd (fld 24 x7) fun x8 => S.bd (ldc s x8) fun x9 => S.cnd x9 (S.bd (nck a0) fun x10 => S.bd (fld 25 x10) fun x11 => S.bd (lda s 15 x11) fun x12 => S.bd (bld [(Go.Value.int Go.IntKind.i64 0), (Go.Value.int Go.IntKind.i64 0), (Go.Value.int Go.IntKind.i64 0), (Go.Value.int Go.IntKind.u64 0), (Go.Value.int Go.IntKind.i64 0), (Go.Value.int Go.IntKind.u64 0), (Go.Value.int Go.IntKind.i64 0), (Go.Value.int Go.IntKind.i64 0), (Go.Value.int Go.IntKind.u64 0), (Go.Value.int Go.IntKind.i64 0), (Go.Value.int Go.IntKind.i64 0), (Go.Value.int Go.IntKind.u64 0), (Go.Value.int Go.IntKind.i64 0), (Go.Value.int Go.IntKind.u64 0), (Go.Value.int Go.IntKind.i64 0), (Go.Value.int Go.IntKind.i64 0), (Go.Value.int Go.IntKind.u64 0), (Go.Value.int Go.IntKind.i64 0), (Go.Value.int Go.IntKind.u64 0), (Go.Value.int Go.IntKind.i64 0), (Go.Value.int Go.IntKind.i64 0), (Go.Value.int Go.IntKind.i64 0), (Go.Value.int Go.IntKind.u64 0), (Go.Value.slice Option.none 0 0), (Go.Value.slice Option.none 0 0), (Go.Value.int Go.IntKind.i64 0), (Go.Value.int Go.IntKind.i64 0), (Go.Value.int Go.IntKind.u64 0), (Go.Value.int Go.IntKind.i64 0), (Go.Value.int Go.IntKind.u64 0), (Go.Value.int Go.IntKind.i64 0), (Go.Value.int Go.IntKind.i64 0), (Go.Value.int Go.IntKind.u64 0), (Go.Value.int Go.IntKind.i64 0), (Go.Value.int Go.IntKind.u64 0), (Go.Value.bool Bool.false)] [(0, 1, (Go.Value.int Go.IntKind.i64 3)), (21, 15, x12)]) fun x13 => S.bd (stl c1 0 36 x13) fun c14 => S.bd (lal c14 0 36) fun x15 => some (x15)) (S.bd (nck a0) fun x16 => S.bd (fld 9 x16) fun x17 => S.bd (lda s 5 x17) fun x18 => S.bd (bx (Go.Value.agg #[(Go.Value.int Go.IntKind.i64 0), (Go.Value.int Go.IntKind.i64 0), (Go.Value.int Go.IntKind.u64 0), (Go.Value.int Go.IntKind.i64 0), (Go.Value.int Go.IntKind.u64 0)])) fun c19 => S.bd (stl c19 0 5 x18) fun c20 => S.bd (show Option Cut from S.bd (nck a0) fun x28 => S.bd (fld 16 x28) fun x29 => S.bd (ldc s x29) fun x30 => S.cnd x30 (S.bd (nck a0) fun x31 => S.bd (fld 17 x31) fun x32 => S.bd (lda s 5 x32) fun x33 => S.bd (stl c20 0 5 x33) fun c34 => some (0, [a0, (Value.agg ⟨c1⟩), (Value.agg ⟨c34⟩)], s)) (some (0, [a0, (Value.agg ⟨c1⟩), (Value.agg ⟨c20⟩)], s))) fun r35 => S.bd (lal (cellsA (r35.2.1.getD 2 undef)) 0 5) fun x36 => S.bd (nck (r35.2.1.getD 0 undef)) fun x37 => S.bd (fld 14 x37) fun x38 => seek_Seek_Next.t.p1 S r35 x38 x36)

def seek_Seek_Next.t (S : Sig) (a0 : Value) (s : St) : Option Value :=
  S.bd (bx (Go.Value.agg #[(Go.Value.int Go.IntKind.i64 0), (Go.Value.int Go.IntKind.i64 0), (Go.Value.int Go.IntKind.i64 0), (Go.Value.int Go.IntKind.u64 0), (Go.Value.int Go.IntKind.i64 0), (Go.Value.int Go.IntKind.u64 0), (Go.Value.int Go.IntKind.i64 0), (Go.Value.int Go.IntKind.i64 0), (Go.Value.int Go.IntKind.u64 0), (Go.Value.int Go.IntKind.i64 0), (Go.Value.int Go.IntKind.i64 0), (Go.Value.int Go.IntKind.u64 0), (Go.Value.int Go.IntKind.i64 0), (Go.Value.int Go.IntKind.u64 0), (Go.Value.int Go.IntKind.i64 0), (Go.Value.int Go.IntKind.i64 0), (Go.Value.int Go.IntKind.u64 0), (Go.Value.int Go.IntKind.i64 0), (Go.Value.int Go.IntKind.u64 0), (Go.Value.int Go.IntKind.i64 0), (Go.Value.int Go.IntKind.i64 0), (Go.Value.int Go.IntKind.i64 0), (Go.Value.int Go.IntKind.u64 0), (Go.Value.slice Option.none 0 0), (Go.Value.slice Option.none 0 0), (Go.Value.int Go.IntKind.i64 0), (Go.Value.int Go.IntKind.i64 0), (Go.Value.int Go.IntKind.u64 0), (Go.Value.int Go.IntKind.i64 0), (Go.Value.int Go.IntKind.u64 0), (Go.Value.int Go.IntKind.i64 0), (Go.Value.int Go.IntKind.i64 0), (Go.Value.int Go.IntKind.u64 0), (Go.Value.int Go.IntKind.i64 0), (Go.Value.int Go.IntKind.u64 0), (Go.Value.bool Bool.false)])) fun c1 => S.bd (seek_Seek_is.r a0 s) fun x2 => S.bd (un .not x2) fun x3 => S.cnd x3 (S.bd (bld [(Go.Value.int Go.IntKind.i64 0), (Go.Value.int Go.IntKind.i64 0), (Go.Value.int Go.IntKind.i64 0), (Go.Value.int Go.IntKind.u64 0), (Go.Value.int Go.IntKind.i64 0), (Go.Value.int Go.IntKind.u64 0), (Go.Value.int Go.IntKind.i64 0), (Go.Value.int Go.IntKind.i64 0), (Go.Value.int Go.IntKind.u64 0), (Go.Value.int Go.IntKind.i64 0), (Go.Value.int Go.IntKind.i64 0), (Go.Value.int Go.IntKind.u64 0), (Go.Value.int Go.IntKind.i64 0), (Go.Value.int Go.IntKind.u64 0), (Go.Value.int Go.IntKind.i64 0), (Go.Value.int Go.IntKind.i64 0), (Go.Value.int Go.IntKind.u64 0), (Go.Value.int Go.IntKind.i64 0), (Go.Value.int Go.IntKind.u64 0), (Go.Value.int Go.IntKind.i64 0), (Go.Value.int Go.IntKind.i64 0), (Go.Value.int Go.IntKind.i64 0), (Go.Value.int Go.IntKind.u64 0), (Go.Value.slice Option.none 0 0), (Go.Value.slice Option.none 0 0), (Go.Value.int Go.IntKind.i64 0), (Go.Value.int Go.IntKind.i64 0), (Go.Value.int Go.IntKind.u64 0), (Go.Value.int Go.IntKind.i64 0), (Go.Value.int Go.IntKind.u64 0), (Go.Value.int Go.IntKind.i64 0), (Go.Value.int Go.IntKind.i64 0), (Go.Value.int Go.IntKind.u64 0), (Go.Value.int Go.IntKind.i64 0), (Go.Value.int Go.IntKind.u64 0), (Go.Value.bool Bool.false)] []) fun x4 => S.bd (stl c1 0 36 x4) fun c5 => S.bd (lal c5 0 36) fun x6 => some (x6)) (seek_Seek_Next.t.p2 S a0 s c1)
def seek_Seek_Next.r (a0 : Value) (s : St) : Option Value := seek_Seek_Next.t std a0 s
def seek_Seek_Next.w : List Value → St → Option Value
  | [a0], s => seek_Seek_Next.r a0 s
  | _, _ => none
def seek_Seek_Next.an : An := ⟨36, true, [2, 3], [], [(8, ⟨[], [(.normal, [.v 0, .p 2 2 0, .p 3 3 0, .l 2, .l 3])]⟩)], [(8, [(0, 25, [], []), (1, 0, [], []), (2, 0, [], []), (3, 0, [], []), (4, 2, [], []), (5, 0, [], []), (6, 0, [], []), (7, 21, [], [])])]⟩
theorem seek_Seek_Next.ok (S : Sig) (a0 : Value) (s : St) : evG S Tryz.prog seek_Seek_Next.ctx seek_Seek_Next.an Tryz.f25 [a0] s = seek_Seek_Next.t S a0 s := by kernel_rfl
theorem seek_Seek_Next.cok : CtxOk Tryz.prog seek_Seek_Next.ctx := .cons seek_Seek_is.sound seek_Seek_is.can <| .nil
theorem seek_Seek_Next.draws : fnDraws seek_Seek_Next.an Tryz.f25 = true := by kernel_rfl
theorem seek_Seek_Next.can : callOk Tryz.prog 25 = true := by kernel_rfl
theorem seek_Seek_Next.sound : FnOk Tryz.prog 25 (.rd seek_Seek_Next.w) := FnOk.rd_of (evG_ok seek_Seek_Next.cok mixed (f := 25) (fn := Tryz.f25) (by kernel_rfl) seek_Seek_Next.draws) fun args s r h => by
  unfold seek_Seek_Next.w at h; split at h
  · rw [seek_Seek_Next.ok std]; exact h
  · simp at h

/-! ### (*leapfrog/read.Read).end: function 48 -/
def read_Read_end.ctx : Ctx := []
def read_Read_end.t (S : Sig) (a0 a1 : Value) (s : St) : Option (Value × St) :=
  S.bd (bx a1) fun c1 => S.bd (lal c1 0 15) fun x2 => S.bd (nck a0) fun x3 => S.bd (fld 8 x3) fun x4 => S.bd (stv s 1 x4 (Go.Value.int Go.IntKind.i64 4)) fun s5 => S.bd (nck a0) fun x6 => S.bd (fld 17 x6) fun x7 => S.bd (stv s5 15 x7 x2) fun s8 => some ((Value.tuple ⟨[]⟩), s8)
def read_Read_end.v (a0 a1 : Value) (s : St) : Option (Value × St) := read_Read_end.t std a0 a1 s
def read_Read_end.w : List Value → St → Option (Value × St)
  | [a0, a1], s => read_Read_end.v a0 a1 s
  | _, _ => none
def read_Read_end.an : An := ⟨11, false, [3], [], [], [(1, [(0, 0, [], []), (1, 0, [], []), (2, 25, [], []), (3, 0, [], []), (4, 0, [], []), (5, 4, [], []), (6, 0, [], []), (7, 0, [], []), (8, 4, [], [])])]⟩
theorem read_Read_end.ok (S : Sig) (a0 a1 : Value) (s : St) : evF S Tryz.prog read_Read_end.ctx read_Read_end.an Tryz.f48 [a0, a1] s = read_Read_end.t S a0 a1 s := by kernel_rfl
theorem read_Read_end.cok : CtxOk Tryz.prog read_Read_end.ctx := .nil
theorem read_Read_end.draws : fnDraws read_Read_end.an Tryz.f48 = true := by kernel_rfl
theorem read_Read_end.can : callOk Tryz.prog 48 = true := by kernel_rfl
theorem read_Read_end.sound : FnOk Tryz.prog 48 (.st read_Read_end.w) := FnOk.st_of (evF_ok read_Read_end.cok mixed (f := 48) (fn := Tryz.f48) (by kernel_rfl) read_Read_end.draws) fun args s r h => by
  unfold read_Read_end.w at h; split at h
  · rw [read_Read_end.ok std]; exact h
  · simp at h

/-! ### (*leapfrog/read.Read).fail: function 44 -/
def read_Read_fail.ctx : Ctx := [(48, .st read_Read_end.w)]
def read_Read_fail.t (S : Sig) (a0 a1 : Value) (s : St) : Option (Value × St) :=
  S.bd (bld [(Go.Value.int Go.IntKind.i64 0), (Go.Value.int Go.IntKind.u64 0), (Go.Value.slice Option.none 0 0), (Go.Value.slice Option.none 0 0), (Go.Value.int Go.IntKind.i64 0), (Go.Value.int Go.IntKind.i64 0), (Go.Value.int Go.IntKind.u64 0), (Go.Value.int Go.IntKind.i64 0), (Go.Value.int Go.IntKind.u64 0), (Go.Value.int Go.IntKind.i64 0), (Go.Value.int Go.IntKind.i64 0), (Go.Value.int Go.IntKind.u64 0), (Go.Value.int Go.IntKind.i64 0), (Go.Value.int Go.IntKind.u64 0), (Go.Value.bool Bool.false)] [(0, 1, a1)]) fun x1 => S.bd (read_Read_end.v a0 x1 s) fun r2 => some ((Value.tuple ⟨[]⟩), r2.2)
def read_Read_fail.v (a0 a1 : Value) (s : St) : Option (Value × St) := read_Read_fail.t std a0 a1 s
def read_Read_fail.w : List Value → St → Option (Value × St)
  | [a0, a1], s => read_Read_fail.v a0 a1 s
  | _, _ => none
def read_Read_fail.an : An := ⟨8, false, [], [], [], []⟩
theorem read_Read_fail.ok (S : Sig) (a0 a1 : Value) (s : St) : evF S Tryz.prog read_Read_fail.ctx read_Read_fail.an Tryz.f44 [a0, a1] s = read_Read_fail.t S a0 a1 s := by kernel_rfl
theorem read_Read_fail.cok : CtxOk Tryz.prog read_Read_fail.ctx := .cons read_Read_end.sound read_Read_end.can <| .nil
theorem read_Read_fail.draws : fnDraws read_Read_fail.an Tryz.f44 = true := by kernel_rfl
theorem read_Read_fail.can : callOk Tryz.prog 44 = true := by kernel_rfl
theorem read_Read_fail.sound : FnOk Tryz.prog 44 (.st read_Read_fail.w) := FnOk.st_of (evF_ok read_Read_fail.cok mixed (f := 44) (fn := Tryz.f44) (by kernel_rfl) read_Read_fail.draws) fun args s r h => by
  unfold read_Read_fail.w at h; split at h
  · rw [read_Read_fail.ok std]; exact h
  · simp at h

/-! ### (*leapfrog/read.Read).sought: function 30 -/
def read_Read_sought.ctx : Ctx := [(25, .rd seek_Seek_Next.w), (44, .st read_Read_fail.w)]
def read_Read_sought.t (S : Sig) (a0 : Value) (s : St) : Option (Value × St) :=
  S.bd (nck a0) fun x1 => S.bd (fld 9 x1) fun x2 => S.bd (ldc s x2) fun x3 => S.bd (seek_Seek_Next.r x3 s) fun x4 => S.bd (bx (Go.Value.agg #[(Go.Value.int Go.IntKind.i64 0), (Go.Value.int Go.IntKind.i64 0), (Go.Value.int Go.IntKind.i64 0), (Go.Value.int Go.IntKind.u64 0), (Go.Value.int Go.IntKind.i64 0), (Go.Value.int Go.IntKind.u64 0), (Go.Value.int Go.IntKind.i64 0), (Go.Value.int Go.IntKind.i64 0), (Go.Value.int Go.IntKind.u64 0), (Go.Value.int Go.IntKind.i64 0), (Go.Value.int Go.IntKind.i64 0), (Go.Value.int Go.IntKind.u64 0), (Go.Value.int Go.IntKind.i64 0), (Go.Value.int Go.IntKind.u64 0), (Go.Value.int Go.IntKind.i64 0), (Go.Value.int Go.IntKind.i64 0), (Go.Value.int Go.IntKind.u64 0), (Go.Value.int Go.IntKind.i64 0), (Go.Value.int Go.IntKind.u64 0), (Go.Value.int Go.IntKind.i64 0), (Go.Value.int Go.IntKind.i64 0), (Go.Value.int Go.IntKind.i64 0), (Go.Value.int Go.IntKind.u64 0), (Go.Value.slice Option.none 0 0), (Go.Value.slice Option.none 0 0), (Go.Value.int Go.IntKind.i64 0), (Go.Value.int Go.IntKind.i64 0), (Go.Value.int Go.IntKind.u64 0), (Go.Value.int Go.IntKind.i64 0), (Go.Value.int Go.IntKind.u64 0), (Go.Value.int Go.IntKind.i64 0), (Go.Value.int Go.IntKind.i64 0), (Go.Value.int Go.IntKind.u64 0), (Go.Value.int Go.IntKind.i64 0), (Go.Value.int Go.IntKind.u64 0), (Go.Value.bool Bool.false)])) fun c5 => S.bd (stl c5 0 36 x4) fun c6 => S.bd (lcl c6 0) fun x7 => S.bd (eqb [1] false true x7 (Go.Value.int Go.IntKind.i64 3)) fun x8 => S.cnd x8 (some ((Value.tuple ⟨[]⟩), s)) (S.bd (lal c6 21 15) fun x9 => S.bd (bx (Go.Value.agg #[(Go.Value.int Go.IntKind.i64 0), (Go.Value.int Go.IntKind.u64 0), (Go.Value.slice Option.none 0 0), (Go.Value.slice Option.none 0 0), (Go.Value.int Go.IntKind.i64 0), (Go.Value.int Go.IntKind.i64 0), (Go.Value.int Go.IntKind.u64 0), (Go.Value.int Go.IntKind.i64 0), (Go.Value.int Go.IntKind.u64 0), (Go.Value.int Go.IntKind.i64 0), (Go.Value.int Go.IntKind.i64 0), (Go.Value.int Go.IntKind.u64 0), (Go.Value.int Go.IntKind.i64 0), (Go.Value.int Go.IntKind.u64 0), (Go.Value.bool Bool.false)])) fun c10 => S.bd (stl c10 0 15 x9) fun c11 => S.bd (lal c11 9 5) fun x12 => S.bd (nck a0) fun x13 => S.bd (fld 10 x13) fun x14 => S.bd (stv s 5 x14 x12) fun s15 => S.bd (lcl c11 14) fun x16 => S.bd (S.gd x16 false (some a0)) fun x17 => S.bd (S.gd x16 false (nck x17)) fun x18 => S.bd (S.gd x16 false (fld 0 x18)) fun x19 => S.bd (S.gd x16 false (fld 7 x19)) fun x20 => S.bd (S.gd x16 false (ldc s15 x20)) fun x21 => S.bd (S.gd x16 false (some x21)) fun x22 => S.bd (S.gd x22 true (lcl c11 10)) fun x23 => S.bd (S.gd x22 true (eqb [1] false true x23 (Go.Value.int Go.IntKind.i64 3))) fun x24 => S.bd (S.gd x16 false (pik x22 x24 (Go.Value.bool Bool.false))) fun x25 => S.bd (pik x16 (Go.Value.bool Bool.true) x25) fun x26 => S.bd (lcl c11 0) fun x27 => S.bd (eqb [1] false true x27 (Go.Value.int Go.IntKind.i64 0)) fun x28 => S.cnd x28 (S.bd (lcl c11 0) fun x29 => S.bd (read_Read_fail.v a0 x29 s15) fun r30 => some ((Value.tuple ⟨[]⟩), r30.2)) (S.cnd x26 (S.bd (nck a0) fun x31 => S.bd (fld 8 x31) fun x32 => S.bd (stv s15 1 x32 (Go.Value.int Go.IntKind.i64 2)) fun s33 => some ((Value.tuple ⟨[]⟩), s33)) (S.bd (read_Read_fail.v a0 (Go.Value.int Go.IntKind.i64 101) s15) fun r34 => some ((Value.tuple ⟨[]⟩), r34.2))))
def read_Read_sought.v (a0 : Value) (s : St) : Option (Value × St) := read_Read_sought.t std a0 s
def read_Read_sought.w : List Value → St → Option (Value × St)
  | [a0], s => read_Read_sought.v a0 s
  | _, _ => none
def read_Read_sought.an : An := ⟨51, false, [2, 3], [], [], []⟩
theorem read_Read_sought.ok (S : Sig) (a0 : Value) (s : St) : evF S Tryz.prog read_Read_sought.ctx read_Read_sought.an Tryz.f30 [a0] s = read_Read_sought.t S a0 s := by kernel_rfl
theorem read_Read_sought.cok : CtxOk Tryz.prog read_Read_sought.ctx := .cons seek_Seek_Next.sound seek_Seek_Next.can <| .cons read_Read_fail.sound read_Read_fail.can <| .nil
theorem read_Read_sought.draws : fnDraws read_Read_sought.an Tryz.f30 = true := by kernel_rfl
theorem read_Read_sought.can : callOk Tryz.prog 30 = true := by kernel_rfl
theorem read_Read_sought.sound : FnOk Tryz.prog 30 (.st read_Read_sought.w) := FnOk.st_of (evF_ok read_Read_sought.cok mixed (f := 30) (fn := Tryz.f30) (by kernel_rfl) read_Read_sought.draws) fun args s r h => by
  unfold read_Read_sought.w at h; split at h
  · rw [read_Read_sought.ok std]; exact h
  · simp at h

/-! ### (*leapfrog/read.Read).got$1: function 49 -/
def read_Read_got_fn1.ctx : Ctx := [(50, .st seek_Seek_Dead.w), (30, .st read_Read_sought.w)]
def read_Read_got_fn1.t (S : Sig) (a0 a1 : Value) (s : St) : Option (Value × St) :=
  S.bd (ldc s a0) fun x1 => S.bd (nck x1) fun x2 => S.bd (fld 8 x2) fun x3 => S.bd (stv s 1 x3 (Go.Value.int Go.IntKind.i64 3)) fun s4 => S.bd (fld 0 a1) fun x5 => S.bd (ldc s4 x5) fun x6 => S.bd (eqb [1] false false x6 (Go.Value.int Go.IntKind.i64 3)) fun x7 => S.cnd x7 (S.bd (ldc s4 a0) fun x8 => S.bd (nck x8) fun x9 => S.bd (fld 9 x9) fun x10 => S.bd (ldc s4 x10) fun x11 => S.bd (lda s4 13 a1) fun x12 => S.bd (seek_Seek_Dead.v x11 x12 s4) fun r13 => S.bd (ldc r13.2 a0) fun x14 => S.cnd (Value.bool (sameV x14 x8)) (S.bd (ldc r13.2 a0) fun x15 => S.bd (nck x15) fun x16 => S.bd (fld 8 x16) fun x17 => S.bd (stv r13.2 1 x17 (Go.Value.int Go.IntKind.i64 1)) fun s18 => S.bd (ldc s18 a0) fun x19 => S.bd (read_Read_sought.v x19 s18) fun r20 => some ((Value.tuple ⟨[]⟩), r20.2)) (none)) (some ((Value.tuple ⟨[]⟩), s4))
def read_Read_got_fn1.v (a0 a1 : Value) (s : St) : Option (Value × St) := read_Read_got_fn1.t std a0 a1 s
def read_Read_got_fn1.w : List Value → St → Option (Value × St)
  | [a0, a1], s => read_Read_got_fn1.v a0 a1 s
  | _, _ => none
def read_Read_got_fn1.an : An := ⟨19, false, [], [], [], [(2, [(0, 2, [], []), (1, 0, [], []), (2, 0, [], []), (3, 2, [], []), (4, 2, [], []), (5, 4, [0], [])])]⟩
theorem read_Read_got_fn1.ok (S : Sig) (a0 a1 : Value) (s : St) : evF S Tryz.prog read_Read_got_fn1.ctx read_Read_got_fn1.an Tryz.f49 [a0, a1] s = read_Read_got_fn1.t S a0 a1 s := by kernel_rfl
theorem read_Read_got_fn1.cok : CtxOk Tryz.prog read_Read_got_fn1.ctx := .cons seek_Seek_Dead.sound seek_Seek_Dead.can <| .cons read_Read_sought.sound read_Read_sought.can <| .nil
theorem read_Read_got_fn1.draws : fnDraws read_Read_got_fn1.an Tryz.f49 = true := by kernel_rfl
theorem read_Read_got_fn1.can : callOk Tryz.prog 49 = true := by kernel_rfl
theorem read_Read_got_fn1.sound : FnOk Tryz.prog 49 (.st read_Read_got_fn1.w) := FnOk.st_of (evF_ok read_Read_got_fn1.cok mixed (f := 49) (fn := Tryz.f49) (by kernel_rfl) read_Read_got_fn1.draws) fun args s r h => by
  unfold read_Read_got_fn1.w at h; split at h
  · rw [read_Read_got_fn1.ok std]; exact h
  · simp at h

/-! ### leapfrog/read.New$1: function 18 -/
def read_New_fn1.ctx : Ctx := [(49, .st read_Read_got_fn1.w)]
def read_New_fn1.t (S : Sig) (a0 a1 : Value) (s : St) : Option (Value × St) :=
  S.bd (fld 7 a1) fun x1 => S.bd (ldc s x1) fun x2 => S.cnd x2 (S.bd (callV (read_New_fn1.ctx) a0 [] s) fun r3 => S.bd (fld 7 a1) fun x4 => S.bd (ldc r3.2 x4) fun x5 => some (x5, r3.2)) (S.bd (fld 7 a1) fun x6 => S.bd (ldc s x6) fun x7 => some (x7, s))
def read_New_fn1.v (a0 a1 : Value) (s : St) : Option (Value × St) := read_New_fn1.t std a0 a1 s
def read_New_fn1.w : List Value → St → Option (Value × St)
  | [a0, a1], s => read_New_fn1.v a0 a1 s
  | _, _ => none
def read_New_fn1.an : An := ⟨10, false, [], [], [], []⟩
theorem read_New_fn1.ok (S : Sig) (a0 a1 : Value) (s : St) : evF S Tryz.prog read_New_fn1.ctx read_New_fn1.an Tryz.f18 [a0, a1] s = read_New_fn1.t S a0 a1 s := by kernel_rfl
theorem read_New_fn1.cok : CtxOk Tryz.prog read_New_fn1.ctx := .cons read_Read_got_fn1.sound read_Read_got_fn1.can <| .nil
theorem read_New_fn1.draws : fnDraws read_New_fn1.an Tryz.f18 = true := by kernel_rfl
theorem read_New_fn1.can : callOk Tryz.prog 18 = true := by kernel_rfl
theorem read_New_fn1.sound : FnOk Tryz.prog 18 (.st read_New_fn1.w) := FnOk.st_of (evF_ok read_New_fn1.cok mixed (f := 18) (fn := Tryz.f18) (by kernel_rfl) read_New_fn1.draws) fun args s r h => by
  unfold read_New_fn1.w at h; split at h
  · rw [read_New_fn1.ok std]; exact h
  · simp at h

/-! ### leapfrog/read.target: function 17 -/
def read_target.ctx : Ctx := []
def read_target.t (S : Sig) (a0 : Value) (s : St) : Option Value :=
  S.bd (bx a0) fun c1 => S.bd (bx (Go.Value.agg #[(Go.Value.int Go.IntKind.i64 0), (Go.Value.int Go.IntKind.u64 0)])) fun c2 => S.bd (lcl c1 6) fun x3 => S.bd (bld [(Go.Value.int Go.IntKind.i64 0), (Go.Value.int Go.IntKind.u64 0)] [(0, 1, (Go.Value.int Go.IntKind.i64 2)), (1, 1, x3)]) fun x4 => S.bd (stl c2 0 2 x4) fun c5 => S.bd (lal c5 0 2) fun x6 => some (x6)
def read_target.r (a0 : Value) (s : St) : Option Value := read_target.t std a0 s
def read_target.w : List Value → St → Option Value
  | [a0], s => read_target.r a0 s
  | _, _ => none
def read_target.an : An := ⟨6, true, [1, 2], [], [], []⟩
theorem read_target.ok (S : Sig) (a0 : Value) (s : St) : evG S Tryz.prog read_target.ctx read_target.an Tryz.f17 [a0] s = read_target.t S a0 s := by kernel_rfl
theorem read_target.cok : CtxOk Tryz.prog read_target.ctx := .nil
theorem read_target.draws : fnDraws read_target.an Tryz.f17 = true := by kernel_rfl
theorem read_target.can : callOk Tryz.prog 17 = true := by kernel_rfl
theorem read_target.sound : FnOk Tryz.prog 17 (.rd read_target.w) := FnOk.rd_of (evG_ok read_target.cok mixed (f := 17) (fn := Tryz.f17) (by kernel_rfl) read_target.draws) fun args s r h => by
  unfold read_target.w at h; split at h
  · rw [read_target.ok std]; exact h
  · simp at h

/-! ### leapfrog/key.Check: function 36 -/
def key_Check.ctx : Ctx := []
def key_Check.t (S : Sig) (a0 : Value) (s : St) : Option Value :=
  S.bd (bx a0) fun c1 => S.bd (lcl c1 0) fun x2 => S.bd (eqb [1] false false x2 (Go.Value.int Go.IntKind.i64 2)) fun x3 => S.bd (S.gd x3 false (lcl c1 0)) fun x4 => S.bd (S.gd x3 false (eqb [1] false false x4 (Go.Value.int Go.IntKind.i64 1))) fun x5 => S.bd (S.gd x3 false (some x5)) fun x6 => S.bd (S.gd x6 false (lcl c1 0)) fun x7 => S.bd (S.gd x6 false (eqb [1] false false x7 (Go.Value.int Go.IntKind.i64 3))) fun x8 => S.bd (S.gd x3 false (pik x6 (Go.Value.bool Bool.true) x8)) fun x9 => S.bd (S.gd x3 false (some x9)) fun x10 => S.bd (S.gd x10 true (lcl c1 1)) fun x11 => S.bd (S.gd x10 true (eqb [1] false false x11 (Go.Value.int Go.IntKind.u64 0))) fun x12 => S.bd (S.gd x3 false (pik x10 x12 (Go.Value.bool Bool.false))) fun x13 => S.bd (pik x3 (Go.Value.bool Bool.true) x13) fun x14 => S.cnd x14 (some ((Go.Value.int Go.IntKind.i64 0))) (some ((Go.Value.int Go.IntKind.i64 20)))
def key_Check.r (a0 : Value) (s : St) : Option Value := key_Check.t std a0 s
def key_Check.w : List Value → St → Option Value
  | [a0], s => key_Check.r a0 s
  | _, _ => none
def key_Check.an : An := ⟨21, true, [1], [], [], []⟩
theorem key_Check.ok (S : Sig) (a0 : Value) (s : St) : evG S Tryz.prog key_Check.ctx key_Check.an Tryz.f36 [a0] s = key_Check.t S a0 s := by kernel_rfl
theorem key_Check.cok : CtxOk Tryz.prog key_Check.ctx := .nil
theorem key_Check.draws : fnDraws key_Check.an Tryz.f36 = true := by kernel_rfl
theorem key_Check.can : callOk Tryz.prog 36 = true := by kernel_rfl
theorem key_Check.sound : FnOk Tryz.prog 36 (.rd key_Check.w) := FnOk.rd_of (evG_ok key_Check.cok mixed (f := 36) (fn := Tryz.f36) (by kernel_rfl) key_Check.draws) fun args s r h => by
  unfold key_Check.w at h; split at h
  · rw [key_Check.ok std]; exact h
  · simp at h

/-! ### leapfrog/vec.low: function 73 -/
def vec_low.ctx : Ctx := []
def vec_low.t (S : Sig) (a0 : Value) (s : St) : Option Value :=
  S.bd (cvi .u64 a0) fun x1 => S.bd (bin .shl (Go.Value.int Go.IntKind.u64 1) x1) fun x2 => S.bd (bin .sub x2 (Go.Value.int Go.IntKind.u64 1)) fun x3 => some (x3)
def vec_low.r (a0 : Value) (s : St) : Option Value := vec_low.t std a0 s
def vec_low.w : List Value → St → Option Value
  | [a0], s => vec_low.r a0 s
  | _, _ => none
def vec_low.an : An := ⟨7, true, [], [], [], []⟩
theorem vec_low.ok (S : Sig) (a0 : Value) (s : St) : evG S Tryz.prog vec_low.ctx vec_low.an Tryz.f73 [a0] s = vec_low.t S a0 s := by kernel_rfl
theorem vec_low.cok : CtxOk Tryz.prog vec_low.ctx := .nil
theorem vec_low.draws : fnDraws vec_low.an Tryz.f73 = true := by kernel_rfl
theorem vec_low.can : callOk Tryz.prog 73 = true := by kernel_rfl
theorem vec_low.sound : FnOk Tryz.prog 73 (.rd vec_low.w) := FnOk.rd_of (evG_ok vec_low.cok mixed (f := 73) (fn := Tryz.f73) (by kernel_rfl) vec_low.draws) fun args s r h => by
  unfold vec_low.w at h; split at h
  · rw [vec_low.ok std]; exact h
  · simp at h

/-! ### leapfrog/vec.Right: function 58 -/
def vec_Right.ctx : Ctx := [(73, .rd vec_low.w)]
def vec_Right.t (S : Sig) (a0 : Value) (s : St) : Option Value :=
  S.bd (bx a0) fun c1 => S.bd (lcl c1 0) fun x2 => S.bd (bin .lss x2 (Go.Value.int Go.IntKind.i64 0)) fun x3 => S.bd (S.gd x3 false (lcl c1 0)) fun x4 => S.bd (S.gd x3 false (bin .gtr x4 (Go.Value.int Go.IntKind.i64 32))) fun x5 => S.bd (pik x3 (Go.Value.bool Bool.true) x5) fun x6 => S.bd (S.gd x6 false (lcl c1 1)) fun x7 => S.bd (S.gd x6 false (lcl c1 0)) fun x8 => S.bd (S.gd x6 false (vec_low.r x8 s)) fun x9 => S.bd (S.gd x6 false (bin .gtr x7 x9)) fun x10 => S.bd (pik x6 (Go.Value.bool Bool.true) x10) fun x11 => S.cnd x11 (some ((Go.Value.int Go.IntKind.i64 10))) (some ((Go.Value.int Go.IntKind.i64 0)))
def vec_Right.r (a0 : Value) (s : St) : Option Value := vec_Right.t std a0 s
def vec_Right.w : List Value → St → Option Value
  | [a0], s => vec_Right.r a0 s
  | _, _ => none
def vec_Right.an : An := ⟨19, true, [1], [], [], [(1, [(0, 0, [], []), (1, 9, [], []), (2, 0, [], []), (3, 0, [], []), (4, 0, [], []), (5, 9, [], []), (6, 0, [], []), (7, 0, [], []), (8, 0, [], []), (9, 0, [], []), (10, 9, [], []), (11, 0, [], []), (12, 9, [], []), (13, 3, [], []), (14, 0, [], []), (15, 0, [], [])])]⟩
theorem vec_Right.ok (S : Sig) (a0 : Value) (s : St) : evG S Tryz.prog vec_Right.ctx vec_Right.an Tryz.f58 [a0] s = vec_Right.t S a0 s := by kernel_rfl
theorem vec_Right.cok : CtxOk Tryz.prog vec_Right.ctx := .cons vec_low.sound vec_low.can <| .nil
theorem vec_Right.draws : fnDraws vec_Right.an Tryz.f58 = true := by kernel_rfl
theorem vec_Right.can : callOk Tryz.prog 58 = true := by kernel_rfl
theorem vec_Right.sound : FnOk Tryz.prog 58 (.rd vec_Right.w) := FnOk.rd_of (evG_ok vec_Right.cok mixed (f := 58) (fn := Tryz.f58) (by kernel_rfl) vec_Right.draws) fun args s r h => by
  unfold vec_Right.w at h; split at h
  · rw [vec_Right.ok std]; exact h
  · simp at h

/-! ### leapfrog/seek.right: function 35 -/
def seek_right.ctx : Ctx := [(36, .rd key_Check.w), (58, .rd vec_Right.w)]
def seek_right.t (S : Sig) (a0 a1 : Value) (s : St) : Option Value :=
  S.bd (bx a0) fun c1 => S.bd (lal c1 1 2) fun x2 => S.bd (key_Check.r x2 s) fun x3 => S.bd (eqb [1] false false x3 (Go.Value.int Go.IntKind.i64 0)) fun x4 => S.bd (S.gd x4 true (lal c1 3 2)) fun x5 => S.bd (S.gd x4 true (vec_Right.r x5 s)) fun x6 => S.bd (S.gd x4 true (eqb [1] false false x6 (Go.Value.int Go.IntKind.i64 0))) fun x7 => S.bd (pik x4 x7 (Go.Value.bool Bool.false)) fun x8 => S.bd (S.gd x8 true (lcl c1 3)) fun x9 => S.bd (S.gd x8 true (some a1)) fun x10 => S.bd (S.gd x8 true (eqb [1] false false x9 x10)) fun x11 => S.bd (pik x8 x11 (Go.Value.bool Bool.false)) fun x12 => some (x12)
def seek_right.r (a0 a1 : Value) (s : St) : Option Value := seek_right.t std a0 a1 s
def seek_right.w : List Value → St → Option Value
  | [a0, a1], s => seek_right.r a0 a1 s
  | _, _ => none
def seek_right.an : An := ⟨22, true, [2], [], [], []⟩
theorem seek_right.ok (S : Sig) (a0 a1 : Value) (s : St) : evG S Tryz.prog seek_right.ctx seek_right.an Tryz.f35 [a0, a1] s = seek_right.t S a0 a1 s := by kernel_rfl
theorem seek_right.cok : CtxOk Tryz.prog seek_right.ctx := .cons key_Check.sound key_Check.can <| .cons vec_Right.sound vec_Right.can <| .nil
theorem seek_right.draws : fnDraws seek_right.an Tryz.f35 = true := by kernel_rfl
theorem seek_right.can : callOk Tryz.prog 35 = true := by kernel_rfl
theorem seek_right.sound : FnOk Tryz.prog 35 (.rd seek_right.w) := FnOk.rd_of (evG_ok seek_right.cok mixed (f := 35) (fn := Tryz.f35) (by kernel_rfl) seek_right.draws) fun args s r h => by
  unfold seek_right.w at h; split at h
  · rw [seek_right.ok std]; exact h
  · simp at h

/-! ### leapfrog/seek.New: function 16 -/
def seek_New.ctx : Ctx := [(35, .rd seek_right.w), (36, .rd key_Check.w)]
def seek_New.t.p1 (S : Sig) (x6 : Value) (x9 : Value) (c1 : List Value) (s : St) : Option (Value × St) :=
  S.bd (S.gd x6 false (un .not x9)) fun x10 => S.bd (pik x6 (Go.Value.bool Bool.true) x10) fun x11 => S.bd (S.gd x11 false (lal c1 6 2)) fun x12 => S.bd (S.gd x11 false (key_Check.r x12 s)) fun x13 => S.bd (S.gd x11 false (eqb [1] false true x13 (Go.Value.int Go.IntKind.i64 0))) fun x14 => S.bd (pik x11 (Go.Value.bool Bool.true) x14) fun x15 => S.bd (S.gd x15 false (lcl c1 6)) fun x16 => S.bd (S.gd x15 false (eqb [1] false false x16 (Go.Value.int Go.IntKind.i64 1))) fun x17 => S.bd (pik x15 (Go.Value.bool Bool.true) x17) fun x18 => S.cnd x18 (some ((Value.tuple ⟨[(Go.Value.pointer Option.none), (Go.Value.int Go.IntKind.i64 120)]⟩), s)) (S.bd (lal c1 0 8) fun x19 => S.bd (lal c1 1 5) fun x20 => S.bd (lal c1 4 2) fun x21 => S.bd (mkm s) fun r22 => S.bd (bld [(Go.Value.int Go.IntKind.i64 0), (Go.Value.int Go.IntKind.i64 0), (Go.Value.int Go.IntKind.i64 0), (Go.Value.int Go.IntKind.u64 0), (Go.Value.int Go.IntKind.i64 0), (Go.Value.int Go.IntKind.u64 0), (Go.Value.int Go.IntKind.i64 0), (Go.Value.int Go.IntKind.u64 0), (Go.Value.bool Bool.false), (Go.Value.int Go.IntKind.i64 0), (Go.Value.int Go.IntKind.i64 0), (Go.Value.int Go.IntKind.u64 0), (Go.Value.int Go.IntKind.i64 0), (Go.Value.int Go.IntKind.u64 0), (Go.Value.int Go.IntKind.i64 0), (Go.Value.int Go.IntKind.u64 0), (Go.Value.bool Bool.false), (Go.Value.int Go.IntKind.i64 0), (Go.Value.int Go.IntKind.i64 0), (Go.Value.int Go.IntKind.u64 0), (Go.Value.int Go.IntKind.i64 0), (Go.Value.int Go.IntKind.u64 0), (Go.Value.map Option.none), (Go.Value.int Go.IntKind.i64 0), (Go.Value.bool Bool.false), (Go.Value.int Go.IntKind.i64 0), (Go.Value.int Go.IntKind.u64 0), (Go.Value.slice Option.none 0 0), (Go.Value.slice Option.none 0 0), (Go.Value.int Go.IntKind.i64 0), (Go.Value.int Go.IntKind.i64 0), (Go.Value.int Go.IntKind.u64 0), (Go.Value.int Go.IntKind.i64 0), (Go.Value.int Go.IntKind.u64 0), (Go.Value.int Go.IntKind.i64 0), (Go.Value.int Go.IntKind.i64 0), (Go.Value.int Go.IntKind.u64 0), (Go.Value.int Go.IntKind.i64 0), (Go.Value.int Go.IntKind.u64 0), (Go.Value.bool Bool.false)] [(0, 8, x19), (8, 1, (Go.Value.bool Bool.true)), (9, 5, x20), (14, 2, x21), (22, 1, r22.1)]) fun x23 => S.bd (alv r22.2 x23) fun r24 => some ((Value.tuple ⟨[r24.1, (Go.Value.int Go.IntKind.i64 0)]⟩), r24.2))

def seek_New.t (S : Sig) (a0 : Value) (s : St) : Option (Value × St) :=
  S.bd (bx a0) fun c1 => S.bd (lcl c1 0) fun x2 => S.bd (bin .lss x2 (Go.Value.int Go.IntKind.i64 0)) fun x3 => S.bd (S.gd x3 false (lcl c1 0)) fun x4 => S.bd (S.gd x3 false (bin .gtr x4 (Go.Value.int Go.IntKind.i64 32))) fun x5 => S.bd (pik x3 (Go.Value.bool Bool.true) x5) fun x6 => S.bd (S.gd x6 false (lal c1 1 5)) fun x7 => S.bd (S.gd x6 false (lcl c1 0)) fun x8 => S.bd (S.gd x6 false (seek_right.r x7 x8 s)) fun x9 => seek_New.t.p1 S x6 x9 c1 s
def seek_New.v (a0 : Value) (s : St) : Option (Value × St) := seek_New.t std a0 s
def seek_New.w : List Value → St → Option (Value × St)
  | [a0], s => seek_New.v a0 s
  | _, _ => none
def seek_New.an : An := ⟨41, false, [1], [], [], []⟩
theorem seek_New.ok (S : Sig) (a0 : Value) (s : St) : evF S Tryz.prog seek_New.ctx seek_New.an Tryz.f16 [a0] s = seek_New.t S a0 s := by kernel_rfl
theorem seek_New.cok : CtxOk Tryz.prog seek_New.ctx := .cons seek_right.sound seek_right.can <| .cons key_Check.sound key_Check.can <| .nil
theorem seek_New.draws : fnDraws seek_New.an Tryz.f16 = true := by kernel_rfl
theorem seek_New.can : callOk Tryz.prog 16 = true := by kernel_rfl
theorem seek_New.sound : FnOk Tryz.prog 16 (.st seek_New.w) := FnOk.st_of (evF_ok seek_New.cok mixed (f := 16) (fn := Tryz.f16) (by kernel_rfl) seek_New.draws) fun args s r h => by
  unfold seek_New.w at h; split at h
  · rw [seek_New.ok std]; exact h
  · simp at h

/-! ### leapfrog/read.New: function 6 -/
def read_New.ctx : Ctx := [(17, .rd read_target.w), (16, .st seek_New.w)]
def read_New.t (S : Sig) (a0 : Value) (s : St) : Option (Value × St) :=
  S.bd (alv s a0) fun r1 => S.bd (fld 0 r1.1) fun x2 => S.bd (ldc r1.2 x2) fun x3 => S.bd (fld 1 r1.1) fun x4 => S.bd (lda r1.2 5 x4) fun x5 => S.bd (lda r1.2 8 r1.1) fun x6 => S.bd (read_target.r x6 r1.2) fun x7 => S.bd (bld [(Go.Value.int Go.IntKind.i64 0), (Go.Value.int Go.IntKind.i64 0), (Go.Value.int Go.IntKind.i64 0), (Go.Value.int Go.IntKind.u64 0), (Go.Value.int Go.IntKind.i64 0), (Go.Value.int Go.IntKind.u64 0), (Go.Value.int Go.IntKind.i64 0), (Go.Value.int Go.IntKind.u64 0)] [(0, 1, x3), (1, 5, x5), (6, 2, x7)]) fun x8 => S.bd (seek_New.v x8 r1.2) fun r9 => S.bd (ldc r9.2 x2) fun x10 => S.cnd (Value.bool (sameV x10 x3)) (S.bd (lda r9.2 5 x4) fun x11 => S.cnd (Value.bool (sameV x11 x5)) (S.bd (xtr 0 r9.1) fun x12 => S.bd (xtr 1 r9.1) fun x13 => S.bd (eqb [1] false true x13 (Go.Value.int Go.IntKind.i64 0)) fun x14 => S.cnd x14 (some ((Value.tuple ⟨[(Go.Value.pointer Option.none), (Go.Value.int Go.IntKind.i64 170)]⟩), r9.2)) (S.bd (lda r9.2 8 r1.1) fun x15 => S.bd (bld [(Go.Value.int Go.IntKind.i64 0), (Go.Value.int Go.IntKind.i64 0), (Go.Value.int Go.IntKind.i64 0), (Go.Value.int Go.IntKind.u64 0), (Go.Value.int Go.IntKind.i64 0), (Go.Value.int Go.IntKind.u64 0), (Go.Value.int Go.IntKind.u64 0), (Go.Value.bool Bool.false), (Go.Value.int Go.IntKind.i64 0), (Go.Value.pointer Option.none), (Go.Value.int Go.IntKind.i64 0), (Go.Value.int Go.IntKind.i64 0), (Go.Value.int Go.IntKind.u64 0), (Go.Value.int Go.IntKind.i64 0), (Go.Value.int Go.IntKind.u64 0), (Go.Value.int Go.IntKind.i64 0), Go.Value.nilFunc, (Go.Value.int Go.IntKind.i64 0), (Go.Value.int Go.IntKind.u64 0), (Go.Value.slice Option.none 0 0), (Go.Value.slice Option.none 0 0), (Go.Value.int Go.IntKind.i64 0), (Go.Value.int Go.IntKind.i64 0), (Go.Value.int Go.IntKind.u64 0), (Go.Value.int Go.IntKind.i64 0), (Go.Value.int Go.IntKind.u64 0), (Go.Value.int Go.IntKind.i64 0), (Go.Value.int Go.IntKind.i64 0), (Go.Value.int Go.IntKind.u64 0), (Go.Value.int Go.IntKind.i64 0), (Go.Value.int Go.IntKind.u64 0), (Go.Value.bool Bool.false)] [(0, 8, x15), (8, 1, (Go.Value.int Go.IntKind.i64 1)), (9, 1, x12)]) fun x16 => S.bd (alv r9.2 x16) fun r17 => S.bd (nck r17.1) fun x18 => S.bd (fld 16 x18) fun x19 => S.bd (stv r17.2 1 x19 (Value.func (.func 18) ⟨[]⟩ ⟨[r1.1]⟩)) fun s20 => some ((Value.tuple ⟨[r17.1, (Go.Value.int Go.IntKind.i64 0)]⟩), s20))) (none)) (none)
def read_New.v (a0 : Value) (s : St) : Option (Value × St) := read_New.t std a0 s
def read_New.w : List Value → St → Option (Value × St)
  | [a0], s => read_New.v a0 s
  | _, _ => none
def read_New.an : An := ⟨29, false, [], [], [], [(1, [(0, 0, [], []), (1, 2, [], []), (2, 0, [], []), (3, 2, [], []), (4, 2, [], []), (5, 3, [], []), (6, 0, [], []), (7, 4, [1, 3], []), (8, 0, [], []), (9, 0, [], []), (10, 0, [], []), (11, 0, [], []), (12, 0, [], [])])]⟩
theorem read_New.ok (S : Sig) (a0 : Value) (s : St) : evF S Tryz.prog read_New.ctx read_New.an Tryz.f6 [a0] s = read_New.t S a0 s := by kernel_rfl
theorem read_New.cok : CtxOk Tryz.prog read_New.ctx := .cons read_target.sound read_target.can <| .cons seek_New.sound seek_New.can <| .nil
theorem read_New.draws : fnDraws read_New.an Tryz.f6 = true := by kernel_rfl
theorem read_New.can : callOk Tryz.prog 6 = true := by kernel_rfl
theorem read_New.sound : FnOk Tryz.prog 6 (.st read_New.w) := FnOk.st_of (evF_ok read_New.cok mixed (f := 6) (fn := Tryz.f6) (by kernel_rfl) read_New.draws) fun args s r h => by
  unfold read_New.w at h; split at h
  · rw [read_New.ok std]; exact h
  · simp at h

/-! ### (*leapfrog/leapfrogref17.Read).key: function 20 -/
def leapfrogref17x_Read_key.ctx : Ctx := []
def leapfrogref17x_Read_key.t (S : Sig) (a0 : Value) (s : St) : Option Value :=
  S.bd (bx (Go.Value.agg #[(Go.Value.int Go.IntKind.i64 0), (Go.Value.int Go.IntKind.u64 0)])) fun c1 => S.bd (nck a0) fun x2 => S.bd (fld 0 x2) fun x3 => S.bd (fld 6 x3) fun x4 => S.bd (ldc s x4) fun x5 => S.bd (bld [(Go.Value.int Go.IntKind.i64 0), (Go.Value.int Go.IntKind.u64 0)] [(0, 1, (Go.Value.int Go.IntKind.i64 2)), (1, 1, x5)]) fun x6 => S.bd (stl c1 0 2 x6) fun c7 => S.bd (lal c7 0 2) fun x8 => some (x8)
def leapfrogref17x_Read_key.r (a0 : Value) (s : St) : Option Value := leapfrogref17x_Read_key.t std a0 s
def leapfrogref17x_Read_key.w : List Value → St → Option Value
  | [a0], s => leapfrogref17x_Read_key.r a0 s
  | _, _ => none
def leapfrogref17x_Read_key.an : An := ⟨9, true, [2], [], [], []⟩
theorem leapfrogref17x_Read_key.ok (S : Sig) (a0 : Value) (s : St) : evG S Tryz.prog leapfrogref17x_Read_key.ctx leapfrogref17x_Read_key.an Tryz.f20 [a0] s = leapfrogref17x_Read_key.t S a0 s := by kernel_rfl
theorem leapfrogref17x_Read_key.cok : CtxOk Tryz.prog leapfrogref17x_Read_key.ctx := .nil
theorem leapfrogref17x_Read_key.draws : fnDraws leapfrogref17x_Read_key.an Tryz.f20 = true := by kernel_rfl
theorem leapfrogref17x_Read_key.can : callOk Tryz.prog 20 = true := by kernel_rfl
theorem leapfrogref17x_Read_key.sound : FnOk Tryz.prog 20 (.rd leapfrogref17x_Read_key.w) := FnOk.rd_of (evG_ok leapfrogref17x_Read_key.cok mixed (f := 20) (fn := Tryz.f20) (by kernel_rfl) leapfrogref17x_Read_key.draws) fun args s r h => by
  unfold leapfrogref17x_Read_key.w at h; split at h
  · rw [leapfrogref17x_Read_key.ok std]; exact h
  · simp at h

/-! ### leapfrog/leapfrogref02.Check: function 38 -/
def leapfrogref02x_Check.ctx : Ctx := []
def leapfrogref02x_Check.t (S : Sig) (a0 : Value) (s : St) : Option Value :=
  S.bd (bx a0) fun c1 => S.bd (lcl c1 0) fun x2 => S.bd (eqb [1] false false x2 (Go.Value.int Go.IntKind.i64 2)) fun x3 => S.bd (S.gd x3 false (lcl c1 0)) fun x4 => S.bd (S.gd x3 false (eqb [1] false false x4 (Go.Value.int Go.IntKind.i64 1))) fun x5 => S.bd (S.gd x3 false (some x5)) fun x6 => S.bd (S.gd x6 false (lcl c1 0)) fun x7 => S.bd (S.gd x6 false (eqb [1] false false x7 (Go.Value.int Go.IntKind.i64 3))) fun x8 => S.bd (S.gd x3 false (pik x6 (Go.Value.bool Bool.true) x8)) fun x9 => S.bd (S.gd x3 false (some x9)) fun x10 => S.bd (S.gd x10 true (lcl c1 1)) fun x11 => S.bd (S.gd x10 true (eqb [1] false false x11 (Go.Value.int Go.IntKind.u64 0))) fun x12 => S.bd (S.gd x3 false (pik x10 x12 (Go.Value.bool Bool.false))) fun x13 => S.bd (pik x3 (Go.Value.bool Bool.true) x13) fun x14 => S.cnd x14 (some ((Go.Value.int Go.IntKind.i64 0))) (some ((Go.Value.int Go.IntKind.i64 20)))
def leapfrogref02x_Check.r (a0 : Value) (s : St) : Option Value := leapfrogref02x_Check.t std a0 s
def leapfrogref02x_Check.w : List Value → St → Option Value
  | [a0], s => leapfrogref02x_Check.r a0 s
  | _, _ => none
def leapfrogref02x_Check.an : An := ⟨21, true, [1], [], [], []⟩
theorem leapfrogref02x_Check.ok (S : Sig) (a0 : Value) (s : St) : evG S Tryz.prog leapfrogref02x_Check.ctx leapfrogref02x_Check.an Tryz.f38 [a0] s = leapfrogref02x_Check.t S a0 s := by kernel_rfl
theorem leapfrogref02x_Check.cok : CtxOk Tryz.prog leapfrogref02x_Check.ctx := .nil
theorem leapfrogref02x_Check.draws : fnDraws leapfrogref02x_Check.an Tryz.f38 = true := by kernel_rfl
theorem leapfrogref02x_Check.can : callOk Tryz.prog 38 = true := by kernel_rfl
theorem leapfrogref02x_Check.sound : FnOk Tryz.prog 38 (.rd leapfrogref02x_Check.w) := FnOk.rd_of (evG_ok leapfrogref02x_Check.cok mixed (f := 38) (fn := Tryz.f38) (by kernel_rfl) leapfrogref02x_Check.draws) fun args s r h => by
  unfold leapfrogref02x_Check.w at h; split at h
  · rw [leapfrogref02x_Check.ok std]; exact h
  · simp at h

/-! ### leapfrog/leapfrogref01.Power: function 74 -/
def leapfrogref01x_Power.ctx : Ctx := []
def leapfrogref01x_Power.l2 (S : Sig) (rec6 : List Value → St → Option Cut) (xs4 : List Value) (s5 : St) : Option Cut :=
  S.bd (bin .gtr (xs4.getD 0 undef) (Go.Value.int Go.IntKind.i64 0)) fun x7 => S.cnd x7 (S.bd (bin .mul (xs4.getD 1 undef) (Go.Value.int Go.IntKind.u64 2)) fun x8 => S.bd (bin .sub (xs4.getD 0 undef) (Go.Value.int Go.IntKind.i64 1)) fun x9 => rec6 [x9, x8] s5) (some (0, [(xs4.getD 1 undef)], s5))

def leapfrogref01x_Power.t (S : Sig) (a0 : Value) (s : St) : Option Value :=
  S.bd (S.it (leapfrogref01x_Power.l2 S) [a0, (Go.Value.int Go.IntKind.u64 1)] s) fun r10 => some ((r10.2.1.getD 0 undef))
def leapfrogref01x_Power.r (a0 : Value) (s : St) : Option Value := leapfrogref01x_Power.t std a0 s
def leapfrogref01x_Power.w : List Value → St → Option Value
  | [a0], s => leapfrogref01x_Power.r a0 s
  | _, _ => none
def leapfrogref01x_Power.an : An := ⟨11, true, [], [(2, ⟨[.v 0, .v 3], [(.exit 0, [.v 3])]⟩)], [], []⟩
theorem leapfrogref01x_Power.ok (S : Sig) (a0 : Value) (s : St) : evG S Tryz.prog leapfrogref01x_Power.ctx leapfrogref01x_Power.an Tryz.f74 [a0] s = leapfrogref01x_Power.t S a0 s := by kernel_rfl
theorem leapfrogref01x_Power.cok : CtxOk Tryz.prog leapfrogref01x_Power.ctx := .nil
theorem leapfrogref01x_Power.draws : fnDraws leapfrogref01x_Power.an Tryz.f74 = true := by kernel_rfl
theorem leapfrogref01x_Power.can : callOk Tryz.prog 74 = true := by kernel_rfl
theorem leapfrogref01x_Power.sound : FnOk Tryz.prog 74 (.rd leapfrogref01x_Power.w) := FnOk.rd_of (evG_ok leapfrogref01x_Power.cok mixed (f := 74) (fn := Tryz.f74) (by kernel_rfl) leapfrogref01x_Power.draws) fun args s r h => by
  unfold leapfrogref01x_Power.w at h; split at h
  · rw [leapfrogref01x_Power.ok std]; exact h
  · simp at h

/-! ### leapfrog/leapfrogref01.Right: function 59 -/
def leapfrogref01x_Right.ctx : Ctx := [(74, .rd leapfrogref01x_Power.w)]
def leapfrogref01x_Right.t (S : Sig) (a0 : Value) (s : St) : Option Value :=
  S.bd (bx a0) fun c1 => S.bd (lcl c1 0) fun x2 => S.bd (bin .geq x2 (Go.Value.int Go.IntKind.i64 0)) fun x3 => S.bd (S.gd x3 true (lcl c1 0)) fun x4 => S.bd (S.gd x3 true (bin .leq x4 (Go.Value.int Go.IntKind.i64 32))) fun x5 => S.bd (pik x3 x5 (Go.Value.bool Bool.false)) fun x6 => S.bd (S.gd x6 true (lcl c1 1)) fun x7 => S.bd (S.gd x6 true (lcl c1 0)) fun x8 => S.bd (S.gd x6 true (leapfrogref01x_Power.r x8 s)) fun x9 => S.bd (S.gd x6 true (bin .lss x7 x9)) fun x10 => S.bd (pik x6 x10 (Go.Value.bool Bool.false)) fun x11 => some (x11)
def leapfrogref01x_Right.r (a0 : Value) (s : St) : Option Value := leapfrogref01x_Right.t std a0 s
def leapfrogref01x_Right.w : List Value → St → Option Value
  | [a0], s => leapfrogref01x_Right.r a0 s
  | _, _ => none
def leapfrogref01x_Right.an : An := ⟨19, true, [1], [], [], [(1, [(0, 0, [], []), (1, 9, [], []), (2, 0, [], []), (3, 0, [], []), (4, 0, [], []), (5, 9, [], []), (6, 0, [], []), (7, 0, [], []), (8, 0, [], []), (9, 0, [], []), (10, 9, [], []), (11, 0, [], []), (12, 9, [], []), (13, 3, [], []), (14, 0, [], []), (15, 0, [], []), (16, 0, [], [])])]⟩
theorem leapfrogref01x_Right.ok (S : Sig) (a0 : Value) (s : St) : evG S Tryz.prog leapfrogref01x_Right.ctx leapfrogref01x_Right.an Tryz.f59 [a0] s = leapfrogref01x_Right.t S a0 s := by kernel_rfl
theorem leapfrogref01x_Right.cok : CtxOk Tryz.prog leapfrogref01x_Right.ctx := .cons leapfrogref01x_Power.sound leapfrogref01x_Power.can <| .nil
theorem leapfrogref01x_Right.draws : fnDraws leapfrogref01x_Right.an Tryz.f59 = true := by kernel_rfl
theorem leapfrogref01x_Right.can : callOk Tryz.prog 59 = true := by kernel_rfl
theorem leapfrogref01x_Right.sound : FnOk Tryz.prog 59 (.rd leapfrogref01x_Right.w) := FnOk.rd_of (evG_ok leapfrogref01x_Right.cok mixed (f := 59) (fn := Tryz.f59) (by kernel_rfl) leapfrogref01x_Right.draws) fun args s r h => by
  unfold leapfrogref01x_Right.w at h; split at h
  · rw [leapfrogref01x_Right.ok std]; exact h
  · simp at h

/-! ### leapfrog/leapfrogref12.Right: function 37 -/
def leapfrogref12x_Right.ctx : Ctx := [(38, .rd leapfrogref02x_Check.w), (59, .rd leapfrogref01x_Right.w)]
def leapfrogref12x_Right.t (S : Sig) (a0 a1 : Value) (s : St) : Option Value :=
  S.bd (bx a0) fun c1 => S.bd (lal c1 1 2) fun x2 => S.bd (leapfrogref02x_Check.r x2 s) fun x3 => S.bd (eqb [1] false false x3 (Go.Value.int Go.IntKind.i64 0)) fun x4 => S.bd (S.gd x4 true (lal c1 3 2)) fun x5 => S.bd (S.gd x4 true (leapfrogref01x_Right.r x5 s)) fun x6 => S.bd (pik x4 x6 (Go.Value.bool Bool.false)) fun x7 => S.bd (S.gd x7 true (lcl c1 3)) fun x8 => S.bd (S.gd x7 true (some a1)) fun x9 => S.bd (S.gd x7 true (eqb [1] false false x8 x9)) fun x10 => S.bd (pik x7 x10 (Go.Value.bool Bool.false)) fun x11 => some (x11)
def leapfrogref12x_Right.r (a0 a1 : Value) (s : St) : Option Value := leapfrogref12x_Right.t std a0 a1 s
def leapfrogref12x_Right.w : List Value → St → Option Value
  | [a0, a1], s => leapfrogref12x_Right.r a0 a1 s
  | _, _ => none
def leapfrogref12x_Right.an : An := ⟨21, true, [2], [], [], []⟩
theorem leapfrogref12x_Right.ok (S : Sig) (a0 a1 : Value) (s : St) : evG S Tryz.prog leapfrogref12x_Right.ctx leapfrogref12x_Right.an Tryz.f37 [a0, a1] s = leapfrogref12x_Right.t S a0 a1 s := by kernel_rfl
theorem leapfrogref12x_Right.cok : CtxOk Tryz.prog leapfrogref12x_Right.ctx := .cons leapfrogref02x_Check.sound leapfrogref02x_Check.can <| .cons leapfrogref01x_Right.sound leapfrogref01x_Right.can <| .nil
theorem leapfrogref12x_Right.draws : fnDraws leapfrogref12x_Right.an Tryz.f37 = true := by kernel_rfl
theorem leapfrogref12x_Right.can : callOk Tryz.prog 37 = true := by kernel_rfl
theorem leapfrogref12x_Right.sound : FnOk Tryz.prog 37 (.rd leapfrogref12x_Right.w) := FnOk.rd_of (evG_ok leapfrogref12x_Right.cok mixed (f := 37) (fn := Tryz.f37) (by kernel_rfl) leapfrogref12x_Right.draws) fun args s r h => by
  unfold leapfrogref12x_Right.w at h; split at h
  · rw [leapfrogref12x_Right.ok std]; exact h
  · simp at h

/-! ### leapfrog/leapfrogref12.New: function 19 -/
def leapfrogref12x_New.ctx : Ctx := [(37, .rd leapfrogref12x_Right.w), (38, .rd leapfrogref02x_Check.w)]
def leapfrogref12x_New.t.p1 (S : Sig) (x6 : Value) (x9 : Value) (c1 : List Value) (s : St) : Option (Value × St) :=
  S.bd (S.gd x6 false (un .not x9)) fun x10 => S.bd (pik x6 (Go.Value.bool Bool.true) x10) fun x11 => S.bd (S.gd x11 false (lal c1 6 2)) fun x12 => S.bd (S.gd x11 false (leapfrogref02x_Check.r x12 s)) fun x13 => S.bd (S.gd x11 false (eqb [1] false true x13 (Go.Value.int Go.IntKind.i64 0))) fun x14 => S.bd (pik x11 (Go.Value.bool Bool.true) x14) fun x15 => S.bd (S.gd x15 false (lcl c1 6)) fun x16 => S.bd (S.gd x15 false (eqb [1] false false x16 (Go.Value.int Go.IntKind.i64 1))) fun x17 => S.bd (pik x15 (Go.Value.bool Bool.true) x17) fun x18 => S.cnd x18 (some ((Value.tuple ⟨[(Go.Value.pointer Option.none), (Go.Value.int Go.IntKind.i64 120)]⟩), s)) (S.bd (lal c1 0 8) fun x19 => S.bd (lal c1 1 5) fun x20 => S.bd (lal c1 4 2) fun x21 => S.bd (bld [(Go.Value.int Go.IntKind.i64 0), (Go.Value.int Go.IntKind.i64 0), (Go.Value.int Go.IntKind.i64 0), (Go.Value.int Go.IntKind.u64 0), (Go.Value.int Go.IntKind.i64 0), (Go.Value.int Go.IntKind.u64 0), (Go.Value.int Go.IntKind.i64 0), (Go.Value.int Go.IntKind.u64 0), (Go.Value.int Go.IntKind.i64 0), (Go.Value.int Go.IntKind.i64 0), (Go.Value.int Go.IntKind.u64 0), (Go.Value.int Go.IntKind.i64 0), (Go.Value.int Go.IntKind.u64 0), (Go.Value.int Go.IntKind.i64 0), (Go.Value.int Go.IntKind.u64 0), (Go.Value.bool Bool.false), (Go.Value.int Go.IntKind.i64 0), (Go.Value.int Go.IntKind.i64 0), (Go.Value.int Go.IntKind.u64 0), (Go.Value.int Go.IntKind.i64 0), (Go.Value.int Go.IntKind.u64 0), (Go.Value.slice Option.none 0 0), (Go.Value.int Go.IntKind.i64 0), (Go.Value.bool Bool.false), (Go.Value.int Go.IntKind.i64 0), (Go.Value.int Go.IntKind.u64 0), (Go.Value.slice Option.none 0 0), (Go.Value.slice Option.none 0 0), (Go.Value.int Go.IntKind.i64 0), (Go.Value.int Go.IntKind.i64 0), (Go.Value.int Go.IntKind.u64 0), (Go.Value.int Go.IntKind.i64 0), (Go.Value.int Go.IntKind.u64 0), (Go.Value.int Go.IntKind.i64 0), (Go.Value.int Go.IntKind.i64 0), (Go.Value.int Go.IntKind.u64 0), (Go.Value.int Go.IntKind.i64 0), (Go.Value.int Go.IntKind.u64 0), (Go.Value.bool Bool.false)] [(0, 8, x19), (8, 5, x20), (13, 2, x21)]) fun x22 => S.bd (alv s x22) fun r23 => some ((Value.tuple ⟨[r23.1, (Go.Value.int Go.IntKind.i64 0)]⟩), r23.2))

def leapfrogref12x_New.t (S : Sig) (a0 : Value) (s : St) : Option (Value × St) :=
  S.bd (bx a0) fun c1 => S.bd (lcl c1 0) fun x2 => S.bd (bin .lss x2 (Go.Value.int Go.IntKind.i64 0)) fun x3 => S.bd (S.gd x3 false (lcl c1 0)) fun x4 => S.bd (S.gd x3 false (bin .gtr x4 (Go.Value.int Go.IntKind.i64 32))) fun x5 => S.bd (pik x3 (Go.Value.bool Bool.true) x5) fun x6 => S.bd (S.gd x6 false (lal c1 1 5)) fun x7 => S.bd (S.gd x6 false (lcl c1 0)) fun x8 => S.bd (S.gd x6 false (leapfrogref12x_Right.r x7 x8 s)) fun x9 => leapfrogref12x_New.t.p1 S x6 x9 c1 s
def leapfrogref12x_New.v (a0 : Value) (s : St) : Option (Value × St) := leapfrogref12x_New.t std a0 s
def leapfrogref12x_New.w : List Value → St → Option (Value × St)
  | [a0], s => leapfrogref12x_New.v a0 s
  | _, _ => none
def leapfrogref12x_New.an : An := ⟨40, false, [1], [], [], []⟩
theorem leapfrogref12x_New.ok (S : Sig) (a0 : Value) (s : St) : evF S Tryz.prog leapfrogref12x_New.ctx leapfrogref12x_New.an Tryz.f19 [a0] s = leapfrogref12x_New.t S a0 s := by kernel_rfl
theorem leapfrogref12x_New.cok : CtxOk Tryz.prog leapfrogref12x_New.ctx := .cons leapfrogref12x_Right.sound leapfrogref12x_Right.can <| .cons leapfrogref02x_Check.sound leapfrogref02x_Check.can <| .nil
theorem leapfrogref12x_New.draws : fnDraws leapfrogref12x_New.an Tryz.f19 = true := by kernel_rfl
theorem leapfrogref12x_New.can : callOk Tryz.prog 19 = true := by kernel_rfl
theorem leapfrogref12x_New.sound : FnOk Tryz.prog 19 (.st leapfrogref12x_New.w) := FnOk.st_of (evF_ok leapfrogref12x_New.cok mixed (f := 19) (fn := Tryz.f19) (by kernel_rfl) leapfrogref12x_New.draws) fun args s r h => by
  unfold leapfrogref12x_New.w at h; split at h
  · rw [leapfrogref12x_New.ok std]; exact h
  · simp at h

/-! ### leapfrog/leapfrogref17.New: function 7 -/
def leapfrogref17x_New.ctx : Ctx := [(20, .rd leapfrogref17x_Read_key.w), (19, .st leapfrogref12x_New.w)]
def leapfrogref17x_New.t (S : Sig) (a0 : Value) (s : St) : Option (Value × St) :=
  S.bd (bx a0) fun c1 => S.bd (lal c1 0 8) fun x2 => S.bd (bld [(Go.Value.int Go.IntKind.i64 0), (Go.Value.int Go.IntKind.i64 0), (Go.Value.int Go.IntKind.i64 0), (Go.Value.int Go.IntKind.u64 0), (Go.Value.int Go.IntKind.i64 0), (Go.Value.int Go.IntKind.u64 0), (Go.Value.int Go.IntKind.u64 0), (Go.Value.bool Bool.false), (Go.Value.int Go.IntKind.i64 0), (Go.Value.int Go.IntKind.i64 0), (Go.Value.pointer Option.none), (Go.Value.int Go.IntKind.i64 0), (Go.Value.int Go.IntKind.i64 0), (Go.Value.int Go.IntKind.u64 0), (Go.Value.int Go.IntKind.i64 0), (Go.Value.int Go.IntKind.u64 0), (Go.Value.int Go.IntKind.i64 0), (Go.Value.int Go.IntKind.u64 0), (Go.Value.slice Option.none 0 0), (Go.Value.slice Option.none 0 0), (Go.Value.int Go.IntKind.i64 0), (Go.Value.int Go.IntKind.i64 0), (Go.Value.int Go.IntKind.u64 0), (Go.Value.int Go.IntKind.i64 0), (Go.Value.int Go.IntKind.u64 0), (Go.Value.int Go.IntKind.i64 0), (Go.Value.int Go.IntKind.i64 0), (Go.Value.int Go.IntKind.u64 0), (Go.Value.int Go.IntKind.i64 0), (Go.Value.int Go.IntKind.u64 0), (Go.Value.bool Bool.false)] [(0, 8, x2), (8, 1, (Go.Value.int Go.IntKind.i64 1))]) fun x3 => S.bd (alv s x3) fun r4 => S.bd (lcl c1 0) fun x5 => S.bd (lal c1 1 5) fun x6 => S.bd (leapfrogref17x_Read_key.r r4.1 r4.2) fun x7 => S.bd (bld [(Go.Value.int Go.IntKind.i64 0), (Go.Value.int Go.IntKind.i64 0), (Go.Value.int Go.IntKind.i64 0), (Go.Value.int Go.IntKind.u64 0), (Go.Value.int Go.IntKind.i64 0), (Go.Value.int Go.IntKind.u64 0), (Go.Value.int Go.IntKind.i64 0), (Go.Value.int Go.IntKind.u64 0)] [(0, 1, x5), (1, 5, x6), (6, 2, x7)]) fun x8 => S.bd (leapfrogref12x_New.v x8 r4.2) fun r9 => S.bd (xtr 0 r9.1) fun x10 => S.bd (xtr 1 r9.1) fun x11 => S.bd (eqb [1] false true x11 (Go.Value.int Go.IntKind.i64 0)) fun x12 => S.cnd x12 (some ((Value.tuple ⟨[(Go.Value.pointer Option.none), (Go.Value.int Go.IntKind.i64 170)]⟩), r9.2)) (S.bd (nck r4.1) fun x13 => S.bd (fld 10 x13) fun x14 => S.bd (stv r9.2 1 x14 x10) fun s15 => some ((Value.tuple ⟨[r4.1, (Go.Value.int Go.IntKind.i64 0)]⟩), s15))
def leapfrogref17x_New.v (a0 : Value) (s : St) : Option (Value × St) := leapfrogref17x_New.t std a0 s
def leapfrogref17x_New.w : List Value → St → Option (Value × St)
  | [a0], s => leapfrogref17x_New.v a0 s
  | _, _ => none
def leapfrogref17x_New.an : An := ⟨28, false, [1], [], [], [(2, [(0, 0, [], []), (1, 9, [], []), (2, 0, [], []), (3, 9, [], []), (4, 0, [], []), (5, 3, [], []), (6, 0, [], []), (7, 4, [], []), (8, 0, [], []), (9, 0, [], []), (10, 0, [], []), (11, 0, [], []), (12, 0, [], [])])]⟩
theorem leapfrogref17x_New.ok (S : Sig) (a0 : Value) (s : St) : evF S Tryz.prog leapfrogref17x_New.ctx leapfrogref17x_New.an Tryz.f7 [a0] s = leapfrogref17x_New.t S a0 s := by kernel_rfl
theorem leapfrogref17x_New.cok : CtxOk Tryz.prog leapfrogref17x_New.ctx := .cons leapfrogref17x_Read_key.sound leapfrogref17x_Read_key.can <| .cons leapfrogref12x_New.sound leapfrogref12x_New.can <| .nil
theorem leapfrogref17x_New.draws : fnDraws leapfrogref17x_New.an Tryz.f7 = true := by kernel_rfl
theorem leapfrogref17x_New.can : callOk Tryz.prog 7 = true := by kernel_rfl
theorem leapfrogref17x_New.sound : FnOk Tryz.prog 7 (.st leapfrogref17x_New.w) := FnOk.st_of (evF_ok leapfrogref17x_New.cok mixed (f := 7) (fn := Tryz.f7) (by kernel_rfl) leapfrogref17x_New.draws) fun args s r h => by
  unfold leapfrogref17x_New.w at h; split at h
  · rw [leapfrogref17x_New.ok std]; exact h
  · simp at h

/-! ### leapfrog/leapfrogref12.Head: function 22 -/
def leapfrogref12x_Head.ctx : Ctx := []
def leapfrogref12x_Head.t (S : Sig) (a0 : Value) (s : St) : Option Value :=
  S.bd (bx (Go.Value.agg #[(Go.Value.int Go.IntKind.i64 0), (Go.Value.int Go.IntKind.i64 0), (Go.Value.int Go.IntKind.u64 0), (Go.Value.int Go.IntKind.i64 0), (Go.Value.int Go.IntKind.u64 0)])) fun c1 => S.bd (bld [(Go.Value.int Go.IntKind.i64 0), (Go.Value.int Go.IntKind.u64 0)] [(0, 1, (Go.Value.int Go.IntKind.i64 1))]) fun x2 => S.bd (bld [(Go.Value.int Go.IntKind.i64 0), (Go.Value.int Go.IntKind.u64 0)] [(0, 1, a0)]) fun x3 => S.bd (bld [(Go.Value.int Go.IntKind.i64 0), (Go.Value.int Go.IntKind.i64 0), (Go.Value.int Go.IntKind.u64 0), (Go.Value.int Go.IntKind.i64 0), (Go.Value.int Go.IntKind.u64 0)] [(1, 2, x2), (3, 2, x3)]) fun x4 => S.bd (stl c1 0 5 x4) fun c5 => S.bd (lal c5 0 5) fun x6 => some (x6)
def leapfrogref12x_Head.r (a0 : Value) (s : St) : Option Value := leapfrogref12x_Head.t std a0 s
def leapfrogref12x_Head.w : List Value → St → Option Value
  | [a0], s => leapfrogref12x_Head.r a0 s
  | _, _ => none
def leapfrogref12x_Head.an : An := ⟨7, true, [2], [], [], []⟩
theorem leapfrogref12x_Head.ok (S : Sig) (a0 : Value) (s : St) : evG S Tryz.prog leapfrogref12x_Head.ctx leapfrogref12x_Head.an Tryz.f22 [a0] s = leapfrogref12x_Head.t S a0 s := by kernel_rfl
theorem leapfrogref12x_Head.cok : CtxOk Tryz.prog leapfrogref12x_Head.ctx := .nil
theorem leapfrogref12x_Head.draws : fnDraws leapfrogref12x_Head.an Tryz.f22 = true := by kernel_rfl
theorem leapfrogref12x_Head.can : callOk Tryz.prog 22 = true := by kernel_rfl
theorem leapfrogref12x_Head.sound : FnOk Tryz.prog 22 (.rd leapfrogref12x_Head.w) := FnOk.rd_of (evG_ok leapfrogref12x_Head.cok mixed (f := 22) (fn := Tryz.f22) (by kernel_rfl) leapfrogref12x_Head.draws) fun args s r h => by
  unfold leapfrogref12x_Head.w at h; split at h
  · rw [leapfrogref12x_Head.ok std]; exact h
  · simp at h

/-! ### leapfrog/leapfroglaw17.at: function 42 -/
def leapfroglaw17x_at.ctx : Ctx := []
def leapfroglaw17x_at.t (S : Sig) (a0 : Value) (s : St) : Option Value :=
  S.bd (bx (Go.Value.agg #[(Go.Value.int Go.IntKind.i64 0), (Go.Value.int Go.IntKind.u64 0)])) fun c1 => S.bd (bld [(Go.Value.int Go.IntKind.i64 0), (Go.Value.int Go.IntKind.u64 0)] [(0, 1, (Go.Value.int Go.IntKind.i64 2)), (1, 1, a0)]) fun x2 => S.bd (stl c1 0 2 x2) fun c3 => S.bd (lal c3 0 2) fun x4 => some (x4)
def leapfroglaw17x_at.r (a0 : Value) (s : St) : Option Value := leapfroglaw17x_at.t std a0 s
def leapfroglaw17x_at.w : List Value → St → Option Value
  | [a0], s => leapfroglaw17x_at.r a0 s
  | _, _ => none
def leapfroglaw17x_at.an : An := ⟨5, true, [2], [], [], []⟩
theorem leapfroglaw17x_at.ok (S : Sig) (a0 : Value) (s : St) : evG S Tryz.prog leapfroglaw17x_at.ctx leapfroglaw17x_at.an Tryz.f42 [a0] s = leapfroglaw17x_at.t S a0 s := by kernel_rfl
theorem leapfroglaw17x_at.cok : CtxOk Tryz.prog leapfroglaw17x_at.ctx := .nil
theorem leapfroglaw17x_at.draws : fnDraws leapfroglaw17x_at.an Tryz.f42 = true := by kernel_rfl
theorem leapfroglaw17x_at.can : callOk Tryz.prog 42 = true := by kernel_rfl
theorem leapfroglaw17x_at.sound : FnOk Tryz.prog 42 (.rd leapfroglaw17x_at.w) := FnOk.rd_of (evG_ok leapfroglaw17x_at.cok mixed (f := 42) (fn := Tryz.f42) (by kernel_rfl) leapfroglaw17x_at.draws) fun args s r h => by
  unfold leapfroglaw17x_at.w at h; split at h
  · rw [leapfroglaw17x_at.ok std]; exact h
  · simp at h

/-! ### leapfrog/leapfrogref11.Check: function 88 -/
def leapfrogref11x_Check.ctx : Ctx := [(59, .rd leapfrogref01x_Right.w)]
def leapfrogref11x_Check.l10 (S : Sig) (rec93 : List Value → St → Option Cut) (xs91 : List Value) (s92 : St) : Option Cut :=
  S.bd (bin .lss (xs91.getD 3 undef) (xs91.getD 2 undef)) fun x94 => S.cnd x94 (S.bd (idx s92 5 (xs91.getD 1 undef) (xs91.getD 3 undef)) fun x95 => S.bd (fld 0 x95) fun x96 => S.bd (ldc s92 x96) fun x97 => S.bd (lcl (cellsA (xs91.getD 14 undef)) 0) fun x98 => S.bd (eqb [1] false false x97 x98) fun x99 => S.bd (S.gd x99 false (some (xs91.getD 1 undef))) fun x100 => S.bd (S.gd x99 false (some (xs91.getD 3 undef))) fun x101 => S.bd (S.gd x99 false (idx s92 5 x100 x101)) fun x102 => S.bd (S.gd x99 false (fld 1 x102)) fun x103 => S.bd (S.gd x99 false (lda s92 2 x103)) fun x104 => S.bd (S.gd x99 false (lal (cellsA (xs91.getD 14 undef)) 1 2)) fun x105 => S.bd (S.gd x99 false (eqb [1, 1] true false x104 x105)) fun x106 => S.bd (pik x99 (Go.Value.bool Bool.true) x106) fun x107 => S.cnd x107 (some (1, [(Go.Value.int Go.IntKind.i64 110)], s92)) (S.bd (bin .add (xs91.getD 3 undef) (Go.Value.int Go.IntKind.i64 1)) fun x108 => rec93 [(xs91.getD 0 undef), (xs91.getD 1 undef), (xs91.getD 2 undef), x108, (xs91.getD 4 undef), (xs91.getD 5 undef), (xs91.getD 6 undef), (xs91.getD 7 undef), (xs91.getD 8 undef), (xs91.getD 9 undef), (xs91.getD 10 undef), (xs91.getD 11 undef), (xs91.getD 12 undef), (xs91.getD 13 undef), (Value.agg ⟨(cellsA (xs91.getD 14 undef))⟩)] s92)) (some (0, [(xs91.getD 0 undef), (xs91.getD 1 undef), (xs91.getD 2 undef), (xs91.getD 4 undef), (xs91.getD 5 undef), (xs91.getD 6 undef), (xs91.getD 7 undef), (xs91.getD 8 undef), (xs91.getD 9 undef), (xs91.getD 10 undef), (xs91.getD 11 undef), (xs91.getD 12 undef), (xs91.getD 13 undef)], s92))

def leapfrogref11x_Check.l4 (S : Sig) (rec68 : List Value → St → Option Cut) (xs66 : List Value) (s67 : St) : Option Cut :=
  S.bd (lenL (xs66.getD 1 undef)) fun x69 => S.bd (bin .lss (xs66.getD 2 undef) x69) fun x70 => S.cnd x70 (S.bd (idx s67 5 (xs66.getD 1 undef) (xs66.getD 2 undef)) fun x71 => S.bd (lda s67 5 x71) fun x72 => S.bd (bx (Go.Value.agg #[(Go.Value.int Go.IntKind.i64 0), (Go.Value.int Go.IntKind.i64 0), (Go.Value.int Go.IntKind.u64 0), (Go.Value.int Go.IntKind.i64 0), (Go.Value.int Go.IntKind.u64 0)])) fun c73 => S.bd (stl c73 0 5 x72) fun c74 => S.bd (lcl c74 0) fun x75 => S.bd (bin .lss x75 (Go.Value.int Go.IntKind.i64 2)) fun x76 => S.bd (S.gd x76 false (lcl c74 0)) fun x77 => S.bd (S.gd x76 false (bin .geq x77 (Go.Value.int Go.IntKind.i64 1024))) fun x78 => S.bd (pik x76 (Go.Value.bool Bool.true) x78) fun x79 => S.bd (S.gd x79 false (lcl c74 1)) fun x80 => S.bd (S.gd x79 false (eqb [1] false true x80 (Go.Value.int Go.IntKind.i64 2))) fun x81 => S.bd (pik x79 (Go.Value.bool Bool.true) x81) fun x82 => S.bd (S.gd x82 false (lal c74 3 2)) fun x83 => S.bd (S.gd x82 false (leapfrogref01x_Right.r x83 s67)) fun x84 => S.bd (S.gd x82 false (un .not x84)) fun x85 => S.bd (pik x82 (Go.Value.bool Bool.true) x85) fun x86 => S.bd (S.gd x86 false (lcl c74 3)) fun x87 => S.bd (S.gd x86 false (some (xs66.getD 0 undef))) fun x88 => S.bd (S.gd x86 false (eqb [1] false true x87 x88)) fun x89 => S.bd (pik x86 (Go.Value.bool Bool.true) x89) fun x90 => S.cnd x90 (some (1, [(Go.Value.int Go.IntKind.i64 110)], s67)) (S.bd (S.it (leapfrogref11x_Check.l10 S) [(xs66.getD 0 undef), (xs66.getD 1 undef), (xs66.getD 2 undef), (Go.Value.int Go.IntKind.i64 0), x77, x78, x80, x81, x83, x84, x85, x87, x88, x89, (Value.agg ⟨c74⟩)] s67) fun r109 => if r109.1 = 0 then (S.bd (bin .add (r109.2.1.getD 2 undef) (Go.Value.int Go.IntKind.i64 1)) fun x110 => rec68 [(r109.2.1.getD 0 undef), (r109.2.1.getD 1 undef), x110] r109.2.2) else (some (1, [(r109.2.1.getD 0 undef)], r109.2.2)))) (some (0, [], s67))

def leapfrogref11x_Check.t (S : Sig) (a0 a1 : Value) (s : St) : Option Value :=
  S.bd (bin .lss a0 (Go.Value.int Go.IntKind.i64 0)) fun x1 => S.bd (S.gd x1 false (some a0)) fun x2 => S.bd (S.gd x1 false (bin .gtr x2 (Go.Value.int Go.IntKind.i64 32))) fun x3 => S.bd (pik x1 (Go.Value.bool Bool.true) x3) fun x4 => S.bd (S.gd x4 false (some a1)) fun x5 => S.bd (S.gd x4 false (lenL x5)) fun x6 => S.bd (S.gd x4 false (bin .gtr x6 (Go.Value.int Go.IntKind.i64 1022))) fun x7 => S.bd (pik x4 (Go.Value.bool Bool.true) x7) fun x8 => S.cnd x8 (some ((Go.Value.int Go.IntKind.i64 110))) (S.bd (S.it (leapfrogref11x_Check.l4 S) [a0, a1, (Go.Value.int Go.IntKind.i64 0)] s) fun r111 => if r111.1 = 0 then (some ((Go.Value.int Go.IntKind.i64 0))) else (some ((r111.2.1.getD 0 undef))))
def leapfrogref11x_Check.r (a0 a1 : Value) (s : St) : Option Value := leapfrogref11x_Check.t std a0 a1 s
def leapfrogref11x_Check.w : List Value → St → Option Value
  | [a0, a1], s => leapfrogref11x_Check.r a0 a1 s
  | _, _ => none
def leapfrogref11x_Check.an : An := ⟨79, true, [6], [(10, ⟨[.v 0, .v 1, .v 5, .p 6 6 0, .v 7, .v 34, .v 35, .v 40, .v 41, .v 45, .v 46, .v 47, .v 52, .v 53, .v 54, .l 6], [(.exit 2, [.v 0, .v 1, .v 5, .v 34, .v 35, .v 40, .v 41, .v 45, .v 46, .v 47, .v 52, .v 53, .v 54]), (.ret, [.v 4])]⟩), (4, ⟨[.v 0, .v 1, .v 5], [(.exit 0, []), (.ret, [.v 4])]⟩)], [], [(12, [(0, 0, [], []), (1, 0, [], []), (2, 2, [], []), (3, 0, [], []), (4, 2, [], []), (5, 0, [], []), (6, 49, [], []), (7, 0, [], []), (8, 0, [], []), (9, 0, [], []), (10, 0, [], []), (11, 2, [], []), (12, 0, [], []), (13, 2, [], []), (14, 0, [], []), (15, 49, [], []), (16, 0, [], []), (17, 0, [], [])])]⟩
theorem leapfrogref11x_Check.ok (S : Sig) (a0 a1 : Value) (s : St) : evG S Tryz.prog leapfrogref11x_Check.ctx leapfrogref11x_Check.an Tryz.f88 [a0, a1] s = leapfrogref11x_Check.t S a0 a1 s := by kernel_rfl
theorem leapfrogref11x_Check.cok : CtxOk Tryz.prog leapfrogref11x_Check.ctx := .cons leapfrogref01x_Right.sound leapfrogref01x_Right.can <| .nil
theorem leapfrogref11x_Check.draws : fnDraws leapfrogref11x_Check.an Tryz.f88 = true := by kernel_rfl
theorem leapfrogref11x_Check.can : callOk Tryz.prog 88 = true := by kernel_rfl
theorem leapfrogref11x_Check.sound : FnOk Tryz.prog 88 (.rd leapfrogref11x_Check.w) := FnOk.rd_of (evG_ok leapfrogref11x_Check.cok mixed (f := 88) (fn := Tryz.f88) (by kernel_rfl) leapfrogref11x_Check.draws) fun args s r h => by
  unfold leapfrogref11x_Check.w at h; split at h
  · rw [leapfrogref11x_Check.ok std]; exact h
  · simp at h

/-! ### leapfrog/leapfrogref01.Bits: function 94 -/
def leapfrogref01x_Bits.ctx : Ctx := []
def leapfrogref01x_Bits.l4 (S : Sig) (rec16 : List Value → St → Option Cut) (xs14 : List Value) (s15 : St) : Option Cut :=
  S.bd (bin .geq (xs14.getD 2 undef) (Go.Value.int Go.IntKind.i64 0)) fun x17 => S.cnd x17 (S.bd (bin .rem (xs14.getD 1 undef) (Go.Value.int Go.IntKind.u64 2)) fun x18 => S.bd (cvi .i64 x18) fun x19 => S.bd (idx s15 1 (xs14.getD 0 undef) (xs14.getD 2 undef)) fun x20 => S.bd (stv s15 1 x20 x19) fun s21 => S.bd (bin .quo (xs14.getD 1 undef) (Go.Value.int Go.IntKind.u64 2)) fun x22 => S.bd (bin .sub (xs14.getD 2 undef) (Go.Value.int Go.IntKind.i64 1)) fun x23 => rec16 [(xs14.getD 0 undef), x22, x23] s21) (some (0, [(xs14.getD 0 undef)], s15))

def leapfrogref01x_Bits.t (S : Sig) (a0 : Value) (s : St) : Option (Value × St) :=
  S.bd (bx a0) fun c1 => S.bd (lcl c1 0) fun x2 => S.bd (mks s 1 8 [(Go.Value.int Go.IntKind.i64 0)] x2 x2) fun r3 => S.bd (lcl c1 1) fun x4 => S.bd (lcl c1 0) fun x5 => S.bd (bin .sub x5 (Go.Value.int Go.IntKind.i64 1)) fun x6 => S.bd (S.it (leapfrogref01x_Bits.l4 S) [r3.1, x4, x6] r3.2) fun r24 => some ((r24.2.1.getD 0 undef), r24.2.2)
def leapfrogref01x_Bits.v (a0 : Value) (s : St) : Option (Value × St) := leapfrogref01x_Bits.t std a0 s
def leapfrogref01x_Bits.w : List Value → St → Option (Value × St)
  | [a0], s => leapfrogref01x_Bits.v a0 s
  | _, _ => none
def leapfrogref01x_Bits.an : An := ⟨27, false, [1], [(4, ⟨[.v 3, .v 4, .v 5], [(.exit 0, [.v 3])]⟩)], [], []⟩
theorem leapfrogref01x_Bits.ok (S : Sig) (a0 : Value) (s : St) : evF S Tryz.prog leapfrogref01x_Bits.ctx leapfrogref01x_Bits.an Tryz.f94 [a0] s = leapfrogref01x_Bits.t S a0 s := by kernel_rfl
theorem leapfrogref01x_Bits.cok : CtxOk Tryz.prog leapfrogref01x_Bits.ctx := .nil
theorem leapfrogref01x_Bits.draws : fnDraws leapfrogref01x_Bits.an Tryz.f94 = true := by kernel_rfl
theorem leapfrogref01x_Bits.can : callOk Tryz.prog 94 = true := by kernel_rfl
theorem leapfrogref01x_Bits.sound : FnOk Tryz.prog 94 (.st leapfrogref01x_Bits.w) := FnOk.st_of (evF_ok leapfrogref01x_Bits.cok mixed (f := 94) (fn := Tryz.f94) (by kernel_rfl) leapfrogref01x_Bits.draws) fun args s r h => by
  unfold leapfrogref01x_Bits.w at h; split at h
  · rw [leapfrogref01x_Bits.ok std]; exact h
  · simp at h

/-! ### leapfrog/leapfrogref01.Of: function 93 -/
def leapfrogref01x_Of.ctx : Ctx := []
def leapfrogref01x_Of.l3 (S : Sig) (rec18 : List Value → St → Option Cut) (xs16 : List Value) (s17 : St) : Option Cut :=
  S.bd (lenL (xs16.getD 0 undef)) fun x19 => S.bd (bin .lss (xs16.getD 1 undef) x19) fun x20 => S.cnd x20 (S.bd (lcl (cellsA (xs16.getD 3 undef)) 1) fun x21 => S.bd (bin .mul x21 (Go.Value.int Go.IntKind.u64 2)) fun x22 => S.bd (idx s17 1 (xs16.getD 0 undef) (xs16.getD 1 undef)) fun x23 => S.bd (ldc s17 x23) fun x24 => S.bd (cvi .u64 x24) fun x25 => S.bd (bin .add x22 x25) fun x26 => S.bd (stl (cellsA (xs16.getD 3 undef)) 1 1 x26) fun c27 => S.bd (bin .add (xs16.getD 1 undef) (Go.Value.int Go.IntKind.i64 1)) fun x28 => rec18 [(xs16.getD 0 undef), x28, (Value.agg ⟨(cellsA (xs16.getD 2 undef))⟩), (Value.agg ⟨c27⟩)] s17) (some (0, [(Value.agg ⟨(cellsA (xs16.getD 2 undef))⟩), (Value.agg ⟨(cellsA (xs16.getD 3 undef))⟩)], s17))

def leapfrogref01x_Of.t (S : Sig) (a0 : Value) (s : St) : Option Value :=
  S.bd (bx (Go.Value.agg #[(Go.Value.int Go.IntKind.i64 0), (Go.Value.int Go.IntKind.u64 0)])) fun c1 => S.bd (lenL a0) fun x2 => S.bd (bld [(Go.Value.int Go.IntKind.i64 0), (Go.Value.int Go.IntKind.u64 0)] [(0, 1, x2)]) fun x3 => S.bd (bx (Go.Value.agg #[(Go.Value.int Go.IntKind.i64 0), (Go.Value.int Go.IntKind.u64 0)])) fun c4 => S.bd (stl c4 0 2 x3) fun c5 => S.bd (S.it (leapfrogref01x_Of.l3 S) [a0, (Go.Value.int Go.IntKind.i64 0), (Value.agg ⟨c1⟩), (Value.agg ⟨c5⟩)] s) fun r29 => S.bd (lal (cellsA (r29.2.1.getD 1 undef)) 0 2) fun x30 => S.bd (stl (cellsA (r29.2.1.getD 0 undef)) 0 2 x30) fun c31 => S.bd (lal c31 0 2) fun x32 => some (x32)
def leapfrogref01x_Of.r (a0 : Value) (s : St) : Option Value := leapfrogref01x_Of.t std a0 s
def leapfrogref01x_Of.w : List Value → St → Option Value
  | [a0], s => leapfrogref01x_Of.r a0 s
  | _, _ => none
def leapfrogref01x_Of.an : An := ⟨25, true, [2, 3], [(3, ⟨[.v 0, .p 2 2 0, .p 3 3 0, .v 4, .l 2, .l 3], [(.exit 0, [.p 2 2 0, .p 3 3 0, .l 2, .l 3])]⟩)], [], [(5, [(0, 0, [], []), (1, 25, [], []), (2, 0, [], []), (3, 0, [], []), (4, 0, [], []), (5, 2, [], []), (6, 2, [], []), (7, 0, [], []), (8, 0, [], []), (9, 0, [], []), (10, 29, [], [])])]⟩
theorem leapfrogref01x_Of.ok (S : Sig) (a0 : Value) (s : St) : evG S Tryz.prog leapfrogref01x_Of.ctx leapfrogref01x_Of.an Tryz.f93 [a0] s = leapfrogref01x_Of.t S a0 s := by kernel_rfl
theorem leapfrogref01x_Of.cok : CtxOk Tryz.prog leapfrogref01x_Of.ctx := .nil
theorem leapfrogref01x_Of.draws : fnDraws leapfrogref01x_Of.an Tryz.f93 = true := by kernel_rfl
theorem leapfrogref01x_Of.can : callOk Tryz.prog 93 = true := by kernel_rfl
theorem leapfrogref01x_Of.sound : FnOk Tryz.prog 93 (.rd leapfrogref01x_Of.w) := FnOk.rd_of (evG_ok leapfrogref01x_Of.cok mixed (f := 93) (fn := Tryz.f93) (by kernel_rfl) leapfrogref01x_Of.draws) fun args s r h => by
  unfold leapfrogref01x_Of.w at h; split at h
  · rw [leapfrogref01x_Of.ok std]; exact h
  · simp at h

/-! ### leapfrog/leapfrogref01.Prefixes: function 110 -/
def leapfrogref01x_Prefixes.ctx : Ctx := [(59, .rd leapfrogref01x_Right.w), (94, .st leapfrogref01x_Bits.w), (93, .rd leapfrogref01x_Of.w)]
def leapfrogref01x_Prefixes.l6 (S : Sig) (rec16 : List Value → St → Option Cut) (xs14 : List Value) (s15 : St) : Option Cut :=
  S.bd (lenL (xs14.getD 1 undef)) fun x17 => S.bd (bin .leq (xs14.getD 2 undef) x17) fun x18 => S.cnd x18 (S.bd (slc s15 1 (xs14.getD 1 undef) none (some (xs14.getD 2 undef)) none) fun x19 => S.bd (leapfrogref01x_Of.r x19 s15) fun x20 => S.bd (S.bd (bls 2 (List.replicate 1 [(Go.Value.int Go.IntKind.i64 0), (Go.Value.int Go.IntKind.u64 0)]) [(0, x20)]) fun rows => als s15 2 1 rows) fun r21 => S.bd (app r21.2 2 16 (xs14.getD 0 undef) r21.1) fun r22 => S.bd (bin .add (xs14.getD 2 undef) (Go.Value.int Go.IntKind.i64 1)) fun x23 => rec16 [r22.1, (xs14.getD 1 undef), x23] r22.2) (some (0, [(xs14.getD 0 undef)], s15))

def leapfrogref01x_Prefixes.t (S : Sig) (a0 : Value) (s : St) : Option (Value × St) :=
  S.bd (bx a0) fun c1 => S.bd (lal c1 0 2) fun x2 => S.bd (leapfrogref01x_Right.r x2 s) fun x3 => S.bd (un .not x3) fun x4 => S.cnd x4 (some ((Go.Value.slice Option.none 0 0), s)) (S.bd (lal c1 0 2) fun x5 => S.bd (leapfrogref01x_Bits.v x5 s) fun r6 => S.bd (S.it (leapfrogref01x_Prefixes.l6 S) [(Go.Value.slice Option.none 0 0), r6.1, (Go.Value.int Go.IntKind.i64 0)] r6.2) fun r24 => some ((r24.2.1.getD 0 undef), r24.2.2))
def leapfrogref01x_Prefixes.v (a0 : Value) (s : St) : Option (Value × St) := leapfrogref01x_Prefixes.t std a0 s
def leapfrogref01x_Prefixes.w : List Value → St → Option (Value × St)
  | [a0], s => leapfrogref01x_Prefixes.v a0 s
  | _, _ => none
def leapfrogref01x_Prefixes.an : An := ⟨25, false, [1], [(6, ⟨[.v 3, .v 4, .v 5], [(.exit 0, [.v 3])]⟩)], [], []⟩
theorem leapfrogref01x_Prefixes.ok (S : Sig) (a0 : Value) (s : St) : evF S Tryz.prog leapfrogref01x_Prefixes.ctx leapfrogref01x_Prefixes.an Tryz.f110 [a0] s = leapfrogref01x_Prefixes.t S a0 s := by kernel_rfl
theorem leapfrogref01x_Prefixes.cok : CtxOk Tryz.prog leapfrogref01x_Prefixes.ctx := .cons leapfrogref01x_Right.sound leapfrogref01x_Right.can <| .cons leapfrogref01x_Bits.sound leapfrogref01x_Bits.can <| .cons leapfrogref01x_Of.sound leapfrogref01x_Of.can <| .nil
theorem leapfrogref01x_Prefixes.draws : fnDraws leapfrogref01x_Prefixes.an Tryz.f110 = true := by kernel_rfl
theorem leapfrogref01x_Prefixes.can : callOk Tryz.prog 110 = true := by kernel_rfl
theorem leapfrogref01x_Prefixes.sound : FnOk Tryz.prog 110 (.st leapfrogref01x_Prefixes.w) := FnOk.st_of (evF_ok leapfrogref01x_Prefixes.cok mixed (f := 110) (fn := Tryz.f110) (by kernel_rfl) leapfrogref01x_Prefixes.draws) fun args s r h => by
  unfold leapfrogref01x_Prefixes.w at h; split at h
  · rw [leapfrogref01x_Prefixes.ok std]; exact h
  · simp at h

/-! ### leapfrog/leapfrogref01.common: function 124 -/
def leapfrogref01x_common.ctx : Ctx := []
def leapfrogref01x_common.l2 (S : Sig) (rec21 : List Value → St → Option Cut) (xs19 : List Value) (s20 : St) : Option Cut :=
  S.bd (lenL (xs19.getD 0 undef)) fun x22 => S.bd (bin .lss (xs19.getD 2 undef) x22) fun x23 => S.bd (S.gd x23 true (some (xs19.getD 2 undef))) fun x24 => S.bd (S.gd x23 true (some (xs19.getD 1 undef))) fun x25 => S.bd (S.gd x23 true (lenL x25)) fun x26 => S.bd (S.gd x23 true (bin .lss x24 x26)) fun x27 => S.bd (pik x23 x27 (Go.Value.bool Bool.false)) fun x28 => S.bd (S.gd x28 true (some (xs19.getD 0 undef))) fun x29 => S.bd (S.gd x28 true (some (xs19.getD 2 undef))) fun x30 => S.bd (S.gd x28 true (idx s20 1 x29 x30)) fun x31 => S.bd (S.gd x28 true (ldc s20 x31)) fun x32 => S.bd (S.gd x28 true (some (xs19.getD 1 undef))) fun x33 => S.bd (S.gd x28 true (some (xs19.getD 2 undef))) fun x34 => S.bd (S.gd x28 true (idx s20 1 x33 x34)) fun x35 => S.bd (S.gd x28 true (ldc s20 x35)) fun x36 => S.bd (S.gd x28 true (eqb [1] false false x32 x36)) fun x37 => S.bd (pik x28 x37 (Go.Value.bool Bool.false)) fun x38 => S.cnd x38 (S.bd (bin .add (xs19.getD 2 undef) (Go.Value.int Go.IntKind.i64 1)) fun x39 => rec21 [(xs19.getD 0 undef), (xs19.getD 1 undef), x39] s20) (some (0, [(xs19.getD 2 undef)], s20))

def leapfrogref01x_common.t (S : Sig) (a0 a1 : Value) (s : St) : Option Value :=
  S.bd (S.it (leapfrogref01x_common.l2 S) [a0, a1, (Go.Value.int Go.IntKind.i64 0)] s) fun r40 => some ((r40.2.1.getD 0 undef))
def leapfrogref01x_common.r (a0 a1 : Value) (s : St) : Option Value := leapfrogref01x_common.t std a0 a1 s
def leapfrogref01x_common.w : List Value → St → Option Value
  | [a0, a1], s => leapfrogref01x_common.r a0 a1 s
  | _, _ => none
def leapfrogref01x_common.an : An := ⟨30, true, [], [(2, ⟨[.v 0, .v 1, .v 5], [(.exit 0, [.v 5])]⟩)], [], [(2, [(0, 0, [], []), (1, 0, [], []), (2, 2, [], []), (3, 0, [], []), (4, 0, [], []), (5, 0, [], []), (6, 0, [], []), (7, 2, [], []), (8, 0, [], []), (9, 0, [], []), (10, 0, [], []), (11, 0, [], []), (12, 0, [], []), (13, 2, [], []), (14, 2, [], []), (15, 0, [], []), (16, 0, [], []), (17, 2, [], []), (18, 2, [], []), (19, 0, [], []), (20, 0, [], [])])]⟩
theorem leapfrogref01x_common.ok (S : Sig) (a0 a1 : Value) (s : St) : evG S Tryz.prog leapfrogref01x_common.ctx leapfrogref01x_common.an Tryz.f124 [a0, a1] s = leapfrogref01x_common.t S a0 a1 s := by kernel_rfl
theorem leapfrogref01x_common.cok : CtxOk Tryz.prog leapfrogref01x_common.ctx := .nil
theorem leapfrogref01x_common.draws : fnDraws leapfrogref01x_common.an Tryz.f124 = true := by kernel_rfl
theorem leapfrogref01x_common.can : callOk Tryz.prog 124 = true := by kernel_rfl
theorem leapfrogref01x_common.sound : FnOk Tryz.prog 124 (.rd leapfrogref01x_common.w) := FnOk.rd_of (evG_ok leapfrogref01x_common.cok mixed (f := 124) (fn := Tryz.f124) (by kernel_rfl) leapfrogref01x_common.draws) fun args s r h => by
  unfold leapfrogref01x_common.w at h; split at h
  · rw [leapfrogref01x_common.ok std]; exact h
  · simp at h

/-! ### leapfrog/leapfrogref01.Compare: function 123 -/
def leapfrogref01x_Compare.ctx : Ctx := [(59, .rd leapfrogref01x_Right.w), (94, .st leapfrogref01x_Bits.w), (124, .rd leapfrogref01x_common.w)]
def leapfrogref01x_Compare.t (S : Sig) (a0 a1 : Value) (s : St) : Option (Value × St) :=
  S.bd (bx a0) fun c1 => S.bd (bx a1) fun c2 => S.bd (lal c1 0 2) fun x3 => S.bd (leapfrogref01x_Right.r x3 s) fun x4 => S.bd (un .not x4) fun x5 => S.bd (S.gd x5 false (lal c2 0 2)) fun x6 => S.bd (S.gd x5 false (leapfrogref01x_Right.r x6 s)) fun x7 => S.bd (S.gd x5 false (un .not x7)) fun x8 => S.bd (pik x5 (Go.Value.bool Bool.true) x8) fun x9 => S.cnd x9 (some ((Value.tuple ⟨[(Go.Value.int Go.IntKind.i64 0), (Go.Value.int Go.IntKind.i64 10)]⟩), s)) (S.bd (lal c1 0 2) fun x10 => S.bd (lal c2 0 2) fun x11 => S.bd (leapfrogref01x_Bits.v x10 s) fun r12 => S.bd (leapfrogref01x_Bits.v x11 r12.2) fun r13 => S.bd (leapfrogref01x_common.r r12.1 r13.1 r13.2) fun x14 => S.bd (lenL r12.1) fun x15 => S.bd (eqb [1] false false x14 x15) fun x16 => S.bd (S.gd x16 true (some x14)) fun x17 => S.bd (S.gd x16 true (some r13.1)) fun x18 => S.bd (S.gd x16 true (lenL x18)) fun x19 => S.bd (S.gd x16 true (eqb [1] false false x17 x19)) fun x20 => S.bd (pik x16 x20 (Go.Value.bool Bool.false)) fun x21 => S.cnd x21 (some ((Value.tuple ⟨[(Go.Value.int Go.IntKind.i64 0), (Go.Value.int Go.IntKind.i64 0)]⟩), r13.2)) (S.bd (lenL r12.1) fun x22 => S.bd (eqb [1] false false x14 x22) fun x23 => S.cnd x23 (some ((Value.tuple ⟨[(Go.Value.int Go.IntKind.i64 (-1)), (Go.Value.int Go.IntKind.i64 0)]⟩), r13.2)) (S.bd (lenL r13.1) fun x24 => S.bd (eqb [1] false false x14 x24) fun x25 => S.cnd x25 (some ((Value.tuple ⟨[(Go.Value.int Go.IntKind.i64 1), (Go.Value.int Go.IntKind.i64 0)]⟩), r13.2)) (S.bd (idx r13.2 1 r12.1 x14) fun x26 => S.bd (ldc r13.2 x26) fun x27 => S.bd (idx r13.2 1 r13.1 x14) fun x28 => S.bd (ldc r13.2 x28) fun x29 => S.bd (bin .lss x27 x29) fun x30 => S.cnd x30 (some ((Value.tuple ⟨[(Go.Value.int Go.IntKind.i64 (-1)), (Go.Value.int Go.IntKind.i64 0)]⟩), r13.2)) (some ((Value.tuple ⟨[(Go.Value.int Go.IntKind.i64 1), (Go.Value.int Go.IntKind.i64 0)]⟩), r13.2))))))
def leapfrogref01x_Compare.v (a0 a1 : Value) (s : St) : Option (Value × St) := leapfrogref01x_Compare.t std a0 a1 s
def leapfrogref01x_Compare.w : List Value → St → Option (Value × St)
  | [a0, a1], s => leapfrogref01x_Compare.v a0 a1 s
  | _, _ => none
def leapfrogref01x_Compare.an : An := ⟨55, false, [2, 3], [], [], [(3, [(0, 17, [], []), (2, 25, [], []), (1, 4, [], []), (3, 4, [], []), (4, 0, [], []), (5, 0, [], [])]), (11, [(0, 0, [], []), (1, 0, [], []), (2, 2, [], []), (3, 2, [], []), (4, 0, [], []), (5, 0, [], []), (6, 2, [], []), (7, 2, [], []), (8, 0, [], []), (9, 0, [], [])])]⟩
theorem leapfrogref01x_Compare.ok (S : Sig) (a0 a1 : Value) (s : St) : evF S Tryz.prog leapfrogref01x_Compare.ctx leapfrogref01x_Compare.an Tryz.f123 [a0, a1] s = leapfrogref01x_Compare.t S a0 a1 s := by kernel_rfl
theorem leapfrogref01x_Compare.cok : CtxOk Tryz.prog leapfrogref01x_Compare.ctx := .cons leapfrogref01x_Right.sound leapfrogref01x_Right.can <| .cons leapfrogref01x_Bits.sound leapfrogref01x_Bits.can <| .cons leapfrogref01x_common.sound leapfrogref01x_common.can <| .nil
theorem leapfrogref01x_Compare.draws : fnDraws leapfrogref01x_Compare.an Tryz.f123 = true := by kernel_rfl
theorem leapfrogref01x_Compare.can : callOk Tryz.prog 123 = true := by kernel_rfl
theorem leapfrogref01x_Compare.sound : FnOk Tryz.prog 123 (.st leapfrogref01x_Compare.w) := FnOk.st_of (evF_ok leapfrogref01x_Compare.cok mixed (f := 123) (fn := Tryz.f123) (by kernel_rfl) leapfrogref01x_Compare.draws) fun args s r h => by
  unfold leapfrogref01x_Compare.w at h; split at h
  · rw [leapfrogref01x_Compare.ok std]; exact h
  · simp at h

/-! ### leapfrog/leapfrogref01.Compare: function 123, as a reading -/
def leapfrogref01x_CompareQ.r (a0 a1 : Value) (s : St) : Option Value := frzR (fun s => leapfrogref01x_Compare.v a0 a1 s) s
def leapfrogref01x_CompareQ.w : List Value → St → Option Value := fun args s => frzR (leapfrogref01x_Compare.w args) s
theorem leapfrogref01x_CompareQ.can : callOk Tryz.prog 123 = true := leapfrogref01x_Compare.can
theorem leapfrogref01x_CompareQ.sound : FnOk Tryz.prog 123 (.rd leapfrogref01x_CompareQ.w) := FnOk.frozen leapfrogref01x_Compare.sound

/-! ### leapfrog/leapfrogref01.Begins: function 107 -/
def leapfrogref01x_Begins.ctx : Ctx := [(59, .rd leapfrogref01x_Right.w), (94, .st leapfrogref01x_Bits.w), (124, .rd leapfrogref01x_common.w)]
def leapfrogref01x_Begins.t (S : Sig) (a0 a1 : Value) (s : St) : Option (Value × St) :=
  S.bd (bx a0) fun c1 => S.bd (bx a1) fun c2 => S.bd (lal c1 0 2) fun x3 => S.bd (leapfrogref01x_Right.r x3 s) fun x4 => S.bd (S.gd x4 true (lal c2 0 2)) fun x5 => S.bd (S.gd x4 true (leapfrogref01x_Right.r x5 s)) fun x6 => S.bd (pik x4 x6 (Go.Value.bool Bool.false)) fun x7 => S.bd (S.gd x7 true (lal c1 0 2)) fun x8 => S.bd (S.gd x7 true (lal c2 0 2)) fun x9 => S.bd (S.gd x7 true (lcl c2 0)) fun x10 => S.bd (S.gdS x7 true (leapfrogref01x_Bits.v x8 s) s) fun r11 => S.bd (S.gdS x7 true (leapfrogref01x_Bits.v x9 r11.2) r11.2) fun r12 => S.bd (S.gd x7 true (leapfrogref01x_common.r r11.1 r12.1 r12.2)) fun x13 => S.bd (S.gd x7 true (eqb [1] false false x13 x10)) fun x14 => S.bd (pik x7 x14 (Go.Value.bool Bool.false)) fun x15 => some (x15, r12.2)
def leapfrogref01x_Begins.v (a0 a1 : Value) (s : St) : Option (Value × St) := leapfrogref01x_Begins.t std a0 a1 s
def leapfrogref01x_Begins.w : List Value → St → Option (Value × St)
  | [a0, a1], s => leapfrogref01x_Begins.v a0 a1 s
  | _, _ => none
def leapfrogref01x_Begins.an : An := ⟨21, false, [2, 3], [], [], [(1, [(0, 17, [], []), (1, 3, [], []), (2, 0, [], []), (3, 25, [], []), (4, 3, [], []), (5, 0, [], []), (6, 0, [], []), (7, 17, [], []), (9, 25, [], []), (12, 0, [], []), (13, 25, [], []), (8, 4, [], []), (10, 4, [], []), (11, 3, [], []), (14, 0, [], []), (15, 0, [], []), (16, 0, [], [])])]⟩
theorem leapfrogref01x_Begins.ok (S : Sig) (a0 a1 : Value) (s : St) : evF S Tryz.prog leapfrogref01x_Begins.ctx leapfrogref01x_Begins.an Tryz.f107 [a0, a1] s = leapfrogref01x_Begins.t S a0 a1 s := by kernel_rfl
theorem leapfrogref01x_Begins.cok : CtxOk Tryz.prog leapfrogref01x_Begins.ctx := .cons leapfrogref01x_Right.sound leapfrogref01x_Right.can <| .cons leapfrogref01x_Bits.sound leapfrogref01x_Bits.can <| .cons leapfrogref01x_common.sound leapfrogref01x_common.can <| .nil
theorem leapfrogref01x_Begins.draws : fnDraws leapfrogref01x_Begins.an Tryz.f107 = true := by kernel_rfl
theorem leapfrogref01x_Begins.can : callOk Tryz.prog 107 = true := by kernel_rfl
theorem leapfrogref01x_Begins.sound : FnOk Tryz.prog 107 (.st leapfrogref01x_Begins.w) := FnOk.st_of (evF_ok leapfrogref01x_Begins.cok mixed (f := 107) (fn := Tryz.f107) (by kernel_rfl) leapfrogref01x_Begins.draws) fun args s r h => by
  unfold leapfrogref01x_Begins.w at h; split at h
  · rw [leapfrogref01x_Begins.ok std]; exact h
  · simp at h

/-! ### leapfrog/leapfrogref01.Begins: function 107, as a reading -/
def leapfrogref01x_BeginsQ.r (a0 a1 : Value) (s : St) : Option Value := frzR (fun s => leapfrogref01x_Begins.v a0 a1 s) s
def leapfrogref01x_BeginsQ.w : List Value → St → Option Value := fun args s => frzR (leapfrogref01x_Begins.w args) s
theorem leapfrogref01x_BeginsQ.can : callOk Tryz.prog 107 = true := leapfrogref01x_Begins.can
theorem leapfrogref01x_BeginsQ.sound : FnOk Tryz.prog 107 (.rd leapfrogref01x_BeginsQ.w) := FnOk.frozen leapfrogref01x_Begins.sound

/-! ### leapfrog/leapfrogref09.Less: function 104 -/
def leapfrogref09x_Less.ctx : Ctx := []
def leapfrogref09x_Less.t (S : Sig) (a0 a1 : Value) (s : St) : Option Value :=
  S.bd (bx a0) fun c1 => S.bd (bx a1) fun c2 => S.bd (lcl c1 0) fun x3 => S.bd (lcl c2 0) fun x4 => S.bd (bin .lss x3 x4) fun x5 => S.bd (S.gd x5 false (lcl c1 0)) fun x6 => S.bd (S.gd x5 false (lcl c2 0)) fun x7 => S.bd (S.gd x5 false (eqb [1] false false x6 x7)) fun x8 => S.bd (S.gd x5 false (some x8)) fun x9 => S.bd (S.gd x9 true (lcl c1 1)) fun x10 => S.bd (S.gd x9 true (lcl c2 1)) fun x11 => S.bd (S.gd x9 true (bin .lss x10 x11)) fun x12 => S.bd (S.gd x5 false (pik x9 x12 (Go.Value.bool Bool.false))) fun x13 => S.bd (pik x5 (Go.Value.bool Bool.true) x13) fun x14 => some (x14)
def leapfrogref09x_Less.r (a0 a1 : Value) (s : St) : Option Value := leapfrogref09x_Less.t std a0 a1 s
def leapfrogref09x_Less.w : List Value → St → Option Value
  | [a0, a1], s => leapfrogref09x_Less.r a0 a1 s
  | _, _ => none
def leapfrogref09x_Less.an : An := ⟨24, true, [2, 3], [], [], []⟩
theorem leapfrogref09x_Less.ok (S : Sig) (a0 a1 : Value) (s : St) : evG S Tryz.prog leapfrogref09x_Less.ctx leapfrogref09x_Less.an Tryz.f104 [a0, a1] s = leapfrogref09x_Less.t S a0 a1 s := by kernel_rfl
theorem leapfrogref09x_Less.cok : CtxOk Tryz.prog leapfrogref09x_Less.ctx := .nil
theorem leapfrogref09x_Less.draws : fnDraws leapfrogref09x_Less.an Tryz.f104 = true := by kernel_rfl
theorem leapfrogref09x_Less.can : callOk Tryz.prog 104 = true := by kernel_rfl
theorem leapfrogref09x_Less.sound : FnOk Tryz.prog 104 (.rd leapfrogref09x_Less.w) := FnOk.rd_of (evG_ok leapfrogref09x_Less.cok mixed (f := 104) (fn := Tryz.f104) (by kernel_rfl) leapfrogref09x_Less.draws) fun args s r h => by
  unfold leapfrogref09x_Less.w at h; split at h
  · rw [leapfrogref09x_Less.ok std]; exact h
  · simp at h

/-! ### leapfrog/leapfrogref11.sorted: function 128 -/
def leapfrogref11x_sorted.ctx : Ctx := [(104, .rd leapfrogref09x_Less.w)]
def leapfrogref11x_sorted.l6 (S : Sig) (rec60 : List Value → St → Option Cut) (xs58 : List Value) (s59 : St) : Option Cut :=
  S.bd (lenL (xs58.getD 1 undef)) fun x61 => S.bd (bin .lss (xs58.getD 3 undef) x61) fun x62 => S.bd (S.gd x62 true (some (xs58.getD 1 undef))) fun x63 => S.bd (S.gd x62 true (some (xs58.getD 3 undef))) fun x64 => S.bd (S.gd x62 true (idx s59 5 x63 x64)) fun x65 => S.bd (S.gd x62 true (fld 1 x65)) fun x66 => S.bd (S.gd x62 true (lda s59 2 x66)) fun x67 => S.bd (S.gd x62 true (some (xs58.getD 0 undef))) fun x68 => S.bd (S.gd x62 true (some (xs58.getD 2 undef))) fun x69 => S.bd (S.gd x62 true (idx s59 5 x68 x69)) fun x70 => S.bd (S.gd x62 true (fld 1 x70)) fun x71 => S.bd (S.gd x62 true (lda s59 2 x71)) fun x72 => S.bd (S.gd x62 true (leapfrogref09x_Less.r x67 x72 s59)) fun x73 => S.bd (pik x62 x73 (Go.Value.bool Bool.false)) fun x74 => S.cnd x74 (S.bd (bin .add (xs58.getD 3 undef) (Go.Value.int Go.IntKind.i64 1)) fun x75 => rec60 [(xs58.getD 0 undef), (xs58.getD 1 undef), (xs58.getD 2 undef), x75] s59) (some (0, [(xs58.getD 0 undef), (xs58.getD 1 undef), (xs58.getD 2 undef), (xs58.getD 3 undef), x63, x64, x65, x66, x67, x68, x69, x70, x71, x72, x73], s59))

def leapfrogref11x_sorted.l3.p1 (S : Sig) (xs53 : List Value) (s54 : St) (rec55 : List Value → St → Option Cut) : Option Cut :=
  S.bd (S.it (leapfrogref11x_sorted.l6 S) [(xs53.getD 0 undef), (xs53.getD 1 undef), (xs53.getD 2 undef), (Go.Value.int Go.IntKind.i64 0)] s54) fun r76 => S.bd (slc r76.2.2 5 (r76.2.1.getD 1 undef) none (some (r76.2.1.getD 3 undef)) none) fun x77 => S.bd (idx r76.2.2 5 (r76.2.1.getD 0 undef) (r76.2.1.getD 2 undef)) fun x78 => S.bd (lda r76.2.2 5 x78) fun x79 => S.bd (slc r76.2.2 5 (r76.2.1.getD 1 undef) (some (r76.2.1.getD 3 undef)) none none) fun x80 => S.bd (S.bd (bls 5 (List.replicate 1 [(Go.Value.int Go.IntKind.i64 0), (Go.Value.int Go.IntKind.i64 0), (Go.Value.int Go.IntKind.u64 0), (Go.Value.int Go.IntKind.i64 0), (Go.Value.int Go.IntKind.u64 0)]) [(0, x79)]) fun rows => als r76.2.2 5 1 rows) fun _ => S.bd (S.bd (bls 5 (List.replicate 0 [(Go.Value.int Go.IntKind.i64 0), (Go.Value.int Go.IntKind.i64 0), (Go.Value.int Go.IntKind.u64 0), (Go.Value.int Go.IntKind.i64 0), (Go.Value.int Go.IntKind.u64 0)]) []) fun rows => als r76.2.2 5 0 rows) fun r81 => S.bd (S.bd (bls 5 (List.replicate 1 [(Go.Value.int Go.IntKind.i64 0), (Go.Value.int Go.IntKind.i64 0), (Go.Value.int Go.IntKind.u64 0), (Go.Value.int Go.IntKind.i64 0), (Go.Value.int Go.IntKind.u64 0)]) [(0, x79)]) fun rows => als r81.2 5 1 rows) fun _ => S.bd (app r81.2 5 40 r81.1 x77) fun r82 => S.bd (idx r82.2 5 (r76.2.1.getD 0 undef) (r76.2.1.getD 2 undef)) fun x83 => S.cnd (Value.bool (sameV x83 x78)) (S.bd (lda r82.2 5 x78) fun x84 => S.cnd (Value.bool (sameV x84 x79)) (S.bd (slc r82.2 5 (r76.2.1.getD 1 undef) (some (r76.2.1.getD 3 undef)) none none) fun x85 => S.cnd (Value.bool (sameV x85 x80)) (S.bd (S.bd (bls 5 (List.replicate 1 [(Go.Value.int Go.IntKind.i64 0), (Go.Value.int Go.IntKind.i64 0), (Go.Value.int Go.IntKind.u64 0), (Go.Value.int Go.IntKind.i64 0), (Go.Value.int Go.IntKind.u64 0)]) [(0, x79)]) fun rows => als r82.2 5 1 rows) fun r86 => S.bd (app r86.2 5 40 r82.1 r86.1) fun r87 => S.bd (idx r87.2 5 (r76.2.1.getD 0 undef) (r76.2.1.getD 2 undef)) fun x88 => S.cnd (Value.bool (sameV x88 x78)) (S.bd (slc r87.2 5 (r76.2.1.getD 1 undef) (some (r76.2.1.getD 3 undef)) none none) fun x89 => S.cnd (Value.bool (sameV x89 x80)) (S.bd (app r87.2 5 40 r87.1 x80) fun r90 => S.bd (idx r90.2 5 (r76.2.1.getD 0 undef) (r76.2.1.getD 2 undef)) fun x91 => S.cnd (Value.bool (sameV x91 x78)) (S.bd (bin .add (r76.2.1.getD 2 undef) (Go.Value.int Go.IntKind.i64 1)) fun x92 => rec55 [(r76.2.1.getD 0 undef), r90.1, x92] r90.2) (none)) (none)) (none)) (none)) (none)) (none)

def leapfrogref11x_sorted.l3 (S : Sig) (rec55 : List Value → St → Option Cut) (xs53 : List Value) (s54 : St) : Option Cut :=
  S.bd (lenL (xs53.getD 0 undef)) fun x56 => S.bd (bin .lss (xs53.getD 2 undef) x56) fun x57 => S.cnd x57 (leapfrogref11x_sorted.l3.p1 S xs53 s54 rec55) (some (0, [(xs53.getD 1 undef)], s54))

def leapfrogref11x_sorted.t (S : Sig) (a0 : Value) (s : St) : Option (Value × St) :=
  S.bd (S.it (leapfrogref11x_sorted.l3 S) [a0, (Go.Value.slice Option.none 0 0), (Go.Value.int Go.IntKind.i64 0)] s) fun r93 => some ((r93.2.1.getD 0 undef), r93.2.2)
def leapfrogref11x_sorted.v (a0 : Value) (s : St) : Option (Value × St) := leapfrogref11x_sorted.t std a0 s
def leapfrogref11x_sorted.w : List Value → St → Option (Value × St)
  | [a0], s => leapfrogref11x_sorted.v a0 s
  | _, _ => none
def leapfrogref11x_sorted.an : An := ⟨47, false, [], [(6, ⟨[.v 0, .v 3, .v 4, .v 5], [(.exit 2, [.v 0, .v 3, .v 4, .v 5, .v 17, .v 18, .v 19, .v 20, .v 21, .v 22, .v 23, .v 24, .v 25, .v 26, .v 27])]⟩), (3, ⟨[.v 0, .v 3, .v 4], [(.exit 0, [.v 3])]⟩)], [], [(6, [(0, 0, [], []), (1, 0, [], []), (2, 2, [], []), (3, 0, [], []), (4, 0, [], []), (5, 0, [], []), (6, 0, [], []), (7, 2, [], []), (8, 0, [], []), (9, 2, [], []), (10, 0, [], []), (11, 0, [], []), (12, 2, [], []), (13, 0, [], []), (14, 2, [], []), (15, 3, [], []), (16, 0, [], [])]), (8, [(1, 0, [], []), (2, 0, [], []), (3, 2, [], []), (5, 0, [], []), (6, 0, [], []), (7, 2, [], []), (8, 2, [], []), (11, 0, [], []), (12, 0, [], []), (13, 2, [], []), (0, 3, [], [9]), (4, 4, [7, 8, 13], [9]), (9, 3, [], []), (10, 4, [7, 13], []), (14, 4, [7], []), (15, 3, [], [])])]⟩
theorem leapfrogref11x_sorted.ok (S : Sig) (a0 : Value) (s : St) : evF S Tryz.prog leapfrogref11x_sorted.ctx leapfrogref11x_sorted.an Tryz.f128 [a0] s = leapfrogref11x_sorted.t S a0 s := by kernel_rfl
theorem leapfrogref11x_sorted.cok : CtxOk Tryz.prog leapfrogref11x_sorted.ctx := .cons leapfrogref09x_Less.sound leapfrogref09x_Less.can <| .nil
theorem leapfrogref11x_sorted.draws : fnDraws leapfrogref11x_sorted.an Tryz.f128 = true := by kernel_rfl
theorem leapfrogref11x_sorted.can : callOk Tryz.prog 128 = true := by kernel_rfl
theorem leapfrogref11x_sorted.sound : FnOk Tryz.prog 128 (.st leapfrogref11x_sorted.w) := FnOk.st_of (evF_ok leapfrogref11x_sorted.cok mixed (f := 128) (fn := Tryz.f128) (by kernel_rfl) leapfrogref11x_sorted.draws) fun args s r h => by
  unfold leapfrogref11x_sorted.w at h; split at h
  · rw [leapfrogref11x_sorted.ok std]; exact h
  · simp at h

/-! ### leapfrog/leapfrogref11.members: function 125 -/
def leapfrogref11x_members.ctx : Ctx := [(107, .rd leapfrogref01x_BeginsQ.w), (128, .st leapfrogref11x_sorted.w)]
def leapfrogref11x_members.l3 (S : Sig) (rec17 : List Value → St → Option Cut) (xs15 : List Value) (s16 : St) : Option Cut :=
  S.bd (lenL (xs15.getD 0 undef)) fun x18 => S.bd (bin .lss (xs15.getD 2 undef) x18) fun x19 => S.cnd x19 (S.bd (idx s16 5 (xs15.getD 0 undef) (xs15.getD 2 undef)) fun x20 => S.bd (fld 3 x20) fun x21 => S.bd (lda s16 2 x21) fun x22 => S.bd (lal (cellsA (xs15.getD 3 undef)) 0 2) fun x23 => S.bd (leapfrogref01x_BeginsQ.r x22 x23 s16) fun x24 => S.cnd x24 (S.bd (idx s16 5 (xs15.getD 0 undef) (xs15.getD 2 undef)) fun x25 => S.bd (lda s16 5 x25) fun x26 => S.bd (S.bd (bls 5 (List.replicate 1 [(Go.Value.int Go.IntKind.i64 0), (Go.Value.int Go.IntKind.i64 0), (Go.Value.int Go.IntKind.u64 0), (Go.Value.int Go.IntKind.i64 0), (Go.Value.int Go.IntKind.u64 0)]) [(0, x26)]) fun rows => als s16 5 1 rows) fun r27 => S.bd (app r27.2 5 40 (xs15.getD 1 undef) r27.1) fun r28 => S.bd (bin .add (xs15.getD 2 undef) (Go.Value.int Go.IntKind.i64 1)) fun x29 => rec17 [(xs15.getD 0 undef), r28.1, x29, (Value.agg ⟨(cellsA (xs15.getD 3 undef))⟩)] r28.2) (S.bd (bin .add (xs15.getD 2 undef) (Go.Value.int Go.IntKind.i64 1)) fun x30 => rec17 [(xs15.getD 0 undef), (xs15.getD 1 undef), x30, (Value.agg ⟨(cellsA (xs15.getD 3 undef))⟩)] s16)) (some (0, [(xs15.getD 1 undef)], s16))

def leapfrogref11x_members.t (S : Sig) (a0 a1 : Value) (s : St) : Option (Value × St) :=
  S.bd (bx a0) fun c1 => S.bd (S.it (leapfrogref11x_members.l3 S) [a1, (Go.Value.slice Option.none 0 0), (Go.Value.int Go.IntKind.i64 0), (Value.agg ⟨c1⟩)] s) fun r31 => S.bd (leapfrogref11x_sorted.v (r31.2.1.getD 0 undef) r31.2.2) fun r32 => some (r32.1, r32.2)
def leapfrogref11x_members.v (a0 a1 : Value) (s : St) : Option (Value × St) := leapfrogref11x_members.t std a0 a1 s
def leapfrogref11x_members.w : List Value → St → Option (Value × St)
  | [a0, a1], s => leapfrogref11x_members.v a0 a1 s
  | _, _ => none
def leapfrogref11x_members.an : An := ⟨29, false, [2], [(3, ⟨[.v 1, .p 2 2 0, .v 5, .v 6, .l 2], [(.exit 0, [.v 5])]⟩)], [], [(5, [(0, 0, [], []), (1, 0, [], []), (2, 2, [], []), (3, 0, [], []), (4, 2, [], []), (5, 17, [], []), (6, 3, [], [])])]⟩
theorem leapfrogref11x_members.ok (S : Sig) (a0 a1 : Value) (s : St) : evF S Tryz.prog leapfrogref11x_members.ctx leapfrogref11x_members.an Tryz.f125 [a0, a1] s = leapfrogref11x_members.t S a0 a1 s := by kernel_rfl
theorem leapfrogref11x_members.cok : CtxOk Tryz.prog leapfrogref11x_members.ctx := .cons leapfrogref01x_BeginsQ.sound leapfrogref01x_BeginsQ.can <| .cons leapfrogref11x_sorted.sound leapfrogref11x_sorted.can <| .nil
theorem leapfrogref11x_members.draws : fnDraws leapfrogref11x_members.an Tryz.f125 = true := by kernel_rfl
theorem leapfrogref11x_members.can : callOk Tryz.prog 125 = true := by kernel_rfl
theorem leapfrogref11x_members.sound : FnOk Tryz.prog 125 (.st leapfrogref11x_members.w) := FnOk.st_of (evF_ok leapfrogref11x_members.cok mixed (f := 125) (fn := Tryz.f125) (by kernel_rfl) leapfrogref11x_members.draws) fun args s r h => by
  unfold leapfrogref11x_members.w at h; split at h
  · rw [leapfrogref11x_members.ok std]; exact h
  · simp at h

/-! ### leapfrog/leapfrogref11.with: function 111 -/
def leapfrogref11x_with.ctx : Ctx := [(123, .rd leapfrogref01x_CompareQ.w), (125, .st leapfrogref11x_members.w)]
def leapfrogref11x_with.l2 (S : Sig) (rec16 : List Value → St → Option Cut) (xs14 : List Value) (s15 : St) : Option Cut :=
  S.bd (lenL (xs14.getD 0 undef)) fun x17 => S.bd (bin .lss (xs14.getD 2 undef) x17) fun x18 => S.cnd x18 (S.bd (idx s15 3 (xs14.getD 0 undef) (xs14.getD 2 undef)) fun x19 => S.bd (fld 0 x19) fun x20 => S.bd (lda s15 2 x20) fun x21 => S.bd (lal (cellsA (xs14.getD 3 undef)) 0 2) fun x22 => S.bd (leapfrogref01x_CompareQ.r x21 x22 s15) fun x23 => S.bd (xtr 0 x23) fun x24 => S.bd (xtr 1 x23) fun x25 => S.bd (eqb [1] false false x24 (Go.Value.int Go.IntKind.i64 0)) fun x26 => S.cnd x26 (some (1, [(xs14.getD 0 undef)], s15)) (S.bd (bin .gtr x24 (Go.Value.int Go.IntKind.i64 0)) fun x27 => S.cnd x27 (some (0, [(xs14.getD 0 undef), (xs14.getD 1 undef), (xs14.getD 2 undef), (Value.agg ⟨(cellsA (xs14.getD 3 undef))⟩)], s15)) (S.bd (bin .add (xs14.getD 2 undef) (Go.Value.int Go.IntKind.i64 1)) fun x28 => rec16 [(xs14.getD 0 undef), (xs14.getD 1 undef), x28, (Value.agg ⟨(cellsA (xs14.getD 3 undef))⟩)] s15))) (some (0, [(xs14.getD 0 undef), (xs14.getD 1 undef), (xs14.getD 2 undef), (Value.agg ⟨(cellsA (xs14.getD 3 undef))⟩)], s15))

def leapfrogref11x_with.t (S : Sig) (a0 a1 a2 : Value) (s : St) : Option (Value × St) :=
  S.bd (bx a1) fun c1 => S.bd (S.it (leapfrogref11x_with.l2 S) [a0, a2, (Go.Value.int Go.IntKind.i64 0), (Value.agg ⟨c1⟩)] s) fun r29 => if r29.1 = 0 then (S.bd (slc r29.2.2 3 (r29.2.1.getD 0 undef) none (some (r29.2.1.getD 2 undef)) none) fun x30 => S.bd (lal (cellsA (r29.2.1.getD 3 undef)) 0 2) fun x31 => S.bd (lal (cellsA (r29.2.1.getD 3 undef)) 0 2) fun x32 => S.bd (slc r29.2.2 3 (r29.2.1.getD 0 undef) (some (r29.2.1.getD 2 undef)) none none) fun x33 => S.bd (S.bd (bls 3 (List.replicate 0 [(Go.Value.int Go.IntKind.i64 0), (Go.Value.int Go.IntKind.u64 0), (Go.Value.slice Option.none 0 0)]) []) fun rows => als r29.2.2 3 0 rows) fun r34 => S.bd (app r34.2 3 40 r34.1 x30) fun r35 => S.bd (slc r35.2 3 (r29.2.1.getD 0 undef) (some (r29.2.1.getD 2 undef)) none none) fun x36 => S.cnd (Value.bool (sameV x36 x33)) (S.bd (leapfrogref11x_members.v x32 (r29.2.1.getD 1 undef) r35.2) fun r37 => S.bd (slc r37.2 3 (r29.2.1.getD 0 undef) (some (r29.2.1.getD 2 undef)) none none) fun x38 => S.cnd (Value.bool (sameV x38 x33)) (S.bd (bld [(Go.Value.int Go.IntKind.i64 0), (Go.Value.int Go.IntKind.u64 0), (Go.Value.slice Option.none 0 0)] [(0, 2, x31), (2, 1, r37.1)]) fun x39 => S.bd (S.bd (bls 3 (List.replicate 1 [(Go.Value.int Go.IntKind.i64 0), (Go.Value.int Go.IntKind.u64 0), (Go.Value.slice Option.none 0 0)]) [(0, x39)]) fun rows => als r37.2 3 1 rows) fun r40 => S.bd (app r40.2 3 40 r35.1 r40.1) fun r41 => S.bd (slc r41.2 3 (r29.2.1.getD 0 undef) (some (r29.2.1.getD 2 undef)) none none) fun x42 => S.cnd (Value.bool (sameV x42 x33)) (S.bd (app r41.2 3 40 r41.1 x33) fun r43 => some (r43.1, r43.2)) (none)) (none)) (none)) else (some ((r29.2.1.getD 0 undef), r29.2.2))
def leapfrogref11x_with.v (a0 a1 a2 : Value) (s : St) : Option (Value × St) := leapfrogref11x_with.t std a0 a1 a2 s
def leapfrogref11x_with.w : List Value → St → Option (Value × St)
  | [a0, a1, a2], s => leapfrogref11x_with.v a0 a1 a2 s
  | _, _ => none
def leapfrogref11x_with.an : An := ⟨47, false, [4], [(2, ⟨[.v 0, .v 2, .p 4 4 0, .v 7, .l 4], [(.exit 0, [.v 0, .v 2, .p 4 4 0, .v 7, .l 4]), (.ret, [.v 6])]⟩)], [], [(3, [(0, 0, [], []), (1, 0, [], []), (2, 2, [], []), (3, 0, [], []), (4, 2, [], []), (5, 33, [], []), (6, 3, [], []), (7, 0, [], []), (8, 0, [], []), (9, 0, [], []), (10, 0, [], []), (11, 0, [], [])]), (8, [(1, 0, [], []), (2, 0, [], []), (3, 2, [], []), (5, 33, [], []), (6, 33, [], []), (7, 0, [], []), (12, 0, [], []), (13, 0, [], []), (14, 2, [], []), (0, 3, [], []), (4, 4, [14], []), (8, 4, [14], []), (9, 0, [], []), (10, 3, [], []), (11, 4, [14], []), (15, 4, [], []), (16, 0, [], [])])]⟩
theorem leapfrogref11x_with.ok (S : Sig) (a0 a1 a2 : Value) (s : St) : evF S Tryz.prog leapfrogref11x_with.ctx leapfrogref11x_with.an Tryz.f111 [a0, a1, a2] s = leapfrogref11x_with.t S a0 a1 a2 s := by kernel_rfl
theorem leapfrogref11x_with.cok : CtxOk Tryz.prog leapfrogref11x_with.ctx := .cons leapfrogref01x_CompareQ.sound leapfrogref01x_CompareQ.can <| .cons leapfrogref11x_members.sound leapfrogref11x_members.can <| .nil
theorem leapfrogref11x_with.draws : fnDraws leapfrogref11x_with.an Tryz.f111 = true := by kernel_rfl
theorem leapfrogref11x_with.can : callOk Tryz.prog 111 = true := by kernel_rfl
theorem leapfrogref11x_with.sound : FnOk Tryz.prog 111 (.st leapfrogref11x_with.w) := FnOk.st_of (evF_ok leapfrogref11x_with.cok mixed (f := 111) (fn := Tryz.f111) (by kernel_rfl) leapfrogref11x_with.draws) fun args s r h => by
  unfold leapfrogref11x_with.w at h; split at h
  · rw [leapfrogref11x_with.ok std]; exact h
  · simp at h

/-! ### leapfrog/leapfrogref11.Lists: function 89 -/
def leapfrogref11x_Lists.ctx : Ctx := [(88, .rd leapfrogref11x_Check.w), (110, .st leapfrogref01x_Prefixes.w), (111, .st leapfrogref11x_with.w)]
def leapfrogref11x_Lists.l9 (S : Sig) (rec37 : List Value → St → Option Cut) (xs35 : List Value) (s36 : St) : Option Cut :=
  S.bd (lenL (xs35.getD 3 undef)) fun x38 => S.bd (bin .lss (xs35.getD 4 undef) x38) fun x39 => S.cnd x39 (S.bd (idx s36 2 (xs35.getD 3 undef) (xs35.getD 4 undef)) fun x40 => S.bd (lda s36 2 x40) fun x41 => S.bd (leapfrogref11x_with.v (xs35.getD 1 undef) x41 (xs35.getD 0 undef) s36) fun r42 => S.bd (bin .add (xs35.getD 4 undef) (Go.Value.int Go.IntKind.i64 1)) fun x43 => rec37 [(xs35.getD 0 undef), r42.1, (xs35.getD 2 undef), (xs35.getD 3 undef), x43] r42.2) (some (0, [(xs35.getD 0 undef), (xs35.getD 1 undef), (xs35.getD 2 undef)], s36))

def leapfrogref11x_Lists.l5 (S : Sig) (rec28 : List Value → St → Option Cut) (xs26 : List Value) (s27 : St) : Option Cut :=
  S.bd (lenL (xs26.getD 0 undef)) fun x29 => S.bd (bin .lss (xs26.getD 2 undef) x29) fun x30 => S.cnd x30 (S.bd (idx s27 5 (xs26.getD 0 undef) (xs26.getD 2 undef)) fun x31 => S.bd (fld 3 x31) fun x32 => S.bd (lda s27 2 x32) fun x33 => S.bd (leapfrogref01x_Prefixes.v x33 s27) fun r34 => S.bd (S.it (leapfrogref11x_Lists.l9 S) [(xs26.getD 0 undef), (xs26.getD 1 undef), (xs26.getD 2 undef), r34.1, (Go.Value.int Go.IntKind.i64 0)] r34.2) fun r44 => S.bd (bin .add (r44.2.1.getD 2 undef) (Go.Value.int Go.IntKind.i64 1)) fun x45 => rec28 [(r44.2.1.getD 0 undef), (r44.2.1.getD 1 undef), x45] r44.2.2) (some (0, [(xs26.getD 1 undef)], s27))

def leapfrogref11x_Lists.t (S : Sig) (a0 a1 : Value) (s : St) : Option (Value × St) :=
  S.bd (leapfrogref11x_Check.r a0 a1 s) fun x1 => S.bd (eqb [1] false true x1 (Go.Value.int Go.IntKind.i64 0)) fun x2 => S.cnd x2 (some ((Value.tuple ⟨[(Go.Value.slice Option.none 0 0), (Go.Value.int Go.IntKind.i64 110)]⟩), s)) (S.bd (S.it (leapfrogref11x_Lists.l5 S) [a1, (Go.Value.slice Option.none 0 0), (Go.Value.int Go.IntKind.i64 0)] s) fun r46 => some ((Value.tuple ⟨[(r46.2.1.getD 0 undef), (Go.Value.int Go.IntKind.i64 0)]⟩), r46.2.2))
def leapfrogref11x_Lists.v (a0 a1 : Value) (s : St) : Option (Value × St) := leapfrogref11x_Lists.t std a0 a1 s
def leapfrogref11x_Lists.w : List Value → St → Option (Value × St)
  | [a0, a1], s => leapfrogref11x_Lists.v a0 a1 s
  | _, _ => none
def leapfrogref11x_Lists.an : An := ⟨40, false, [], [(9, ⟨[.v 1, .v 6, .v 7, .v 8, .v 9], [(.exit 2, [.v 1, .v 6, .v 7])]⟩), (5, ⟨[.v 1, .v 6, .v 7], [(.exit 0, [.v 6])]⟩)], [], []⟩
theorem leapfrogref11x_Lists.ok (S : Sig) (a0 a1 : Value) (s : St) : evF S Tryz.prog leapfrogref11x_Lists.ctx leapfrogref11x_Lists.an Tryz.f89 [a0, a1] s = leapfrogref11x_Lists.t S a0 a1 s := by kernel_rfl
theorem leapfrogref11x_Lists.cok : CtxOk Tryz.prog leapfrogref11x_Lists.ctx := .cons leapfrogref11x_Check.sound leapfrogref11x_Check.can <| .cons leapfrogref01x_Prefixes.sound leapfrogref01x_Prefixes.can <| .cons leapfrogref11x_with.sound leapfrogref11x_with.can <| .nil
theorem leapfrogref11x_Lists.draws : fnDraws leapfrogref11x_Lists.an Tryz.f89 = true := by kernel_rfl
theorem leapfrogref11x_Lists.can : callOk Tryz.prog 89 = true := by kernel_rfl
theorem leapfrogref11x_Lists.sound : FnOk Tryz.prog 89 (.st leapfrogref11x_Lists.w) := FnOk.st_of (evF_ok leapfrogref11x_Lists.cok mixed (f := 89) (fn := Tryz.f89) (by kernel_rfl) leapfrogref11x_Lists.draws) fun args s r h => by
  unfold leapfrogref11x_Lists.w at h; split at h
  · rw [leapfrogref11x_Lists.ok std]; exact h
  · simp at h

/-! ### leapfrog/leapfrogref09.Head: function 109 -/
def leapfrogref09x_Head.ctx : Ctx := []
def leapfrogref09x_Head.t (S : Sig) (a0 : Value) (s : St) : Option Value :=
  S.bd (bx (Go.Value.agg #[(Go.Value.int Go.IntKind.i64 0), (Go.Value.int Go.IntKind.i64 0), (Go.Value.int Go.IntKind.u64 0), (Go.Value.int Go.IntKind.i64 0), (Go.Value.int Go.IntKind.u64 0)])) fun c1 => S.bd (bin .lss a0 (Go.Value.int Go.IntKind.i64 0)) fun x2 => S.bd (S.gd x2 false (some a0)) fun x3 => S.bd (S.gd x2 false (bin .gtr x3 (Go.Value.int Go.IntKind.i64 32))) fun x4 => S.bd (pik x2 (Go.Value.bool Bool.true) x4) fun x5 => S.cnd x5 (S.bd (bld [(Go.Value.int Go.IntKind.i64 0), (Go.Value.int Go.IntKind.i64 0), (Go.Value.int Go.IntKind.u64 0), (Go.Value.int Go.IntKind.i64 0), (Go.Value.int Go.IntKind.u64 0)] []) fun x6 => S.bd (stl c1 0 5 x6) fun c7 => S.bd (lal c7 0 5) fun x8 => some ((Value.tuple ⟨[x8, (Go.Value.int Go.IntKind.i64 90)]⟩))) (S.bd (bld [(Go.Value.int Go.IntKind.i64 0), (Go.Value.int Go.IntKind.u64 0)] [(0, 1, (Go.Value.int Go.IntKind.i64 1))]) fun x9 => S.bd (bld [(Go.Value.int Go.IntKind.i64 0), (Go.Value.int Go.IntKind.u64 0)] [(0, 1, a0)]) fun x10 => S.bd (bld [(Go.Value.int Go.IntKind.i64 0), (Go.Value.int Go.IntKind.i64 0), (Go.Value.int Go.IntKind.u64 0), (Go.Value.int Go.IntKind.i64 0), (Go.Value.int Go.IntKind.u64 0)] [(0, 1, (Go.Value.int Go.IntKind.i64 0)), (1, 2, x9), (3, 2, x10)]) fun x11 => S.bd (stl c1 0 5 x11) fun c12 => S.bd (lal c12 0 5) fun x13 => some ((Value.tuple ⟨[x13, (Go.Value.int Go.IntKind.i64 0)]⟩)))
def leapfrogref09x_Head.r (a0 : Value) (s : St) : Option Value := leapfrogref09x_Head.t std a0 s
def leapfrogref09x_Head.w : List Value → St → Option Value
  | [a0], s => leapfrogref09x_Head.r a0 s
  | _, _ => none
def leapfrogref09x_Head.an : An := ⟨15, true, [2], [], [], []⟩
theorem leapfrogref09x_Head.ok (S : Sig) (a0 : Value) (s : St) : evG S Tryz.prog leapfrogref09x_Head.ctx leapfrogref09x_Head.an Tryz.f109 [a0] s = leapfrogref09x_Head.t S a0 s := by kernel_rfl
theorem leapfrogref09x_Head.cok : CtxOk Tryz.prog leapfrogref09x_Head.ctx := .nil
theorem leapfrogref09x_Head.draws : fnDraws leapfrogref09x_Head.an Tryz.f109 = true := by kernel_rfl
theorem leapfrogref09x_Head.can : callOk Tryz.prog 109 = true := by kernel_rfl
theorem leapfrogref09x_Head.sound : FnOk Tryz.prog 109 (.rd leapfrogref09x_Head.w) := FnOk.rd_of (evG_ok leapfrogref09x_Head.cok mixed (f := 109) (fn := Tryz.f109) (by kernel_rfl) leapfrogref09x_Head.draws) fun args s r h => by
  unfold leapfrogref09x_Head.w at h; split at h
  · rw [leapfrogref09x_Head.ok std]; exact h
  · simp at h

/-! ### leapfrog/leapfrogref09.Tail: function 108 -/
def leapfrogref09x_Tail.ctx : Ctx := []
def leapfrogref09x_Tail.t (S : Sig) (a0 : Value) (s : St) : Option Value :=
  S.bd (bx (Go.Value.agg #[(Go.Value.int Go.IntKind.i64 0), (Go.Value.int Go.IntKind.i64 0), (Go.Value.int Go.IntKind.u64 0), (Go.Value.int Go.IntKind.i64 0), (Go.Value.int Go.IntKind.u64 0)])) fun c1 => S.bd (bin .lss a0 (Go.Value.int Go.IntKind.i64 0)) fun x2 => S.bd (S.gd x2 false (some a0)) fun x3 => S.bd (S.gd x2 false (bin .gtr x3 (Go.Value.int Go.IntKind.i64 32))) fun x4 => S.bd (pik x2 (Go.Value.bool Bool.true) x4) fun x5 => S.cnd x5 (S.bd (bld [(Go.Value.int Go.IntKind.i64 0), (Go.Value.int Go.IntKind.i64 0), (Go.Value.int Go.IntKind.u64 0), (Go.Value.int Go.IntKind.i64 0), (Go.Value.int Go.IntKind.u64 0)] []) fun x6 => S.bd (stl c1 0 5 x6) fun c7 => S.bd (lal c7 0 5) fun x8 => some ((Value.tuple ⟨[x8, (Go.Value.int Go.IntKind.i64 90)]⟩))) (S.bd (bld [(Go.Value.int Go.IntKind.i64 0), (Go.Value.int Go.IntKind.u64 0)] [(0, 1, (Go.Value.int Go.IntKind.i64 3))]) fun x9 => S.bd (bld [(Go.Value.int Go.IntKind.i64 0), (Go.Value.int Go.IntKind.u64 0)] [(0, 1, a0)]) fun x10 => S.bd (bld [(Go.Value.int Go.IntKind.i64 0), (Go.Value.int Go.IntKind.i64 0), (Go.Value.int Go.IntKind.u64 0), (Go.Value.int Go.IntKind.i64 0), (Go.Value.int Go.IntKind.u64 0)] [(0, 1, (Go.Value.int Go.IntKind.i64 1)), (1, 2, x9), (3, 2, x10)]) fun x11 => S.bd (stl c1 0 5 x11) fun c12 => S.bd (lal c12 0 5) fun x13 => some ((Value.tuple ⟨[x13, (Go.Value.int Go.IntKind.i64 0)]⟩)))
def leapfrogref09x_Tail.r (a0 : Value) (s : St) : Option Value := leapfrogref09x_Tail.t std a0 s
def leapfrogref09x_Tail.w : List Value → St → Option Value
  | [a0], s => leapfrogref09x_Tail.r a0 s
  | _, _ => none
def leapfrogref09x_Tail.an : An := ⟨15, true, [2], [], [], []⟩
theorem leapfrogref09x_Tail.ok (S : Sig) (a0 : Value) (s : St) : evG S Tryz.prog leapfrogref09x_Tail.ctx leapfrogref09x_Tail.an Tryz.f108 [a0] s = leapfrogref09x_Tail.t S a0 s := by kernel_rfl
theorem leapfrogref09x_Tail.cok : CtxOk Tryz.prog leapfrogref09x_Tail.ctx := .nil
theorem leapfrogref09x_Tail.draws : fnDraws leapfrogref09x_Tail.an Tryz.f108 = true := by kernel_rfl
theorem leapfrogref09x_Tail.can : callOk Tryz.prog 108 = true := by kernel_rfl
theorem leapfrogref09x_Tail.sound : FnOk Tryz.prog 108 (.rd leapfrogref09x_Tail.w) := FnOk.rd_of (evG_ok leapfrogref09x_Tail.cok mixed (f := 108) (fn := Tryz.f108) (by kernel_rfl) leapfrogref09x_Tail.draws) fun args s r h => by
  unfold leapfrogref09x_Tail.w at h; split at h
  · rw [leapfrogref09x_Tail.ok std]; exact h
  · simp at h

/-! ### leapfrog/leapfrogref11.Row: function 112 -/
def leapfrogref11x_Row.ctx : Ctx := [(109, .rd leapfrogref09x_Head.w), (108, .rd leapfrogref09x_Tail.w), (125, .st leapfrogref11x_members.w)]
def leapfrogref11x_Row.t.p1 (S : Sig) (x8 : Value) (c6 : List Value) (c1 : List Value) (s : St) (a2 : Value) : Option (Value × St) :=
  S.bd (bx (Go.Value.agg #[(Go.Value.int Go.IntKind.i64 0), (Go.Value.int Go.IntKind.i64 0), (Go.Value.int Go.IntKind.u64 0), (Go.Value.int Go.IntKind.i64 0), (Go.Value.int Go.IntKind.u64 0)])) fun c10 => S.bd (stl c10 0 5 x8) fun c11 => S.bd (lal c6 0 5) fun x12 => S.bd (lal c1 0 2) fun x13 => S.bd (lal c11 0 5) fun x14 => S.bd (S.bd (bls 5 (List.replicate 1 [(Go.Value.int Go.IntKind.i64 0), (Go.Value.int Go.IntKind.i64 0), (Go.Value.int Go.IntKind.u64 0), (Go.Value.int Go.IntKind.i64 0), (Go.Value.int Go.IntKind.u64 0)]) [(0, x12)]) fun rows => als s 5 1 rows) fun _ => S.bd (S.bd (bls 5 (List.replicate 1 [(Go.Value.int Go.IntKind.i64 0), (Go.Value.int Go.IntKind.i64 0), (Go.Value.int Go.IntKind.u64 0), (Go.Value.int Go.IntKind.i64 0), (Go.Value.int Go.IntKind.u64 0)]) [(0, x14)]) fun rows => als s 5 1 rows) fun _ => S.bd (leapfrogref11x_members.v x13 a2 s) fun r15 => S.bd (S.bd (bls 5 (List.replicate 1 [(Go.Value.int Go.IntKind.i64 0), (Go.Value.int Go.IntKind.i64 0), (Go.Value.int Go.IntKind.u64 0), (Go.Value.int Go.IntKind.i64 0), (Go.Value.int Go.IntKind.u64 0)]) [(0, x14)]) fun rows => als r15.2 5 1 rows) fun _ => S.bd (S.bd (bls 5 (List.replicate 1 [(Go.Value.int Go.IntKind.i64 0), (Go.Value.int Go.IntKind.i64 0), (Go.Value.int Go.IntKind.u64 0), (Go.Value.int Go.IntKind.i64 0), (Go.Value.int Go.IntKind.u64 0)]) [(0, x12)]) fun rows => als r15.2 5 1 rows) fun r16 => S.bd (S.bd (bls 5 (List.replicate 1 [(Go.Value.int Go.IntKind.i64 0), (Go.Value.int Go.IntKind.i64 0), (Go.Value.int Go.IntKind.u64 0), (Go.Value.int Go.IntKind.i64 0), (Go.Value.int Go.IntKind.u64 0)]) [(0, x14)]) fun rows => als r16.2 5 1 rows) fun _ => S.bd (app r16.2 5 40 r16.1 r15.1) fun r17 => S.bd (S.bd (bls 5 (List.replicate 1 [(Go.Value.int Go.IntKind.i64 0), (Go.Value.int Go.IntKind.i64 0), (Go.Value.int Go.IntKind.u64 0), (Go.Value.int Go.IntKind.i64 0), (Go.Value.int Go.IntKind.u64 0)]) [(0, x14)]) fun rows => als r17.2 5 1 rows) fun r18 => S.bd (app r18.2 5 40 r17.1 r18.1) fun r19 => some (r19.1, r19.2)

def leapfrogref11x_Row.t (S : Sig) (a0 a1 a2 : Value) (s : St) : Option (Value × St) :=
  S.bd (bx a1) fun c1 => S.bd (leapfrogref09x_Head.r a0 s) fun x2 => S.bd (xtr 0 x2) fun x3 => S.bd (xtr 1 x2) fun x4 => S.bd (bx (Go.Value.agg #[(Go.Value.int Go.IntKind.i64 0), (Go.Value.int Go.IntKind.i64 0), (Go.Value.int Go.IntKind.u64 0), (Go.Value.int Go.IntKind.i64 0), (Go.Value.int Go.IntKind.u64 0)])) fun c5 => S.bd (stl c5 0 5 x3) fun c6 => S.bd (leapfrogref09x_Tail.r a0 s) fun x7 => S.bd (xtr 0 x7) fun x8 => S.bd (xtr 1 x7) fun x9 => leapfrogref11x_Row.t.p1 S x8 c6 c1 s a2
def leapfrogref11x_Row.v (a0 a1 a2 : Value) (s : St) : Option (Value × St) := leapfrogref11x_Row.t std a0 a1 a2 s
def leapfrogref11x_Row.w : List Value → St → Option (Value × St)
  | [a0, a1, a2], s => leapfrogref11x_Row.v a0 a1 a2 s
  | _, _ => none
def leapfrogref11x_Row.an : An := ⟨30, false, [4, 7, 9], [], [], [(3, [(0, 57, [], []), (2, 33, [], []), (3, 0, [], []), (6, 73, [], []), (4, 4, [], [1, 7]), (1, 3, [], [7]), (5, 4, [], [7]), (7, 3, [], []), (8, 4, [], []), (9, 0, [], [])])]⟩
theorem leapfrogref11x_Row.ok (S : Sig) (a0 a1 a2 : Value) (s : St) : evF S Tryz.prog leapfrogref11x_Row.ctx leapfrogref11x_Row.an Tryz.f112 [a0, a1, a2] s = leapfrogref11x_Row.t S a0 a1 a2 s := by kernel_rfl
theorem leapfrogref11x_Row.cok : CtxOk Tryz.prog leapfrogref11x_Row.ctx := .cons leapfrogref09x_Head.sound leapfrogref09x_Head.can <| .cons leapfrogref09x_Tail.sound leapfrogref09x_Tail.can <| .cons leapfrogref11x_members.sound leapfrogref11x_members.can <| .nil
theorem leapfrogref11x_Row.draws : fnDraws leapfrogref11x_Row.an Tryz.f112 = true := by kernel_rfl
theorem leapfrogref11x_Row.can : callOk Tryz.prog 112 = true := by kernel_rfl
theorem leapfrogref11x_Row.sound : FnOk Tryz.prog 112 (.st leapfrogref11x_Row.w) := FnOk.st_of (evF_ok leapfrogref11x_Row.cok mixed (f := 112) (fn := Tryz.f112) (by kernel_rfl) leapfrogref11x_Row.draws) fun args s r h => by
  unfold leapfrogref11x_Row.w at h; split at h
  · rw [leapfrogref11x_Row.ok std]; exact h
  · simp at h

/-! ### leapfrog/leapfrogref11.beside: function 113 -/
def leapfrogref11x_beside.ctx : Ctx := []
def leapfrogref11x_beside.l2.p1 (S : Sig) (xs42 : List Value) (s43 : St) : Option Cut :=
  S.bd (bx (Go.Value.agg #[(Go.Value.int Go.IntKind.i64 0), (Go.Value.int Go.IntKind.i64 0), (Go.Value.int Go.IntKind.u64 0), (Go.Value.int Go.IntKind.i64 0), (Go.Value.int Go.IntKind.u64 0)])) fun c52 => S.bd (bx (Go.Value.agg #[(Go.Value.int Go.IntKind.i64 0), (Go.Value.int Go.IntKind.i64 0), (Go.Value.int Go.IntKind.u64 0), (Go.Value.int Go.IntKind.i64 0), (Go.Value.int Go.IntKind.u64 0)])) fun c53 => S.bd (show Option Cut from S.bd (bin .gtr (xs42.getD 2 undef) (Go.Value.int Go.IntKind.i64 0)) fun x54 => S.cnd x54 (S.bd (bin .sub (xs42.getD 2 undef) (Go.Value.int Go.IntKind.i64 1)) fun x55 => S.bd (idx s43 5 (xs42.getD 0 undef) x55) fun x56 => S.bd (lda s43 5 x56) fun x57 => S.bd (stl c52 0 5 x57) fun c58 => some (0, [(xs42.getD 0 undef), (xs42.getD 2 undef), (Value.agg ⟨(cellsA (xs42.getD 3 undef))⟩), (Value.agg ⟨(cellsA (xs42.getD 4 undef))⟩), (Value.agg ⟨c58⟩), (Value.agg ⟨c53⟩)], s43)) (some (0, [(xs42.getD 0 undef), (xs42.getD 2 undef), (Value.agg ⟨(cellsA (xs42.getD 3 undef))⟩), (Value.agg ⟨(cellsA (xs42.getD 4 undef))⟩), (Value.agg ⟨c52⟩), (Value.agg ⟨c53⟩)], s43))) fun r59 => S.bd (show Option Cut from S.bd (bin .add (r59.2.1.getD 1 undef) (Go.Value.int Go.IntKind.i64 1)) fun x60 => S.bd (lenL (r59.2.1.getD 0 undef)) fun x61 => S.bd (bin .lss x60 x61) fun x62 => S.cnd x62 (S.bd (bin .add (r59.2.1.getD 1 undef) (Go.Value.int Go.IntKind.i64 1)) fun x63 => S.bd (idx r59.2.2 5 (r59.2.1.getD 0 undef) x63) fun x64 => S.bd (lda r59.2.2 5 x64) fun x65 => S.bd (stl (cellsA (r59.2.1.getD 5 undef)) 0 5 x65) fun c66 => some (0, [(Value.agg ⟨(cellsA (r59.2.1.getD 2 undef))⟩), (Value.agg ⟨(cellsA (r59.2.1.getD 3 undef))⟩), (Value.agg ⟨(cellsA (r59.2.1.getD 4 undef))⟩), (Value.agg ⟨c66⟩)], r59.2.2)) (some (0, [(Value.agg ⟨(cellsA (r59.2.1.getD 2 undef))⟩), (Value.agg ⟨(cellsA (r59.2.1.getD 3 undef))⟩), (Value.agg ⟨(cellsA (r59.2.1.getD 4 undef))⟩), (Value.agg ⟨(cellsA (r59.2.1.getD 5 undef))⟩)], r59.2.2))) fun r67 => S.bd (lal (cellsA (r67.2.1.getD 2 undef)) 0 5) fun x68 => S.bd (lal (cellsA (r67.2.1.getD 3 undef)) 0 5) fun x69 => S.bd (stl (cellsA (r67.2.1.getD 0 undef)) 0 5 x68) fun c70 => S.bd (stl (cellsA (r67.2.1.getD 1 undef)) 0 5 x69) fun c71 => some (1, [(Go.Value.bool Bool.true), (Value.agg ⟨c70⟩), (Value.agg ⟨c71⟩)], r67.2.2)

def leapfrogref11x_beside.l2 (S : Sig) (rec44 : List Value → St → Option Cut) (xs42 : List Value) (s43 : St) : Option Cut :=
  S.bd (lenL (xs42.getD 0 undef)) fun x45 => S.bd (bin .lss (xs42.getD 2 undef) x45) fun x46 => S.cnd x46 (S.bd (idx s43 5 (xs42.getD 0 undef) (xs42.getD 2 undef)) fun x47 => S.bd (fld 0 x47) fun x48 => S.bd (ldc s43 x48) fun x49 => S.bd (eqb [1] false true x49 (xs42.getD 1 undef)) fun x50 => S.cnd x50 (S.bd (bin .add (xs42.getD 2 undef) (Go.Value.int Go.IntKind.i64 1)) fun x51 => rec44 [(xs42.getD 0 undef), (xs42.getD 1 undef), x51, (Value.agg ⟨(cellsA (xs42.getD 3 undef))⟩), (Value.agg ⟨(cellsA (xs42.getD 4 undef))⟩)] s43) (leapfrogref11x_beside.l2.p1 S xs42 s43)) (some (0, [(Value.agg ⟨(cellsA (xs42.getD 3 undef))⟩), (Value.agg ⟨(cellsA (xs42.getD 4 undef))⟩)], s43))

def leapfrogref11x_beside.t (S : Sig) (a0 a1 : Value) (s : St) : Option Value :=
  S.bd (bx (Go.Value.agg #[(Go.Value.int Go.IntKind.i64 0), (Go.Value.int Go.IntKind.i64 0), (Go.Value.int Go.IntKind.u64 0), (Go.Value.int Go.IntKind.i64 0), (Go.Value.int Go.IntKind.u64 0)])) fun c1 => S.bd (bx (Go.Value.agg #[(Go.Value.int Go.IntKind.i64 0), (Go.Value.int Go.IntKind.i64 0), (Go.Value.int Go.IntKind.u64 0), (Go.Value.int Go.IntKind.i64 0), (Go.Value.int Go.IntKind.u64 0)])) fun c2 => S.bd (S.it (leapfrogref11x_beside.l2 S) [a0, a1, (Go.Value.int Go.IntKind.i64 0), (Value.agg ⟨c1⟩), (Value.agg ⟨c2⟩)] s) fun r72 => if r72.1 = 0 then (S.bd (bld [(Go.Value.int Go.IntKind.i64 0), (Go.Value.int Go.IntKind.i64 0), (Go.Value.int Go.IntKind.u64 0), (Go.Value.int Go.IntKind.i64 0), (Go.Value.int Go.IntKind.u64 0)] []) fun x75 => S.bd (bld [(Go.Value.int Go.IntKind.i64 0), (Go.Value.int Go.IntKind.i64 0), (Go.Value.int Go.IntKind.u64 0), (Go.Value.int Go.IntKind.i64 0), (Go.Value.int Go.IntKind.u64 0)] []) fun x76 => S.bd (stl (cellsA (r72.2.1.getD 0 undef)) 0 5 x75) fun c77 => S.bd (stl (cellsA (r72.2.1.getD 1 undef)) 0 5 x76) fun c78 => S.bd (lal c77 0 5) fun x79 => S.bd (lal c78 0 5) fun x80 => some ((Value.tuple ⟨[x79, x80, (Go.Value.bool Bool.false)]⟩))) else (S.bd (lal (cellsA (r72.2.1.getD 1 undef)) 0 5) fun x73 => S.bd (lal (cellsA (r72.2.1.getD 2 undef)) 0 5) fun x74 => some ((Value.tuple ⟨[x73, x74, (r72.2.1.getD 0 undef)]⟩)))
def leapfrogref11x_beside.r (a0 a1 : Value) (s : St) : Option Value := leapfrogref11x_beside.t std a0 a1 s
def leapfrogref11x_beside.w : List Value → St → Option Value
  | [a0, a1], s => leapfrogref11x_beside.r a0 a1 s
  | _, _ => none
def leapfrogref11x_beside.an : An := ⟨44, true, [4, 5, 8, 9], [(2, ⟨[.v 0, .v 1, .p 4 4 0, .p 5 5 0, .v 7, .l 4, .l 5], [(.exit 0, [.p 4 4 0, .p 5 5 0, .l 4, .l 5]), (.ret, [.p 4 4 0, .p 5 5 0, .v 6, .l 4, .l 5])]⟩)], [(8, ⟨[], [(.normal, [.v 0, .p 4 4 0, .p 5 5 0, .v 7, .p 8 8 0, .p 9 9 0, .l 4, .l 5, .l 8, .l 9])]⟩), (10, ⟨[], [(.normal, [.p 4 4 0, .p 5 5 0, .p 8 8 0, .p 9 9 0, .l 4, .l 5, .l 8, .l 9])]⟩)], [(10, [(0, 65, [], []), (1, 73, [], []), (2, 37, [], []), (3, 45, [], []), (4, 0, [], [])])]⟩
theorem leapfrogref11x_beside.ok (S : Sig) (a0 a1 : Value) (s : St) : evG S Tryz.prog leapfrogref11x_beside.ctx leapfrogref11x_beside.an Tryz.f113 [a0, a1] s = leapfrogref11x_beside.t S a0 a1 s := by kernel_rfl
theorem leapfrogref11x_beside.cok : CtxOk Tryz.prog leapfrogref11x_beside.ctx := .nil
theorem leapfrogref11x_beside.draws : fnDraws leapfrogref11x_beside.an Tryz.f113 = true := by kernel_rfl
theorem leapfrogref11x_beside.can : callOk Tryz.prog 113 = true := by kernel_rfl
theorem leapfrogref11x_beside.sound : FnOk Tryz.prog 113 (.rd leapfrogref11x_beside.w) := FnOk.rd_of (evG_ok leapfrogref11x_beside.cok mixed (f := 113) (fn := Tryz.f113) (by kernel_rfl) leapfrogref11x_beside.draws) fun args s r h => by
  unfold leapfrogref11x_beside.w at h; split at h
  · rw [leapfrogref11x_beside.ok std]; exact h
  · simp at h

/-! ### leapfrog/leapfrogref11.one: function 90 -/
def leapfrogref11x_one.ctx : Ctx := [(112, .st leapfrogref11x_Row.w), (113, .rd leapfrogref11x_beside.w)]
def leapfrogref11x_one.l8.p1 (S : Sig) (xs93 : List Value) (r101 : Value × St) (c108 : List Value) (c109 : List Value) (rec95 : List Value → St → Option Cut) : Option Cut :=
  S.bd (lcl (cellsA (xs93.getD 6 undef)) 8) fun x110 => S.bd (idx r101.2 3 (xs93.getD 3 undef) (xs93.getD 4 undef)) fun x111 => S.bd (fld 0 x111) fun x112 => S.bd (lda r101.2 2 x112) fun x113 => S.bd (lal c108 0 5) fun x114 => S.bd (lal c109 0 5) fun x115 => S.bd (bld [(Go.Value.int Go.IntKind.i64 0), (Go.Value.int Go.IntKind.u64 0), (Go.Value.int Go.IntKind.i64 0), (Go.Value.int Go.IntKind.i64 0), (Go.Value.int Go.IntKind.u64 0), (Go.Value.int Go.IntKind.i64 0), (Go.Value.int Go.IntKind.u64 0), (Go.Value.int Go.IntKind.i64 0), (Go.Value.int Go.IntKind.i64 0), (Go.Value.int Go.IntKind.u64 0), (Go.Value.int Go.IntKind.i64 0), (Go.Value.int Go.IntKind.u64 0), (Go.Value.bool Bool.false), (Go.Value.int Go.IntKind.i64 0), (Go.Value.int Go.IntKind.i64 0), (Go.Value.slice Option.none 0 0)] [(0, 2, x113), (2, 5, x114), (7, 5, x115)]) fun x116 => S.bd (S.bd (bls 16 (List.replicate 1 [(Go.Value.int Go.IntKind.i64 0), (Go.Value.int Go.IntKind.u64 0), (Go.Value.int Go.IntKind.i64 0), (Go.Value.int Go.IntKind.i64 0), (Go.Value.int Go.IntKind.u64 0), (Go.Value.int Go.IntKind.i64 0), (Go.Value.int Go.IntKind.u64 0), (Go.Value.int Go.IntKind.i64 0), (Go.Value.int Go.IntKind.i64 0), (Go.Value.int Go.IntKind.u64 0), (Go.Value.int Go.IntKind.i64 0), (Go.Value.int Go.IntKind.u64 0), (Go.Value.bool Bool.false), (Go.Value.int Go.IntKind.i64 0), (Go.Value.int Go.IntKind.i64 0), (Go.Value.slice Option.none 0 0)]) [(0, x116)]) fun rows => als r101.2 16 1 rows) fun r117 => S.bd (app r117.2 16 144 x110 r117.1) fun r118 => S.bd (idx r118.2 3 (xs93.getD 3 undef) (xs93.getD 4 undef)) fun x119 => S.cnd (Value.bool (sameV x119 x111)) (S.bd (lda r118.2 2 x112) fun x120 => S.cnd (Value.bool (sameV x120 x113)) (S.bd (stl (cellsA (xs93.getD 6 undef)) 8 1 r118.1) fun c121 => S.bd (bin .add (xs93.getD 4 undef) (Go.Value.int Go.IntKind.i64 1)) fun x122 => rec95 [(xs93.getD 0 undef), (xs93.getD 1 undef), (xs93.getD 2 undef), (xs93.getD 3 undef), x122, (Value.agg ⟨(cellsA (xs93.getD 5 undef))⟩), (Value.agg ⟨c121⟩)] r118.2) (none)) (none)

def leapfrogref11x_one.l8 (S : Sig) (rec95 : List Value → St → Option Cut) (xs93 : List Value) (s94 : St) : Option Cut :=
  S.bd (lenL (xs93.getD 3 undef)) fun x96 => S.bd (bin .lss (xs93.getD 4 undef) x96) fun x97 => S.cnd x97 (S.bd (idx s94 3 (xs93.getD 3 undef) (xs93.getD 4 undef)) fun x98 => S.bd (fld 0 x98) fun x99 => S.bd (lda s94 2 x99) fun x100 => S.bd (leapfrogref11x_Row.v (xs93.getD 0 undef) x100 (xs93.getD 2 undef) s94) fun r101 => S.bd (leapfrogref11x_beside.r r101.1 (xs93.getD 1 undef) r101.2) fun x102 => S.bd (xtr 0 x102) fun x103 => S.bd (xtr 1 x102) fun x104 => S.bd (xtr 2 x102) fun x105 => S.bd (bx (Go.Value.agg #[(Go.Value.int Go.IntKind.i64 0), (Go.Value.int Go.IntKind.i64 0), (Go.Value.int Go.IntKind.u64 0), (Go.Value.int Go.IntKind.i64 0), (Go.Value.int Go.IntKind.u64 0)])) fun c106 => S.bd (bx (Go.Value.agg #[(Go.Value.int Go.IntKind.i64 0), (Go.Value.int Go.IntKind.i64 0), (Go.Value.int Go.IntKind.u64 0), (Go.Value.int Go.IntKind.i64 0), (Go.Value.int Go.IntKind.u64 0)])) fun c107 => S.bd (stl c106 0 5 x103) fun c108 => S.bd (stl c107 0 5 x104) fun c109 => S.cnd x105 (leapfrogref11x_one.l8.p1 S xs93 r101 c108 c109 rec95) (S.bd (bin .add (xs93.getD 4 undef) (Go.Value.int Go.IntKind.i64 1)) fun x123 => rec95 [(xs93.getD 0 undef), (xs93.getD 1 undef), (xs93.getD 2 undef), (xs93.getD 3 undef), x123, (Value.agg ⟨(cellsA (xs93.getD 5 undef))⟩), (Value.agg ⟨(cellsA (xs93.getD 6 undef))⟩)] r101.2)) (some (0, [(Value.agg ⟨(cellsA (xs93.getD 5 undef))⟩), (Value.agg ⟨(cellsA (xs93.getD 6 undef))⟩)], s94))

def leapfrogref11x_one.l3 (S : Sig) (rec80 : List Value → St → Option Cut) (xs78 : List Value) (s79 : St) : Option Cut :=
  S.bd (lenL (xs78.getD 4 undef)) fun x81 => S.bd (bin .lss (xs78.getD 5 undef) x81) fun x82 => S.cnd x82 (S.bd (idx s79 5 (xs78.getD 4 undef) (xs78.getD 5 undef)) fun x83 => S.bd (fld 0 x83) fun x84 => S.bd (ldc s79 x84) fun x85 => S.bd (eqb [1] false true x85 (xs78.getD 1 undef)) fun x86 => S.cnd x86 (S.bd (bin .add (xs78.getD 5 undef) (Go.Value.int Go.IntKind.i64 1)) fun x87 => rec80 [(xs78.getD 0 undef), (xs78.getD 1 undef), (xs78.getD 2 undef), (xs78.getD 3 undef), (xs78.getD 4 undef), x87, (Value.agg ⟨(cellsA (xs78.getD 6 undef))⟩)] s79) (S.bd (idx s79 5 (xs78.getD 4 undef) (xs78.getD 5 undef)) fun x88 => S.bd (lda s79 5 x88) fun x89 => S.bd (bld [(Go.Value.int Go.IntKind.i64 0), (Go.Value.int Go.IntKind.i64 0), (Go.Value.int Go.IntKind.u64 0), (Go.Value.int Go.IntKind.i64 0), (Go.Value.int Go.IntKind.u64 0), (Go.Value.slice Option.none 0 0), (Go.Value.bool Bool.false), (Go.Value.bool Bool.false), (Go.Value.slice Option.none 0 0)] [(0, 5, x89), (6, 1, (Go.Value.bool Bool.true))]) fun x90 => S.bd (bx (Go.Value.agg #[(Go.Value.int Go.IntKind.i64 0), (Go.Value.int Go.IntKind.i64 0), (Go.Value.int Go.IntKind.u64 0), (Go.Value.int Go.IntKind.i64 0), (Go.Value.int Go.IntKind.u64 0), (Go.Value.slice Option.none 0 0), (Go.Value.bool Bool.false), (Go.Value.bool Bool.false), (Go.Value.slice Option.none 0 0)])) fun c91 => S.bd (stl c91 0 9 x90) fun c92 => S.bd (S.it (leapfrogref11x_one.l8 S) [(xs78.getD 0 undef), (xs78.getD 1 undef), (xs78.getD 2 undef), (xs78.getD 3 undef), (Go.Value.int Go.IntKind.i64 0), (Value.agg ⟨(cellsA (xs78.getD 6 undef))⟩), (Value.agg ⟨c92⟩)] s79) fun r124 => S.bd (lal (cellsA (r124.2.1.getD 1 undef)) 0 9) fun x125 => S.bd (stl (cellsA (r124.2.1.getD 0 undef)) 0 9 x125) fun c126 => some (1, [(Go.Value.bool Bool.true), (Value.agg ⟨c126⟩)], r124.2.2))) (some (0, [(Value.agg ⟨(cellsA (xs78.getD 6 undef))⟩)], s79))

def leapfrogref11x_one.t (S : Sig) (a0 a1 a2 a3 : Value) (s : St) : Option (Value × St) :=
  S.bd (bx (Go.Value.agg #[(Go.Value.int Go.IntKind.i64 0), (Go.Value.int Go.IntKind.i64 0), (Go.Value.int Go.IntKind.u64 0), (Go.Value.int Go.IntKind.i64 0), (Go.Value.int Go.IntKind.u64 0), (Go.Value.slice Option.none 0 0), (Go.Value.bool Bool.false), (Go.Value.bool Bool.false), (Go.Value.slice Option.none 0 0)])) fun c1 => S.bd (bld [(Go.Value.int Go.IntKind.i64 0), (Go.Value.int Go.IntKind.u64 0)] []) fun x2 => S.bd (leapfrogref11x_Row.v a0 x2 a2 s) fun r3 => S.bd (S.it (leapfrogref11x_one.l3 S) [a0, a1, a2, a3, r3.1, (Go.Value.int Go.IntKind.i64 0), (Value.agg ⟨c1⟩)] r3.2) fun r127 => if r127.1 = 0 then (S.bd (bld [(Go.Value.int Go.IntKind.i64 0), (Go.Value.int Go.IntKind.i64 0), (Go.Value.int Go.IntKind.u64 0), (Go.Value.int Go.IntKind.i64 0), (Go.Value.int Go.IntKind.u64 0), (Go.Value.slice Option.none 0 0), (Go.Value.bool Bool.false), (Go.Value.bool Bool.false), (Go.Value.slice Option.none 0 0)] []) fun x129 => S.bd (stl (cellsA (r127.2.1.getD 0 undef)) 0 9 x129) fun c130 => S.bd (lal c130 0 9) fun x131 => some ((Value.tuple ⟨[x131, (Go.Value.bool Bool.false)]⟩), r127.2.2)) else (S.bd (lal (cellsA (r127.2.1.getD 1 undef)) 0 9) fun x128 => some ((Value.tuple ⟨[x128, (r127.2.1.getD 0 undef)]⟩), r127.2.2))
def leapfrogref11x_one.v (a0 a1 a2 a3 : Value) (s : St) : Option (Value × St) := leapfrogref11x_one.t std a0 a1 a2 a3 s
def leapfrogref11x_one.w : List Value → St → Option (Value × St)
  | [a0, a1, a2, a3], s => leapfrogref11x_one.v a0 a1 a2 a3 s
  | _, _ => none
def leapfrogref11x_one.an : An := ⟨75, false, [8, 12, 14, 15], [(8, ⟨[.v 0, .v 1, .v 2, .v 3, .p 8 8 0, .p 12 12 0, .v 13, .l 8, .l 12], [(.exit 2, [.p 8 8 0, .p 12 12 0, .l 8, .l 12])]⟩), (3, ⟨[.v 0, .v 1, .v 2, .v 3, .p 8 8 0, .v 10, .v 11, .l 8], [(.exit 0, [.p 8 8 0, .l 8]), (.ret, [.p 8 8 0, .v 9, .l 8])]⟩)], [], [(12, [(0, 0, [], []), (1, 97, [], []), (2, 0, [], []), (3, 0, [], []), (4, 2, [], []), (5, 0, [], []), (6, 2, [], []), (7, 113, [], []), (8, 121, [], []), (9, 0, [], []), (10, 3, [], []), (11, 4, [4, 6], []), (12, 0, [], []), (13, 101, [], [])])]⟩
theorem leapfrogref11x_one.ok (S : Sig) (a0 a1 a2 a3 : Value) (s : St) : evF S Tryz.prog leapfrogref11x_one.ctx leapfrogref11x_one.an Tryz.f90 [a0, a1, a2, a3] s = leapfrogref11x_one.t S a0 a1 a2 a3 s := by kernel_rfl
theorem leapfrogref11x_one.cok : CtxOk Tryz.prog leapfrogref11x_one.ctx := .cons leapfrogref11x_Row.sound leapfrogref11x_Row.can <| .cons leapfrogref11x_beside.sound leapfrogref11x_beside.can <| .nil
theorem leapfrogref11x_one.draws : fnDraws leapfrogref11x_one.an Tryz.f90 = true := by kernel_rfl
theorem leapfrogref11x_one.can : callOk Tryz.prog 90 = true := by kernel_rfl
theorem leapfrogref11x_one.sound : FnOk Tryz.prog 90 (.st leapfrogref11x_one.w) := FnOk.st_of (evF_ok leapfrogref11x_one.cok mixed (f := 90) (fn := Tryz.f90) (by kernel_rfl) leapfrogref11x_one.draws) fun args s r h => by
  unfold leapfrogref11x_one.w at h; split at h
  · rw [leapfrogref11x_one.ok std]; exact h
  · simp at h

/-! ### leapfrog/leapfrogref11.one: function 90, its garbage dropped -/
def leapfrogref11x_oneD.v (a0 a1 a2 a3 : Value) (s : St) : Option (Value × St) := dropR (fun s => leapfrogref11x_one.v a0 a1 a2 a3 s) s
def leapfrogref11x_oneD.w : List Value → St → Option (Value × St) := fun args s => dropR (leapfrogref11x_one.w args) s
theorem leapfrogref11x_oneD.can : callOk Tryz.prog 90 = true := leapfrogref11x_one.can
theorem leapfrogref11x_oneD.sound : FnOk Tryz.prog 90 (.st leapfrogref11x_oneD.w) := FnOk.dropped leapfrogref11x_one.sound

/-! ### leapfrog/leapfrogref11.Records: function 62 -/
def leapfrogref11x_Records.ctx : Ctx := [(88, .rd leapfrogref11x_Check.w), (89, .st leapfrogref11x_Lists.w), (90, .st leapfrogref11x_oneD.w)]
def leapfrogref11x_Records.l6 (S : Sig) (rec19 : List Value → St → Option Cut) (xs17 : List Value) (s18 : St) : Option Cut :=
  S.bd (bin .lss (xs17.getD 4 undef) (Go.Value.int Go.IntKind.i64 1024)) fun x20 => S.cnd x20 (S.bd (leapfrogref11x_oneD.v (xs17.getD 0 undef) (xs17.getD 4 undef) (xs17.getD 1 undef) (xs17.getD 2 undef) s18) fun r21 => S.bd (xtr 0 r21.1) fun x22 => S.bd (xtr 1 r21.1) fun x23 => S.bd (bx (Go.Value.agg #[(Go.Value.int Go.IntKind.i64 0), (Go.Value.int Go.IntKind.i64 0), (Go.Value.int Go.IntKind.u64 0), (Go.Value.int Go.IntKind.i64 0), (Go.Value.int Go.IntKind.u64 0), (Go.Value.slice Option.none 0 0), (Go.Value.bool Bool.false), (Go.Value.bool Bool.false), (Go.Value.slice Option.none 0 0)])) fun c24 => S.bd (stl c24 0 9 x22) fun c25 => S.cnd x23 (S.bd (lal c25 0 9) fun x26 => S.bd (S.bd (bls 9 (List.replicate 1 [(Go.Value.int Go.IntKind.i64 0), (Go.Value.int Go.IntKind.i64 0), (Go.Value.int Go.IntKind.u64 0), (Go.Value.int Go.IntKind.i64 0), (Go.Value.int Go.IntKind.u64 0), (Go.Value.slice Option.none 0 0), (Go.Value.bool Bool.false), (Go.Value.bool Bool.false), (Go.Value.slice Option.none 0 0)]) [(0, x26)]) fun rows => als r21.2 9 1 rows) fun r27 => S.bd (app r27.2 9 96 (xs17.getD 3 undef) r27.1) fun r28 => S.bd (bin .add (xs17.getD 4 undef) (Go.Value.int Go.IntKind.i64 1)) fun x29 => rec19 [(xs17.getD 0 undef), (xs17.getD 1 undef), (xs17.getD 2 undef), r28.1, x29] r28.2) (S.bd (bin .add (xs17.getD 4 undef) (Go.Value.int Go.IntKind.i64 1)) fun x30 => rec19 [(xs17.getD 0 undef), (xs17.getD 1 undef), (xs17.getD 2 undef), (xs17.getD 3 undef), x30] r21.2)) (some (0, [(xs17.getD 3 undef)], s18))

def leapfrogref11x_Records.t (S : Sig) (a0 a1 : Value) (s : St) : Option (Value × St) :=
  S.bd (leapfrogref11x_Check.r a0 a1 s) fun x1 => S.bd (eqb [1] false true x1 (Go.Value.int Go.IntKind.i64 0)) fun x2 => S.cnd x2 (some ((Value.tuple ⟨[(Go.Value.slice Option.none 0 0), (Go.Value.int Go.IntKind.i64 110)]⟩), s)) (S.bd (leapfrogref11x_Lists.v a0 a1 s) fun r3 => S.bd (xtr 0 r3.1) fun x4 => S.bd (xtr 1 r3.1) fun x5 => S.bd (S.it (leapfrogref11x_Records.l6 S) [a0, a1, x4, (Go.Value.slice Option.none 0 0), (Go.Value.int Go.IntKind.i64 0)] r3.2) fun r31 => some ((Value.tuple ⟨[(r31.2.1.getD 0 undef), (Go.Value.int Go.IntKind.i64 0)]⟩), r31.2.2))
def leapfrogref11x_Records.v (a0 a1 : Value) (s : St) : Option (Value × St) := leapfrogref11x_Records.t std a0 a1 s
def leapfrogref11x_Records.w : List Value → St → Option (Value × St)
  | [a0, a1], s => leapfrogref11x_Records.v a0 a1 s
  | _, _ => none
def leapfrogref11x_Records.an : An := ⟨40, false, [10], [(6, ⟨[.v 0, .v 1, .v 6, .v 8, .v 9], [(.exit 0, [.v 8])]⟩)], [], []⟩
theorem leapfrogref11x_Records.ok (S : Sig) (a0 a1 : Value) (s : St) : evF S Tryz.prog leapfrogref11x_Records.ctx leapfrogref11x_Records.an Tryz.f62 [a0, a1] s = leapfrogref11x_Records.t S a0 a1 s := by kernel_rfl
theorem leapfrogref11x_Records.cok : CtxOk Tryz.prog leapfrogref11x_Records.ctx := .cons leapfrogref11x_Check.sound leapfrogref11x_Check.can <| .cons leapfrogref11x_Lists.sound leapfrogref11x_Lists.can <| .cons leapfrogref11x_oneD.sound leapfrogref11x_oneD.can <| .nil
theorem leapfrogref11x_Records.draws : fnDraws leapfrogref11x_Records.an Tryz.f62 = true := by kernel_rfl
theorem leapfrogref11x_Records.can : callOk Tryz.prog 62 = true := by kernel_rfl
theorem leapfrogref11x_Records.sound : FnOk Tryz.prog 62 (.st leapfrogref11x_Records.w) := FnOk.st_of (evF_ok leapfrogref11x_Records.cok mixed (f := 62) (fn := Tryz.f62) (by kernel_rfl) leapfrogref11x_Records.draws) fun args s r h => by
  unfold leapfrogref11x_Records.w at h; split at h
  · rw [leapfrogref11x_Records.ok std]; exact h
  · simp at h

/-! ### leapfrog/leapfrogref11.Records: function 62, at one input -/
def leapfrogref11x_RecordsX0.S0 : St := ⟨[(0, .row 5 [[.int .i64 2, .int .i64 2, .int .u64 5, .int .i64 0, .int .u64 0], [.int .i64 3, .int .i64 2, .int .u64 9, .int .i64 0, .int .u64 0]] true)], 1⟩
def leapfrogref11x_RecordsX0.A : List Value := [(.int .i64 0), (.slice (some ⟨0, 0, some 0⟩) 2 4)]
def leapfrogref11x_RecordsX0.l6 (S : Sig) (rec19 : List Value → St → Option Cut) (xs17 : List Value) (s18 : St) : Option Cut :=
  S.bd (bin .lss (xs17.getD 4 undef) (Go.Value.int Go.IntKind.i64 8)) fun x20 => S.cnd x20 (S.bd (leapfrogref11x_oneD.v (xs17.getD 0 undef) (xs17.getD 4 undef) (xs17.getD 1 undef) (xs17.getD 2 undef) s18) fun r21 => S.bd (xtr 0 r21.1) fun x22 => S.bd (xtr 1 r21.1) fun x23 => S.bd (bx (Go.Value.agg #[(Go.Value.int Go.IntKind.i64 0), (Go.Value.int Go.IntKind.i64 0), (Go.Value.int Go.IntKind.u64 0), (Go.Value.int Go.IntKind.i64 0), (Go.Value.int Go.IntKind.u64 0), (Go.Value.slice Option.none 0 0), (Go.Value.bool Bool.false), (Go.Value.bool Bool.false), (Go.Value.slice Option.none 0 0)])) fun c24 => S.bd (stl c24 0 9 x22) fun c25 => S.cnd x23 (S.bd (lal c25 0 9) fun x26 => S.bd (S.bd (bls 9 (List.replicate 1 [(Go.Value.int Go.IntKind.i64 0), (Go.Value.int Go.IntKind.i64 0), (Go.Value.int Go.IntKind.u64 0), (Go.Value.int Go.IntKind.i64 0), (Go.Value.int Go.IntKind.u64 0), (Go.Value.slice Option.none 0 0), (Go.Value.bool Bool.false), (Go.Value.bool Bool.false), (Go.Value.slice Option.none 0 0)]) [(0, x26)]) fun rows => als r21.2 9 1 rows) fun r27 => S.bd (app r27.2 9 96 (xs17.getD 3 undef) r27.1) fun r28 => S.bd (bin .add (xs17.getD 4 undef) (Go.Value.int Go.IntKind.i64 1)) fun x29 => rec19 [(xs17.getD 0 undef), (xs17.getD 1 undef), (xs17.getD 2 undef), r28.1, x29] r28.2) (S.bd (bin .add (xs17.getD 4 undef) (Go.Value.int Go.IntKind.i64 1)) fun x30 => rec19 [(xs17.getD 0 undef), (xs17.getD 1 undef), (xs17.getD 2 undef), (xs17.getD 3 undef), x30] r21.2)) (some (0, [(xs17.getD 3 undef)], s18))
def leapfrogref11x_RecordsX0.t (S : Sig) (a0 a1 : Value) (s : St) : Option (Value × St) :=
  S.bd (leapfrogref11x_Check.r a0 a1 s) fun x1 => S.bd (eqb [1] false true x1 (Go.Value.int Go.IntKind.i64 0)) fun x2 => S.cnd x2 (some ((Value.tuple ⟨[(Go.Value.slice Option.none 0 0), (Go.Value.int Go.IntKind.i64 110)]⟩), s)) (S.bd (leapfrogref11x_Lists.v a0 a1 s) fun r3 => S.bd (xtr 0 r3.1) fun x4 => S.bd (xtr 1 r3.1) fun x5 => S.bd (S.it (leapfrogref11x_RecordsX0.l6 S) [a0, a1, x4, (Go.Value.slice Option.none 0 0), (Go.Value.int Go.IntKind.i64 0)] r3.2) fun r31 => some ((Value.tuple ⟨[(r31.2.1.getD 0 undef), (Go.Value.int Go.IntKind.i64 0)]⟩), r31.2.2))
def leapfrogref11x_RecordsX0.k (args : List Value) (s : St) : Option (Value × St) := leapfrogref11x_RecordsX0.t std (args.getD 0 undef) (args.getD 1 undef) s
def leapfrogref11x_RecordsX0.r3 : Option (Value × St) := leapfrogref11x_Lists.v (.int .i64 0) (.slice (some ⟨0, 0, some 0⟩) 2 4) leapfrogref11x_RecordsX0.S0
def leapfrogref11x_RecordsX0.x4 : Value := (leapfrogref11x_RecordsX0.r3.bind fun r => xtr 0 r.1).getD undef
def leapfrogref11x_RecordsX0.s1 : St := (leapfrogref11x_RecordsX0.r3.map (·.2)).getD ⟨[], 0⟩
def leapfrogref11x_RecordsX0.xs0 : List Value := [(.int .i64 0), (.slice (some ⟨0, 0, some 0⟩) 2 4), leapfrogref11x_RecordsX0.x4, (.slice none 0 0), (.int .i64 0)]
def leapfrogref11x_RecordsX0.cap : List Value → St → Option Cut := fun xs s => some (0, xs, s)
def leapfrogref11x_RecordsX0.c : Nat → Cut
  | 0 => (0, leapfrogref11x_RecordsX0.xs0, leapfrogref11x_RecordsX0.s1)
  | k + 1 => (leapfrogref11x_Records.l6 std leapfrogref11x_RecordsX0.cap (leapfrogref11x_RecordsX0.c k).2.1 (leapfrogref11x_RecordsX0.c k).2.2).getD (0, [], ⟨[], 0⟩)
def leapfrogref11x_RecordsX0.out : Value := (leapfrogref11x_RecordsX0.c 8).2.1.getD 3 undef
def leapfrogref11x_RecordsX0.sK : St := (leapfrogref11x_RecordsX0.c 8).2.2
def leapfrogref11x_RecordsX0.xs (j : Nat) : List Value := [(.int .i64 0), (.slice (some ⟨0, 0, some 0⟩) 2 4), leapfrogref11x_RecordsX0.x4, leapfrogref11x_RecordsX0.out, (.int .i64 (Int.ofNat (j + 8)))]
theorem leapfrogref11x_RecordsX0.first (rec : List Value → St → Option Cut) : leapfrogref11x_Records.l6 std (leapfrogref11x_Records.l6 std (leapfrogref11x_Records.l6 std (leapfrogref11x_Records.l6 std (leapfrogref11x_Records.l6 std (leapfrogref11x_Records.l6 std (leapfrogref11x_Records.l6 std (leapfrogref11x_Records.l6 std rec))))))) leapfrogref11x_RecordsX0.xs0 leapfrogref11x_RecordsX0.s1 = rec (leapfrogref11x_RecordsX0.xs 0) leapfrogref11x_RecordsX0.sK := by kernel_rfl
theorem leapfrogref11x_RecordsX0.short : iter (leapfrogref11x_RecordsX0.l6 std) BIG leapfrogref11x_RecordsX0.xs0 leapfrogref11x_RecordsX0.s1 = some (0, [leapfrogref11x_RecordsX0.out], leapfrogref11x_RecordsX0.sK) := by kernel_rfl
theorem leapfrogref11x_RecordsX0.one (rec : List Value → St → Option Cut) (j : Nat) : leapfrogref11x_Records.l6 std rec (leapfrogref11x_RecordsX0.xs j) leapfrogref11x_RecordsX0.sK =
    (bin .lss (.int .i64 (Int.ofNat (j + 8))) (.int .i64 1024)).bind fun x => cnd x ((bin .add (.int .i64 (Int.ofNat (j + 8))) (.int .i64 1)).bind fun y => rec [(.int .i64 0), (.slice (some ⟨0, 0, some 0⟩) 2 4), leapfrogref11x_RecordsX0.x4, leapfrogref11x_RecordsX0.out, y] leapfrogref11x_RecordsX0.sK) (some (0, [leapfrogref11x_RecordsX0.out], leapfrogref11x_RecordsX0.sK)) := by kernel_rfl
theorem leapfrogref11x_RecordsX0.step (rec : List Value → St → Option Cut) (j : Nat) (h : j < 1016) : leapfrogref11x_Records.l6 std rec (leapfrogref11x_RecordsX0.xs j) leapfrogref11x_RecordsX0.sK = rec (leapfrogref11x_RecordsX0.xs (j + 1)) leapfrogref11x_RecordsX0.sK := by
  rw [leapfrogref11x_RecordsX0.one, lss_i64 (by simp; omega), add_i64 (by simp; omega) (by simp; omega)]
  simp only [Option.bind_some, cnd, leapfrogref11x_RecordsX0.xs, show (Int.ofNat (j + 8) + 1 : Int) = Int.ofNat (j + 1 + 8) by simp; omega]
theorem leapfrogref11x_RecordsX0.last (rec : List Value → St → Option Cut) : leapfrogref11x_Records.l6 std rec (leapfrogref11x_RecordsX0.xs 1016) leapfrogref11x_RecordsX0.sK = some (0, [leapfrogref11x_RecordsX0.out], leapfrogref11x_RecordsX0.sK) := by kernel_rfl
theorem leapfrogref11x_RecordsX0.long : iter (leapfrogref11x_Records.l6 std) BIG leapfrogref11x_RecordsX0.xs0 leapfrogref11x_RecordsX0.s1 = some (0, [leapfrogref11x_RecordsX0.out], leapfrogref11x_RecordsX0.sK) := by
  have h := iter_count (f := leapfrogref11x_Records.l6 std) (xs := leapfrogref11x_RecordsX0.xs) (s := leapfrogref11x_RecordsX0.sK) leapfrogref11x_RecordsX0.step leapfrogref11x_RecordsX0.last 1016 0 4611686018427386879 rfl
  rw [show BIG = (4611686018427386879 + 1016 + 1) + 8 by decide, iter8]
  exact (leapfrogref11x_RecordsX0.first _).trans h
theorem leapfrogref11x_RecordsX0.way (it : {R : Type} → ((List Value → St → Option R) → List Value → St → Option R) → List Value → St → Option R) : leapfrogref11x_Records.t (stdIt it) (.int .i64 0) (.slice (some ⟨0, 0, some 0⟩) 2 4) leapfrogref11x_RecordsX0.S0 =
    (it (leapfrogref11x_Records.l6 (stdIt it)) leapfrogref11x_RecordsX0.xs0 leapfrogref11x_RecordsX0.s1).bind fun r => some ((Value.tuple ⟨[(r.2.1.getD 0 undef), (Go.Value.int Go.IntKind.i64 0)]⟩), r.2.2) := by kernel_rfl
theorem leapfrogref11x_RecordsX0.way2 (it : {R : Type} → ((List Value → St → Option R) → List Value → St → Option R) → List Value → St → Option R) : leapfrogref11x_RecordsX0.t (stdIt it) (.int .i64 0) (.slice (some ⟨0, 0, some 0⟩) 2 4) leapfrogref11x_RecordsX0.S0 =
    (it (leapfrogref11x_RecordsX0.l6 (stdIt it)) leapfrogref11x_RecordsX0.xs0 leapfrogref11x_RecordsX0.s1).bind fun r => some ((Value.tuple ⟨[(r.2.1.getD 0 undef), (Go.Value.int Go.IntKind.i64 0)]⟩), r.2.2) := by kernel_rfl
theorem leapfrogref11x_RecordsX0.lit : leapfrogref11x_Records.w leapfrogref11x_RecordsX0.A leapfrogref11x_RecordsX0.S0 = leapfrogref11x_RecordsX0.k leapfrogref11x_RecordsX0.A leapfrogref11x_RecordsX0.S0 := by
  have h1 := leapfrogref11x_RecordsX0.way fun f xs s => iter f BIG xs s
  have h2 := leapfrogref11x_RecordsX0.way2 fun f xs s => iter f BIG xs s
  rw [show iter (leapfrogref11x_Records.l6 (stdIt fun f xs s => iter f BIG xs s)) BIG leapfrogref11x_RecordsX0.xs0 leapfrogref11x_RecordsX0.s1 = _ from leapfrogref11x_RecordsX0.long] at h1
  rw [show iter (leapfrogref11x_RecordsX0.l6 (stdIt fun f xs s => iter f BIG xs s)) BIG leapfrogref11x_RecordsX0.xs0 leapfrogref11x_RecordsX0.s1 = _ from leapfrogref11x_RecordsX0.short] at h2
  exact h1.trans h2.symm
def leapfrogref11x_RecordsX0.w : List Value → St → Option (Value × St) := atOne leapfrogref11x_RecordsX0.A leapfrogref11x_RecordsX0.S0 leapfrogref11x_Records.w leapfrogref11x_RecordsX0.k
theorem leapfrogref11x_RecordsX0.can : callOk Tryz.prog 62 = true := leapfrogref11x_Records.can
theorem leapfrogref11x_RecordsX0.sound : FnOk Tryz.prog 62 (.st leapfrogref11x_RecordsX0.w) := FnOk.atOne leapfrogref11x_Records.sound (leapfrogref11x_RecordsX0.lit)
def leapfrogref11x_RecordsM.w : List Value → St → Option (Value × St) := movedAt leapfrogref11x_RecordsX0.w
def leapfrogref11x_RecordsM.v (a0 a1 : Value) (s : St) : Option (Value × St) := leapfrogref11x_RecordsM.w [a0, a1] s
theorem leapfrogref11x_RecordsM.can : callOk Tryz.prog 62 = true := leapfrogref11x_Records.can
theorem leapfrogref11x_RecordsM.sound : FnOk Tryz.prog 62 (.st leapfrogref11x_RecordsM.w) := FnOk.movedAt leapfrogref11x_RecordsX0.sound

/-! ### leapfrog/leapfrogref15.Quiet: function 41 -/
def leapfrogref15x_Quiet.ctx : Ctx := [(62, .st leapfrogref11x_RecordsM.w)]
def leapfrogref15x_Quiet.l10.p1 (S : Sig) (s142 : St) (xs141 : List Value) (rec143 : List Value → St → Option Cut) : Option Cut :=
  S.bd (idx s142 9 (xs141.getD 2 undef) (xs141.getD 4 undef)) fun x149 => S.bd (fld 8 x149) fun x150 => S.bd (ldc s142 x150) fun x151 => S.bd (idx s142 16 x151 (xs141.getD 6 undef)) fun x152 => S.bd (lda s142 16 x152) fun x153 => S.bd (bx (Go.Value.agg #[(Go.Value.int Go.IntKind.i64 0), (Go.Value.int Go.IntKind.u64 0), (Go.Value.int Go.IntKind.i64 0), (Go.Value.int Go.IntKind.i64 0), (Go.Value.int Go.IntKind.u64 0), (Go.Value.int Go.IntKind.i64 0), (Go.Value.int Go.IntKind.u64 0), (Go.Value.int Go.IntKind.i64 0), (Go.Value.int Go.IntKind.i64 0), (Go.Value.int Go.IntKind.u64 0), (Go.Value.int Go.IntKind.i64 0), (Go.Value.int Go.IntKind.u64 0), (Go.Value.bool Bool.false), (Go.Value.int Go.IntKind.i64 0), (Go.Value.int Go.IntKind.i64 0), (Go.Value.slice Option.none 0 0)])) fun c154 => S.bd (stl c154 0 16 x153) fun c155 => S.bd (nck (xs141.getD 5 undef)) fun x156 => S.bd (fld 9 x156) fun x157 => S.bd (ldc s142 x157) fun x158 => S.bd (lal c155 0 2) fun x159 => S.bd (lal c155 2 5) fun x160 => S.bd (lal c155 7 5) fun x161 => S.bd (bld [(Go.Value.int Go.IntKind.i64 0), (Go.Value.int Go.IntKind.u64 0), (Go.Value.int Go.IntKind.i64 0), (Go.Value.int Go.IntKind.i64 0), (Go.Value.int Go.IntKind.u64 0), (Go.Value.int Go.IntKind.i64 0), (Go.Value.int Go.IntKind.u64 0), (Go.Value.int Go.IntKind.i64 0), (Go.Value.int Go.IntKind.i64 0), (Go.Value.int Go.IntKind.u64 0), (Go.Value.int Go.IntKind.i64 0), (Go.Value.int Go.IntKind.u64 0), (Go.Value.bool Bool.false), (Go.Value.int Go.IntKind.i64 0), (Go.Value.int Go.IntKind.i64 0), (Go.Value.slice Option.none 0 0)] [(0, 2, x159), (2, 5, x160), (7, 5, x161)]) fun x162 => S.bd (S.bd (bls 16 (List.replicate 1 [(Go.Value.int Go.IntKind.i64 0), (Go.Value.int Go.IntKind.u64 0), (Go.Value.int Go.IntKind.i64 0), (Go.Value.int Go.IntKind.i64 0), (Go.Value.int Go.IntKind.u64 0), (Go.Value.int Go.IntKind.i64 0), (Go.Value.int Go.IntKind.u64 0), (Go.Value.int Go.IntKind.i64 0), (Go.Value.int Go.IntKind.i64 0), (Go.Value.int Go.IntKind.u64 0), (Go.Value.int Go.IntKind.i64 0), (Go.Value.int Go.IntKind.u64 0), (Go.Value.bool Bool.false), (Go.Value.int Go.IntKind.i64 0), (Go.Value.int Go.IntKind.i64 0), (Go.Value.slice Option.none 0 0)]) [(0, x162)]) fun rows => als s142 16 1 rows) fun r163 => S.bd (app r163.2 16 144 x158 r163.1) fun r164 => S.bd (nck (xs141.getD 5 undef)) fun x165 => S.bd (fld 9 x165) fun x166 => S.bd (stv r164.2 1 x166 r164.1) fun s167 => S.bd (bin .add (xs141.getD 6 undef) (Go.Value.int Go.IntKind.i64 1)) fun x168 => rec143 [(xs141.getD 0 undef), (xs141.getD 1 undef), (xs141.getD 2 undef), (xs141.getD 3 undef), (xs141.getD 4 undef), (xs141.getD 5 undef), x168] s167

def leapfrogref15x_Quiet.l10 (S : Sig) (rec143 : List Value → St → Option Cut) (xs141 : List Value) (s142 : St) : Option Cut :=
  S.bd (idx s142 9 (xs141.getD 2 undef) (xs141.getD 4 undef)) fun x144 => S.bd (fld 8 x144) fun x145 => S.bd (ldc s142 x145) fun x146 => S.bd (lenL x146) fun x147 => S.bd (bin .lss (xs141.getD 6 undef) x147) fun x148 => S.cnd x148 (leapfrogref15x_Quiet.l10.p1 S s142 xs141 rec143) (some (0, [(xs141.getD 0 undef), (xs141.getD 1 undef), (xs141.getD 2 undef), (xs141.getD 3 undef), (xs141.getD 4 undef), (xs141.getD 5 undef)], s142))

def leapfrogref15x_Quiet.l15 (S : Sig) (rec172 : List Value → St → Option Cut) (xs170 : List Value) (s171 : St) : Option Cut :=
  S.bd (lenL (xs170.getD 0 undef)) fun x173 => S.bd (bin .lss (xs170.getD 6 undef) x173) fun x174 => S.bd (S.gd x174 true (some (xs170.getD 6 undef))) fun x175 => S.bd (S.gd x174 true (some (xs170.getD 1 undef))) fun x176 => S.bd (S.gd x174 true (lenL x176)) fun x177 => S.bd (S.gd x174 true (bin .lss x175 x177)) fun x178 => S.bd (pik x174 x178 (Go.Value.bool Bool.false)) fun x179 => S.cnd x179 (S.bd (idx s171 5 (xs170.getD 0 undef) (xs170.getD 6 undef)) fun x180 => S.bd (fld 0 x180) fun x181 => S.bd (ldc s171 x181) fun x182 => S.bd (nck (xs170.getD 5 undef)) fun x183 => S.bd (fld 0 x183) fun x184 => S.bd (fld 0 x184) fun x185 => S.bd (ldc s171 x185) fun x186 => S.bd (eqb [1] false false x182 x186) fun x187 => S.cnd x187 (S.bd (S.bd (bls 1 (List.replicate 0 [(Go.Value.int Go.IntKind.u8 0)]) []) fun rows => als s171 1 0 rows) fun r188 => S.bd (idx r188.2 1 (xs170.getD 1 undef) (xs170.getD 6 undef)) fun x189 => S.bd (ldc r188.2 x189) fun x190 => S.bd (app r188.2 1 1 r188.1 x190) fun r191 => S.bd (nck (xs170.getD 5 undef)) fun x192 => S.bd (fld 5 x192) fun x193 => S.bd (stv r191.2 1 x193 r191.1) fun s194 => S.bd (bin .add (xs170.getD 6 undef) (Go.Value.int Go.IntKind.i64 1)) fun x195 => rec172 [(xs170.getD 0 undef), (xs170.getD 1 undef), (xs170.getD 2 undef), (xs170.getD 3 undef), (xs170.getD 4 undef), (xs170.getD 5 undef), x195] s194) (S.bd (bin .add (xs170.getD 6 undef) (Go.Value.int Go.IntKind.i64 1)) fun x196 => rec172 [(xs170.getD 0 undef), (xs170.getD 1 undef), (xs170.getD 2 undef), (xs170.getD 3 undef), (xs170.getD 4 undef), (xs170.getD 5 undef), x196] s171)) (some (0, [(xs170.getD 0 undef), (xs170.getD 1 undef), (xs170.getD 2 undef), (xs170.getD 3 undef), (xs170.getD 4 undef), (xs170.getD 5 undef), x175, x176, x177, x178], s171))

def leapfrogref15x_Quiet.l6 (S : Sig) (rec128 : List Value → St → Option Cut) (xs126 : List Value) (s127 : St) : Option Cut :=
  S.bd (lenL (xs126.getD 2 undef)) fun x129 => S.bd (bin .lss (xs126.getD 4 undef) x129) fun x130 => S.cnd x130 (S.bd (idx s127 9 (xs126.getD 2 undef) (xs126.getD 4 undef)) fun x131 => S.bd (fld 0 x131) fun x132 => S.bd (lda s127 5 x132) fun x133 => S.bd (idx s127 9 (xs126.getD 2 undef) (xs126.getD 4 undef)) fun x134 => S.bd (fld 0 x134) fun x135 => S.bd (fld 0 x135) fun x136 => S.bd (ldc s127 x136) fun x137 => S.bd (bin .lss x137 (Go.Value.int Go.IntKind.i64 2)) fun x138 => S.bd (bld [(Go.Value.int Go.IntKind.i64 0), (Go.Value.int Go.IntKind.i64 0), (Go.Value.int Go.IntKind.u64 0), (Go.Value.int Go.IntKind.i64 0), (Go.Value.int Go.IntKind.u64 0), (Go.Value.slice Option.none 0 0), (Go.Value.bool Bool.false), (Go.Value.bool Bool.false), (Go.Value.bool Bool.false), (Go.Value.slice Option.none 0 0), (Go.Value.slice Option.none 0 0)] [(0, 5, x133), (7, 1, (Go.Value.bool Bool.true)), (6, 1, x138)]) fun x139 => S.bd (alv s127 x139) fun r140 => S.bd (S.it (leapfrogref15x_Quiet.l10 S) [(xs126.getD 0 undef), (xs126.getD 1 undef), (xs126.getD 2 undef), (xs126.getD 3 undef), (xs126.getD 4 undef), r140.1, (Go.Value.int Go.IntKind.i64 0)] r140.2) fun r169 => S.bd (S.it (leapfrogref15x_Quiet.l15 S) [(r169.2.1.getD 0 undef), (r169.2.1.getD 1 undef), (r169.2.1.getD 2 undef), (r169.2.1.getD 3 undef), (r169.2.1.getD 4 undef), (r169.2.1.getD 5 undef), (Go.Value.int Go.IntKind.i64 0)] r169.2.2) fun r197 => S.bd (S.bd (bls 1 (List.replicate 1 [(Go.Value.pointer Option.none)]) [(0, (r197.2.1.getD 5 undef))]) fun rows => als r197.2.2 1 1 rows) fun r198 => S.bd (app r198.2 1 8 (r197.2.1.getD 3 undef) r198.1) fun r199 => S.bd (bin .add (r197.2.1.getD 4 undef) (Go.Value.int Go.IntKind.i64 1)) fun x200 => rec128 [(r197.2.1.getD 0 undef), (r197.2.1.getD 1 undef), (r197.2.1.getD 2 undef), r199.1, x200] r199.2) (some (0, [(xs126.getD 3 undef)], s127))

def leapfrogref15x_Quiet.t (S : Sig) (a0 a1 a2 : Value) (s : St) : Option (Value × St) :=
  S.bd (leapfrogref11x_RecordsM.v a0 a1 s) fun r1 => S.bd (xtr 0 r1.1) fun x2 => S.bd (xtr 1 r1.1) fun x3 => S.bd (eqb [1] false true x3 (Go.Value.int Go.IntKind.i64 0)) fun x4 => S.cnd x4 (some ((Go.Value.slice Option.none 0 0), r1.2)) (S.bd (S.it (leapfrogref15x_Quiet.l6 S) [a1, a2, x2, (Go.Value.slice Option.none 0 0), (Go.Value.int Go.IntKind.i64 0)] r1.2) fun r201 => some ((r201.2.1.getD 0 undef), r201.2.2))
def leapfrogref15x_Quiet.v (a0 a1 a2 : Value) (s : St) : Option (Value × St) := leapfrogref15x_Quiet.t std a0 a1 a2 s
def leapfrogref15x_Quiet.w : List Value → St → Option (Value × St)
  | [a0, a1, a2], s => leapfrogref15x_Quiet.v a0 a1 a2 s
  | _, _ => none
def leapfrogref15x_Quiet.an : An := ⟨114, false, [13], [(10, ⟨[.v 1, .v 2, .v 7, .v 9, .v 10, .v 11, .v 12], [(.exit 2, [.v 1, .v 2, .v 7, .v 9, .v 10, .v 11])]⟩), (15, ⟨[.v 1, .v 2, .v 7, .v 9, .v 10, .v 11, .v 14], [(.exit 4, [.v 1, .v 2, .v 7, .v 9, .v 10, .v 11, .v 82, .v 83, .v 84, .v 85])]⟩), (6, ⟨[.v 1, .v 2, .v 7, .v 9, .v 10], [(.exit 0, [.v 9])]⟩)], [], [(8, [(0, 0, [], []), (1, 0, [], []), (2, 2, [], []), (3, 0, [], []), (4, 2, [], []), (5, 0, [], []), (6, 0, [], []), (7, 2, [], []), (8, 0, [], []), (9, 0, [], []), (10, 2, [], []), (11, 0, [], []), (12, 0, [], []), (13, 3, [], []), (14, 0, [], [])]), (13, [(0, 0, [], []), (1, 0, [], []), (2, 0, [], []), (3, 0, [], []), (4, 2, [], []), (5, 0, [], []), (6, 105, [], []), (7, 0, [], []), (8, 105, [], []), (9, 0, [], []), (10, 105, [], []), (11, 0, [], []), (12, 3, [], []), (13, 4, [], []), (14, 0, [], []), (15, 0, [], []), (16, 4, [], [])]), (17, [(0, 0, [], []), (1, 0, [], []), (2, 2, [], []), (3, 0, [], []), (4, 2, [], []), (5, 0, [], []), (6, 0, [], []), (7, 0, [], []), (8, 0, [], []), (9, 2, [], []), (10, 0, [], [])])]⟩
theorem leapfrogref15x_Quiet.ok (S : Sig) (a0 a1 a2 : Value) (s : St) : evF S Tryz.prog leapfrogref15x_Quiet.ctx leapfrogref15x_Quiet.an Tryz.f41 [a0, a1, a2] s = leapfrogref15x_Quiet.t S a0 a1 a2 s := by kernel_rfl
theorem leapfrogref15x_Quiet.cok : CtxOk Tryz.prog leapfrogref15x_Quiet.ctx := .cons leapfrogref11x_RecordsM.sound leapfrogref11x_RecordsM.can <| .nil
theorem leapfrogref15x_Quiet.draws : fnDraws leapfrogref15x_Quiet.an Tryz.f41 = true := by kernel_rfl
theorem leapfrogref15x_Quiet.can : callOk Tryz.prog 41 = true := by kernel_rfl
theorem leapfrogref15x_Quiet.sound : FnOk Tryz.prog 41 (.st leapfrogref15x_Quiet.w) := FnOk.st_of (evF_ok leapfrogref15x_Quiet.cok mixed (f := 41) (fn := Tryz.f41) (by kernel_rfl) leapfrogref15x_Quiet.draws) fun args s r h => by
  unfold leapfrogref15x_Quiet.w at h; split at h
  · rw [leapfrogref15x_Quiet.ok std]; exact h
  · simp at h

/-! ### leapfrog/leapfroglaw17.two: function 23 -/
def leapfroglaw17x_two.ctx : Ctx := [(42, .rd leapfroglaw17x_at.w), (41, .st leapfrogref15x_Quiet.w)]
def leapfroglaw17x_two.t (S : Sig) (s : St) : Option (Value × St) :=
  S.bd (leapfroglaw17x_at.r (Go.Value.int Go.IntKind.u64 5) s) fun x1 => S.bd (bld [(Go.Value.int Go.IntKind.i64 0), (Go.Value.int Go.IntKind.i64 0), (Go.Value.int Go.IntKind.u64 0), (Go.Value.int Go.IntKind.i64 0), (Go.Value.int Go.IntKind.u64 0)] [(0, 1, (Go.Value.int Go.IntKind.i64 2)), (1, 2, x1)]) fun x2 => S.bd (leapfroglaw17x_at.r (Go.Value.int Go.IntKind.u64 9) s) fun x3 => S.bd (bld [(Go.Value.int Go.IntKind.i64 0), (Go.Value.int Go.IntKind.i64 0), (Go.Value.int Go.IntKind.u64 0), (Go.Value.int Go.IntKind.i64 0), (Go.Value.int Go.IntKind.u64 0)] [(0, 1, (Go.Value.int Go.IntKind.i64 3)), (1, 2, x3)]) fun x4 => S.bd (S.bd (bls 5 (List.replicate 2 [(Go.Value.int Go.IntKind.i64 0), (Go.Value.int Go.IntKind.i64 0), (Go.Value.int Go.IntKind.u64 0), (Go.Value.int Go.IntKind.i64 0), (Go.Value.int Go.IntKind.u64 0)]) [(0, x2), (1, x4)]) fun rows => als s 5 2 rows) fun r5 => S.bd (S.bd (bls 1 (List.replicate 4 [(Go.Value.int Go.IntKind.u8 0)]) [(0, (Go.Value.int Go.IntKind.u8 102)), (1, (Go.Value.int Go.IntKind.u8 105)), (2, (Go.Value.int Go.IntKind.u8 118)), (3, (Go.Value.int Go.IntKind.u8 101))]) fun rows => als r5.2 1 4 rows) fun r6 => S.bd (cvl r6.2 r6.1) fun r7 => S.bd (S.bd (bls 1 (List.replicate 4 [(Go.Value.int Go.IntKind.u8 0)]) [(0, (Go.Value.int Go.IntKind.u8 110)), (1, (Go.Value.int Go.IntKind.u8 105)), (2, (Go.Value.int Go.IntKind.u8 110)), (3, (Go.Value.int Go.IntKind.u8 101))]) fun rows => als r7.2 1 4 rows) fun r8 => S.bd (cvl r8.2 r8.1) fun r9 => S.bd (S.bd (bls 1 (List.replicate 2 [(Go.Value.slice Option.none 0 0)]) [(0, r7.1), (1, r9.1)]) fun rows => als r9.2 1 2 rows) fun r10 => S.bd (leapfrogref15x_Quiet.v (Go.Value.int Go.IntKind.i64 0) r5.1 r10.1 r10.2) fun r11 => some (r11.1, r11.2)
def leapfroglaw17x_two.v (s : St) : Option (Value × St) := leapfroglaw17x_two.t std  s
def leapfroglaw17x_two.w : List Value → St → Option (Value × St)
  | [], s => leapfroglaw17x_two.v  s
  | _, _ => none
def leapfroglaw17x_two.an : An := ⟨12, false, [], [], [], []⟩
theorem leapfroglaw17x_two.ok (S : Sig) (s : St) : evF S Tryz.prog leapfroglaw17x_two.ctx leapfroglaw17x_two.an Tryz.f23 [] s = leapfroglaw17x_two.t S  s := by kernel_rfl
theorem leapfroglaw17x_two.cok : CtxOk Tryz.prog leapfroglaw17x_two.ctx := .cons leapfroglaw17x_at.sound leapfroglaw17x_at.can <| .cons leapfrogref15x_Quiet.sound leapfrogref15x_Quiet.can <| .nil
theorem leapfroglaw17x_two.draws : fnDraws leapfroglaw17x_two.an Tryz.f23 = true := by kernel_rfl
theorem leapfroglaw17x_two.can : callOk Tryz.prog 23 = true := by kernel_rfl
theorem leapfroglaw17x_two.sound : FnOk Tryz.prog 23 (.st leapfroglaw17x_two.w) := FnOk.st_of (evF_ok leapfroglaw17x_two.cok mixed (f := 23) (fn := Tryz.f23) (by kernel_rfl) leapfroglaw17x_two.draws) fun args s r h => by
  unfold leapfroglaw17x_two.w at h; split at h
  · rw [leapfroglaw17x_two.ok std]; exact h
  · simp at h

/-! ### leapfrog/leapfroglaw17.two: function 23, reckoned once -/
def leapfroglaw17x_twoM.w : List Value → St → Option (Value × St) := movedW (leapfroglaw17x_two.w [] ⟨[], 0⟩)
def leapfroglaw17x_twoM.v (s : St) : Option (Value × St) := leapfroglaw17x_twoM.w [] s
theorem leapfroglaw17x_twoM.can : callOk Tryz.prog 23 = true := leapfroglaw17x_two.can
theorem leapfroglaw17x_twoM.sound : FnOk Tryz.prog 23 (.st leapfroglaw17x_twoM.w) := FnOk.moved leapfroglaw17x_two.sound

/-! ### (*leapfrog/read.Read).Next: function 10 -/
def read_Read_Next.ctx : Ctx := [(25, .rd seek_Seek_Next.w)]
def read_Read_Next.t.p1 (S : Sig) (a0 : Value) (s : St) (c1 : List Value) : Option Value :=
  S.bd (nck a0) fun x17 => S.bd (fld 10 x17) fun x18 => S.bd (lda s 5 x18) fun x19 => S.bd (bld [(Go.Value.int Go.IntKind.i64 0), (Go.Value.int Go.IntKind.i64 0), (Go.Value.int Go.IntKind.u64 0), (Go.Value.int Go.IntKind.i64 0), (Go.Value.int Go.IntKind.i64 0), (Go.Value.int Go.IntKind.u64 0), (Go.Value.int Go.IntKind.i64 0), (Go.Value.int Go.IntKind.u64 0), (Go.Value.int Go.IntKind.i64 0), (Go.Value.int Go.IntKind.i64 0), (Go.Value.int Go.IntKind.u64 0), (Go.Value.int Go.IntKind.i64 0), (Go.Value.int Go.IntKind.u64 0), (Go.Value.int Go.IntKind.i64 0), (Go.Value.int Go.IntKind.i64 0)] [(0, 1, (Go.Value.int Go.IntKind.i64 2))]) fun x20 => S.bd (bld [(Go.Value.int Go.IntKind.i64 0), (Go.Value.int Go.IntKind.i64 0), (Go.Value.int Go.IntKind.i64 0), (Go.Value.int Go.IntKind.u64 0), (Go.Value.int Go.IntKind.i64 0), (Go.Value.int Go.IntKind.u64 0), (Go.Value.int Go.IntKind.i64 0), (Go.Value.int Go.IntKind.i64 0), (Go.Value.int Go.IntKind.u64 0), (Go.Value.int Go.IntKind.i64 0), (Go.Value.int Go.IntKind.i64 0), (Go.Value.int Go.IntKind.u64 0), (Go.Value.int Go.IntKind.i64 0), (Go.Value.int Go.IntKind.u64 0), (Go.Value.int Go.IntKind.i64 0), (Go.Value.int Go.IntKind.i64 0), (Go.Value.int Go.IntKind.u64 0), (Go.Value.int Go.IntKind.i64 0), (Go.Value.int Go.IntKind.u64 0), (Go.Value.int Go.IntKind.i64 0), (Go.Value.int Go.IntKind.i64 0), (Go.Value.int Go.IntKind.i64 0), (Go.Value.int Go.IntKind.u64 0), (Go.Value.slice Option.none 0 0), (Go.Value.slice Option.none 0 0), (Go.Value.int Go.IntKind.i64 0), (Go.Value.int Go.IntKind.i64 0), (Go.Value.int Go.IntKind.u64 0), (Go.Value.int Go.IntKind.i64 0), (Go.Value.int Go.IntKind.u64 0), (Go.Value.int Go.IntKind.i64 0), (Go.Value.int Go.IntKind.i64 0), (Go.Value.int Go.IntKind.u64 0), (Go.Value.int Go.IntKind.i64 0), (Go.Value.int Go.IntKind.u64 0), (Go.Value.bool Bool.false)] [(0, 1, (Go.Value.int Go.IntKind.i64 1)), (1, 5, x19), (6, 15, x20)]) fun x21 => S.bd (stl c1 0 36 x21) fun c22 => S.bd (lal c22 0 36) fun x23 => some (x23)

def read_Read_Next.t.p2 (S : Sig) (x8 : Value) (a0 : Value) (s : St) (c1 : List Value) : Option Value :=
  S.bd (eqb [1] false false x8 (Go.Value.int Go.IntKind.i64 4)) fun x28 => S.cnd x28 (S.bd (nck a0) fun x29 => S.bd (fld 17 x29) fun x30 => S.bd (lda s 15 x30) fun x31 => S.bd (bld [(Go.Value.int Go.IntKind.i64 0), (Go.Value.int Go.IntKind.i64 0), (Go.Value.int Go.IntKind.i64 0), (Go.Value.int Go.IntKind.u64 0), (Go.Value.int Go.IntKind.i64 0), (Go.Value.int Go.IntKind.u64 0), (Go.Value.int Go.IntKind.i64 0), (Go.Value.int Go.IntKind.i64 0), (Go.Value.int Go.IntKind.u64 0), (Go.Value.int Go.IntKind.i64 0), (Go.Value.int Go.IntKind.i64 0), (Go.Value.int Go.IntKind.u64 0), (Go.Value.int Go.IntKind.i64 0), (Go.Value.int Go.IntKind.u64 0), (Go.Value.int Go.IntKind.i64 0), (Go.Value.int Go.IntKind.i64 0), (Go.Value.int Go.IntKind.u64 0), (Go.Value.int Go.IntKind.i64 0), (Go.Value.int Go.IntKind.u64 0), (Go.Value.int Go.IntKind.i64 0), (Go.Value.int Go.IntKind.i64 0), (Go.Value.int Go.IntKind.i64 0), (Go.Value.int Go.IntKind.u64 0), (Go.Value.slice Option.none 0 0), (Go.Value.slice Option.none 0 0), (Go.Value.int Go.IntKind.i64 0), (Go.Value.int Go.IntKind.i64 0), (Go.Value.int Go.IntKind.u64 0), (Go.Value.int Go.IntKind.i64 0), (Go.Value.int Go.IntKind.u64 0), (Go.Value.int Go.IntKind.i64 0), (Go.Value.int Go.IntKind.i64 0), (Go.Value.int Go.IntKind.u64 0), (Go.Value.int Go.IntKind.i64 0), (Go.Value.int Go.IntKind.u64 0), (Go.Value.bool Bool.false)] [(0, 1, (Go.Value.int Go.IntKind.i64 3)), (21, 15, x31)]) fun x32 => S.bd (stl c1 0 36 x32) fun c33 => S.bd (lal c33 0 36) fun x34 => some (x34)) (S.bd (bld [(Go.Value.int Go.IntKind.i64 0), (Go.Value.int Go.IntKind.i64 0), (Go.Value.int Go.IntKind.i64 0), (Go.Value.int Go.IntKind.u64 0), (Go.Value.int Go.IntKind.i64 0), (Go.Value.int Go.IntKind.u64 0), (Go.Value.int Go.IntKind.i64 0), (Go.Value.int Go.IntKind.i64 0), (Go.Value.int Go.IntKind.u64 0), (Go.Value.int Go.IntKind.i64 0), (Go.Value.int Go.IntKind.i64 0), (Go.Value.int Go.IntKind.u64 0), (Go.Value.int Go.IntKind.i64 0), (Go.Value.int Go.IntKind.u64 0), (Go.Value.int Go.IntKind.i64 0), (Go.Value.int Go.IntKind.i64 0), (Go.Value.int Go.IntKind.u64 0), (Go.Value.int Go.IntKind.i64 0), (Go.Value.int Go.IntKind.u64 0), (Go.Value.int Go.IntKind.i64 0), (Go.Value.int Go.IntKind.i64 0), (Go.Value.int Go.IntKind.i64 0), (Go.Value.int Go.IntKind.u64 0), (Go.Value.slice Option.none 0 0), (Go.Value.slice Option.none 0 0), (Go.Value.int Go.IntKind.i64 0), (Go.Value.int Go.IntKind.i64 0), (Go.Value.int Go.IntKind.u64 0), (Go.Value.int Go.IntKind.i64 0), (Go.Value.int Go.IntKind.u64 0), (Go.Value.int Go.IntKind.i64 0), (Go.Value.int Go.IntKind.i64 0), (Go.Value.int Go.IntKind.u64 0), (Go.Value.int Go.IntKind.i64 0), (Go.Value.int Go.IntKind.u64 0), (Go.Value.bool Bool.false)] []) fun x35 => S.bd (stl c1 0 36 x35) fun c36 => S.bd (lal c36 0 36) fun x37 => some (x37))

def read_Read_Next.t.p3 (S : Sig) (a0 : Value) (s : St) (c1 : List Value) : Option Value :=
  S.bd (nck a0) fun x6 => S.bd (fld 8 x6) fun x7 => S.bd (ldc s x7) fun x8 => S.bd (eqb [1] false false x8 (Go.Value.int Go.IntKind.i64 1)) fun x9 => S.cnd x9 (S.bd (nck a0) fun x10 => S.bd (fld 9 x10) fun x11 => S.bd (ldc s x11) fun x12 => S.bd (seek_Seek_Next.r x12 s) fun x13 => S.bd (stl c1 0 36 x13) fun c14 => S.bd (lal c14 0 36) fun x15 => some (x15)) (S.bd (eqb [1] false false x8 (Go.Value.int Go.IntKind.i64 2)) fun x16 => S.cnd x16 (read_Read_Next.t.p1 S a0 s c1) (S.bd (eqb [1] false false x8 (Go.Value.int Go.IntKind.i64 3)) fun x24 => S.cnd x24 (S.bd (bld [(Go.Value.int Go.IntKind.i64 0), (Go.Value.int Go.IntKind.i64 0), (Go.Value.int Go.IntKind.i64 0), (Go.Value.int Go.IntKind.u64 0), (Go.Value.int Go.IntKind.i64 0), (Go.Value.int Go.IntKind.u64 0), (Go.Value.int Go.IntKind.i64 0), (Go.Value.int Go.IntKind.i64 0), (Go.Value.int Go.IntKind.u64 0), (Go.Value.int Go.IntKind.i64 0), (Go.Value.int Go.IntKind.i64 0), (Go.Value.int Go.IntKind.u64 0), (Go.Value.int Go.IntKind.i64 0), (Go.Value.int Go.IntKind.u64 0), (Go.Value.int Go.IntKind.i64 0), (Go.Value.int Go.IntKind.i64 0), (Go.Value.int Go.IntKind.u64 0), (Go.Value.int Go.IntKind.i64 0), (Go.Value.int Go.IntKind.u64 0), (Go.Value.int Go.IntKind.i64 0), (Go.Value.int Go.IntKind.i64 0), (Go.Value.int Go.IntKind.i64 0), (Go.Value.int Go.IntKind.u64 0), (Go.Value.slice Option.none 0 0), (Go.Value.slice Option.none 0 0), (Go.Value.int Go.IntKind.i64 0), (Go.Value.int Go.IntKind.i64 0), (Go.Value.int Go.IntKind.u64 0), (Go.Value.int Go.IntKind.i64 0), (Go.Value.int Go.IntKind.u64 0), (Go.Value.int Go.IntKind.i64 0), (Go.Value.int Go.IntKind.i64 0), (Go.Value.int Go.IntKind.u64 0), (Go.Value.int Go.IntKind.i64 0), (Go.Value.int Go.IntKind.u64 0), (Go.Value.bool Bool.false)] [(0, 1, (Go.Value.int Go.IntKind.i64 2))]) fun x25 => S.bd (stl c1 0 36 x25) fun c26 => S.bd (lal c26 0 36) fun x27 => some (x27)) (read_Read_Next.t.p2 S x8 a0 s c1)))

def read_Read_Next.t (S : Sig) (a0 : Value) (s : St) : Option Value :=
  S.bd (bx (Go.Value.agg #[(Go.Value.int Go.IntKind.i64 0), (Go.Value.int Go.IntKind.i64 0), (Go.Value.int Go.IntKind.i64 0), (Go.Value.int Go.IntKind.u64 0), (Go.Value.int Go.IntKind.i64 0), (Go.Value.int Go.IntKind.u64 0), (Go.Value.int Go.IntKind.i64 0), (Go.Value.int Go.IntKind.i64 0), (Go.Value.int Go.IntKind.u64 0), (Go.Value.int Go.IntKind.i64 0), (Go.Value.int Go.IntKind.i64 0), (Go.Value.int Go.IntKind.u64 0), (Go.Value.int Go.IntKind.i64 0), (Go.Value.int Go.IntKind.u64 0), (Go.Value.int Go.IntKind.i64 0), (Go.Value.int Go.IntKind.i64 0), (Go.Value.int Go.IntKind.u64 0), (Go.Value.int Go.IntKind.i64 0), (Go.Value.int Go.IntKind.u64 0), (Go.Value.int Go.IntKind.i64 0), (Go.Value.int Go.IntKind.i64 0), (Go.Value.int Go.IntKind.i64 0), (Go.Value.int Go.IntKind.u64 0), (Go.Value.slice Option.none 0 0), (Go.Value.slice Option.none 0 0), (Go.Value.int Go.IntKind.i64 0), (Go.Value.int Go.IntKind.i64 0), (Go.Value.int Go.IntKind.u64 0), (Go.Value.int Go.IntKind.i64 0), (Go.Value.int Go.IntKind.u64 0), (Go.Value.int Go.IntKind.i64 0), (Go.Value.int Go.IntKind.i64 0), (Go.Value.int Go.IntKind.u64 0), (Go.Value.int Go.IntKind.i64 0), (Go.Value.int Go.IntKind.u64 0), (Go.Value.bool Bool.false)])) fun c1 => S.bd (eqb [3] false false a0 (Go.Value.pointer Option.none)) fun x2 => S.cnd x2 (S.bd (bld [(Go.Value.int Go.IntKind.i64 0), (Go.Value.int Go.IntKind.i64 0), (Go.Value.int Go.IntKind.i64 0), (Go.Value.int Go.IntKind.u64 0), (Go.Value.int Go.IntKind.i64 0), (Go.Value.int Go.IntKind.u64 0), (Go.Value.int Go.IntKind.i64 0), (Go.Value.int Go.IntKind.i64 0), (Go.Value.int Go.IntKind.u64 0), (Go.Value.int Go.IntKind.i64 0), (Go.Value.int Go.IntKind.i64 0), (Go.Value.int Go.IntKind.u64 0), (Go.Value.int Go.IntKind.i64 0), (Go.Value.int Go.IntKind.u64 0), (Go.Value.int Go.IntKind.i64 0), (Go.Value.int Go.IntKind.i64 0), (Go.Value.int Go.IntKind.u64 0), (Go.Value.int Go.IntKind.i64 0), (Go.Value.int Go.IntKind.u64 0), (Go.Value.int Go.IntKind.i64 0), (Go.Value.int Go.IntKind.i64 0), (Go.Value.int Go.IntKind.i64 0), (Go.Value.int Go.IntKind.u64 0), (Go.Value.slice Option.none 0 0), (Go.Value.slice Option.none 0 0), (Go.Value.int Go.IntKind.i64 0), (Go.Value.int Go.IntKind.i64 0), (Go.Value.int Go.IntKind.u64 0), (Go.Value.int Go.IntKind.i64 0), (Go.Value.int Go.IntKind.u64 0), (Go.Value.int Go.IntKind.i64 0), (Go.Value.int Go.IntKind.i64 0), (Go.Value.int Go.IntKind.u64 0), (Go.Value.int Go.IntKind.i64 0), (Go.Value.int Go.IntKind.u64 0), (Go.Value.bool Bool.false)] []) fun x3 => S.bd (stl c1 0 36 x3) fun c4 => S.bd (lal c4 0 36) fun x5 => some (x5)) (read_Read_Next.t.p3 S a0 s c1)
def read_Read_Next.r (a0 : Value) (s : St) : Option Value := read_Read_Next.t std a0 s
def read_Read_Next.w : List Value → St → Option Value
  | [a0], s => read_Read_Next.r a0 s
  | _, _ => none
def read_Read_Next.an : An := ⟨36, true, [2], [], [], []⟩
theorem read_Read_Next.ok (S : Sig) (a0 : Value) (s : St) : evG S Tryz.prog read_Read_Next.ctx read_Read_Next.an Tryz.f10 [a0] s = read_Read_Next.t S a0 s := by kernel_rfl
theorem read_Read_Next.cok : CtxOk Tryz.prog read_Read_Next.ctx := .cons seek_Seek_Next.sound seek_Seek_Next.can <| .nil
theorem read_Read_Next.draws : fnDraws read_Read_Next.an Tryz.f10 = true := by kernel_rfl
theorem read_Read_Next.can : callOk Tryz.prog 10 = true := by kernel_rfl
theorem read_Read_Next.sound : FnOk Tryz.prog 10 (.rd read_Read_Next.w) := FnOk.rd_of (evG_ok read_Read_Next.cok mixed (f := 10) (fn := Tryz.f10) (by kernel_rfl) read_Read_Next.draws) fun args s r h => by
  unfold read_Read_Next.w at h; split at h
  · rw [read_Read_Next.ok std]; exact h
  · simp at h

/-! ### leapfrog/leapfrogref04.has: function 95 -/
def leapfrogref04x_has.ctx : Ctx := []
def leapfrogref04x_has.t (S : Sig) (a0 : Value) (s : St) : Option Value :=
  S.bd (eqb [1] false false a0 (Go.Value.int Go.IntKind.i64 5)) fun x1 => S.bd (S.gd x1 false (some a0)) fun x2 => S.bd (S.gd x1 false (eqb [1] false false x2 (Go.Value.int Go.IntKind.i64 6))) fun x3 => S.bd (pik x1 (Go.Value.bool Bool.true) x3) fun x4 => S.bd (S.gd x4 false (some a0)) fun x5 => S.bd (S.gd x4 false (eqb [1] false false x5 (Go.Value.int Go.IntKind.i64 7))) fun x6 => S.bd (pik x4 (Go.Value.bool Bool.true) x6) fun x7 => S.bd (eqb [1] false false a0 (Go.Value.int Go.IntKind.i64 3)) fun x8 => S.bd (S.gd x8 false (some a0)) fun x9 => S.bd (S.gd x8 false (eqb [1] false false x9 (Go.Value.int Go.IntKind.i64 4))) fun x10 => S.bd (pik x8 (Go.Value.bool Bool.true) x10) fun x11 => S.bd (S.gd x11 false (some a0)) fun x12 => S.bd (S.gd x11 false (eqb [1] false false x12 (Go.Value.int Go.IntKind.i64 8))) fun x13 => S.bd (pik x11 (Go.Value.bool Bool.true) x13) fun x14 => S.bd (S.gd x14 false (some a0)) fun x15 => S.bd (S.gd x14 false (eqb [1] false false x15 (Go.Value.int Go.IntKind.i64 5))) fun x16 => S.bd (pik x14 (Go.Value.bool Bool.true) x16) fun x17 => S.bd (S.gd x17 false (some a0)) fun x18 => S.bd (S.gd x17 false (eqb [1] false false x18 (Go.Value.int Go.IntKind.i64 7))) fun x19 => S.bd (pik x17 (Go.Value.bool Bool.true) x19) fun x20 => S.bd (eqb [1] false false a0 (Go.Value.int Go.IntKind.i64 1)) fun x21 => S.bd (S.gd x21 false (some x7)) fun x22 => S.bd (pik x21 (Go.Value.bool Bool.true) x22) fun x23 => S.bd (S.gd x23 false (some x20)) fun x24 => S.bd (pik x23 (Go.Value.bool Bool.true) x24) fun x25 => S.bd (eqb [1] false false a0 (Go.Value.int Go.IntKind.i64 7)) fun x26 => some ((Value.tuple ⟨[x25, x7, x26, x20]⟩))
def leapfrogref04x_has.r (a0 : Value) (s : St) : Option Value := leapfrogref04x_has.t std a0 s
def leapfrogref04x_has.w : List Value → St → Option Value
  | [a0], s => leapfrogref04x_has.r a0 s
  | _, _ => none
def leapfrogref04x_has.an : An := ⟨48, true, [], [], [], []⟩
theorem leapfrogref04x_has.ok (S : Sig) (a0 : Value) (s : St) : evG S Tryz.prog leapfrogref04x_has.ctx leapfrogref04x_has.an Tryz.f95 [a0] s = leapfrogref04x_has.t S a0 s := by kernel_rfl
theorem leapfrogref04x_has.cok : CtxOk Tryz.prog leapfrogref04x_has.ctx := .nil
theorem leapfrogref04x_has.draws : fnDraws leapfrogref04x_has.an Tryz.f95 = true := by kernel_rfl
theorem leapfrogref04x_has.can : callOk Tryz.prog 95 = true := by kernel_rfl
theorem leapfrogref04x_has.sound : FnOk Tryz.prog 95 (.rd leapfrogref04x_has.w) := FnOk.rd_of (evG_ok leapfrogref04x_has.cok mixed (f := 95) (fn := Tryz.f95) (by kernel_rfl) leapfrogref04x_has.draws) fun args s r h => by
  unfold leapfrogref04x_has.w at h; split at h
  · rw [leapfrogref04x_has.ok std]; exact h
  · simp at h

/-! ### leapfrog/leapfrogref04.only: function 96 -/
def leapfrogref04x_only.ctx : Ctx := []
def leapfrogref04x_only.t.p1 (S : Sig) (r20 : Cut) : Option Value :=
  S.bd (eqb [1] false false (r20.2.1.getD 0 undef) (Go.Value.int Go.IntKind.i64 5)) fun x28 => S.cnd x28 (S.bd (lal (cellsA (r20.2.1.getD 2 undef)) 1 2) fun x29 => S.bd (lal (cellsA (r20.2.1.getD 2 undef)) 3 5) fun x30 => S.bd (lal (cellsA (r20.2.1.getD 2 undef)) 13 2) fun x31 => S.bd (stl (cellsA (r20.2.1.getD 4 undef)) 1 2 x29) fun c32 => S.bd (stl c32 3 5 x30) fun c33 => S.bd (stl c33 13 2 x31) fun c34 => S.bd (lal c34 0 15) fun x35 => S.bd (stl (cellsA (r20.2.1.getD 3 undef)) 0 15 x35) fun c36 => S.bd (lal c36 0 15) fun x37 => some (x37)) (S.bd (eqb [1] false false (r20.2.1.getD 0 undef) (Go.Value.int Go.IntKind.i64 6)) fun x38 => S.cnd x38 (S.bd (lal (cellsA (r20.2.1.getD 2 undef)) 1 2) fun x39 => S.bd (lal (cellsA (r20.2.1.getD 2 undef)) 3 5) fun x40 => S.bd (stl (cellsA (r20.2.1.getD 4 undef)) 1 2 x39) fun c41 => S.bd (stl c41 3 5 x40) fun c42 => S.bd (lal c42 0 15) fun x43 => S.bd (stl (cellsA (r20.2.1.getD 3 undef)) 0 15 x43) fun c44 => S.bd (lal c44 0 15) fun x45 => some (x45)) (S.bd (eqb [1] false false (r20.2.1.getD 0 undef) (Go.Value.int Go.IntKind.i64 7)) fun x46 => S.cnd x46 (S.bd (lal (cellsA (r20.2.1.getD 2 undef)) 1 2) fun x47 => S.bd (lal (cellsA (r20.2.1.getD 2 undef)) 3 5) fun x48 => S.bd (lal (cellsA (r20.2.1.getD 2 undef)) 8 5) fun x49 => S.bd (lal (cellsA (r20.2.1.getD 2 undef)) 13 2) fun x50 => S.bd (stl (cellsA (r20.2.1.getD 4 undef)) 1 2 x47) fun c51 => S.bd (stl c51 3 5 x48) fun c52 => S.bd (stl c52 8 5 x49) fun c53 => S.bd (stl c53 13 2 x50) fun c54 => S.bd (lal c54 0 15) fun x55 => S.bd (stl (cellsA (r20.2.1.getD 3 undef)) 0 15 x55) fun c56 => S.bd (lal c56 0 15) fun x57 => some (x57)) (S.bd (lal (cellsA (r20.2.1.getD 4 undef)) 0 15) fun x58 => S.bd (stl (cellsA (r20.2.1.getD 3 undef)) 0 15 x58) fun c59 => S.bd (lal c59 0 15) fun x60 => some (x60))))

def leapfrogref04x_only.t (S : Sig) (a0 : Value) (s : St) : Option Value :=
  S.bd (bx a0) fun c1 => S.bd (bx (Go.Value.agg #[(Go.Value.int Go.IntKind.i64 0), (Go.Value.int Go.IntKind.i64 0), (Go.Value.int Go.IntKind.u64 0), (Go.Value.int Go.IntKind.i64 0), (Go.Value.int Go.IntKind.i64 0), (Go.Value.int Go.IntKind.u64 0), (Go.Value.int Go.IntKind.i64 0), (Go.Value.int Go.IntKind.u64 0), (Go.Value.int Go.IntKind.i64 0), (Go.Value.int Go.IntKind.i64 0), (Go.Value.int Go.IntKind.u64 0), (Go.Value.int Go.IntKind.i64 0), (Go.Value.int Go.IntKind.u64 0), (Go.Value.int Go.IntKind.i64 0), (Go.Value.int Go.IntKind.i64 0)])) fun c2 => S.bd (lcl c1 0) fun x3 => S.bd (bld [(Go.Value.int Go.IntKind.i64 0), (Go.Value.int Go.IntKind.i64 0), (Go.Value.int Go.IntKind.u64 0), (Go.Value.int Go.IntKind.i64 0), (Go.Value.int Go.IntKind.i64 0), (Go.Value.int Go.IntKind.u64 0), (Go.Value.int Go.IntKind.i64 0), (Go.Value.int Go.IntKind.u64 0), (Go.Value.int Go.IntKind.i64 0), (Go.Value.int Go.IntKind.i64 0), (Go.Value.int Go.IntKind.u64 0), (Go.Value.int Go.IntKind.i64 0), (Go.Value.int Go.IntKind.u64 0), (Go.Value.int Go.IntKind.i64 0), (Go.Value.int Go.IntKind.i64 0)] [(0, 1, x3)]) fun x4 => S.bd (bx (Go.Value.agg #[(Go.Value.int Go.IntKind.i64 0), (Go.Value.int Go.IntKind.i64 0), (Go.Value.int Go.IntKind.u64 0), (Go.Value.int Go.IntKind.i64 0), (Go.Value.int Go.IntKind.i64 0), (Go.Value.int Go.IntKind.u64 0), (Go.Value.int Go.IntKind.i64 0), (Go.Value.int Go.IntKind.u64 0), (Go.Value.int Go.IntKind.i64 0), (Go.Value.int Go.IntKind.i64 0), (Go.Value.int Go.IntKind.u64 0), (Go.Value.int Go.IntKind.i64 0), (Go.Value.int Go.IntKind.u64 0), (Go.Value.int Go.IntKind.i64 0), (Go.Value.int Go.IntKind.i64 0)])) fun c5 => S.bd (stl c5 0 15 x4) fun c6 => S.bd (lcl c1 0) fun x7 => S.bd (eqb [1] false false x7 (Go.Value.int Go.IntKind.i64 1)) fun x8 => S.cnd x8 (S.bd (lal c1 1 2) fun x9 => S.bd (stl c6 1 2 x9) fun c10 => S.bd (lal c10 0 15) fun x11 => S.bd (stl c2 0 15 x11) fun c12 => S.bd (lal c12 0 15) fun x13 => some (x13)) (S.bd (show Option Cut from S.bd (eqb [1] false false x7 (Go.Value.int Go.IntKind.i64 3)) fun x17 => S.cnd x17 (some (0, [x7, x17, (Value.agg ⟨c1⟩), (Value.agg ⟨c2⟩), (Value.agg ⟨c6⟩)], s)) (S.bd (eqb [1] false false x7 (Go.Value.int Go.IntKind.i64 4)) fun x18 => S.cnd x18 (some (0, [x7, x18, (Value.agg ⟨c1⟩), (Value.agg ⟨c2⟩), (Value.agg ⟨c6⟩)], s)) (S.bd (eqb [1] false false x7 (Go.Value.int Go.IntKind.i64 8)) fun x19 => some (0, [x7, x19, (Value.agg ⟨c1⟩), (Value.agg ⟨c2⟩), (Value.agg ⟨c6⟩)], s)))) fun r20 => S.cnd (r20.2.1.getD 1 undef) (S.bd (lal (cellsA (r20.2.1.getD 2 undef)) 1 2) fun x21 => S.bd (lal (cellsA (r20.2.1.getD 2 undef)) 13 2) fun x22 => S.bd (stl (cellsA (r20.2.1.getD 4 undef)) 1 2 x21) fun c23 => S.bd (stl c23 13 2 x22) fun c24 => S.bd (lal c24 0 15) fun x25 => S.bd (stl (cellsA (r20.2.1.getD 3 undef)) 0 15 x25) fun c26 => S.bd (lal c26 0 15) fun x27 => some (x27)) (leapfrogref04x_only.t.p1 S r20))
def leapfrogref04x_only.r (a0 : Value) (s : St) : Option Value := leapfrogref04x_only.t std a0 s
def leapfrogref04x_only.w : List Value → St → Option Value
  | [a0], s => leapfrogref04x_only.r a0 s
  | _, _ => none
def leapfrogref04x_only.an : An := ⟨59, true, [1, 2, 3], [], [(9, ⟨[], [(.normal, [.p 1 1 0, .p 2 2 0, .p 3 3 0, .v 8, .v 15, .l 1, .l 2, .l 3])]⟩)], [(9, [(0, 0, [], []), (1, 9, [], []), (2, 0, [], []), (3, 9, [], []), (4, 0, [], []), (5, 29, [], []), (6, 0, [], []), (7, 29, [], [])]), (11, [(0, 0, [], []), (1, 9, [], []), (2, 0, [], []), (3, 9, [], []), (4, 0, [], []), (5, 9, [], []), (6, 0, [], []), (7, 29, [], []), (8, 0, [], []), (9, 29, [], []), (10, 0, [], []), (11, 29, [], [])]), (13, [(0, 0, [], []), (1, 9, [], []), (2, 0, [], []), (3, 9, [], []), (4, 0, [], []), (5, 29, [], []), (6, 0, [], []), (7, 29, [], [])]), (15, [(0, 0, [], []), (1, 9, [], []), (2, 0, [], []), (3, 9, [], []), (4, 0, [], []), (5, 9, [], []), (6, 0, [], []), (7, 9, [], []), (8, 0, [], []), (9, 29, [], []), (10, 0, [], []), (11, 29, [], []), (12, 0, [], []), (13, 29, [], []), (14, 0, [], []), (15, 29, [], [])])]⟩
theorem leapfrogref04x_only.ok (S : Sig) (a0 : Value) (s : St) : evG S Tryz.prog leapfrogref04x_only.ctx leapfrogref04x_only.an Tryz.f96 [a0] s = leapfrogref04x_only.t S a0 s := by kernel_rfl
theorem leapfrogref04x_only.cok : CtxOk Tryz.prog leapfrogref04x_only.ctx := .nil
theorem leapfrogref04x_only.draws : fnDraws leapfrogref04x_only.an Tryz.f96 = true := by kernel_rfl
theorem leapfrogref04x_only.can : callOk Tryz.prog 96 = true := by kernel_rfl
theorem leapfrogref04x_only.sound : FnOk Tryz.prog 96 (.rd leapfrogref04x_only.w) := FnOk.rd_of (evG_ok leapfrogref04x_only.cok mixed (f := 96) (fn := Tryz.f96) (by kernel_rfl) leapfrogref04x_only.draws) fun args s r h => by
  unfold leapfrogref04x_only.w at h; split at h
  · rw [leapfrogref04x_only.ok std]; exact h
  · simp at h

/-! ### leapfrog/leapfrogref03.IsKey: function 119 -/
def leapfrogref03x_IsKey.ctx : Ctx := []
def leapfrogref03x_IsKey.t (S : Sig) (a0 : Value) (s : St) : Option Value :=
  S.bd (bx a0) fun c1 => S.bd (lcl c1 0) fun x2 => S.bd (eqb [1] false false x2 (Go.Value.int Go.IntKind.i64 2)) fun x3 => S.bd (S.gd x3 false (lcl c1 1)) fun x4 => S.bd (S.gd x3 false (eqb [1] false false x4 (Go.Value.int Go.IntKind.u64 0))) fun x5 => S.bd (S.gd x3 false (some x5)) fun x6 => S.bd (S.gd x6 true (lcl c1 0)) fun x7 => S.bd (S.gd x6 true (eqb [1] false false x7 (Go.Value.int Go.IntKind.i64 1))) fun x8 => S.bd (S.gd x6 true (some x8)) fun x9 => S.bd (S.gd x9 false (lcl c1 0)) fun x10 => S.bd (S.gd x9 false (eqb [1] false false x10 (Go.Value.int Go.IntKind.i64 3))) fun x11 => S.bd (S.gd x6 true (pik x9 (Go.Value.bool Bool.true) x11)) fun x12 => S.bd (S.gd x3 false (pik x6 x12 (Go.Value.bool Bool.false))) fun x13 => S.bd (pik x3 (Go.Value.bool Bool.true) x13) fun x14 => some (x14)
def leapfrogref03x_IsKey.r (a0 : Value) (s : St) : Option Value := leapfrogref03x_IsKey.t std a0 s
def leapfrogref03x_IsKey.w : List Value → St → Option Value
  | [a0], s => leapfrogref03x_IsKey.r a0 s
  | _, _ => none
def leapfrogref03x_IsKey.an : An := ⟨21, true, [1], [], [], []⟩
theorem leapfrogref03x_IsKey.ok (S : Sig) (a0 : Value) (s : St) : evG S Tryz.prog leapfrogref03x_IsKey.ctx leapfrogref03x_IsKey.an Tryz.f119 [a0] s = leapfrogref03x_IsKey.t S a0 s := by kernel_rfl
theorem leapfrogref03x_IsKey.cok : CtxOk Tryz.prog leapfrogref03x_IsKey.ctx := .nil
theorem leapfrogref03x_IsKey.draws : fnDraws leapfrogref03x_IsKey.an Tryz.f119 = true := by kernel_rfl
theorem leapfrogref03x_IsKey.can : callOk Tryz.prog 119 = true := by kernel_rfl
theorem leapfrogref03x_IsKey.sound : FnOk Tryz.prog 119 (.rd leapfrogref03x_IsKey.w) := FnOk.rd_of (evG_ok leapfrogref03x_IsKey.cok mixed (f := 119) (fn := Tryz.f119) (by kernel_rfl) leapfrogref03x_IsKey.draws) fun args s r h => by
  unfold leapfrogref03x_IsKey.w at h; split at h
  · rw [leapfrogref03x_IsKey.ok std]; exact h
  · simp at h

/-! ### leapfrog/leapfrogref04.isRef: function 97 -/
def leapfrogref04x_isRef.ctx : Ctx := [(119, .rd leapfrogref03x_IsKey.w), (59, .rd leapfrogref01x_Right.w)]
def leapfrogref04x_isRef.t (S : Sig) (a0 : Value) (s : St) : Option Value :=
  S.bd (bx a0) fun c1 => S.bd (lal c1 1 2) fun x2 => S.bd (leapfrogref03x_IsKey.r x2 s) fun x3 => S.bd (S.gd x3 true (lal c1 3 2)) fun x4 => S.bd (S.gd x3 true (leapfrogref01x_Right.r x4 s)) fun x5 => S.bd (pik x3 x5 (Go.Value.bool Bool.false)) fun x6 => some (x6)
def leapfrogref04x_isRef.r (a0 : Value) (s : St) : Option Value := leapfrogref04x_isRef.t std a0 s
def leapfrogref04x_isRef.w : List Value → St → Option Value
  | [a0], s => leapfrogref04x_isRef.r a0 s
  | _, _ => none
def leapfrogref04x_isRef.an : An := ⟨11, true, [1], [], [], []⟩
theorem leapfrogref04x_isRef.ok (S : Sig) (a0 : Value) (s : St) : evG S Tryz.prog leapfrogref04x_isRef.ctx leapfrogref04x_isRef.an Tryz.f97 [a0] s = leapfrogref04x_isRef.t S a0 s := by kernel_rfl
theorem leapfrogref04x_isRef.cok : CtxOk Tryz.prog leapfrogref04x_isRef.ctx := .cons leapfrogref03x_IsKey.sound leapfrogref03x_IsKey.can <| .cons leapfrogref01x_Right.sound leapfrogref01x_Right.can <| .nil
theorem leapfrogref04x_isRef.draws : fnDraws leapfrogref04x_isRef.an Tryz.f97 = true := by kernel_rfl
theorem leapfrogref04x_isRef.can : callOk Tryz.prog 97 = true := by kernel_rfl
theorem leapfrogref04x_isRef.sound : FnOk Tryz.prog 97 (.rd leapfrogref04x_isRef.w) := FnOk.rd_of (evG_ok leapfrogref04x_isRef.cok mixed (f := 97) (fn := Tryz.f97) (by kernel_rfl) leapfrogref04x_isRef.draws) fun args s r h => by
  unfold leapfrogref04x_isRef.w at h; split at h
  · rw [leapfrogref04x_isRef.ok std]; exact h
  · simp at h

/-! ### leapfrog/leapfrogref04.CheckAsk: function 75 -/
def leapfrogref04x_CheckAsk.ctx : Ctx := [(95, .rd leapfrogref04x_has.w), (96, .rd leapfrogref04x_only.w), (59, .rd leapfrogref01x_Right.w), (97, .rd leapfrogref04x_isRef.w)]
def leapfrogref04x_CheckAsk.t (S : Sig) (a0 : Value) (s : St) : Option Value :=
  S.bd (bx a0) fun c1 => S.bd (lcl c1 0) fun x2 => S.bd (leapfrogref04x_has.r x2 s) fun x3 => S.bd (xtr 0 x3) fun x4 => S.bd (xtr 1 x3) fun x5 => S.bd (xtr 2 x3) fun x6 => S.bd (xtr 3 x3) fun x7 => S.bd (lcl c1 0) fun x8 => S.bd (bin .lss x8 (Go.Value.int Go.IntKind.i64 1)) fun x9 => S.bd (S.gd x9 false (lcl c1 0)) fun x10 => S.bd (S.gd x9 false (bin .gtr x10 (Go.Value.int Go.IntKind.i64 10))) fun x11 => S.bd (pik x9 (Go.Value.bool Bool.true) x11) fun x12 => S.bd (S.gd x12 false (lal c1 0 15)) fun x13 => S.bd (S.gd x12 false (lal c1 0 15)) fun x14 => S.bd (S.gd x12 false (leapfrogref04x_only.r x14 s)) fun x15 => S.bd (S.gd x12 false (eqb [1, 1, 1, 1, 1, 1, 1, 1, 1, 1, 1, 1, 1, 1, 1] true true x13 x15)) fun x16 => S.bd (pik x12 (Go.Value.bool Bool.true) x16) fun x17 => S.bd (S.gd x17 false (some x4)) fun x18 => S.bd (S.gd x17 false (some x18)) fun x19 => S.bd (S.gd x19 true (lal c1 1 2)) fun x20 => S.bd (S.gd x19 true (leapfrogref01x_Right.r x20 s)) fun x21 => S.bd (S.gd x19 true (un .not x21)) fun x22 => S.bd (S.gd x17 false (pik x19 x22 (Go.Value.bool Bool.false))) fun x23 => S.bd (pik x17 (Go.Value.bool Bool.true) x23) fun x24 => S.bd (S.gd x24 false (some x5)) fun x25 => S.bd (S.gd x24 false (some x25)) fun x26 => S.bd (S.gd x26 true (lal c1 3 5)) fun x27 => S.bd (S.gd x26 true (leapfrogref04x_isRef.r x27 s)) fun x28 => S.bd (S.gd x26 true (un .not x28)) fun x29 => S.bd (S.gd x24 false (pik x26 x29 (Go.Value.bool Bool.false))) fun x30 => S.bd (pik x24 (Go.Value.bool Bool.true) x30) fun x31 => S.bd (S.gd x31 false (some x6)) fun x32 => S.bd (S.gd x31 false (some x32)) fun x33 => S.bd (S.gd x33 true (lal c1 8 5)) fun x34 => S.bd (S.gd x33 true (leapfrogref04x_isRef.r x34 s)) fun x35 => S.bd (S.gd x33 true (un .not x35)) fun x36 => S.bd (S.gd x31 false (pik x33 x36 (Go.Value.bool Bool.false))) fun x37 => S.bd (pik x31 (Go.Value.bool Bool.true) x37) fun x38 => S.cnd x38 (some ((Go.Value.int Go.IntKind.i64 40))) (some ((Go.Value.int Go.IntKind.i64 0)))
def leapfrogref04x_CheckAsk.r (a0 : Value) (s : St) : Option Value := leapfrogref04x_CheckAsk.t std a0 s
def leapfrogref04x_CheckAsk.w : List Value → St → Option Value
  | [a0], s => leapfrogref04x_CheckAsk.r a0 s
  | _, _ => none
def leapfrogref04x_CheckAsk.an : An := ⟨56, true, [1], [], [], [(2, [(0, 0, [], []), (1, 9, [], []), (2, 0, [], []), (3, 0, [], []), (4, 0, [], []), (5, 9, [], []), (6, 0, [], []), (7, 0, [], []), (8, 0, [], []), (9, 9, [], []), (10, 9, [], []), (11, 3, [], []), (12, 0, [], []), (13, 0, [], []), (14, 0, [], []), (15, 0, [], []), (16, 0, [], []), (17, 0, [], []), (18, 9, [], []), (19, 3, [], []), (20, 0, [], []), (21, 0, [], []), (22, 0, [], []), (23, 0, [], []), (24, 0, [], []), (25, 0, [], []), (26, 0, [], []), (27, 9, [], []), (28, 3, [], []), (29, 0, [], []), (30, 0, [], []), (31, 0, [], []), (32, 0, [], []), (33, 0, [], []), (34, 0, [], []), (35, 0, [], []), (36, 9, [], []), (37, 3, [], []), (38, 0, [], []), (39, 0, [], []), (40, 0, [], [])])]⟩
theorem leapfrogref04x_CheckAsk.ok (S : Sig) (a0 : Value) (s : St) : evG S Tryz.prog leapfrogref04x_CheckAsk.ctx leapfrogref04x_CheckAsk.an Tryz.f75 [a0] s = leapfrogref04x_CheckAsk.t S a0 s := by kernel_rfl
theorem leapfrogref04x_CheckAsk.cok : CtxOk Tryz.prog leapfrogref04x_CheckAsk.ctx := .cons leapfrogref04x_has.sound leapfrogref04x_has.can <| .cons leapfrogref04x_only.sound leapfrogref04x_only.can <| .cons leapfrogref01x_Right.sound leapfrogref01x_Right.can <| .cons leapfrogref04x_isRef.sound leapfrogref04x_isRef.can <| .nil
theorem leapfrogref04x_CheckAsk.draws : fnDraws leapfrogref04x_CheckAsk.an Tryz.f75 = true := by kernel_rfl
theorem leapfrogref04x_CheckAsk.can : callOk Tryz.prog 75 = true := by kernel_rfl
theorem leapfrogref04x_CheckAsk.sound : FnOk Tryz.prog 75 (.rd leapfrogref04x_CheckAsk.w) := FnOk.rd_of (evG_ok leapfrogref04x_CheckAsk.cok mixed (f := 75) (fn := Tryz.f75) (by kernel_rfl) leapfrogref04x_CheckAsk.draws) fun args s r h => by
  unfold leapfrogref04x_CheckAsk.w at h; split at h
  · rw [leapfrogref04x_CheckAsk.ok std]; exact h
  · simp at h

/-! ### (*leapfrog/leapfrogref09.Peer).list: function 86 -/
def leapfrogref09x_Peer_list.ctx : Ctx := [(59, .rd leapfrogref01x_Right.w), (107, .rd leapfrogref01x_BeginsQ.w)]
def leapfrogref09x_Peer_list.t (S : Sig) (a0 a1 : Value) (s : St) : Option Value :=
  S.bd (bx a1) fun c1 => S.bd (nck a0) fun x2 => S.bd (fld 6 x2) fun x3 => S.bd (ldc s x3) fun x4 => S.cnd x4 (S.bd (lal c1 0 2) fun x5 => S.bd (leapfrogref01x_Right.r x5 s) fun x6 => S.bd (S.gd x6 true (lcl c1 0)) fun x7 => S.bd (S.gd x6 true (some a0)) fun x8 => S.bd (S.gd x6 true (nck x8)) fun x9 => S.bd (S.gd x6 true (fld 0 x9)) fun x10 => S.bd (S.gd x6 true (fld 3 x10)) fun x11 => S.bd (S.gd x6 true (fld 0 x11)) fun x12 => S.bd (S.gd x6 true (ldc s x12)) fun x13 => S.bd (S.gd x6 true (bin .leq x7 x13)) fun x14 => S.bd (pik x6 x14 (Go.Value.bool Bool.false)) fun x15 => some (x15)) (S.bd (nck a0) fun x16 => S.bd (fld 0 x16) fun x17 => S.bd (fld 3 x17) fun x18 => S.bd (lda s 2 x18) fun x19 => S.bd (lal c1 0 2) fun x20 => S.bd (leapfrogref01x_BeginsQ.r x19 x20 s) fun x21 => some (x21))
def leapfrogref09x_Peer_list.r (a0 a1 : Value) (s : St) : Option Value := leapfrogref09x_Peer_list.t std a0 a1 s
def leapfrogref09x_Peer_list.w : List Value → St → Option Value
  | [a0, a1], s => leapfrogref09x_Peer_list.r a0 a1 s
  | _, _ => none
def leapfrogref09x_Peer_list.an : An := ⟨29, true, [3], [], [], [(2, [(0, 25, [], []), (1, 3, [], []), (2, 0, [], []), (3, 0, [], []), (4, 25, [], []), (5, 0, [], []), (6, 0, [], []), (7, 0, [], []), (8, 0, [], []), (9, 0, [], []), (10, 2, [], []), (11, 0, [], []), (12, 0, [], []), (13, 0, [], [])]), (3, [(0, 0, [], []), (1, 0, [], []), (2, 0, [], []), (3, 0, [], []), (4, 2, [], []), (5, 25, [], []), (6, 3, [], []), (7, 0, [], [])])]⟩
theorem leapfrogref09x_Peer_list.ok (S : Sig) (a0 a1 : Value) (s : St) : evG S Tryz.prog leapfrogref09x_Peer_list.ctx leapfrogref09x_Peer_list.an Tryz.f86 [a0, a1] s = leapfrogref09x_Peer_list.t S a0 a1 s := by kernel_rfl
theorem leapfrogref09x_Peer_list.cok : CtxOk Tryz.prog leapfrogref09x_Peer_list.ctx := .cons leapfrogref01x_Right.sound leapfrogref01x_Right.can <| .cons leapfrogref01x_BeginsQ.sound leapfrogref01x_BeginsQ.can <| .nil
theorem leapfrogref09x_Peer_list.draws : fnDraws leapfrogref09x_Peer_list.an Tryz.f86 = true := by kernel_rfl
theorem leapfrogref09x_Peer_list.can : callOk Tryz.prog 86 = true := by kernel_rfl
theorem leapfrogref09x_Peer_list.sound : FnOk Tryz.prog 86 (.rd leapfrogref09x_Peer_list.w) := FnOk.rd_of (evG_ok leapfrogref09x_Peer_list.cok mixed (f := 86) (fn := Tryz.f86) (by kernel_rfl) leapfrogref09x_Peer_list.draws) fun args s r h => by
  unfold leapfrogref09x_Peer_list.w at h; split at h
  · rw [leapfrogref09x_Peer_list.ok std]; exact h
  · simp at h

/-! ### (*leapfrog/leapfrogref09.Peer).first: function 87 -/
def leapfrogref09x_Peer_first.ctx : Ctx := [(108, .rd leapfrogref09x_Tail.w), (109, .rd leapfrogref09x_Head.w)]
def leapfrogref09x_Peer_first.t (S : Sig) (a0 a1 : Value) (s : St) : Option Value :=
  S.bd (bx a1) fun c1 => S.bd (bx (Go.Value.agg #[(Go.Value.int Go.IntKind.i64 0), (Go.Value.int Go.IntKind.u64 0), (Go.Value.int Go.IntKind.i64 0), (Go.Value.int Go.IntKind.i64 0), (Go.Value.int Go.IntKind.u64 0), (Go.Value.int Go.IntKind.i64 0), (Go.Value.int Go.IntKind.u64 0), (Go.Value.int Go.IntKind.i64 0), (Go.Value.int Go.IntKind.i64 0), (Go.Value.int Go.IntKind.u64 0), (Go.Value.int Go.IntKind.i64 0), (Go.Value.int Go.IntKind.u64 0), (Go.Value.bool Bool.false), (Go.Value.int Go.IntKind.i64 0), (Go.Value.int Go.IntKind.i64 0), (Go.Value.slice Option.none 0 0)])) fun c2 => S.bd (lal c1 0 2) fun x3 => S.bd (bld [(Go.Value.int Go.IntKind.i64 0), (Go.Value.int Go.IntKind.u64 0), (Go.Value.int Go.IntKind.i64 0), (Go.Value.int Go.IntKind.i64 0), (Go.Value.int Go.IntKind.u64 0), (Go.Value.int Go.IntKind.i64 0), (Go.Value.int Go.IntKind.u64 0), (Go.Value.int Go.IntKind.i64 0), (Go.Value.int Go.IntKind.i64 0), (Go.Value.int Go.IntKind.u64 0), (Go.Value.int Go.IntKind.i64 0), (Go.Value.int Go.IntKind.u64 0), (Go.Value.bool Bool.false), (Go.Value.int Go.IntKind.i64 0), (Go.Value.int Go.IntKind.i64 0), (Go.Value.slice Option.none 0 0)] [(0, 2, x3)]) fun x4 => S.bd (bx (Go.Value.agg #[(Go.Value.int Go.IntKind.i64 0), (Go.Value.int Go.IntKind.u64 0), (Go.Value.int Go.IntKind.i64 0), (Go.Value.int Go.IntKind.i64 0), (Go.Value.int Go.IntKind.u64 0), (Go.Value.int Go.IntKind.i64 0), (Go.Value.int Go.IntKind.u64 0), (Go.Value.int Go.IntKind.i64 0), (Go.Value.int Go.IntKind.i64 0), (Go.Value.int Go.IntKind.u64 0), (Go.Value.int Go.IntKind.i64 0), (Go.Value.int Go.IntKind.u64 0), (Go.Value.bool Bool.false), (Go.Value.int Go.IntKind.i64 0), (Go.Value.int Go.IntKind.i64 0), (Go.Value.slice Option.none 0 0)])) fun c5 => S.bd (stl c5 0 16 x4) fun c6 => S.bd (nck a0) fun x7 => S.bd (fld 0 x7) fun x8 => S.bd (fld 1 x8) fun x9 => S.bd (fld 0 x9) fun x10 => S.bd (ldc s x10) fun x11 => S.bd (eqb [1] false false x11 (Go.Value.int Go.IntKind.i64 1)) fun x12 => S.cnd x12 (S.bd (nck a0) fun x13 => S.bd (fld 0 x13) fun x14 => S.bd (fld 3 x14) fun x15 => S.bd (fld 0 x15) fun x16 => S.bd (ldc s x16) fun x17 => S.bd (leapfrogref09x_Tail.r x17 s) fun x18 => S.bd (xtr 0 x18) fun x19 => S.bd (xtr 1 x18) fun x20 => S.bd (stl c6 7 5 x19) fun c21 => S.bd (lal c21 0 16) fun x22 => S.bd (stl c2 0 16 x22) fun c23 => S.bd (lal c23 0 16) fun x24 => some (x24)) (S.bd (nck a0) fun x25 => S.bd (fld 0 x25) fun x26 => S.bd (fld 3 x26) fun x27 => S.bd (fld 0 x27) fun x28 => S.bd (ldc s x28) fun x29 => S.bd (leapfrogref09x_Head.r x29 s) fun x30 => S.bd (xtr 0 x30) fun x31 => S.bd (xtr 1 x30) fun x32 => S.bd (stl c6 2 5 x31) fun c33 => S.bd (lal c33 0 16) fun x34 => S.bd (stl c2 0 16 x34) fun c35 => S.bd (lal c35 0 16) fun x36 => some (x36))
def leapfrogref09x_Peer_first.r (a0 a1 : Value) (s : St) : Option Value := leapfrogref09x_Peer_first.t std a0 a1 s
def leapfrogref09x_Peer_first.w : List Value → St → Option Value
  | [a0, a1], s => leapfrogref09x_Peer_first.r a0 a1 s
  | _, _ => none
def leapfrogref09x_Peer_first.an : An := ⟨38, true, [3, 4, 5], [], [], []⟩
theorem leapfrogref09x_Peer_first.ok (S : Sig) (a0 a1 : Value) (s : St) : evG S Tryz.prog leapfrogref09x_Peer_first.ctx leapfrogref09x_Peer_first.an Tryz.f87 [a0, a1] s = leapfrogref09x_Peer_first.t S a0 a1 s := by kernel_rfl
theorem leapfrogref09x_Peer_first.cok : CtxOk Tryz.prog leapfrogref09x_Peer_first.ctx := .cons leapfrogref09x_Tail.sound leapfrogref09x_Tail.can <| .cons leapfrogref09x_Head.sound leapfrogref09x_Head.can <| .nil
theorem leapfrogref09x_Peer_first.draws : fnDraws leapfrogref09x_Peer_first.an Tryz.f87 = true := by kernel_rfl
theorem leapfrogref09x_Peer_first.can : callOk Tryz.prog 87 = true := by kernel_rfl
theorem leapfrogref09x_Peer_first.sound : FnOk Tryz.prog 87 (.rd leapfrogref09x_Peer_first.w) := FnOk.rd_of (evG_ok leapfrogref09x_Peer_first.cok mixed (f := 87) (fn := Tryz.f87) (by kernel_rfl) leapfrogref09x_Peer_first.draws) fun args s r h => by
  unfold leapfrogref09x_Peer_first.w at h; split at h
  · rw [leapfrogref09x_Peer_first.ok std]; exact h
  · simp at h

/-! ### (*leapfrog/leapfrogref09.Peer).rec: function 61 -/
def leapfrogref09x_Peer_rec.ctx : Ctx := [(86, .rd leapfrogref09x_Peer_list.w), (87, .rd leapfrogref09x_Peer_first.w)]
def leapfrogref09x_Peer_rec.l2 (S : Sig) (rec25 : List Value → St → Option Cut) (xs23 : List Value) (s24 : St) : Option Cut :=
  S.bd (nck (xs23.getD 0 undef)) fun x26 => S.bd (fld 9 x26) fun x27 => S.bd (ldc s24 x27) fun x28 => S.bd (lenL x28) fun x29 => S.bd (bin .lss (xs23.getD 1 undef) x29) fun x30 => S.cnd x30 (S.bd (nck (xs23.getD 0 undef)) fun x31 => S.bd (fld 9 x31) fun x32 => S.bd (ldc s24 x32) fun x33 => S.bd (idx s24 16 x33 (xs23.getD 1 undef)) fun x34 => S.bd (fld 0 x34) fun x35 => S.bd (lda s24 2 x35) fun x36 => S.bd (lal (cellsA (xs23.getD 2 undef)) 0 2) fun x37 => S.bd (eqb [1, 1] true false x36 x37) fun x38 => S.cnd x38 (S.bd (nck (xs23.getD 0 undef)) fun x39 => S.bd (fld 9 x39) fun x40 => S.bd (ldc s24 x40) fun x41 => S.bd (idx s24 16 x41 (xs23.getD 1 undef)) fun x42 => S.bd (lda s24 16 x42) fun x43 => S.bd (stl (cellsA (xs23.getD 3 undef)) 0 16 x43) fun c44 => some (1, [(Go.Value.bool Bool.true), (Value.agg ⟨c44⟩)], s24)) (S.bd (bin .add (xs23.getD 1 undef) (Go.Value.int Go.IntKind.i64 1)) fun x45 => rec25 [(xs23.getD 0 undef), x45, (Value.agg ⟨(cellsA (xs23.getD 2 undef))⟩), (Value.agg ⟨(cellsA (xs23.getD 3 undef))⟩)] s24)) (some (0, [(xs23.getD 0 undef), (Value.agg ⟨(cellsA (xs23.getD 2 undef))⟩), (Value.agg ⟨(cellsA (xs23.getD 3 undef))⟩)], s24))

def leapfrogref09x_Peer_rec.t (S : Sig) (a0 a1 : Value) (s : St) : Option Value :=
  S.bd (bx a1) fun c1 => S.bd (bx (Go.Value.agg #[(Go.Value.int Go.IntKind.i64 0), (Go.Value.int Go.IntKind.u64 0), (Go.Value.int Go.IntKind.i64 0), (Go.Value.int Go.IntKind.i64 0), (Go.Value.int Go.IntKind.u64 0), (Go.Value.int Go.IntKind.i64 0), (Go.Value.int Go.IntKind.u64 0), (Go.Value.int Go.IntKind.i64 0), (Go.Value.int Go.IntKind.i64 0), (Go.Value.int Go.IntKind.u64 0), (Go.Value.int Go.IntKind.i64 0), (Go.Value.int Go.IntKind.u64 0), (Go.Value.bool Bool.false), (Go.Value.int Go.IntKind.i64 0), (Go.Value.int Go.IntKind.i64 0), (Go.Value.slice Option.none 0 0)])) fun c2 => S.bd (S.it (leapfrogref09x_Peer_rec.l2 S) [a0, (Go.Value.int Go.IntKind.i64 0), (Value.agg ⟨c1⟩), (Value.agg ⟨c2⟩)] s) fun r46 => if r46.1 = 0 then (S.bd (nck (r46.2.1.getD 0 undef)) fun x48 => S.bd (fld 6 x48) fun x49 => S.bd (ldc r46.2.2 x49) fun x50 => S.bd (S.gd x50 true (some (r46.2.1.getD 0 undef))) fun x51 => S.bd (S.gd x50 true (lal (cellsA (r46.2.1.getD 1 undef)) 0 2)) fun x52 => S.bd (S.gd x50 true (leapfrogref09x_Peer_list.r x51 x52 r46.2.2)) fun x53 => S.bd (pik x50 x53 (Go.Value.bool Bool.false)) fun x54 => S.cnd x54 (S.bd (lal (cellsA (r46.2.1.getD 1 undef)) 0 2) fun x55 => S.bd (leapfrogref09x_Peer_first.r (r46.2.1.getD 0 undef) x55 r46.2.2) fun x56 => S.bd (stl (cellsA (r46.2.1.getD 2 undef)) 0 16 x56) fun c57 => S.bd (lal c57 0 16) fun x58 => some ((Value.tuple ⟨[x58, (Go.Value.bool Bool.true)]⟩))) (S.bd (bld [(Go.Value.int Go.IntKind.i64 0), (Go.Value.int Go.IntKind.u64 0), (Go.Value.int Go.IntKind.i64 0), (Go.Value.int Go.IntKind.i64 0), (Go.Value.int Go.IntKind.u64 0), (Go.Value.int Go.IntKind.i64 0), (Go.Value.int Go.IntKind.u64 0), (Go.Value.int Go.IntKind.i64 0), (Go.Value.int Go.IntKind.i64 0), (Go.Value.int Go.IntKind.u64 0), (Go.Value.int Go.IntKind.i64 0), (Go.Value.int Go.IntKind.u64 0), (Go.Value.bool Bool.false), (Go.Value.int Go.IntKind.i64 0), (Go.Value.int Go.IntKind.i64 0), (Go.Value.slice Option.none 0 0)] []) fun x59 => S.bd (stl (cellsA (r46.2.1.getD 2 undef)) 0 16 x59) fun c60 => S.bd (lal c60 0 16) fun x61 => some ((Value.tuple ⟨[x61, (Go.Value.bool Bool.false)]⟩)))) else (S.bd (lal (cellsA (r46.2.1.getD 1 undef)) 0 16) fun x47 => some ((Value.tuple ⟨[x47, (r46.2.1.getD 0 undef)]⟩)))
def leapfrogref09x_Peer_rec.r (a0 a1 : Value) (s : St) : Option Value := leapfrogref09x_Peer_rec.t std a0 a1 s
def leapfrogref09x_Peer_rec.w : List Value → St → Option Value
  | [a0, a1], s => leapfrogref09x_Peer_rec.r a0 a1 s
  | _, _ => none
def leapfrogref09x_Peer_rec.an : An := ⟨46, true, [3, 4], [(2, ⟨[.v 0, .p 3 3 0, .p 4 4 0, .v 6, .l 3, .l 4], [(.exit 0, [.v 0, .p 3 3 0, .p 4 4 0, .l 3, .l 4]), (.ret, [.p 4 4 0, .v 5, .l 4])]⟩)], [], [(4, [(0, 0, [], []), (1, 0, [], []), (2, 0, [], []), (3, 2, [], []), (4, 0, [], []), (5, 2, [], []), (6, 0, [], []), (7, 2, [], []), (8, 25, [], []), (9, 0, [], [])])]⟩
theorem leapfrogref09x_Peer_rec.ok (S : Sig) (a0 a1 : Value) (s : St) : evG S Tryz.prog leapfrogref09x_Peer_rec.ctx leapfrogref09x_Peer_rec.an Tryz.f61 [a0, a1] s = leapfrogref09x_Peer_rec.t S a0 a1 s := by kernel_rfl
theorem leapfrogref09x_Peer_rec.cok : CtxOk Tryz.prog leapfrogref09x_Peer_rec.ctx := .cons leapfrogref09x_Peer_list.sound leapfrogref09x_Peer_list.can <| .cons leapfrogref09x_Peer_first.sound leapfrogref09x_Peer_first.can <| .nil
theorem leapfrogref09x_Peer_rec.draws : fnDraws leapfrogref09x_Peer_rec.an Tryz.f61 = true := by kernel_rfl
theorem leapfrogref09x_Peer_rec.can : callOk Tryz.prog 61 = true := by kernel_rfl
theorem leapfrogref09x_Peer_rec.sound : FnOk Tryz.prog 61 (.rd leapfrogref09x_Peer_rec.w) := FnOk.rd_of (evG_ok leapfrogref09x_Peer_rec.cok mixed (f := 61) (fn := Tryz.f61) (by kernel_rfl) leapfrogref09x_Peer_rec.draws) fun args s r h => by
  unfold leapfrogref09x_Peer_rec.w at h; split at h
  · rw [leapfrogref09x_Peer_rec.ok std]; exact h
  · simp at h

/-! ### leapfrog/leapfrogref09.gone: function 77 -/
def leapfrogref09x_gone.ctx : Ctx := []
def leapfrogref09x_gone.t (S : Sig) (s : St) : Option Value :=
  S.bd (bx (Go.Value.agg #[(Go.Value.int Go.IntKind.i64 0), (Go.Value.bool Bool.false), (Go.Value.int Go.IntKind.i64 0), (Go.Value.int Go.IntKind.i64 0), (Go.Value.int Go.IntKind.u64 0), (Go.Value.int Go.IntKind.i64 0), (Go.Value.int Go.IntKind.u64 0), (Go.Value.int Go.IntKind.i64 0), (Go.Value.int Go.IntKind.i64 0), (Go.Value.int Go.IntKind.u64 0), (Go.Value.int Go.IntKind.i64 0), (Go.Value.int Go.IntKind.u64 0), (Go.Value.slice Option.none 0 0)])) fun c1 => S.bd (bld [(Go.Value.int Go.IntKind.i64 0), (Go.Value.bool Bool.false), (Go.Value.int Go.IntKind.i64 0), (Go.Value.int Go.IntKind.i64 0), (Go.Value.int Go.IntKind.u64 0), (Go.Value.int Go.IntKind.i64 0), (Go.Value.int Go.IntKind.u64 0), (Go.Value.int Go.IntKind.i64 0), (Go.Value.int Go.IntKind.i64 0), (Go.Value.int Go.IntKind.u64 0), (Go.Value.int Go.IntKind.i64 0), (Go.Value.int Go.IntKind.u64 0), (Go.Value.slice Option.none 0 0)] [(0, 1, (Go.Value.int Go.IntKind.i64 2))]) fun x2 => S.bd (stl c1 0 13 x2) fun c3 => S.bd (lal c3 0 13) fun x4 => some (x4)
def leapfrogref09x_gone.r (s : St) : Option Value := leapfrogref09x_gone.t std  s
def leapfrogref09x_gone.w : List Value → St → Option Value
  | [], s => leapfrogref09x_gone.r  s
  | _, _ => none
def leapfrogref09x_gone.an : An := ⟨2, true, [0], [], [], []⟩
theorem leapfrogref09x_gone.ok (S : Sig) (s : St) : evG S Tryz.prog leapfrogref09x_gone.ctx leapfrogref09x_gone.an Tryz.f77 [] s = leapfrogref09x_gone.t S  s := by kernel_rfl
theorem leapfrogref09x_gone.cok : CtxOk Tryz.prog leapfrogref09x_gone.ctx := .nil
theorem leapfrogref09x_gone.draws : fnDraws leapfrogref09x_gone.an Tryz.f77 = true := by kernel_rfl
theorem leapfrogref09x_gone.can : callOk Tryz.prog 77 = true := by kernel_rfl
theorem leapfrogref09x_gone.sound : FnOk Tryz.prog 77 (.rd leapfrogref09x_gone.w) := FnOk.rd_of (evG_ok leapfrogref09x_gone.cok mixed (f := 77) (fn := Tryz.f77) (by kernel_rfl) leapfrogref09x_gone.draws) fun args s r h => by
  unfold leapfrogref09x_gone.w at h; split at h
  · rw [leapfrogref09x_gone.ok std]; exact h
  · simp at h

/-! ### leapfrog/leapfrogref09.told: function 76 -/
def leapfrogref09x_told.ctx : Ctx := []
def leapfrogref09x_told.t (S : Sig) (a0 a1 : Value) (s : St) : Option (Value × St) :=
  S.bd (bx a1) fun c1 => S.bd (lal c1 0 13) fun x2 => S.bd (bld [(Go.Value.int Go.IntKind.i64 0), (Go.Value.int Go.IntKind.i64 0), (Go.Value.bool Bool.false), (Go.Value.int Go.IntKind.i64 0), (Go.Value.int Go.IntKind.i64 0), (Go.Value.int Go.IntKind.u64 0), (Go.Value.int Go.IntKind.i64 0), (Go.Value.int Go.IntKind.u64 0), (Go.Value.int Go.IntKind.i64 0), (Go.Value.int Go.IntKind.i64 0), (Go.Value.int Go.IntKind.u64 0), (Go.Value.int Go.IntKind.i64 0), (Go.Value.int Go.IntKind.u64 0), (Go.Value.slice Option.none 0 0)] [(0, 1, a0), (1, 13, x2)]) fun x3 => S.bd (S.bd (bls 14 (List.replicate 1 [(Go.Value.int Go.IntKind.i64 0), (Go.Value.int Go.IntKind.i64 0), (Go.Value.bool Bool.false), (Go.Value.int Go.IntKind.i64 0), (Go.Value.int Go.IntKind.i64 0), (Go.Value.int Go.IntKind.u64 0), (Go.Value.int Go.IntKind.i64 0), (Go.Value.int Go.IntKind.u64 0), (Go.Value.int Go.IntKind.i64 0), (Go.Value.int Go.IntKind.i64 0), (Go.Value.int Go.IntKind.u64 0), (Go.Value.int Go.IntKind.i64 0), (Go.Value.int Go.IntKind.u64 0), (Go.Value.slice Option.none 0 0)]) [(0, x3)]) fun rows => als s 14 1 rows) fun r4 => some (r4.1, r4.2)
def leapfrogref09x_told.v (a0 a1 : Value) (s : St) : Option (Value × St) := leapfrogref09x_told.t std a0 a1 s
def leapfrogref09x_told.w : List Value → St → Option (Value × St)
  | [a0, a1], s => leapfrogref09x_told.v a0 a1 s
  | _, _ => none
def leapfrogref09x_told.an : An := ⟨9, false, [3], [], [], []⟩
theorem leapfrogref09x_told.ok (S : Sig) (a0 a1 : Value) (s : St) : evF S Tryz.prog leapfrogref09x_told.ctx leapfrogref09x_told.an Tryz.f76 [a0, a1] s = leapfrogref09x_told.t S a0 a1 s := by kernel_rfl
theorem leapfrogref09x_told.cok : CtxOk Tryz.prog leapfrogref09x_told.ctx := .nil
theorem leapfrogref09x_told.draws : fnDraws leapfrogref09x_told.an Tryz.f76 = true := by kernel_rfl
theorem leapfrogref09x_told.can : callOk Tryz.prog 76 = true := by kernel_rfl
theorem leapfrogref09x_told.sound : FnOk Tryz.prog 76 (.st leapfrogref09x_told.w) := FnOk.st_of (evF_ok leapfrogref09x_told.cok mixed (f := 76) (fn := Tryz.f76) (by kernel_rfl) leapfrogref09x_told.draws) fun args s r h => by
  unfold leapfrogref09x_told.w at h; split at h
  · rw [leapfrogref09x_told.ok std]; exact h
  · simp at h

/-! ### (*leapfrog/leapfrogref09.Peer).of: function 78 -/
def leapfrogref09x_Peer_of.ctx : Ctx := []
def leapfrogref09x_Peer_of.t (S : Sig) (a0 a1 : Value) (s : St) : Option Value :=
  S.bd (bx a1) fun c1 => S.bd (bx (Go.Value.agg #[(Go.Value.int Go.IntKind.i64 0), (Go.Value.bool Bool.false), (Go.Value.int Go.IntKind.i64 0), (Go.Value.int Go.IntKind.i64 0), (Go.Value.int Go.IntKind.u64 0), (Go.Value.int Go.IntKind.i64 0), (Go.Value.int Go.IntKind.u64 0), (Go.Value.int Go.IntKind.i64 0), (Go.Value.int Go.IntKind.i64 0), (Go.Value.int Go.IntKind.u64 0), (Go.Value.int Go.IntKind.i64 0), (Go.Value.int Go.IntKind.u64 0), (Go.Value.slice Option.none 0 0)])) fun c2 => S.bd (nck a0) fun x3 => S.bd (fld 8 x3) fun x4 => S.bd (ldc s x4) fun x5 => S.bd (lal c1 2 5) fun x6 => S.bd (lal c1 7 5) fun x7 => S.bd (bld [(Go.Value.int Go.IntKind.i64 0), (Go.Value.bool Bool.false), (Go.Value.int Go.IntKind.i64 0), (Go.Value.int Go.IntKind.i64 0), (Go.Value.int Go.IntKind.u64 0), (Go.Value.int Go.IntKind.i64 0), (Go.Value.int Go.IntKind.u64 0), (Go.Value.int Go.IntKind.i64 0), (Go.Value.int Go.IntKind.i64 0), (Go.Value.int Go.IntKind.u64 0), (Go.Value.int Go.IntKind.i64 0), (Go.Value.int Go.IntKind.u64 0), (Go.Value.slice Option.none 0 0)] [(0, 1, (Go.Value.int Go.IntKind.i64 1)), (1, 1, x5), (2, 5, x6), (7, 5, x7)]) fun x8 => S.bd (stl c2 0 13 x8) fun c9 => S.bd (lal c9 0 13) fun x10 => some (x10)
def leapfrogref09x_Peer_of.r (a0 a1 : Value) (s : St) : Option Value := leapfrogref09x_Peer_of.t std a0 a1 s
def leapfrogref09x_Peer_of.w : List Value → St → Option Value
  | [a0, a1], s => leapfrogref09x_Peer_of.r a0 a1 s
  | _, _ => none
def leapfrogref09x_Peer_of.an : An := ⟨14, true, [3, 4], [], [], [(1, [(0, 0, [], []), (1, 0, [], []), (2, 0, [], []), (3, 2, [], []), (4, 0, [], []), (5, 25, [], []), (6, 0, [], []), (7, 25, [], []), (8, 0, [], []), (9, 37, [], [])])]⟩
theorem leapfrogref09x_Peer_of.ok (S : Sig) (a0 a1 : Value) (s : St) : evG S Tryz.prog leapfrogref09x_Peer_of.ctx leapfrogref09x_Peer_of.an Tryz.f78 [a0, a1] s = leapfrogref09x_Peer_of.t S a0 a1 s := by kernel_rfl
theorem leapfrogref09x_Peer_of.cok : CtxOk Tryz.prog leapfrogref09x_Peer_of.ctx := .nil
theorem leapfrogref09x_Peer_of.draws : fnDraws leapfrogref09x_Peer_of.an Tryz.f78 = true := by kernel_rfl
theorem leapfrogref09x_Peer_of.can : callOk Tryz.prog 78 = true := by kernel_rfl
theorem leapfrogref09x_Peer_of.sound : FnOk Tryz.prog 78 (.rd leapfrogref09x_Peer_of.w) := FnOk.rd_of (evG_ok leapfrogref09x_Peer_of.cok mixed (f := 78) (fn := Tryz.f78) (by kernel_rfl) leapfrogref09x_Peer_of.draws) fun args s r h => by
  unfold leapfrogref09x_Peer_of.w at h; split at h
  · rw [leapfrogref09x_Peer_of.ok std]; exact h
  · simp at h

/-! ### leapfrog/leapfrogref07.IsOwner: function 120 -/
def leapfrogref07x_IsOwner.ctx : Ctx := []
def leapfrogref07x_IsOwner.t (S : Sig) (a0 : Value) (s : St) : Option Value :=
  S.bd (bx a0) fun c1 => S.bd (lcl c1 0) fun x2 => S.bd (bin .geq x2 (Go.Value.int Go.IntKind.i64 0)) fun x3 => S.bd (S.gd x3 true (lcl c1 0)) fun x4 => S.bd (S.gd x3 true (bin .lss x4 (Go.Value.int Go.IntKind.i64 1024))) fun x5 => S.bd (pik x3 x5 (Go.Value.bool Bool.false)) fun x6 => S.bd (S.gd x6 true (lcl c1 1)) fun x7 => S.bd (S.gd x6 true (bin .geq x7 (Go.Value.int Go.IntKind.i64 1))) fun x8 => S.bd (pik x6 x8 (Go.Value.bool Bool.false)) fun x9 => S.bd (S.gd x9 true (lcl c1 1)) fun x10 => S.bd (S.gd x9 true (bin .leq x10 (Go.Value.int Go.IntKind.i64 1073741824))) fun x11 => S.bd (pik x9 x11 (Go.Value.bool Bool.false)) fun x12 => some (x12)
def leapfrogref07x_IsOwner.r (a0 : Value) (s : St) : Option Value := leapfrogref07x_IsOwner.t std a0 s
def leapfrogref07x_IsOwner.w : List Value → St → Option Value
  | [a0], s => leapfrogref07x_IsOwner.r a0 s
  | _, _ => none
def leapfrogref07x_IsOwner.an : An := ⟨21, true, [1], [], [], []⟩
theorem leapfrogref07x_IsOwner.ok (S : Sig) (a0 : Value) (s : St) : evG S Tryz.prog leapfrogref07x_IsOwner.ctx leapfrogref07x_IsOwner.an Tryz.f120 [a0] s = leapfrogref07x_IsOwner.t S a0 s := by kernel_rfl
theorem leapfrogref07x_IsOwner.cok : CtxOk Tryz.prog leapfrogref07x_IsOwner.ctx := .nil
theorem leapfrogref07x_IsOwner.draws : fnDraws leapfrogref07x_IsOwner.an Tryz.f120 = true := by kernel_rfl
theorem leapfrogref07x_IsOwner.can : callOk Tryz.prog 120 = true := by kernel_rfl
theorem leapfrogref07x_IsOwner.sound : FnOk Tryz.prog 120 (.rd leapfrogref07x_IsOwner.w) := FnOk.rd_of (evG_ok leapfrogref07x_IsOwner.cok mixed (f := 120) (fn := Tryz.f120) (by kernel_rfl) leapfrogref07x_IsOwner.draws) fun args s r h => by
  unfold leapfrogref07x_IsOwner.w at h; split at h
  · rw [leapfrogref07x_IsOwner.ok std]; exact h
  · simp at h

/-! ### (*leapfrog/leapfrogref07.Lock).place: function 121 -/
def leapfrogref07x_Lock_place.ctx : Ctx := []
def leapfrogref07x_Lock_place.l2 (S : Sig) (rec17 : List Value → St → Option Cut) (xs15 : List Value) (s16 : St) : Option Cut :=
  S.bd (nck (xs15.getD 0 undef)) fun x18 => S.bd (fld 3 x18) fun x19 => S.bd (ldc s16 x19) fun x20 => S.bd (lenL x20) fun x21 => S.bd (bin .lss (xs15.getD 1 undef) x21) fun x22 => S.cnd x22 (S.bd (nck (xs15.getD 0 undef)) fun x23 => S.bd (fld 3 x23) fun x24 => S.bd (ldc s16 x24) fun x25 => S.bd (idx s16 2 x25 (xs15.getD 1 undef)) fun x26 => S.bd (lda s16 2 x26) fun x27 => S.bd (lal (cellsA (xs15.getD 2 undef)) 0 2) fun x28 => S.bd (eqb [1, 1] true false x27 x28) fun x29 => S.cnd x29 (some (1, [(xs15.getD 1 undef)], s16)) (S.bd (bin .add (xs15.getD 1 undef) (Go.Value.int Go.IntKind.i64 1)) fun x30 => rec17 [(xs15.getD 0 undef), x30, (Value.agg ⟨(cellsA (xs15.getD 2 undef))⟩)] s16)) (some (0, [], s16))

def leapfrogref07x_Lock_place.t (S : Sig) (a0 a1 : Value) (s : St) : Option Value :=
  S.bd (bx a1) fun c1 => S.bd (S.it (leapfrogref07x_Lock_place.l2 S) [a0, (Go.Value.int Go.IntKind.i64 0), (Value.agg ⟨c1⟩)] s) fun r31 => if r31.1 = 0 then (some ((Go.Value.int Go.IntKind.i64 (-1)))) else (some ((r31.2.1.getD 0 undef)))
def leapfrogref07x_Lock_place.r (a0 a1 : Value) (s : St) : Option Value := leapfrogref07x_Lock_place.t std a0 a1 s
def leapfrogref07x_Lock_place.w : List Value → St → Option Value
  | [a0, a1], s => leapfrogref07x_Lock_place.r a0 a1 s
  | _, _ => none
def leapfrogref07x_Lock_place.an : An := ⟨25, true, [3], [(2, ⟨[.v 0, .p 3 3 0, .v 5, .l 3], [(.exit 0, []), (.ret, [.v 4])]⟩)], [], [(4, [(0, 0, [], []), (1, 0, [], []), (2, 0, [], []), (3, 2, [], []), (4, 0, [], []), (5, 2, [], []), (6, 2, [], []), (7, 25, [], []), (8, 0, [], [])])]⟩
theorem leapfrogref07x_Lock_place.ok (S : Sig) (a0 a1 : Value) (s : St) : evG S Tryz.prog leapfrogref07x_Lock_place.ctx leapfrogref07x_Lock_place.an Tryz.f121 [a0, a1] s = leapfrogref07x_Lock_place.t S a0 a1 s := by kernel_rfl
theorem leapfrogref07x_Lock_place.cok : CtxOk Tryz.prog leapfrogref07x_Lock_place.ctx := .nil
theorem leapfrogref07x_Lock_place.draws : fnDraws leapfrogref07x_Lock_place.an Tryz.f121 = true := by kernel_rfl
theorem leapfrogref07x_Lock_place.can : callOk Tryz.prog 121 = true := by kernel_rfl
theorem leapfrogref07x_Lock_place.sound : FnOk Tryz.prog 121 (.rd leapfrogref07x_Lock_place.w) := FnOk.rd_of (evG_ok leapfrogref07x_Lock_place.cok mixed (f := 121) (fn := Tryz.f121) (by kernel_rfl) leapfrogref07x_Lock_place.draws) fun args s r h => by
  unfold leapfrogref07x_Lock_place.w at h; split at h
  · rw [leapfrogref07x_Lock_place.ok std]; exact h
  · simp at h

/-! ### (*leapfrog/leapfrogref07.Lock).Ask: function 98 -/
def leapfrogref07x_Lock_Ask.ctx : Ctx := [(120, .rd leapfrogref07x_IsOwner.w), (121, .rd leapfrogref07x_Lock_place.w)]
def leapfrogref07x_Lock_Ask.t.p1 (S : Sig) (c1 : List Value) (a0 : Value) (s : St) : Option (Value × St) :=
  S.bd (lal c1 0 2) fun x15 => S.bd (leapfrogref07x_Lock_place.r a0 x15 s) fun x16 => S.bd (bin .geq x16 (Go.Value.int Go.IntKind.i64 0)) fun x17 => S.cnd x17 (some ((Value.tuple ⟨[(Go.Value.bool Bool.false), (Go.Value.int Go.IntKind.i64 0)]⟩), s)) (S.bd (nck a0) fun x18 => S.bd (fld 0 x18) fun x19 => S.bd (ldc s x19) fun x20 => S.bd (un .not x20) fun x21 => S.cnd x21 (S.bd (lal c1 0 2) fun x22 => S.bd (nck a0) fun x23 => S.bd (fld 0 x23) fun x24 => S.bd (stv s 1 x24 (Go.Value.bool Bool.true)) fun s25 => S.bd (nck a0) fun x26 => S.bd (fld 1 x26) fun x27 => S.bd (stv s25 2 x27 x22) fun s28 => some ((Value.tuple ⟨[(Go.Value.bool Bool.true), (Go.Value.int Go.IntKind.i64 0)]⟩), s28)) (S.bd (nck a0) fun x29 => S.bd (fld 3 x29) fun x30 => S.bd (ldc s x30) fun x31 => S.bd (lenL x31) fun x32 => S.bd (bin .geq x32 (Go.Value.int Go.IntKind.i64 64)) fun x33 => S.cnd x33 (some ((Value.tuple ⟨[(Go.Value.bool Bool.false), (Go.Value.int Go.IntKind.i64 3)]⟩), s)) (S.bd (nck a0) fun x34 => S.bd (fld 3 x34) fun x35 => S.bd (ldc s x35) fun x36 => S.bd (lal c1 0 2) fun x37 => S.bd (S.bd (bls 2 (List.replicate 1 [(Go.Value.int Go.IntKind.i64 0), (Go.Value.int Go.IntKind.i64 0)]) [(0, x37)]) fun rows => als s 2 1 rows) fun _ => S.bd (S.bd (bls 2 (List.replicate 0 [(Go.Value.int Go.IntKind.i64 0), (Go.Value.int Go.IntKind.i64 0)]) []) fun rows => als s 2 0 rows) fun r38 => S.bd (S.bd (bls 2 (List.replicate 1 [(Go.Value.int Go.IntKind.i64 0), (Go.Value.int Go.IntKind.i64 0)]) [(0, x37)]) fun rows => als r38.2 2 1 rows) fun _ => S.bd (app r38.2 2 16 r38.1 x36) fun r39 => S.bd (S.bd (bls 2 (List.replicate 1 [(Go.Value.int Go.IntKind.i64 0), (Go.Value.int Go.IntKind.i64 0)]) [(0, x37)]) fun rows => als r39.2 2 1 rows) fun r40 => S.bd (app r40.2 2 16 r39.1 r40.1) fun r41 => S.bd (nck a0) fun x42 => S.bd (fld 3 x42) fun x43 => S.bd (stv r41.2 1 x43 r41.1) fun s44 => some ((Value.tuple ⟨[(Go.Value.bool Bool.false), (Go.Value.int Go.IntKind.i64 0)]⟩), s44))))

def leapfrogref07x_Lock_Ask.t (S : Sig) (a0 a1 : Value) (s : St) : Option (Value × St) :=
  S.bd (bx a1) fun c1 => S.bd (lal c1 0 2) fun x2 => S.bd (leapfrogref07x_IsOwner.r x2 s) fun x3 => S.bd (un .not x3) fun x4 => S.cnd x4 (some ((Value.tuple ⟨[(Go.Value.bool Bool.false), (Go.Value.int Go.IntKind.i64 70)]⟩), s)) (S.bd (nck a0) fun x5 => S.bd (fld 0 x5) fun x6 => S.bd (ldc s x6) fun x7 => S.bd (S.gd x7 true (some a0)) fun x8 => S.bd (S.gd x7 true (nck x8)) fun x9 => S.bd (S.gd x7 true (fld 1 x9)) fun x10 => S.bd (S.gd x7 true (lda s 2 x10)) fun x11 => S.bd (S.gd x7 true (lal c1 0 2)) fun x12 => S.bd (S.gd x7 true (eqb [1, 1] true false x11 x12)) fun x13 => S.bd (pik x7 x13 (Go.Value.bool Bool.false)) fun x14 => S.cnd x14 (some ((Value.tuple ⟨[(Go.Value.bool Bool.true), (Go.Value.int Go.IntKind.i64 0)]⟩), s)) (leapfrogref07x_Lock_Ask.t.p1 S c1 a0 s))
def leapfrogref07x_Lock_Ask.v (a0 a1 : Value) (s : St) : Option (Value × St) := leapfrogref07x_Lock_Ask.t std a0 a1 s
def leapfrogref07x_Lock_Ask.w : List Value → St → Option (Value × St)
  | [a0, a1], s => leapfrogref07x_Lock_Ask.v a0 a1 s
  | _, _ => none
def leapfrogref07x_Lock_Ask.an : An := ⟨60, false, [3], [], [], [(3, [(0, 0, [], []), (1, 0, [], []), (2, 0, [], []), (3, 2, [], []), (4, 0, [], []), (5, 0, [], []), (6, 0, [], []), (7, 0, [], []), (8, 2, [], []), (9, 25, [], []), (10, 0, [], []), (11, 0, [], []), (12, 0, [], [])]), (8, [(0, 0, [], []), (1, 0, [], []), (2, 25, [], []), (3, 0, [], []), (4, 0, [], []), (5, 4, [], []), (6, 0, [], []), (7, 0, [], []), (8, 4, [], [])]), (12, [(0, 0, [], []), (2, 0, [], []), (3, 0, [], []), (4, 0, [], []), (5, 2, [], []), (7, 25, [], []), (1, 3, [], [8]), (6, 4, [], [8]), (8, 3, [], []), (9, 4, [], []), (10, 0, [], []), (11, 0, [], []), (12, 4, [], [])])]⟩
theorem leapfrogref07x_Lock_Ask.ok (S : Sig) (a0 a1 : Value) (s : St) : evF S Tryz.prog leapfrogref07x_Lock_Ask.ctx leapfrogref07x_Lock_Ask.an Tryz.f98 [a0, a1] s = leapfrogref07x_Lock_Ask.t S a0 a1 s := by kernel_rfl
theorem leapfrogref07x_Lock_Ask.cok : CtxOk Tryz.prog leapfrogref07x_Lock_Ask.ctx := .cons leapfrogref07x_IsOwner.sound leapfrogref07x_IsOwner.can <| .cons leapfrogref07x_Lock_place.sound leapfrogref07x_Lock_place.can <| .nil
theorem leapfrogref07x_Lock_Ask.draws : fnDraws leapfrogref07x_Lock_Ask.an Tryz.f98 = true := by kernel_rfl
theorem leapfrogref07x_Lock_Ask.can : callOk Tryz.prog 98 = true := by kernel_rfl
theorem leapfrogref07x_Lock_Ask.sound : FnOk Tryz.prog 98 (.st leapfrogref07x_Lock_Ask.w) := FnOk.st_of (evF_ok leapfrogref07x_Lock_Ask.cok mixed (f := 98) (fn := Tryz.f98) (by kernel_rfl) leapfrogref07x_Lock_Ask.draws) fun args s r h => by
  unfold leapfrogref07x_Lock_Ask.w at h; split at h
  · rw [leapfrogref07x_Lock_Ask.ok std]; exact h
  · simp at h

/-! ### leapfrog/leapfrogref09.no: function 99 -/
def leapfrogref09x_no.ctx : Ctx := []
def leapfrogref09x_no.t (S : Sig) (s : St) : Option Value :=
  S.bd (bx (Go.Value.agg #[(Go.Value.int Go.IntKind.i64 0), (Go.Value.bool Bool.false), (Go.Value.int Go.IntKind.i64 0), (Go.Value.int Go.IntKind.i64 0), (Go.Value.int Go.IntKind.u64 0), (Go.Value.int Go.IntKind.i64 0), (Go.Value.int Go.IntKind.u64 0), (Go.Value.int Go.IntKind.i64 0), (Go.Value.int Go.IntKind.i64 0), (Go.Value.int Go.IntKind.u64 0), (Go.Value.int Go.IntKind.i64 0), (Go.Value.int Go.IntKind.u64 0), (Go.Value.slice Option.none 0 0)])) fun c1 => S.bd (bld [(Go.Value.int Go.IntKind.i64 0), (Go.Value.bool Bool.false), (Go.Value.int Go.IntKind.i64 0), (Go.Value.int Go.IntKind.i64 0), (Go.Value.int Go.IntKind.u64 0), (Go.Value.int Go.IntKind.i64 0), (Go.Value.int Go.IntKind.u64 0), (Go.Value.int Go.IntKind.i64 0), (Go.Value.int Go.IntKind.i64 0), (Go.Value.int Go.IntKind.u64 0), (Go.Value.int Go.IntKind.i64 0), (Go.Value.int Go.IntKind.u64 0), (Go.Value.slice Option.none 0 0)] [(0, 1, (Go.Value.int Go.IntKind.i64 4))]) fun x2 => S.bd (stl c1 0 13 x2) fun c3 => S.bd (lal c3 0 13) fun x4 => some (x4)
def leapfrogref09x_no.r (s : St) : Option Value := leapfrogref09x_no.t std  s
def leapfrogref09x_no.w : List Value → St → Option Value
  | [], s => leapfrogref09x_no.r  s
  | _, _ => none
def leapfrogref09x_no.an : An := ⟨2, true, [0], [], [], []⟩
theorem leapfrogref09x_no.ok (S : Sig) (s : St) : evG S Tryz.prog leapfrogref09x_no.ctx leapfrogref09x_no.an Tryz.f99 [] s = leapfrogref09x_no.t S  s := by kernel_rfl
theorem leapfrogref09x_no.cok : CtxOk Tryz.prog leapfrogref09x_no.ctx := .nil
theorem leapfrogref09x_no.draws : fnDraws leapfrogref09x_no.an Tryz.f99 = true := by kernel_rfl
theorem leapfrogref09x_no.can : callOk Tryz.prog 99 = true := by kernel_rfl
theorem leapfrogref09x_no.sound : FnOk Tryz.prog 99 (.rd leapfrogref09x_no.w) := FnOk.rd_of (evG_ok leapfrogref09x_no.cok mixed (f := 99) (fn := Tryz.f99) (by kernel_rfl) leapfrogref09x_no.draws) fun args s r h => by
  unfold leapfrogref09x_no.w at h; split at h
  · rw [leapfrogref09x_no.ok std]; exact h
  · simp at h

/-! ### (*leapfrog/leapfrogref09.Peer).plain: function 122 -/
def leapfrogref09x_Peer_plain.ctx : Ctx := [(87, .rd leapfrogref09x_Peer_first.w)]
def leapfrogref09x_Peer_plain.t (S : Sig) (a0 a1 : Value) (s : St) : Option Value :=
  S.bd (bx a1) fun c1 => S.bd (lal c1 0 2) fun x2 => S.bd (leapfrogref09x_Peer_first.r a0 x2 s) fun x3 => S.bd (bx (Go.Value.agg #[(Go.Value.int Go.IntKind.i64 0), (Go.Value.int Go.IntKind.u64 0), (Go.Value.int Go.IntKind.i64 0), (Go.Value.int Go.IntKind.i64 0), (Go.Value.int Go.IntKind.u64 0), (Go.Value.int Go.IntKind.i64 0), (Go.Value.int Go.IntKind.u64 0), (Go.Value.int Go.IntKind.i64 0), (Go.Value.int Go.IntKind.i64 0), (Go.Value.int Go.IntKind.u64 0), (Go.Value.int Go.IntKind.i64 0), (Go.Value.int Go.IntKind.u64 0), (Go.Value.bool Bool.false), (Go.Value.int Go.IntKind.i64 0), (Go.Value.int Go.IntKind.i64 0), (Go.Value.slice Option.none 0 0)])) fun c4 => S.bd (stl c4 0 16 x3) fun c5 => S.bd (nck a0) fun x6 => S.bd (fld 6 x6) fun x7 => S.bd (ldc s x7) fun x8 => S.bd (S.gd x8 true (lal c1 2 5)) fun x9 => S.bd (S.gd x8 true (lal c5 2 5)) fun x10 => S.bd (S.gd x8 true (eqb [1, 1, 1, 1, 1] true false x9 x10)) fun x11 => S.bd (pik x8 x11 (Go.Value.bool Bool.false)) fun x12 => S.bd (S.gd x12 true (lal c1 7 5)) fun x13 => S.bd (S.gd x12 true (lal c5 7 5)) fun x14 => S.bd (S.gd x12 true (eqb [1, 1, 1, 1, 1] true false x13 x14)) fun x15 => S.bd (pik x12 x15 (Go.Value.bool Bool.false)) fun x16 => S.bd (S.gd x16 true (lcl c1 12)) fun x17 => S.bd (S.gd x16 true (un .not x17)) fun x18 => S.bd (pik x16 x18 (Go.Value.bool Bool.false)) fun x19 => some (x19)
def leapfrogref09x_Peer_plain.r (a0 a1 : Value) (s : St) : Option Value := leapfrogref09x_Peer_plain.t std a0 a1 s
def leapfrogref09x_Peer_plain.w : List Value → St → Option Value
  | [a0, a1], s => leapfrogref09x_Peer_plain.r a0 a1 s
  | _, _ => none
def leapfrogref09x_Peer_plain.an : An := ⟨34, true, [3, 5], [], [], []⟩
theorem leapfrogref09x_Peer_plain.ok (S : Sig) (a0 a1 : Value) (s : St) : evG S Tryz.prog leapfrogref09x_Peer_plain.ctx leapfrogref09x_Peer_plain.an Tryz.f122 [a0, a1] s = leapfrogref09x_Peer_plain.t S a0 a1 s := by kernel_rfl
theorem leapfrogref09x_Peer_plain.cok : CtxOk Tryz.prog leapfrogref09x_Peer_plain.ctx := .cons leapfrogref09x_Peer_first.sound leapfrogref09x_Peer_first.can <| .nil
theorem leapfrogref09x_Peer_plain.draws : fnDraws leapfrogref09x_Peer_plain.an Tryz.f122 = true := by kernel_rfl
theorem leapfrogref09x_Peer_plain.can : callOk Tryz.prog 122 = true := by kernel_rfl
theorem leapfrogref09x_Peer_plain.sound : FnOk Tryz.prog 122 (.rd leapfrogref09x_Peer_plain.w) := FnOk.rd_of (evG_ok leapfrogref09x_Peer_plain.cok mixed (f := 122) (fn := Tryz.f122) (by kernel_rfl) leapfrogref09x_Peer_plain.draws) fun args s r h => by
  unfold leapfrogref09x_Peer_plain.w at h; split at h
  · rw [leapfrogref09x_Peer_plain.ok std]; exact h
  · simp at h

/-! ### (*leapfrog/leapfrogref09.Peer).set: function 100 -/
def leapfrogref09x_Peer_set.ctx : Ctx := [(122, .rd leapfrogref09x_Peer_plain.w), (123, .rd leapfrogref01x_CompareQ.w)]
def leapfrogref09x_Peer_set.l4.p1 (S : Sig) (x75 : Value) (x76 : Value) (xs60 : List Value) (s61 : St) (rec62 : List Value → St → Option Cut) : Option Cut :=
  S.bd (xtr 1 x75) fun x77 => S.bd (show Option Cut from S.bd (bin .gtr x76 (Go.Value.int Go.IntKind.i64 0)) fun x78 => S.bd (S.gd x78 true (some (xs60.getD 2 undef))) fun x79 => S.bd (S.gd x78 true (un .not x79)) fun x80 => S.bd (pik x78 x80 (Go.Value.bool Bool.false)) fun x81 => S.cnd x81 (S.bd (lal (cellsA (xs60.getD 4 undef)) 0 16) fun x82 => S.bd (S.bd (bls 16 (List.replicate 1 [(Go.Value.int Go.IntKind.i64 0), (Go.Value.int Go.IntKind.u64 0), (Go.Value.int Go.IntKind.i64 0), (Go.Value.int Go.IntKind.i64 0), (Go.Value.int Go.IntKind.u64 0), (Go.Value.int Go.IntKind.i64 0), (Go.Value.int Go.IntKind.u64 0), (Go.Value.int Go.IntKind.i64 0), (Go.Value.int Go.IntKind.i64 0), (Go.Value.int Go.IntKind.u64 0), (Go.Value.int Go.IntKind.i64 0), (Go.Value.int Go.IntKind.u64 0), (Go.Value.bool Bool.false), (Go.Value.int Go.IntKind.i64 0), (Go.Value.int Go.IntKind.i64 0), (Go.Value.slice Option.none 0 0)]) [(0, x82)]) fun rows => als s61 16 1 rows) fun r83 => S.bd (app r83.2 16 144 (xs60.getD 1 undef) r83.1) fun r84 => some (0, [(xs60.getD 0 undef), r84.1, (Go.Value.bool Bool.true), (xs60.getD 3 undef), x76, x79, x80, (Value.agg ⟨(cellsA (xs60.getD 4 undef))⟩)], r84.2)) (some (0, [(xs60.getD 0 undef), (xs60.getD 1 undef), (xs60.getD 2 undef), (xs60.getD 3 undef), x76, x79, x80, (Value.agg ⟨(cellsA (xs60.getD 4 undef))⟩)], s61))) fun r85 => S.bd (show Option Cut from S.bd (eqb [1] false true (r85.2.1.getD 4 undef) (Go.Value.int Go.IntKind.i64 0)) fun x86 => S.cnd x86 (S.bd (nck (r85.2.1.getD 0 undef)) fun x87 => S.bd (fld 9 x87) fun x88 => S.bd (ldc r85.2.2 x88) fun x89 => S.bd (idx r85.2.2 16 x89 (r85.2.1.getD 3 undef)) fun x90 => S.bd (lda r85.2.2 16 x90) fun x91 => S.bd (S.bd (bls 16 (List.replicate 1 [(Go.Value.int Go.IntKind.i64 0), (Go.Value.int Go.IntKind.u64 0), (Go.Value.int Go.IntKind.i64 0), (Go.Value.int Go.IntKind.i64 0), (Go.Value.int Go.IntKind.u64 0), (Go.Value.int Go.IntKind.i64 0), (Go.Value.int Go.IntKind.u64 0), (Go.Value.int Go.IntKind.i64 0), (Go.Value.int Go.IntKind.i64 0), (Go.Value.int Go.IntKind.u64 0), (Go.Value.int Go.IntKind.i64 0), (Go.Value.int Go.IntKind.u64 0), (Go.Value.bool Bool.false), (Go.Value.int Go.IntKind.i64 0), (Go.Value.int Go.IntKind.i64 0), (Go.Value.slice Option.none 0 0)]) [(0, x91)]) fun rows => als r85.2.2 16 1 rows) fun r92 => S.bd (app r92.2 16 144 (r85.2.1.getD 1 undef) r92.1) fun r93 => some (0, [(r85.2.1.getD 0 undef), r93.1, (r85.2.1.getD 2 undef), (r85.2.1.getD 3 undef), (r85.2.1.getD 4 undef), (r85.2.1.getD 5 undef), (r85.2.1.getD 6 undef), (Value.agg ⟨(cellsA (r85.2.1.getD 7 undef))⟩)], r93.2)) (some (0, [(r85.2.1.getD 0 undef), (r85.2.1.getD 1 undef), (r85.2.1.getD 2 undef), (r85.2.1.getD 3 undef), (r85.2.1.getD 4 undef), (r85.2.1.getD 5 undef), (r85.2.1.getD 6 undef), (Value.agg ⟨(cellsA (r85.2.1.getD 7 undef))⟩)], r85.2.2))) fun r94 => S.bd (eqb [1] false false (r94.2.1.getD 4 undef) (Go.Value.int Go.IntKind.i64 0)) fun x95 => S.bd (S.gd x95 true (some (r94.2.1.getD 2 undef))) fun x96 => S.bd (S.gd x95 true (un .not x96)) fun x97 => S.bd (pik x95 x97 (Go.Value.bool Bool.false)) fun x98 => S.cnd x98 (S.bd (lal (cellsA (r94.2.1.getD 7 undef)) 0 16) fun x99 => S.bd (S.bd (bls 16 (List.replicate 1 [(Go.Value.int Go.IntKind.i64 0), (Go.Value.int Go.IntKind.u64 0), (Go.Value.int Go.IntKind.i64 0), (Go.Value.int Go.IntKind.i64 0), (Go.Value.int Go.IntKind.u64 0), (Go.Value.int Go.IntKind.i64 0), (Go.Value.int Go.IntKind.u64 0), (Go.Value.int Go.IntKind.i64 0), (Go.Value.int Go.IntKind.i64 0), (Go.Value.int Go.IntKind.u64 0), (Go.Value.int Go.IntKind.i64 0), (Go.Value.int Go.IntKind.u64 0), (Go.Value.bool Bool.false), (Go.Value.int Go.IntKind.i64 0), (Go.Value.int Go.IntKind.i64 0), (Go.Value.slice Option.none 0 0)]) [(0, x99)]) fun rows => als r94.2.2 16 1 rows) fun r100 => S.bd (app r100.2 16 144 (r94.2.1.getD 1 undef) r100.1) fun r101 => S.bd (bin .add (r94.2.1.getD 3 undef) (Go.Value.int Go.IntKind.i64 1)) fun x102 => rec62 [(r94.2.1.getD 0 undef), r101.1, (Go.Value.bool Bool.true), x102, (Value.agg ⟨(cellsA (r94.2.1.getD 7 undef))⟩)] r101.2) (S.bd (bin .add (r94.2.1.getD 3 undef) (Go.Value.int Go.IntKind.i64 1)) fun x103 => rec62 [(r94.2.1.getD 0 undef), (r94.2.1.getD 1 undef), (r94.2.1.getD 2 undef), x103, (Value.agg ⟨(cellsA (r94.2.1.getD 7 undef))⟩)] r94.2.2)

def leapfrogref09x_Peer_set.l4 (S : Sig) (rec62 : List Value → St → Option Cut) (xs60 : List Value) (s61 : St) : Option Cut :=
  S.bd (nck (xs60.getD 0 undef)) fun x63 => S.bd (fld 9 x63) fun x64 => S.bd (ldc s61 x64) fun x65 => S.bd (lenL x65) fun x66 => S.bd (bin .lss (xs60.getD 3 undef) x66) fun x67 => S.cnd x67 (S.bd (nck (xs60.getD 0 undef)) fun x68 => S.bd (fld 9 x68) fun x69 => S.bd (ldc s61 x69) fun x70 => S.bd (idx s61 16 x70 (xs60.getD 3 undef)) fun x71 => S.bd (fld 0 x71) fun x72 => S.bd (lda s61 2 x72) fun x73 => S.bd (lal (cellsA (xs60.getD 4 undef)) 0 2) fun x74 => S.bd (leapfrogref01x_CompareQ.r x73 x74 s61) fun x75 => S.bd (xtr 0 x75) fun x76 => leapfrogref09x_Peer_set.l4.p1 S x75 x76 xs60 s61 rec62) (some (0, [(xs60.getD 0 undef), (xs60.getD 1 undef), (xs60.getD 2 undef), (Value.agg ⟨(cellsA (xs60.getD 4 undef))⟩)], s61))

def leapfrogref09x_Peer_set.t (S : Sig) (a0 a1 : Value) (s : St) : Option (Value × St) :=
  S.bd (bx a1) fun c1 => S.bd (lal c1 0 16) fun x2 => S.bd (leapfrogref09x_Peer_plain.r a0 x2 s) fun x3 => S.bd (S.it (leapfrogref09x_Peer_set.l4 S) [a0, (Go.Value.slice Option.none 0 0), x3, (Go.Value.int Go.IntKind.i64 0), (Value.agg ⟨c1⟩)] s) fun r104 => S.bd (show Option Cut from S.bd (un .not (r104.2.1.getD 2 undef)) fun x109 => S.cnd x109 (S.bd (lal (cellsA (r104.2.1.getD 3 undef)) 0 16) fun x110 => S.bd (S.bd (bls 16 (List.replicate 1 [(Go.Value.int Go.IntKind.i64 0), (Go.Value.int Go.IntKind.u64 0), (Go.Value.int Go.IntKind.i64 0), (Go.Value.int Go.IntKind.i64 0), (Go.Value.int Go.IntKind.u64 0), (Go.Value.int Go.IntKind.i64 0), (Go.Value.int Go.IntKind.u64 0), (Go.Value.int Go.IntKind.i64 0), (Go.Value.int Go.IntKind.i64 0), (Go.Value.int Go.IntKind.u64 0), (Go.Value.int Go.IntKind.i64 0), (Go.Value.int Go.IntKind.u64 0), (Go.Value.bool Bool.false), (Go.Value.int Go.IntKind.i64 0), (Go.Value.int Go.IntKind.i64 0), (Go.Value.slice Option.none 0 0)]) [(0, x110)]) fun rows => als r104.2.2 16 1 rows) fun r111 => S.bd (app r111.2 16 144 (r104.2.1.getD 1 undef) r111.1) fun r112 => some (0, [(r104.2.1.getD 0 undef), r112.1], r112.2)) (some (0, [(r104.2.1.getD 0 undef), (r104.2.1.getD 1 undef)], r104.2.2))) fun r113 => S.bd (nck (r113.2.1.getD 0 undef)) fun x114 => S.bd (fld 9 x114) fun x115 => S.bd (stv r113.2.2 1 x115 (r113.2.1.getD 1 undef)) fun s116 => some ((Value.tuple ⟨[]⟩), s116)
def leapfrogref09x_Peer_set.v (a0 a1 : Value) (s : St) : Option (Value × St) := leapfrogref09x_Peer_set.t std a0 a1 s
def leapfrogref09x_Peer_set.w : List Value → St → Option (Value × St)
  | [a0, a1], s => leapfrogref09x_Peer_set.v a0 a1 s
  | _, _ => none
def leapfrogref09x_Peer_set.an : An := ⟨77, false, [3], [(4, ⟨[.v 0, .p 3 3 0, .v 4, .v 5, .v 6, .l 3], [(.exit 0, [.v 0, .p 3 3 0, .v 4, .v 5, .l 3])]⟩)], [(10, ⟨[], [(.normal, [.v 0, .p 3 3 0, .v 4, .v 5, .v 6, .v 7, .v 38, .v 39, .l 3])]⟩), (12, ⟨[], [(.normal, [.v 0, .p 3 3 0, .v 4, .v 5, .v 6, .v 7, .v 38, .v 39, .l 3])]⟩), (17, ⟨[], [(.normal, [.v 0, .v 4])]⟩)], [(6, [(0, 0, [], []), (1, 0, [], []), (2, 0, [], []), (3, 2, [], []), (4, 0, [], []), (5, 2, [], []), (6, 0, [], []), (7, 2, [], []), (8, 0, [], []), (9, 25, [], []), (10, 3, [], []), (11, 0, [], []), (12, 0, [], []), (13, 0, [], []), (14, 0, [], []), (15, 0, [], [])])]⟩
theorem leapfrogref09x_Peer_set.ok (S : Sig) (a0 a1 : Value) (s : St) : evF S Tryz.prog leapfrogref09x_Peer_set.ctx leapfrogref09x_Peer_set.an Tryz.f100 [a0, a1] s = leapfrogref09x_Peer_set.t S a0 a1 s := by kernel_rfl
theorem leapfrogref09x_Peer_set.cok : CtxOk Tryz.prog leapfrogref09x_Peer_set.ctx := .cons leapfrogref09x_Peer_plain.sound leapfrogref09x_Peer_plain.can <| .cons leapfrogref01x_CompareQ.sound leapfrogref01x_CompareQ.can <| .nil
theorem leapfrogref09x_Peer_set.draws : fnDraws leapfrogref09x_Peer_set.an Tryz.f100 = true := by kernel_rfl
theorem leapfrogref09x_Peer_set.can : callOk Tryz.prog 100 = true := by kernel_rfl
theorem leapfrogref09x_Peer_set.sound : FnOk Tryz.prog 100 (.st leapfrogref09x_Peer_set.w) := FnOk.st_of (evF_ok leapfrogref09x_Peer_set.cok mixed (f := 100) (fn := Tryz.f100) (by kernel_rfl) leapfrogref09x_Peer_set.draws) fun args s r h => by
  unfold leapfrogref09x_Peer_set.w at h; split at h
  · rw [leapfrogref09x_Peer_set.ok std]; exact h
  · simp at h

/-! ### (*leapfrog/leapfrogref09.Peer).lock: function 79 -/
def leapfrogref09x_Peer_lock.ctx : Ctx := [(61, .rd leapfrogref09x_Peer_rec.w), (77, .rd leapfrogref09x_gone.w), (76, .st leapfrogref09x_told.w), (98, .st leapfrogref07x_Lock_Ask.w), (99, .rd leapfrogref09x_no.w), (100, .st leapfrogref09x_Peer_set.w), (78, .rd leapfrogref09x_Peer_of.w)]
def leapfrogref09x_Peer_lock.t.p1 (S : Sig) (r17 : Value × St) (r6 : Value × St) (a0 : Value) (x18 : Value) (a1 : Value) (c1 : List Value) : Option (Value × St) :=
  S.bd (lda r17.2 16 r6.1) fun x34 => S.bd (leapfrogref09x_Peer_set.v a0 x34 r17.2) fun r35 => S.cnd x18 (S.bd (lda r35.2 16 r6.1) fun x36 => S.bd (leapfrogref09x_Peer_of.r a0 x36 r35.2) fun x37 => S.bd (leapfrogref09x_told.v a1 x37 r35.2) fun r38 => some (r38.1, r38.2)) (S.bd (nck a0) fun x39 => S.bd (fld 10 x39) fun x40 => S.bd (ldc r35.2 x40) fun x41 => S.bd (lal c1 1 2) fun x42 => S.bd (lal c1 13 2) fun x43 => S.bd (bld [(Go.Value.int Go.IntKind.i64 0), (Go.Value.bool Bool.false), (Go.Value.int Go.IntKind.i64 0), (Go.Value.int Go.IntKind.u64 0), (Go.Value.int Go.IntKind.i64 0), (Go.Value.int Go.IntKind.i64 0)] [(0, 1, a1), (2, 2, x42), (4, 2, x43)]) fun x44 => S.bd (S.bd (bls 6 (List.replicate 1 [(Go.Value.int Go.IntKind.i64 0), (Go.Value.bool Bool.false), (Go.Value.int Go.IntKind.i64 0), (Go.Value.int Go.IntKind.u64 0), (Go.Value.int Go.IntKind.i64 0), (Go.Value.int Go.IntKind.i64 0)]) [(0, x44)]) fun rows => als r35.2 6 1 rows) fun _ => S.bd (S.bd (bls 6 (List.replicate 0 [(Go.Value.int Go.IntKind.i64 0), (Go.Value.bool Bool.false), (Go.Value.int Go.IntKind.i64 0), (Go.Value.int Go.IntKind.u64 0), (Go.Value.int Go.IntKind.i64 0), (Go.Value.int Go.IntKind.i64 0)]) []) fun rows => als r35.2 6 0 rows) fun r45 => S.bd (S.bd (bls 6 (List.replicate 1 [(Go.Value.int Go.IntKind.i64 0), (Go.Value.bool Bool.false), (Go.Value.int Go.IntKind.i64 0), (Go.Value.int Go.IntKind.u64 0), (Go.Value.int Go.IntKind.i64 0), (Go.Value.int Go.IntKind.i64 0)]) [(0, x44)]) fun rows => als r45.2 6 1 rows) fun _ => S.bd (app r45.2 6 48 r45.1 x41) fun r46 => S.bd (S.bd (bls 6 (List.replicate 1 [(Go.Value.int Go.IntKind.i64 0), (Go.Value.bool Bool.false), (Go.Value.int Go.IntKind.i64 0), (Go.Value.int Go.IntKind.u64 0), (Go.Value.int Go.IntKind.i64 0), (Go.Value.int Go.IntKind.i64 0)]) [(0, x44)]) fun rows => als r46.2 6 1 rows) fun r47 => S.bd (app r47.2 6 48 r46.1 r47.1) fun r48 => S.bd (nck a0) fun x49 => S.bd (fld 10 x49) fun x50 => S.bd (stv r48.2 1 x50 r48.1) fun s51 => some ((Go.Value.slice Option.none 0 0), s51))

def leapfrogref09x_Peer_lock.t (S : Sig) (a0 a1 a2 : Value) (s : St) : Option (Value × St) :=
  S.bd (bx a2) fun c1 => S.bd (lal c1 1 2) fun x2 => S.bd (leapfrogref09x_Peer_rec.r a0 x2 s) fun x3 => S.bd (xtr 0 x3) fun x4 => S.bd (xtr 1 x3) fun x5 => S.bd (alv s (Go.Value.agg #[(Go.Value.int Go.IntKind.i64 0), (Go.Value.int Go.IntKind.u64 0), (Go.Value.int Go.IntKind.i64 0), (Go.Value.int Go.IntKind.i64 0), (Go.Value.int Go.IntKind.u64 0), (Go.Value.int Go.IntKind.i64 0), (Go.Value.int Go.IntKind.u64 0), (Go.Value.int Go.IntKind.i64 0), (Go.Value.int Go.IntKind.i64 0), (Go.Value.int Go.IntKind.u64 0), (Go.Value.int Go.IntKind.i64 0), (Go.Value.int Go.IntKind.u64 0), (Go.Value.bool Bool.false), (Go.Value.int Go.IntKind.i64 0), (Go.Value.int Go.IntKind.i64 0), (Go.Value.slice Option.none 0 0)])) fun r6 => S.bd (stv r6.2 16 r6.1 x4) fun s7 => S.bd (un .not x5) fun x8 => S.cnd x8 (S.bd (leapfrogref09x_gone.r  s7) fun x9 => S.bd (leapfrogref09x_told.v a1 x9 s7) fun r10 => some (r10.1, r10.2)) (S.bd (fld 12 r6.1) fun x11 => S.bd (fld 3 x11) fun x12 => S.bd (ldc s7 x12) fun x13 => S.bd (lenL x13) fun x14 => S.bd (fld 12 r6.1) fun x15 => S.bd (lal c1 13 2) fun x16 => S.bd (leapfrogref07x_Lock_Ask.v x15 x16 s7) fun r17 => S.bd (xtr 0 r17.1) fun x18 => S.bd (xtr 1 r17.1) fun x19 => S.bd (eqb [1] false true x19 (Go.Value.int Go.IntKind.i64 0)) fun x20 => S.bd (S.gd x20 false (some x18)) fun x21 => S.bd (S.gd x20 false (un .not x21)) fun x22 => S.bd (S.gd x20 false (some x22)) fun x23 => S.bd (S.gd x23 true (fld 12 r6.1)) fun x24 => S.bd (S.gd x23 true (fld 3 x24)) fun x25 => S.bd (S.gd x23 true (ldc r17.2 x25)) fun x26 => S.bd (S.gd x23 true (lenL x26)) fun x27 => S.bd (S.gd x23 true (some x14)) fun x28 => S.bd (S.gd x23 true (eqb [1] false false x27 x28)) fun x29 => S.bd (S.gd x20 false (pik x23 x29 (Go.Value.bool Bool.false))) fun x30 => S.bd (pik x20 (Go.Value.bool Bool.true) x30) fun x31 => S.cnd x31 (S.bd (leapfrogref09x_no.r  r17.2) fun x32 => S.bd (leapfrogref09x_told.v a1 x32 r17.2) fun r33 => some (r33.1, r33.2)) (leapfrogref09x_Peer_lock.t.p1 S r17 r6 a0 x18 a1 c1))
def leapfrogref09x_Peer_lock.v (a0 a1 a2 : Value) (s : St) : Option (Value × St) := leapfrogref09x_Peer_lock.t std a0 a1 a2 s
def leapfrogref09x_Peer_lock.w : List Value → St → Option (Value × St)
  | [a0, a1, a2], s => leapfrogref09x_Peer_lock.v a0 a1 a2 s
  | _, _ => none
def leapfrogref09x_Peer_lock.an : An := ⟨78, false, [5], [], [], [(11, [(0, 0, [], []), (2, 0, [], []), (3, 0, [], []), (4, 0, [], []), (5, 2, [], []), (7, 0, [], []), (8, 0, [], []), (9, 41, [], []), (10, 0, [], []), (11, 41, [], []), (12, 0, [], []), (1, 3, [], [13]), (6, 4, [], [13]), (13, 3, [], []), (14, 4, [], []), (15, 0, [], []), (16, 0, [], []), (17, 4, [], [])])]⟩
theorem leapfrogref09x_Peer_lock.ok (S : Sig) (a0 a1 a2 : Value) (s : St) : evF S Tryz.prog leapfrogref09x_Peer_lock.ctx leapfrogref09x_Peer_lock.an Tryz.f79 [a0, a1, a2] s = leapfrogref09x_Peer_lock.t S a0 a1 a2 s := by kernel_rfl
theorem leapfrogref09x_Peer_lock.cok : CtxOk Tryz.prog leapfrogref09x_Peer_lock.ctx := .cons leapfrogref09x_Peer_rec.sound leapfrogref09x_Peer_rec.can <| .cons leapfrogref09x_gone.sound leapfrogref09x_gone.can <| .cons leapfrogref09x_told.sound leapfrogref09x_told.can <| .cons leapfrogref07x_Lock_Ask.sound leapfrogref07x_Lock_Ask.can <| .cons leapfrogref09x_no.sound leapfrogref09x_no.can <| .cons leapfrogref09x_Peer_set.sound leapfrogref09x_Peer_set.can <| .cons leapfrogref09x_Peer_of.sound leapfrogref09x_Peer_of.can <| .nil
theorem leapfrogref09x_Peer_lock.draws : fnDraws leapfrogref09x_Peer_lock.an Tryz.f79 = true := by kernel_rfl
theorem leapfrogref09x_Peer_lock.can : callOk Tryz.prog 79 = true := by kernel_rfl
theorem leapfrogref09x_Peer_lock.sound : FnOk Tryz.prog 79 (.st leapfrogref09x_Peer_lock.w) := FnOk.st_of (evF_ok leapfrogref09x_Peer_lock.cok mixed (f := 79) (fn := Tryz.f79) (by kernel_rfl) leapfrogref09x_Peer_lock.draws) fun args s r h => by
  unfold leapfrogref09x_Peer_lock.w at h; split at h
  · rw [leapfrogref09x_Peer_lock.ok std]; exact h
  · simp at h

/-! ### (*leapfrog/leapfrogref07.Lock).Free: function 101 -/
def leapfrogref07x_Lock_Free.ctx : Ctx := [(120, .rd leapfrogref07x_IsOwner.w)]
def leapfrogref07x_Lock_Free.t.p1 (S : Sig) (x12 : Value) (x16 : Value) (x17 : Value) (c2 : List Value) (s : St) (a0 : Value) : Option (Value × St) :=
  S.bd (S.gd x12 false (eqb [1, 1] true true x16 x17)) fun x18 => S.bd (pik x12 (Go.Value.bool Bool.true) x18) fun x19 => S.cnd x19 (S.bd (bld [(Go.Value.int Go.IntKind.i64 0), (Go.Value.int Go.IntKind.i64 0)] []) fun x20 => S.bd (stl c2 0 2 x20) fun c21 => S.bd (lal c21 0 2) fun x22 => some ((Value.tuple ⟨[x22, (Go.Value.bool Bool.false), (Go.Value.int Go.IntKind.i64 71)]⟩), s)) (S.bd (nck a0) fun x23 => S.bd (fld 3 x23) fun x24 => S.bd (ldc s x24) fun x25 => S.bd (lenL x25) fun x26 => S.bd (eqb [1] false false x26 (Go.Value.int Go.IntKind.i64 0)) fun x27 => S.cnd x27 (S.bd (bld [(Go.Value.int Go.IntKind.i64 0), (Go.Value.int Go.IntKind.i64 0)] []) fun x28 => S.bd (nck a0) fun x29 => S.bd (fld 0 x29) fun x30 => S.bd (stv s 1 x30 (Go.Value.bool Bool.false)) fun s31 => S.bd (nck a0) fun x32 => S.bd (fld 1 x32) fun x33 => S.bd (stv s31 2 x33 x28) fun s34 => S.bd (bld [(Go.Value.int Go.IntKind.i64 0), (Go.Value.int Go.IntKind.i64 0)] []) fun x35 => S.bd (stl c2 0 2 x35) fun c36 => S.bd (lal c36 0 2) fun x37 => some ((Value.tuple ⟨[x37, (Go.Value.bool Bool.false), (Go.Value.int Go.IntKind.i64 0)]⟩), s34)) (S.bd (nck a0) fun x38 => S.bd (fld 3 x38) fun x39 => S.bd (ldc s x39) fun x40 => S.bd (idx s 2 x40 (Go.Value.int Go.IntKind.i64 0)) fun x41 => S.bd (lda s 2 x41) fun x42 => S.bd (nck a0) fun x43 => S.bd (fld 1 x43) fun x44 => S.bd (stv s 2 x44 x42) fun s45 => S.bd (S.bd (bls 2 (List.replicate 0 [(Go.Value.int Go.IntKind.i64 0), (Go.Value.int Go.IntKind.i64 0)]) []) fun rows => als s45 2 0 rows) fun r46 => S.bd (nck a0) fun x47 => S.bd (fld 3 x47) fun x48 => S.bd (ldc r46.2 x48) fun x49 => S.bd (slc r46.2 2 x49 (some (Go.Value.int Go.IntKind.i64 1)) none none) fun x50 => S.bd (app r46.2 2 16 r46.1 x50) fun r51 => S.bd (nck a0) fun x52 => S.bd (fld 3 x52) fun x53 => S.bd (stv r51.2 1 x53 r51.1) fun s54 => S.bd (nck a0) fun x55 => S.bd (fld 1 x55) fun x56 => S.bd (lda s54 2 x56) fun x57 => S.bd (stl c2 0 2 x57) fun c58 => S.bd (lal c58 0 2) fun x59 => some ((Value.tuple ⟨[x59, (Go.Value.bool Bool.true), (Go.Value.int Go.IntKind.i64 0)]⟩), s54)))

def leapfrogref07x_Lock_Free.t (S : Sig) (a0 a1 : Value) (s : St) : Option (Value × St) :=
  S.bd (bx a1) fun c1 => S.bd (bx (Go.Value.agg #[(Go.Value.int Go.IntKind.i64 0), (Go.Value.int Go.IntKind.i64 0)])) fun c2 => S.bd (lal c1 0 2) fun x3 => S.bd (leapfrogref07x_IsOwner.r x3 s) fun x4 => S.bd (un .not x4) fun x5 => S.cnd x5 (S.bd (bld [(Go.Value.int Go.IntKind.i64 0), (Go.Value.int Go.IntKind.i64 0)] []) fun x6 => S.bd (stl c2 0 2 x6) fun c7 => S.bd (lal c7 0 2) fun x8 => some ((Value.tuple ⟨[x8, (Go.Value.bool Bool.false), (Go.Value.int Go.IntKind.i64 70)]⟩), s)) (S.bd (nck a0) fun x9 => S.bd (fld 0 x9) fun x10 => S.bd (ldc s x10) fun x11 => S.bd (un .not x11) fun x12 => S.bd (S.gd x12 false (some a0)) fun x13 => S.bd (S.gd x12 false (nck x13)) fun x14 => S.bd (S.gd x12 false (fld 1 x14)) fun x15 => S.bd (S.gd x12 false (lda s 2 x15)) fun x16 => S.bd (S.gd x12 false (lal c1 0 2)) fun x17 => leapfrogref07x_Lock_Free.t.p1 S x12 x16 x17 c2 s a0)
def leapfrogref07x_Lock_Free.v (a0 a1 : Value) (s : St) : Option (Value × St) := leapfrogref07x_Lock_Free.t std a0 a1 s
def leapfrogref07x_Lock_Free.w : List Value → St → Option (Value × St)
  | [a0, a1], s => leapfrogref07x_Lock_Free.v a0 a1 s
  | _, _ => none
def leapfrogref07x_Lock_Free.an : An := ⟨62, false, [3, 4], [], [], [(3, [(0, 0, [], []), (1, 0, [], []), (2, 0, [], []), (3, 2, [], []), (4, 0, [], []), (5, 0, [], []), (6, 0, [], []), (7, 0, [], []), (8, 0, [], []), (9, 2, [], []), (10, 25, [], []), (11, 0, [], []), (12, 0, [], [])])]⟩
theorem leapfrogref07x_Lock_Free.ok (S : Sig) (a0 a1 : Value) (s : St) : evF S Tryz.prog leapfrogref07x_Lock_Free.ctx leapfrogref07x_Lock_Free.an Tryz.f101 [a0, a1] s = leapfrogref07x_Lock_Free.t S a0 a1 s := by kernel_rfl
theorem leapfrogref07x_Lock_Free.cok : CtxOk Tryz.prog leapfrogref07x_Lock_Free.ctx := .cons leapfrogref07x_IsOwner.sound leapfrogref07x_IsOwner.can <| .nil
theorem leapfrogref07x_Lock_Free.draws : fnDraws leapfrogref07x_Lock_Free.an Tryz.f101 = true := by kernel_rfl
theorem leapfrogref07x_Lock_Free.can : callOk Tryz.prog 101 = true := by kernel_rfl
theorem leapfrogref07x_Lock_Free.sound : FnOk Tryz.prog 101 (.st leapfrogref07x_Lock_Free.w) := FnOk.st_of (evF_ok leapfrogref07x_Lock_Free.cok mixed (f := 101) (fn := Tryz.f101) (by kernel_rfl) leapfrogref07x_Lock_Free.draws) fun args s r h => by
  unfold leapfrogref07x_Lock_Free.w at h; split at h
  · rw [leapfrogref07x_Lock_Free.ok std]; exact h
  · simp at h


end
end Go.Proofs.YtjiknclbjbfdjaaGreat
