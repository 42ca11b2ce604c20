/-
  What the functions answer that ReadNobody reaches (part 0): for each function of the program a plain function over abstract values, and that the model answers as it does.
-/
import Derived.Test.YtjiknclbjbfdjaaGreatSimZ
import Derived.Test.YtjiknclbjbfdjaaGreatProg
import Derived.KernelRfl
set_option linter.unusedVariables false
set_option maxRecDepth 100000
namespace Go.Proofs.YtjiknclbjbfdjaaGreat
open Go.Sim
theorem mixed : Tryz.prog.follows .mixedOrders = true := by kernel_rfl
/-! ### (*leapfrog/seek.Seek).is: function 43 -/
def seek_Seek_is.ctx : Ctx := []
def seek_Seek_is.t (S : Sig) (a0 : Value) (s : St) : Option Value :=
  S.bd (eqb [3] false true a0 (Go.Value.pointer Option.none)) fun x1 => S.bd (S.gd x1 true (some a0)) fun x2 => S.bd (S.gd x1 true (nck x2)) fun x3 => S.bd (S.gd x1 true (fld 8 x3)) fun x4 => S.bd (S.gd x1 true (ldc s x4)) fun x5 => S.bd (pik x1 x5 (Go.Value.bool Bool.false)) fun x6 => some (x6)
def seek_Seek_is.r (a0 : Value) (s : St) : Option Value := seek_Seek_is.t std a0 s
def seek_Seek_is.w : List Value → St → Option Value
  | [a0], s => seek_Seek_is.r a0 s
  | _, _ => none
def seek_Seek_is.an : An := ⟨11, true, [], [], [], []⟩
theorem seek_Seek_is.ok (S : Sig) (a0 : Value) (s : St) : evG S Tryz.prog seek_Seek_is.ctx seek_Seek_is.an Tryz.f43 [a0] s = seek_Seek_is.t S a0 s := by kernel_rfl
theorem seek_Seek_is.cok : CtxOk Tryz.prog seek_Seek_is.ctx := .nil
theorem seek_Seek_is.draws : fnDraws seek_Seek_is.an Tryz.f43 = true := by kernel_rfl
theorem seek_Seek_is.can : callOk Tryz.prog 43 = true := by kernel_rfl
theorem seek_Seek_is.sound : FnOk Tryz.prog 43 (.rd seek_Seek_is.w) := FnOk.rd_of (evG_ok seek_Seek_is.cok mixed (f := 43) (fn := Tryz.f43) (by kernel_rfl) seek_Seek_is.draws) fun args s r h => by
  unfold seek_Seek_is.w at h; split at h
  · rw [seek_Seek_is.ok std]; exact h
  · simp at h

/-! ### (*leapfrog/seek.Seek).keep: function 64 -/
def seek_Seek_keep.ctx : Ctx := []
def seek_Seek_keep.t (S : Sig) (a0 a1 a2 : Value) (s : St) : Option (Value × St) :=
  S.bd (bx a1) fun c1 => S.bd (bx a2) fun c2 => S.bd (nck a0) fun x3 => S.bd (fld 22 x3) fun x4 => S.bd (ldc s x4) fun x5 => S.bd (lcl c1 0) fun x6 => S.bd (nck a0) fun x7 => S.bd (fld 14 x7) fun x8 => S.bd (lda s 2 x8) fun x9 => S.bd (bld [(Go.Value.int Go.IntKind.i64 0), (Go.Value.int Go.IntKind.i64 0), (Go.Value.int Go.IntKind.u64 0)] [(0, 1, x6), (1, 2, x9)]) fun x10 => S.bd (lal c2 7 5) fun x11 => S.bd (upm s [1, 1, 1] true x5 x10 x11) fun s12 => some ((Value.tuple ⟨[]⟩), s12)
def seek_Seek_keep.v (a0 a1 a2 : Value) (s : St) : Option (Value × St) := seek_Seek_keep.t std a0 a1 a2 s
def seek_Seek_keep.w : List Value → St → Option (Value × St)
  | [a0, a1, a2], s => seek_Seek_keep.v a0 a1 a2 s
  | _, _ => none
def seek_Seek_keep.an : An := ⟨19, false, [4, 5], [], [], [(1, [(0, 0, [], []), (1, 0, [], []), (2, 0, [], []), (3, 2, [], []), (4, 0, [], []), (5, 33, [], []), (6, 0, [], []), (7, 0, [], []), (8, 0, [], []), (9, 2, [], []), (10, 0, [], []), (11, 0, [], []), (12, 41, [], []), (13, 4, [], [])])]⟩
theorem seek_Seek_keep.ok (S : Sig) (a0 a1 a2 : Value) (s : St) : evF S Tryz.prog seek_Seek_keep.ctx seek_Seek_keep.an Tryz.f64 [a0, a1, a2] s = seek_Seek_keep.t S a0 a1 a2 s := by kernel_rfl
theorem seek_Seek_keep.cok : CtxOk Tryz.prog seek_Seek_keep.ctx := .nil
theorem seek_Seek_keep.draws : fnDraws seek_Seek_keep.an Tryz.f64 = true := by kernel_rfl
theorem seek_Seek_keep.can : callOk Tryz.prog 64 = true := by kernel_rfl
theorem seek_Seek_keep.sound : FnOk Tryz.prog 64 (.st seek_Seek_keep.w) := FnOk.st_of (evF_ok seek_Seek_keep.cok mixed (f := 64) (fn := Tryz.f64) (by kernel_rfl) seek_Seek_keep.draws) fun args s r h => by
  unfold seek_Seek_keep.w at h; split at h
  · rw [seek_Seek_keep.ok std]; exact h
  · simp at h

/-! ### (*leapfrog/seek.Seek).counts: function 65 -/
def seek_Seek_counts.ctx : Ctx := []
def seek_Seek_counts.t (S : Sig) (a0 : Value) (s : St) : Option (Value × St) :=
  S.bd (nck a0) fun x1 => S.bd (fld 23 x1) fun x2 => S.bd (ldc s x2) fun x3 => S.bd (bin .geq x3 (Go.Value.int Go.IntKind.i64 64)) fun x4 => S.cnd x4 (S.bd (bld [(Go.Value.int Go.IntKind.i64 0), (Go.Value.int Go.IntKind.u64 0), (Go.Value.slice Option.none 0 0), (Go.Value.slice Option.none 0 0), (Go.Value.int Go.IntKind.i64 0), (Go.Value.int Go.IntKind.i64 0), (Go.Value.int Go.IntKind.u64 0), (Go.Value.int Go.IntKind.i64 0), (Go.Value.int Go.IntKind.u64 0), (Go.Value.int Go.IntKind.i64 0), (Go.Value.int Go.IntKind.i64 0), (Go.Value.int Go.IntKind.u64 0), (Go.Value.int Go.IntKind.i64 0), (Go.Value.int Go.IntKind.u64 0), (Go.Value.bool Bool.false)] [(0, 1, (Go.Value.int Go.IntKind.i64 121))]) fun x5 => S.bd (nck a0) fun x6 => S.bd (fld 24 x6) fun x7 => S.bd (stv s 1 x7 (Go.Value.bool Bool.true)) fun s8 => S.bd (nck a0) fun x9 => S.bd (fld 25 x9) fun x10 => S.bd (stv s8 15 x10 x5) fun s11 => some ((Go.Value.bool Bool.false), s11)) (S.bd (nck a0) fun x12 => S.bd (fld 23 x12) fun x13 => S.bd (ldc s x13) fun x14 => S.bd (bin .add x14 (Go.Value.int Go.IntKind.i64 1)) fun x15 => S.bd (nck a0) fun x16 => S.bd (fld 23 x16) fun x17 => S.bd (stv s 1 x17 x15) fun s18 => some ((Go.Value.bool Bool.true), s18))
def seek_Seek_counts.v (a0 : Value) (s : St) : Option (Value × St) := seek_Seek_counts.t std a0 s
def seek_Seek_counts.w : List Value → St → Option (Value × St)
  | [a0], s => seek_Seek_counts.v a0 s
  | _, _ => none
def seek_Seek_counts.an : An := ⟨22, false, [], [], [], []⟩
theorem seek_Seek_counts.ok (S : Sig) (a0 : Value) (s : St) : evF S Tryz.prog seek_Seek_counts.ctx seek_Seek_counts.an Tryz.f65 [a0] s = seek_Seek_counts.t S a0 s := by kernel_rfl
theorem seek_Seek_counts.cok : CtxOk Tryz.prog seek_Seek_counts.ctx := .nil
theorem seek_Seek_counts.draws : fnDraws seek_Seek_counts.an Tryz.f65 = true := by kernel_rfl
theorem seek_Seek_counts.can : callOk Tryz.prog 65 = true := by kernel_rfl
theorem seek_Seek_counts.sound : FnOk Tryz.prog 65 (.st seek_Seek_counts.w) := FnOk.st_of (evF_ok seek_Seek_counts.cok mixed (f := 65) (fn := Tryz.f65) (by kernel_rfl) seek_Seek_counts.draws) fun args s r h => by
  unfold seek_Seek_counts.w at h; split at h
  · rw [seek_Seek_counts.ok std]; exact h
  · simp at h

/-! ### (*leapfrog/seek.Seek).Dead: function 50 -/
def seek_Seek_Dead.ctx : Ctx := [(43, .rd seek_Seek_is.w), (64, .st seek_Seek_keep.w), (65, .st seek_Seek_counts.w)]
def seek_Seek_Dead.t (S : Sig) (a0 a1 : Value) (s : St) : Option (Value × St) :=
  S.bd (bx a1) fun c1 => S.bd (seek_Seek_is.r a0 s) fun x2 => S.bd (un .not x2) fun x3 => S.bd (S.gd x3 false (some a0)) fun x4 => S.bd (S.gd x3 false (nck x4)) fun x5 => S.bd (S.gd x3 false (fld 24 x5)) fun x6 => S.bd (S.gd x3 false (ldc s x6)) fun x7 => S.bd (S.gd x3 false (un .not x7)) fun x8 => S.bd (pik x3 (Go.Value.bool Bool.true) x8) fun x9 => S.bd (S.gd x9 false (some a0)) fun x10 => S.bd (S.gd x9 false (nck x10)) fun x11 => S.bd (S.gd x9 false (fld 25 x11)) fun x12 => S.bd (S.gd x9 false (fld 0 x12)) fun x13 => S.bd (S.gd x9 false (ldc s x13)) fun x14 => S.bd (S.gd x9 false (eqb [1] false true x14 (Go.Value.int Go.IntKind.i64 0))) fun x15 => S.bd (pik x9 (Go.Value.bool Bool.true) x15) fun x16 => S.cnd x16 (some ((Value.tuple ⟨[]⟩), s)) (S.bd (nck a0) fun x17 => S.bd (fld 25 x17) fun x18 => S.bd (fld 9 x18) fun x19 => S.bd (lda s 5 x19) fun x20 => S.bd (lal c1 0 13) fun x21 => S.bd (seek_Seek_keep.v a0 x20 x21 s) fun r22 => S.bd (bld [(Go.Value.int Go.IntKind.i64 0), (Go.Value.int Go.IntKind.u64 0), (Go.Value.slice Option.none 0 0), (Go.Value.slice Option.none 0 0), (Go.Value.int Go.IntKind.i64 0), (Go.Value.int Go.IntKind.i64 0), (Go.Value.int Go.IntKind.u64 0), (Go.Value.int Go.IntKind.i64 0), (Go.Value.int Go.IntKind.u64 0), (Go.Value.int Go.IntKind.i64 0), (Go.Value.int Go.IntKind.i64 0), (Go.Value.int Go.IntKind.u64 0), (Go.Value.int Go.IntKind.i64 0), (Go.Value.int Go.IntKind.u64 0), (Go.Value.bool Bool.false)] []) fun x23 => S.bd (nck a0) fun x24 => S.bd (fld 24 x24) fun x25 => S.bd (stv r22.2 1 x25 (Go.Value.bool Bool.false)) fun s26 => S.bd (nck a0) fun x27 => S.bd (fld 25 x27) fun x28 => S.bd (stv s26 15 x28 x23) fun s29 => S.bd (seek_Seek_counts.v a0 s29) fun r30 => some ((Value.tuple ⟨[]⟩), r30.2))
def seek_Seek_Dead.v (a0 a1 : Value) (s : St) : Option (Value × St) := seek_Seek_Dead.t std a0 a1 s
def seek_Seek_Dead.w : List Value → St → Option (Value × St)
  | [a0, a1], s => seek_Seek_Dead.v a0 a1 s
  | _, _ => none
def seek_Seek_Dead.an : An := ⟨39, false, [3], [], [], [(2, [(0, 0, [], []), (1, 0, [], []), (2, 0, [], []), (3, 0, [], []), (4, 0, [], []), (5, 2, [], []), (6, 25, [], []), (7, 4, [], [])])]⟩
theorem seek_Seek_Dead.ok (S : Sig) (a0 a1 : Value) (s : St) : evF S Tryz.prog seek_Seek_Dead.ctx seek_Seek_Dead.an Tryz.f50 [a0, a1] s = seek_Seek_Dead.t S a0 a1 s := by kernel_rfl
theorem seek_Seek_Dead.cok : CtxOk Tryz.prog seek_Seek_Dead.ctx := .cons seek_Seek_is.sound seek_Seek_is.can <| .cons seek_Seek_keep.sound seek_Seek_keep.can <| .cons seek_Seek_counts.sound seek_Seek_counts.can <| .nil
theorem seek_Seek_Dead.draws : fnDraws seek_Seek_Dead.an Tryz.f50 = true := by kernel_rfl
theorem seek_Seek_Dead.can : callOk Tryz.prog 50 = true := by kernel_rfl
theorem seek_Seek_Dead.sound : FnOk Tryz.prog 50 (.st seek_Seek_Dead.w) := FnOk.st_of (evF_ok seek_Seek_Dead.cok mixed (f := 50) (fn := Tryz.f50) (by kernel_rfl) seek_Seek_Dead.draws) fun args s r h => by
  unfold seek_Seek_Dead.w at h; split at h
  · rw [seek_Seek_Dead.ok std]; exact h
  · simp at h

/-! ### (*leapfrog/seek.Seek).Next: function 25 -/
def seek_Seek_Next.ctx : Ctx := [(43, .rd seek_Seek_is.w)]
def seek_Seek_Next.t.p1 (S : Sig) (r35 : Cut) (x38 : Value) (x36 : Value) : Option Value :=
  S.bd (lda r35.2.2 2 x38) fun x39 => S.bd (bld [(Go.Value.int Go.IntKind.i64 0), (Go.Value.int Go.IntKind.i64 0), (Go.Value.int Go.IntKind.u64 0), (Go.Value.int Go.IntKind.i64 0), (Go.Value.int Go.IntKind.i64 0), (Go.Value.int Go.IntKind.u64 0), (Go.Value.int Go.IntKind.i64 0), (Go.Value.int Go.IntKind.u64 0), (Go.Value.int Go.IntKind.i64 0), (Go.Value.int Go.IntKind.i64 0), (Go.Value.int Go.IntKind.u64 0), (Go.Value.int Go.IntKind.i64 0), (Go.Value.int Go.IntKind.u64 0), (Go.Value.int Go.IntKind.i64 0), (Go.Value.int Go.IntKind.i64 0)] [(0, 1, (Go.Value.int Go.IntKind.i64 1)), (1, 2, x39)]) fun x40 => S.bd (bld [(Go.Value.int Go.IntKind.i64 0), (Go.Value.int Go.IntKind.i64 0), (Go.Value.int Go.IntKind.i64 0), (Go.Value.int Go.IntKind.u64 0), (Go.Value.int Go.IntKind.i64 0), (Go.Value.int Go.IntKind.u64 0), (Go.Value.int Go.IntKind.i64 0), (Go.Value.int Go.IntKind.i64 0), (Go.Value.int Go.IntKind.u64 0), (Go.Value.int Go.IntKind.i64 0), (Go.Value.int Go.IntKind.i64 0), (Go.Value.int Go.IntKind.u64 0), (Go.Value.int Go.IntKind.i64 0), (Go.Value.int Go.IntKind.u64 0), (Go.Value.int Go.IntKind.i64 0), (Go.Value.int Go.IntKind.i64 0), (Go.Value.int Go.IntKind.u64 0), (Go.Value.int Go.IntKind.i64 0), (Go.Value.int Go.IntKind.u64 0), (Go.Value.int Go.IntKind.i64 0), (Go.Value.int Go.IntKind.i64 0), (Go.Value.int Go.IntKind.i64 0), (Go.Value.int Go.IntKind.u64 0), (Go.Value.slice Option.none 0 0), (Go.Value.slice Option.none 0 0), (Go.Value.int Go.IntKind.i64 0), (Go.Value.int Go.IntKind.i64 0), (Go.Value.int Go.IntKind.u64 0), (Go.Value.int Go.IntKind.i64 0), (Go.Value.int Go.IntKind.u64 0), (Go.Value.int Go.IntKind.i64 0), (Go.Value.int Go.IntKind.i64 0), (Go.Value.int Go.IntKind.u64 0), (Go.Value.int Go.IntKind.i64 0), (Go.Value.int Go.IntKind.u64 0), (Go.Value.bool Bool.false)] [(0, 1, (Go.Value.int Go.IntKind.i64 1)), (1, 5, x36), (6, 15, x40)]) fun x41 => S.bd (stl (cellsA (r35.2.1.getD 1 undef)) 0 36 x41) fun c42 => S.bd (lal c42 0 36) fun x43 => some (x43)

def seek_Seek_Next.t.p2 (S : Sig) (a0 : Value) (s : St) (c1 : List Value) : Option Value :=
  S.bd (nck a0) fun x7 => S.bd (fld 24 x7) fun x8 => S.bd (ldc s x8) fun x9 => S.cnd x9 (S.bd (nck a0) fun x10 => S.bd (fld 25 x10) fun x11 => S.bd (lda s 15 x11) fun x12 => S.bd (bld [(Go.Value.int Go.IntKind.i64 0), (Go.Value.int Go.IntKind.i64 0), (Go.Value.int Go.IntKind.i64 0), (Go.Value.int Go.IntKind.u64 0), (Go.Value.int Go.IntKind.i64 0), (Go.Value.int Go.IntKind.u64 0), (Go.Value.int Go.IntKind.i64 0), (Go.Value.int Go.IntKind.i64 0), (Go.Value.int Go.IntKind.u64 0), (Go.Value.int Go.IntKind.i64 0), (Go.Value.int Go.IntKind.i64 0), (Go.Value.int Go.IntKind.u64 0), (Go.Value.int Go.IntKind.i64 0), (Go.Value.int Go.IntKind.u64 0), (Go.Value.int Go.IntKind.i64 0), (Go.Value.int Go.IntKind.i64 0), (Go.Value.int Go.IntKind.u64 0), (Go.Value.int Go.IntKind.i64 0), (Go.Value.int Go.IntKind.u64 0), (Go.Value.int Go.IntKind.i64 0), (Go.Value.int Go.IntKind.i64 0), (Go.Value.int Go.IntKind.i64 0), (Go.Value.int Go.IntKind.u64 0), (Go.Value.slice Option.none 0 0), (Go.Value.slice Option.none 0 0), (Go.Value.int Go.IntKind.i64 0), (Go.Value.int Go.IntKind.i64 0), (Go.Value.int Go.IntKind.u64 0), (Go.Value.int Go.IntKind.i64 0), (Go.Value.int Go.IntKind.u64 0), (Go.Value.int Go.IntKind.i64 0), (Go.Value.int Go.IntKind.i64 0), (Go.Value.int Go.IntKind.u64 0), (Go.Value.int Go.IntKind.i64 0), (Go.Value.int Go.IntKind.u64 0), (Go.Value.bool Bool.false)] [(0, 1, (Go.Value.int Go.IntKind.i64 3)), (21, 15, x12)]) fun x13 => S.bd (stl c1 0 36 x13) fun c14 => S.bd (lal c14 0 36) fun x15 => some (x15)) (S.bd (nck a0) fun x16 => S.bd (fld 9 x16) fun x17 => S.bd (lda s 5 x17) fun x18 => S.bd (bx (Go.Value.agg #[(Go.Value.int Go.IntKind.i64 0), (Go.Value.int Go.IntKind.i64 0), (Go.Value.int Go.IntKind.u64 0), (Go.Value.int Go.IntKind.i64 0), (Go.Value.int Go.IntKind.u64 0)])) fun c19 => S.bd (stl c19 0 5 x18) fun c20 => S.bd (show Option Cut from S.bd (nck a0) fun x28 => S.bd (fld 16 x28) fun x29 => S.bd (ldc s x29) fun x30 => S.cnd x30 (S.bd (nck a0) fun x31 => S.bd (fld 17 x31) fun x32 => S.bd (lda s 5 x32) fun x33 => S.bd (stl c20 0 5 x33) fun c34 => some (0, [a0, (Value.agg ⟨c1⟩), (Value.agg ⟨c34⟩)], s)) (some (0, [a0, (Value.agg ⟨c1⟩), (Value.agg ⟨c20⟩)], s))) fun r35 => S.bd (lal (cellsA (r35.2.1.getD 2 undef)) 0 5) fun x36 => S.bd (nck (r35.2.1.getD 0 undef)) fun x37 => S.bd (fld 14 x37) fun x38 => seek_Seek_Next.t.p1 S r35 x38 x36)

def seek_Seek_Next.t (S : Sig) (a0 : Value) (s : St) : Option Value :=
  S.bd (bx (Go.Value.agg #[(Go.Value.int Go.IntKind.i64 0), (Go.Value.int Go.IntKind.i64 0), (Go.Value.int Go.IntKind.i64 0), (Go.Value.int Go.IntKind.u64 0), (Go.Value.int Go.IntKind.i64 0), (Go.Value.int Go.IntKind.u64 0), (Go.Value.int Go.IntKind.i64 0), (Go.Value.int Go.IntKind.i64 0), (Go.Value.int Go.IntKind.u64 0), (Go.Value.int Go.IntKind.i64 0), (Go.Value.int Go.IntKind.i64 0), (Go.Value.int Go.IntKind.u64 0), (Go.Value.int Go.IntKind.i64 0), (Go.Value.int Go.IntKind.u64 0), (Go.Value.int Go.IntKind.i64 0), (Go.Value.int Go.IntKind.i64 0), (Go.Value.int Go.IntKind.u64 0), (Go.Value.int Go.IntKind.i64 0), (Go.Value.int Go.IntKind.u64 0), (Go.Value.int Go.IntKind.i64 0), (Go.Value.int Go.IntKind.i64 0), (Go.Value.int Go.IntKind.i64 0), (Go.Value.int Go.IntKind.u64 0), (Go.Value.slice Option.none 0 0), (Go.Value.slice Option.none 0 0), (Go.Value.int Go.IntKind.i64 0), (Go.Value.int Go.IntKind.i64 0), (Go.Value.int Go.IntKind.u64 0), (Go.Value.int Go.IntKind.i64 0), (Go.Value.int Go.IntKind.u64 0), (Go.Value.int Go.IntKind.i64 0), (Go.Value.int Go.IntKind.i64 0), (Go.Value.int Go.IntKind.u64 0), (Go.Value.int Go.IntKind.i64 0), (Go.Value.int Go.IntKind.u64 0), (Go.Value.bool Bool.false)])) fun c1 => S.bd (seek_Seek_is.r a0 s) fun x2 => S.bd (un .not x2) fun x3 => S.cnd x3 (S.bd (bld [(Go.Value.int Go.IntKind.i64 0), (Go.Value.int Go.IntKind.i64 0), (Go.Value.int Go.IntKind.i64 0), (Go.Value.int Go.IntKind.u64 0), (Go.Value.int Go.IntKind.i64 0), (Go.Value.int Go.IntKind.u64 0), (Go.Value.int Go.IntKind.i64 0), (Go.Value.int Go.IntKind.i64 0), (Go.Value.int Go.IntKind.u64 0), (Go.Value.int Go.IntKind.i64 0), (Go.Value.int Go.IntKind.i64 0), (Go.Value.int Go.IntKind.u64 0), (Go.Value.int Go.IntKind.i64 0), (Go.Value.int Go.IntKind.u64 0), (Go.Value.int Go.IntKind.i64 0), (Go.Value.int Go.IntKind.i64 0), (Go.Value.int Go.IntKind.u64 0), (Go.Value.int Go.IntKind.i64 0), (Go.Value.int Go.IntKind.u64 0), (Go.Value.int Go.IntKind.i64 0), (Go.Value.int Go.IntKind.i64 0), (Go.Value.int Go.IntKind.i64 0), (Go.Value.int Go.IntKind.u64 0), (Go.Value.slice Option.none 0 0), (Go.Value.slice Option.none 0 0), (Go.Value.int Go.IntKind.i64 0), (Go.Value.int Go.IntKind.i64 0), (Go.Value.int Go.IntKind.u64 0), (Go.Value.int Go.IntKind.i64 0), (Go.Value.int Go.IntKind.u64 0), (Go.Value.int Go.IntKind.i64 0), (Go.Value.int Go.IntKind.i64 0), (Go.Value.int Go.IntKind.u64 0), (Go.Value.int Go.IntKind.i64 0), (Go.Value.int Go.IntKind.u64 0), (Go.Value.bool Bool.false)] []) fun x4 => S.bd (stl c1 0 36 x4) fun c5 => S.bd (lal c5 0 36) fun x6 => some (x6)) (seek_Seek_Next.t.p2 S a0 s c1)
def seek_Seek_Next.r (a0 : Value) (s : St) : Option Value := seek_Seek_Next.t std a0 s
def seek_Seek_Next.w : List Value → St → Option Value
  | [a0], s => seek_Seek_Next.r a0 s
  | _, _ => none
def seek_Seek_Next.an : An := ⟨36, true, [2, 3], [], [(8, ⟨[], [(.normal, [.v 0, .p 2 2 0, .p 3 3 0, .l 2, .l 3])]⟩)], [(8, [(0, 25, [], []), (1, 0, [], []), (2, 0, [], []), (3, 0, [], []), (4, 2, [], []), (5, 0, [], []), (6, 0, [], []), (7, 21, [], [])])]⟩
theorem seek_Seek_Next.ok (S : Sig) (a0 : Value) (s : St) : evG S Tryz.prog seek_Seek_Next.ctx seek_Seek_Next.an Tryz.f25 [a0] s = seek_Seek_Next.t S a0 s := by kernel_rfl
theorem seek_Seek_Next.cok : CtxOk Tryz.prog seek_Seek_Next.ctx := .cons seek_Seek_is.sound seek_Seek_is.can <| .nil
theorem seek_Seek_Next.draws : fnDraws seek_Seek_Next.an Tryz.f25 = true := by kernel_rfl
theorem seek_Seek_Next.can : callOk Tryz.prog 25 = true := by kernel_rfl
theorem seek_Seek_Next.sound : FnOk Tryz.prog 25 (.rd seek_Seek_Next.w) := FnOk.rd_of (evG_ok seek_Seek_Next.cok mixed (f := 25) (fn := Tryz.f25) (by kernel_rfl) seek_Seek_Next.draws) fun args s r h => by
  unfold seek_Seek_Next.w at h; split at h
  · rw [seek_Seek_Next.ok std]; exact h
  · simp at h

/-! ### (*leapfrog/read.Read).end: function 48 -/
def read_Read_end.ctx : Ctx := []
def read_Read_end.t (S : Sig) (a0 a1 : Value) (s : St) : Option (Value × St) :=
  S.bd (bx a1) fun c1 => S.bd (lal c1 0 15) fun x2 => S.bd (nck a0) fun x3 => S.bd (fld 8 x3) fun x4 => S.bd (stv s 1 x4 (Go.Value.int Go.IntKind.i64 4)) fun s5 => S.bd (nck a0) fun x6 => S.bd (fld 17 x6) fun x7 => S.bd (stv s5 15 x7 x2) fun s8 => some ((Value.tuple ⟨[]⟩), s8)
def read_Read_end.v (a0 a1 : Value) (s : St) : Option (Value × St) := read_Read_end.t std a0 a1 s
def read_Read_end.w : List Value → St → Option (Value × St)
  | [a0, a1], s => read_Read_end.v a0 a1 s
  | _, _ => none
def read_Read_end.an : An := ⟨11, false, [3], [], [], [(1, [(0, 0, [], []), (1, 0, [], []), (2, 25, [], []), (3, 0, [], []), (4, 0, [], []), (5, 4, [], []), (6, 0, [], []), (7, 0, [], []), (8, 4, [], [])])]⟩
theorem read_Read_end.ok (S : Sig) (a0 a1 : Value) (s : St) : evF S Tryz.prog read_Read_end.ctx read_Read_end.an Tryz.f48 [a0, a1] s = read_Read_end.t S a0 a1 s := by kernel_rfl
theorem read_Read_end.cok : CtxOk Tryz.prog read_Read_end.ctx := .nil
theorem read_Read_end.draws : fnDraws read_Read_end.an Tryz.f48 = true := by kernel_rfl
theorem read_Read_end.can : callOk Tryz.prog 48 = true := by kernel_rfl
theorem read_Read_end.sound : FnOk Tryz.prog 48 (.st read_Read_end.w) := FnOk.st_of (evF_ok read_Read_end.cok mixed (f := 48) (fn := Tryz.f48) (by kernel_rfl) read_Read_end.draws) fun args s r h => by
  unfold read_Read_end.w at h; split at h
  · rw [read_Read_end.ok std]; exact h
  · simp at h

/-! ### (*leapfrog/read.Read).fail: function 44 -/
def read_Read_fail.ctx : Ctx := [(48, .st read_Read_end.w)]
def read_Read_fail.t (S : Sig) (a0 a1 : Value) (s : St) : Option (Value × St) :=
  S.bd (bld [(Go.Value.int Go.IntKind.i64 0), (Go.Value.int Go.IntKind.u64 0), (Go.Value.slice Option.none 0 0), (Go.Value.slice Option.none 0 0), (Go.Value.int Go.IntKind.i64 0), (Go.Value.int Go.IntKind.i64 0), (Go.Value.int Go.IntKind.u64 0), (Go.Value.int Go.IntKind.i64 0), (Go.Value.int Go.IntKind.u64 0), (Go.Value.int Go.IntKind.i64 0), (Go.Value.int Go.IntKind.i64 0), (Go.Value.int Go.IntKind.u64 0), (Go.Value.int Go.IntKind.i64 0), (Go.Value.int Go.IntKind.u64 0), (Go.Value.bool Bool.false)] [(0, 1, a1)]) fun x1 => S.bd (read_Read_end.v a0 x1 s) fun r2 => some ((Value.tuple ⟨[]⟩), r2.2)
def read_Read_fail.v (a0 a1 : Value) (s : St) : Option (Value × St) := read_Read_fail.t std a0 a1 s
def read_Read_fail.w : List Value → St → Option (Value × St)
  | [a0, a1], s => read_Read_fail.v a0 a1 s
  | _, _ => none
def read_Read_fail.an : An := ⟨8, false, [], [], [], []⟩
theorem read_Read_fail.ok (S : Sig) (a0 a1 : Value) (s : St) : evF S Tryz.prog read_Read_fail.ctx read_Read_fail.an Tryz.f44 [a0, a1] s = read_Read_fail.t S a0 a1 s := by kernel_rfl
theorem read_Read_fail.cok : CtxOk Tryz.prog read_Read_fail.ctx := .cons read_Read_end.sound read_Read_end.can <| .nil
theorem read_Read_fail.draws : fnDraws read_Read_fail.an Tryz.f44 = true := by kernel_rfl
theorem read_Read_fail.can : callOk Tryz.prog 44 = true := by kernel_rfl
theorem read_Read_fail.sound : FnOk Tryz.prog 44 (.st read_Read_fail.w) := FnOk.st_of (evF_ok read_Read_fail.cok mixed (f := 44) (fn := Tryz.f44) (by kernel_rfl) read_Read_fail.draws) fun args s r h => by
  unfold read_Read_fail.w at h; split at h
  · rw [read_Read_fail.ok std]; exact h
  · simp at h

/-! ### (*leapfrog/read.Read).sought: function 30 -/
def read_Read_sought.ctx : Ctx := [(25, .rd seek_Seek_Next.w), (44, .st read_Read_fail.w)]
def read_Read_sought.t (S : Sig) (a0 : Value) (s : St) : Option (Value × St) :=
  S.bd (nck a0) fun x1 => S.bd (fld 9 x1) fun x2 => S.bd (ldc s x2) fun x3 => S.bd (seek_Seek_Next.r x3 s) fun x4 => S.bd (bx (Go.Value.agg #[(Go.Value.int Go.IntKind.i64 0), (Go.Value.int Go.IntKind.i64 0), (Go.Value.int Go.IntKind.i64 0), (Go.Value.int Go.IntKind.u64 0), (Go.Value.int Go.IntKind.i64 0), (Go.Value.int Go.IntKind.u64 0), (Go.Value.int Go.IntKind.i64 0), (Go.Value.int Go.IntKind.i64 0), (Go.Value.int Go.IntKind.u64 0), (Go.Value.int Go.IntKind.i64 0), (Go.Value.int Go.IntKind.i64 0), (Go.Value.int Go.IntKind.u64 0), (Go.Value.int Go.IntKind.i64 0), (Go.Value.int Go.IntKind.u64 0), (Go.Value.int Go.IntKind.i64 0), (Go.Value.int Go.IntKind.i64 0), (Go.Value.int Go.IntKind.u64 0), (Go.Value.int Go.IntKind.i64 0), (Go.Value.int Go.IntKind.u64 0), (Go.Value.int Go.IntKind.i64 0), (Go.Value.int Go.IntKind.i64 0), (Go.Value.int Go.IntKind.i64 0), (Go.Value.int Go.IntKind.u64 0), (Go.Value.slice Option.none 0 0), (Go.Value.slice Option.none 0 0), (Go.Value.int Go.IntKind.i64 0), (Go.Value.int Go.IntKind.i64 0), (Go.Value.int Go.IntKind.u64 0), (Go.Value.int Go.IntKind.i64 0), (Go.Value.int Go.IntKind.u64 0), (Go.Value.int Go.IntKind.i64 0), (Go.Value.int Go.IntKind.i64 0), (Go.Value.int Go.IntKind.u64 0), (Go.Value.int Go.IntKind.i64 0), (Go.Value.int Go.IntKind.u64 0), (Go.Value.bool Bool.false)])) fun c5 => S.bd (stl c5 0 36 x4) fun c6 => S.bd (lcl c6 0) fun x7 => S.bd (eqb [1] false true x7 (Go.Value.int Go.IntKind.i64 3)) fun x8 => S.cnd x8 (some ((Value.tuple ⟨[]⟩), s)) (S.bd (lal c6 21 15) fun x9 => S.bd (bx (Go.Value.agg #[(Go.Value.int Go.IntKind.i64 0), (Go.Value.int Go.IntKind.u64 0), (Go.Value.slice Option.none 0 0), (Go.Value.slice Option.none 0 0), (Go.Value.int Go.IntKind.i64 0), (Go.Value.int Go.IntKind.i64 0), (Go.Value.int Go.IntKind.u64 0), (Go.Value.int Go.IntKind.i64 0), (Go.Value.int Go.IntKind.u64 0), (Go.Value.int Go.IntKind.i64 0), (Go.Value.int Go.IntKind.i64 0), (Go.Value.int Go.IntKind.u64 0), (Go.Value.int Go.IntKind.i64 0), (Go.Value.int Go.IntKind.u64 0), (Go.Value.bool Bool.false)])) fun c10 => S.bd (stl c10 0 15 x9) fun c11 => S.bd (lal c11 9 5) fun x12 => S.bd (nck a0) fun x13 => S.bd (fld 10 x13) fun x14 => S.bd (stv s 5 x14 x12) fun s15 => S.bd (lcl c11 14) fun x16 => S.bd (S.gd x16 false (some a0)) fun x17 => S.bd (S.gd x16 false (nck x17)) fun x18 => S.bd (S.gd x16 false (fld 0 x18)) fun x19 => S.bd (S.gd x16 false (fld 7 x19)) fun x20 => S.bd (S.gd x16 false (ldc s15 x20)) fun x21 => S.bd (S.gd x16 false (some x21)) fun x22 => S.bd (S.gd x22 true (lcl c11 10)) fun x23 => S.bd (S.gd x22 true (eqb [1] false true x23 (Go.Value.int Go.IntKind.i64 3))) fun x24 => S.bd (S.gd x16 false (pik x22 x24 (Go.Value.bool Bool.false))) fun x25 => S.bd (pik x16 (Go.Value.bool Bool.true) x25) fun x26 => S.bd (lcl c11 0) fun x27 => S.bd (eqb [1] false true x27 (Go.Value.int Go.IntKind.i64 0)) fun x28 => S.cnd x28 (S.bd (lcl c11 0) fun x29 => S.bd (read_Read_fail.v a0 x29 s15) fun r30 => some ((Value.tuple ⟨[]⟩), r30.2)) (S.cnd x26 (S.bd (nck a0) fun x31 => S.bd (fld 8 x31) fun x32 => S.bd (stv s15 1 x32 (Go.Value.int Go.IntKind.i64 2)) fun s33 => some ((Value.tuple ⟨[]⟩), s33)) (S.bd (read_Read_fail.v a0 (Go.Value.int Go.IntKind.i64 101) s15) fun r34 => some ((Value.tuple ⟨[]⟩), r34.2))))
def read_Read_sought.v (a0 : Value) (s : St) : Option (Value × St) := read_Read_sought.t std a0 s
def read_Read_sought.w : List Value → St → Option (Value × St)
  | [a0], s => read_Read_sought.v a0 s
  | _, _ => none
def read_Read_sought.an : An := ⟨51, false, [2, 3], [], [], []⟩
theorem read_Read_sought.ok (S : Sig) (a0 : Value) (s : St) : evF S Tryz.prog read_Read_sought.ctx read_Read_sought.an Tryz.f30 [a0] s = read_Read_sought.t S a0 s := by kernel_rfl
theorem read_Read_sought.cok : CtxOk Tryz.prog read_Read_sought.ctx := .cons seek_Seek_Next.sound seek_Seek_Next.can <| .cons read_Read_fail.sound read_Read_fail.can <| .nil
theorem read_Read_sought.draws : fnDraws read_Read_sought.an Tryz.f30 = true := by kernel_rfl
theorem read_Read_sought.can : callOk Tryz.prog 30 = true := by kernel_rfl
theorem read_Read_sought.sound : FnOk Tryz.prog 30 (.st read_Read_sought.w) := FnOk.st_of (evF_ok read_Read_sought.cok mixed (f := 30) (fn := Tryz.f30) (by kernel_rfl) read_Read_sought.draws) fun args s r h => by
  unfold read_Read_sought.w at h; split at h
  · rw [read_Read_sought.ok std]; exact h
  · simp at h

/-! ### (*leapfrog/read.Read).got$1: function 49 -/
def read_Read_got_fn1.ctx : Ctx := [(50, .st seek_Seek_Dead.w), (30, .st read_Read_sought.w)]
def read_Read_got_fn1.t (S : Sig) (a0 a1 : Value) (s : St) : Option (Value × St) :=
  S.bd (ldc s a0) fun x1 => S.bd (nck x1) fun x2 => S.bd (fld 8 x2) fun x3 => S.bd (stv s 1 x3 (Go.Value.int Go.IntKind.i64 3)) fun s4 => S.bd (fld 0 a1) fun x5 => S.bd (ldc s4 x5) fun x6 => S.bd (eqb [1] false false x6 (Go.Value.int Go.IntKind.i64 3)) fun x7 => S.cnd x7 (S.bd (ldc s4 a0) fun x8 => S.bd (nck x8) fun x9 => S.bd (fld 9 x9) fun x10 => S.bd (ldc s4 x10) fun x11 => S.bd (lda s4 13 a1) fun x12 => S.bd (seek_Seek_Dead.v x11 x12 s4) fun r13 => S.bd (ldc r13.2 a0) fun x14 => S.cnd (Value.bool (sameV x14 x8)) (S.bd (ldc r13.2 a0) fun x15 => S.bd (nck x15) fun x16 => S.bd (fld 8 x16) fun x17 => S.bd (stv r13.2 1 x17 (Go.Value.int Go.IntKind.i64 1)) fun s18 => S.bd (ldc s18 a0) fun x19 => S.bd (read_Read_sought.v x19 s18) fun r20 => some ((Value.tuple ⟨[]⟩), r20.2)) (none)) (some ((Value.tuple ⟨[]⟩), s4))
def read_Read_got_fn1.v (a0 a1 : Value) (s : St) : Option (Value × St) := read_Read_got_fn1.t std a0 a1 s
def read_Read_got_fn1.w : List Value → St → Option (Value × St)
  | [a0, a1], s => read_Read_got_fn1.v a0 a1 s
  | _, _ => none
def read_Read_got_fn1.an : An := ⟨19, false, [], [], [], [(2, [(0, 2, [], []), (1, 0, [], []), (2, 0, [], []), (3, 2, [], []), (4, 2, [], []), (5, 4, [0], [])])]⟩
theorem read_Read_got_fn1.ok (S : Sig) (a0 a1 : Value) (s : St) : evF S Tryz.prog read_Read_got_fn1.ctx read_Read_got_fn1.an Tryz.f49 [a0, a1] s = read_Read_got_fn1.t S a0 a1 s := by kernel_rfl
theorem read_Read_got_fn1.cok : CtxOk Tryz.prog read_Read_got_fn1.ctx := .cons seek_Seek_Dead.sound seek_Seek_Dead.can <| .cons read_Read_sought.sound read_Read_sought.can <| .nil
theorem read_Read_got_fn1.draws : fnDraws read_Read_got_fn1.an Tryz.f49 = true := by kernel_rfl
theorem read_Read_got_fn1.can : callOk Tryz.prog 49 = true := by kernel_rfl
theorem read_Read_got_fn1.sound : FnOk Tryz.prog 49 (.st read_Read_got_fn1.w) := FnOk.st_of (evF_ok read_Read_got_fn1.cok mixed (f := 49) (fn := Tryz.f49) (by kernel_rfl) read_Read_got_fn1.draws) fun args s r h => by
  unfold read_Read_got_fn1.w at h; split at h
  · rw [read_Read_got_fn1.ok std]; exact h
  · simp at h

/-! ### leapfrog/read.New$1: function 18 -/
def read_New_fn1.ctx : Ctx := [(49, .st read_Read_got_fn1.w)]
def read_New_fn1.t (S : Sig) (a0 a1 : Value) (s : St) : Option (Value × St) :=
  S.bd (fld 7 a1) fun x1 => S.bd (ldc s x1) fun x2 => S.cnd x2 (S.bd (callV (read_New_fn1.ctx) a0 [] s) fun r3 => S.bd (fld 7 a1) fun x4 => S.bd (ldc r3.2 x4) fun x5 => some (x5, r3.2)) (S.bd (fld 7 a1) fun x6 => S.bd (ldc s x6) fun x7 => some (x7, s))
def read_New_fn1.v (a0 a1 : Value) (s : St) : Option (Value × St) := read_New_fn1.t std a0 a1 s
def read_New_fn1.w : List Value → St → Option (Value × St)
  | [a0, a1], s => read_New_fn1.v a0 a1 s
  | _, _ => none
def read_New_fn1.an : An := ⟨10, false, [], [], [], []⟩
theorem read_New_fn1.ok (S : Sig) (a0 a1 : Value) (s : St) : evF S Tryz.prog read_New_fn1.ctx read_New_fn1.an Tryz.f18 [a0, a1] s = read_New_fn1.t S a0 a1 s := by kernel_rfl
theorem read_New_fn1.cok : CtxOk Tryz.prog read_New_fn1.ctx := .cons read_Read_got_fn1.sound read_Read_got_fn1.can <| .nil
theorem read_New_fn1.draws : fnDraws read_New_fn1.an Tryz.f18 = true := by kernel_rfl
theorem read_New_fn1.can : callOk Tryz.prog 18 = true := by kernel_rfl
theorem read_New_fn1.sound : FnOk Tryz.prog 18 (.st read_New_fn1.w) := FnOk.st_of (evF_ok read_New_fn1.cok mixed (f := 18) (fn := Tryz.f18) (by kernel_rfl) read_New_fn1.draws) fun args s r h => by
  unfold read_New_fn1.w at h; split at h
  · rw [read_New_fn1.ok std]; exact h
  · simp at h

/-! ### leapfrog/key.Check: function 36 -/
def key_Check.ctx : Ctx := []
def key_Check.t (S : Sig) (a0 : Value) (s : St) : Option Value :=
  S.bd (bx a0) fun c1 => S.bd (lcl c1 0) fun x2 => S.bd (eqb [1] false false x2 (Go.Value.int Go.IntKind.i64 2)) fun x3 => S.bd (S.gd x3 false (lcl c1 0)) fun x4 => S.bd (S.gd x3 false (eqb [1] false false x4 (Go.Value.int Go.IntKind.i64 1))) fun x5 => S.bd (S.gd x3 false (some x5)) fun x6 => S.bd (S.gd x6 false (lcl c1 0)) fun x7 => S.bd (S.gd x6 false (eqb [1] false false x7 (Go.Value.int Go.IntKind.i64 3))) fun x8 => S.bd (S.gd x3 false (pik x6 (Go.Value.bool Bool.true) x8)) fun x9 => S.bd (S.gd x3 false (some x9)) fun x10 => S.bd (S.gd x10 true (lcl c1 1)) fun x11 => S.bd (S.gd x10 true (eqb [1] false false x11 (Go.Value.int Go.IntKind.u64 0))) fun x12 => S.bd (S.gd x3 false (pik x10 x12 (Go.Value.bool Bool.false))) fun x13 => S.bd (pik x3 (Go.Value.bool Bool.true) x13) fun x14 => S.cnd x14 (some ((Go.Value.int Go.IntKind.i64 0))) (some ((Go.Value.int Go.IntKind.i64 20)))
def key_Check.r (a0 : Value) (s : St) : Option Value := key_Check.t std a0 s
def key_Check.w : List Value → St → Option Value
  | [a0], s => key_Check.r a0 s
  | _, _ => none
def key_Check.an : An := ⟨21, true, [1], [], [], []⟩
theorem key_Check.ok (S : Sig) (a0 : Value) (s : St) : evG S Tryz.prog key_Check.ctx key_Check.an Tryz.f36 [a0] s = key_Check.t S a0 s := by kernel_rfl
theorem key_Check.cok : CtxOk Tryz.prog key_Check.ctx := .nil
theorem key_Check.draws : fnDraws key_Check.an Tryz.f36 = true := by kernel_rfl
theorem key_Check.can : callOk Tryz.prog 36 = true := by kernel_rfl
theorem key_Check.sound : FnOk Tryz.prog 36 (.rd key_Check.w) := FnOk.rd_of (evG_ok key_Check.cok mixed (f := 36) (fn := Tryz.f36) (by kernel_rfl) key_Check.draws) fun args s r h => by
  unfold key_Check.w at h; split at h
  · rw [key_Check.ok std]; exact h
  · simp at h

/-! ### cmp.isNaN[leapfrog/api.Rank]: function 126 -/
def cmp_isNaN_api_Rank.ctx : Ctx := []
def cmp_isNaN_api_Rank.t (S : Sig) (a0 : Value) (s : St) : Option Value :=
  S.bd (eqb [1] false true a0 a0) fun x1 => some (x1)
def cmp_isNaN_api_Rank.r (a0 : Value) (s : St) : Option Value := cmp_isNaN_api_Rank.t std a0 s
def cmp_isNaN_api_Rank.w : List Value → St → Option Value
  | [a0], s => cmp_isNaN_api_Rank.r a0 s
  | _, _ => none
def cmp_isNaN_api_Rank.an : An := ⟨6, true, [], [], [], []⟩
theorem cmp_isNaN_api_Rank.ok (S : Sig) (a0 : Value) (s : St) : evG S Tryz.prog cmp_isNaN_api_Rank.ctx cmp_isNaN_api_Rank.an Tryz.f126 [a0] s = cmp_isNaN_api_Rank.t S a0 s := by kernel_rfl
theorem cmp_isNaN_api_Rank.cok : CtxOk Tryz.prog cmp_isNaN_api_Rank.ctx := .nil
theorem cmp_isNaN_api_Rank.draws : fnDraws cmp_isNaN_api_Rank.an Tryz.f126 = true := by kernel_rfl
theorem cmp_isNaN_api_Rank.can : callOk Tryz.prog 126 = true := by kernel_rfl
theorem cmp_isNaN_api_Rank.sound : FnOk Tryz.prog 126 (.rd cmp_isNaN_api_Rank.w) := FnOk.rd_of (evG_ok cmp_isNaN_api_Rank.cok mixed (f := 126) (fn := Tryz.f126) (by kernel_rfl) cmp_isNaN_api_Rank.draws) fun args s r h => by
  unfold cmp_isNaN_api_Rank.w at h; split at h
  · rw [cmp_isNaN_api_Rank.ok std]; exact h
  · simp at h

/-! ### cmp.Compare[leapfrog/api.Rank]: function 117 -/
def cmp_Compare_api_Rank.ctx : Ctx := [(126, .rd cmp_isNaN_api_Rank.w)]
def cmp_Compare_api_Rank.t (S : Sig) (a0 a1 : Value) (s : St) : Option Value :=
  S.bd (cmp_isNaN_api_Rank.r a0 s) fun x1 => S.bd (cmp_isNaN_api_Rank.r a1 s) fun x2 => S.cnd x1 (S.cnd x2 (some ((Go.Value.int Go.IntKind.i64 0))) (some ((Go.Value.int Go.IntKind.i64 (-1))))) (S.cnd x2 (some ((Go.Value.int Go.IntKind.i64 1))) (S.bd (bin .lss a0 a1) fun x3 => S.cnd x3 (some ((Go.Value.int Go.IntKind.i64 (-1)))) (S.bd (bin .gtr a0 a1) fun x4 => S.cnd x4 (some ((Go.Value.int Go.IntKind.i64 1))) (some ((Go.Value.int Go.IntKind.i64 0))))))
def cmp_Compare_api_Rank.r (a0 a1 : Value) (s : St) : Option Value := cmp_Compare_api_Rank.t std a0 a1 s
def cmp_Compare_api_Rank.w : List Value → St → Option Value
  | [a0, a1], s => cmp_Compare_api_Rank.r a0 a1 s
  | _, _ => none
def cmp_Compare_api_Rank.an : An := ⟨20, true, [], [], [], []⟩
theorem cmp_Compare_api_Rank.ok (S : Sig) (a0 a1 : Value) (s : St) : evG S Tryz.prog cmp_Compare_api_Rank.ctx cmp_Compare_api_Rank.an Tryz.f117 [a0, a1] s = cmp_Compare_api_Rank.t S a0 a1 s := by kernel_rfl
theorem cmp_Compare_api_Rank.cok : CtxOk Tryz.prog cmp_Compare_api_Rank.ctx := .cons cmp_isNaN_api_Rank.sound cmp_isNaN_api_Rank.can <| .nil
theorem cmp_Compare_api_Rank.draws : fnDraws cmp_Compare_api_Rank.an Tryz.f117 = true := by kernel_rfl
theorem cmp_Compare_api_Rank.can : callOk Tryz.prog 117 = true := by kernel_rfl
theorem cmp_Compare_api_Rank.sound : FnOk Tryz.prog 117 (.rd cmp_Compare_api_Rank.w) := FnOk.rd_of (evG_ok cmp_Compare_api_Rank.cok mixed (f := 117) (fn := Tryz.f117) (by kernel_rfl) cmp_Compare_api_Rank.draws) fun args s r h => by
  unfold cmp_Compare_api_Rank.w at h; split at h
  · rw [cmp_Compare_api_Rank.ok std]; exact h
  · simp at h

/-! ### cmp.isNaN[uint64]: function 127 -/
def cmp_isNaN_uint64.ctx : Ctx := []
def cmp_isNaN_uint64.t (S : Sig) (a0 : Value) (s : St) : Option Value :=
  S.bd (eqb [1] false true a0 a0) fun x1 => some (x1)
def cmp_isNaN_uint64.r (a0 : Value) (s : St) : Option Value := cmp_isNaN_uint64.t std a0 s
def cmp_isNaN_uint64.w : List Value → St → Option Value
  | [a0], s => cmp_isNaN_uint64.r a0 s
  | _, _ => none
def cmp_isNaN_uint64.an : An := ⟨6, true, [], [], [], []⟩
theorem cmp_isNaN_uint64.ok (S : Sig) (a0 : Value) (s : St) : evG S Tryz.prog cmp_isNaN_uint64.ctx cmp_isNaN_uint64.an Tryz.f127 [a0] s = cmp_isNaN_uint64.t S a0 s := by kernel_rfl
theorem cmp_isNaN_uint64.cok : CtxOk Tryz.prog cmp_isNaN_uint64.ctx := .nil
theorem cmp_isNaN_uint64.draws : fnDraws cmp_isNaN_uint64.an Tryz.f127 = true := by kernel_rfl
theorem cmp_isNaN_uint64.can : callOk Tryz.prog 127 = true := by kernel_rfl
theorem cmp_isNaN_uint64.sound : FnOk Tryz.prog 127 (.rd cmp_isNaN_uint64.w) := FnOk.rd_of (evG_ok cmp_isNaN_uint64.cok mixed (f := 127) (fn := Tryz.f127) (by kernel_rfl) cmp_isNaN_uint64.draws) fun args s r h => by
  unfold cmp_isNaN_uint64.w at h; split at h
  · rw [cmp_isNaN_uint64.ok std]; exact h
  · simp at h

/-! ### cmp.Compare[uint64]: function 118 -/
def cmp_Compare_uint64.ctx : Ctx := [(127, .rd cmp_isNaN_uint64.w)]
def cmp_Compare_uint64.t (S : Sig) (a0 a1 : Value) (s : St) : Option Value :=
  S.bd (cmp_isNaN_uint64.r a0 s) fun x1 => S.bd (cmp_isNaN_uint64.r a1 s) fun x2 => S.cnd x1 (S.cnd x2 (some ((Go.Value.int Go.IntKind.i64 0))) (some ((Go.Value.int Go.IntKind.i64 (-1))))) (S.cnd x2 (some ((Go.Value.int Go.IntKind.i64 1))) (S.bd (bin .lss a0 a1) fun x3 => S.cnd x3 (some ((Go.Value.int Go.IntKind.i64 (-1)))) (S.bd (bin .gtr a0 a1) fun x4 => S.cnd x4 (some ((Go.Value.int Go.IntKind.i64 1))) (some ((Go.Value.int Go.IntKind.i64 0))))))
def cmp_Compare_uint64.r (a0 a1 : Value) (s : St) : Option Value := cmp_Compare_uint64.t std a0 a1 s
def cmp_Compare_uint64.w : List Value → St → Option Value
  | [a0, a1], s => cmp_Compare_uint64.r a0 a1 s
  | _, _ => none
def cmp_Compare_uint64.an : An := ⟨20, true, [], [], [], []⟩
theorem cmp_Compare_uint64.ok (S : Sig) (a0 a1 : Value) (s : St) : evG S Tryz.prog cmp_Compare_uint64.ctx cmp_Compare_uint64.an Tryz.f118 [a0, a1] s = cmp_Compare_uint64.t S a0 a1 s := by kernel_rfl
theorem cmp_Compare_uint64.cok : CtxOk Tryz.prog cmp_Compare_uint64.ctx := .cons cmp_isNaN_uint64.sound cmp_isNaN_uint64.can <| .nil
theorem cmp_Compare_uint64.draws : fnDraws cmp_Compare_uint64.an Tryz.f118 = true := by kernel_rfl
theorem cmp_Compare_uint64.can : callOk Tryz.prog 118 = true := by kernel_rfl
theorem cmp_Compare_uint64.sound : FnOk Tryz.prog 118 (.rd cmp_Compare_uint64.w) := FnOk.rd_of (evG_ok cmp_Compare_uint64.cok mixed (f := 118) (fn := Tryz.f118) (by kernel_rfl) cmp_Compare_uint64.draws) fun args s r h => by
  unfold cmp_Compare_uint64.w at h; split at h
  · rw [cmp_Compare_uint64.ok std]; exact h
  · simp at h

/-! ### cmp.Or[int]: function 116 -/
def cmp_Or_int.ctx : Ctx := []
def cmp_Or_int.l3 (S : Sig) (rec9 : List Value → St → Option Cut) (xs7 : List Value) (s8 : St) : Option Cut :=
  S.bd (bin .lss (xs7.getD 3 undef) (xs7.getD 2 undef)) fun x10 => S.cnd x10 (S.bd (idx s8 1 (xs7.getD 1 undef) (xs7.getD 3 undef)) fun x11 => S.bd (ldc s8 x11) fun x12 => S.bd (eqb [1] false true x12 (xs7.getD 0 undef)) fun x13 => S.cnd x13 (some (1, [x12], s8)) (S.bd (bin .add (xs7.getD 3 undef) (Go.Value.int Go.IntKind.i64 1)) fun x14 => rec9 [(xs7.getD 0 undef), (xs7.getD 1 undef), (xs7.getD 2 undef), x14] s8)) (some (0, [(xs7.getD 0 undef)], s8))

def cmp_Or_int.t (S : Sig) (a0 : Value) (s : St) : Option Value :=
  S.bd (lenL a0) fun x1 => S.bd (S.it (cmp_Or_int.l3 S) [(Go.Value.int Go.IntKind.i64 0), a0, x1, (Go.Value.int Go.IntKind.i64 0)] s) fun r15 => if r15.1 = 0 then (some ((r15.2.1.getD 0 undef))) else (some ((r15.2.1.getD 0 undef)))
def cmp_Or_int.r (a0 : Value) (s : St) : Option Value := cmp_Or_int.t std a0 s
def cmp_Or_int.w : List Value → St → Option Value
  | [a0], s => cmp_Or_int.r a0 s
  | _, _ => none
def cmp_Or_int.an : An := ⟨18, true, [], [(3, ⟨[.v 3, .v 6, .v 7, .v 8], [(.exit 0, [.v 3]), (.ret, [.v 2])]⟩)], [], []⟩
theorem cmp_Or_int.ok (S : Sig) (a0 : Value) (s : St) : evG S Tryz.prog cmp_Or_int.ctx cmp_Or_int.an Tryz.f116 [a0] s = cmp_Or_int.t S a0 s := by kernel_rfl
theorem cmp_Or_int.cok : CtxOk Tryz.prog cmp_Or_int.ctx := .nil
theorem cmp_Or_int.draws : fnDraws cmp_Or_int.an Tryz.f116 = true := by kernel_rfl
theorem cmp_Or_int.can : callOk Tryz.prog 116 = true := by kernel_rfl
theorem cmp_Or_int.sound : FnOk Tryz.prog 116 (.rd cmp_Or_int.w) := FnOk.rd_of (evG_ok cmp_Or_int.cok mixed (f := 116) (fn := Tryz.f116) (by kernel_rfl) cmp_Or_int.draws) fun args s r h => by
  unfold cmp_Or_int.w at h; split at h
  · rw [cmp_Or_int.ok std]; exact h
  · simp at h

/-! ### leapfrog/key.Compare: function 92 -/
def key_Compare.ctx : Ctx := [(117, .rd cmp_Compare_api_Rank.w), (118, .rd cmp_Compare_uint64.w), (116, .rd cmp_Or_int.w)]
def key_Compare.t (S : Sig) (a0 a1 : Value) (s : St) : Option (Value × St) :=
  S.bd (bx a0) fun c1 => S.bd (bx a1) fun c2 => S.bd (lcl c1 0) fun x3 => S.bd (lcl c2 0) fun x4 => S.bd (lcl c1 1) fun x5 => S.bd (lcl c2 1) fun x6 => S.bd (cmp_Compare_api_Rank.r x3 x4 s) fun x7 => S.bd (cmp_Compare_uint64.r x5 x6 s) fun x8 => S.bd (S.bd (bls 1 (List.replicate 2 [(Go.Value.int Go.IntKind.i64 0)]) [(0, x7), (1, x8)]) fun rows => als s 1 2 rows) fun r9 => S.bd (cmp_Or_int.r r9.1 r9.2) fun x10 => some (x10, r9.2)
def key_Compare.v (a0 a1 : Value) (s : St) : Option (Value × St) := key_Compare.t std a0 a1 s
def key_Compare.w : List Value → St → Option (Value × St)
  | [a0, a1], s => key_Compare.v a0 a1 s
  | _, _ => none
def key_Compare.an : An := ⟨17, false, [2, 3], [], [], [(1, [(0, 0, [], []), (1, 17, [], []), (2, 0, [], []), (3, 25, [], []), (5, 0, [], []), (6, 17, [], []), (7, 0, [], []), (8, 25, [], []), (4, 3, [], []), (9, 3, [], []), (10, 3, [], []), (11, 3, [], []), (12, 0, [], [])])]⟩
theorem key_Compare.ok (S : Sig) (a0 a1 : Value) (s : St) : evF S Tryz.prog key_Compare.ctx key_Compare.an Tryz.f92 [a0, a1] s = key_Compare.t S a0 a1 s := by kernel_rfl
theorem key_Compare.cok : CtxOk Tryz.prog key_Compare.ctx := .cons cmp_Compare_api_Rank.sound cmp_Compare_api_Rank.can <| .cons cmp_Compare_uint64.sound cmp_Compare_uint64.can <| .cons cmp_Or_int.sound cmp_Or_int.can <| .nil
theorem key_Compare.draws : fnDraws key_Compare.an Tryz.f92 = true := by kernel_rfl
theorem key_Compare.can : callOk Tryz.prog 92 = true := by kernel_rfl
theorem key_Compare.sound : FnOk Tryz.prog 92 (.st key_Compare.w) := FnOk.st_of (evF_ok key_Compare.cok mixed (f := 92) (fn := Tryz.f92) (by kernel_rfl) key_Compare.draws) fun args s r h => by
  unfold key_Compare.w at h; split at h
  · rw [key_Compare.ok std]; exact h
  · simp at h

/-! ### leapfrog/key.Compare: function 92, as a reading -/
def key_CompareQ.r (a0 a1 : Value) (s : St) : Option Value := frzR (fun s => key_Compare.v a0 a1 s) s
def key_CompareQ.w : List Value → St → Option Value := fun args s => frzR (key_Compare.w args) s
theorem key_CompareQ.can : callOk Tryz.prog 92 = true := key_Compare.can
theorem key_CompareQ.sound : FnOk Tryz.prog 92 (.rd key_CompareQ.w) := FnOk.frozen key_Compare.sound

/-! ### leapfrog/key.Less: function 67 -/
def key_Less.ctx : Ctx := [(92, .rd key_CompareQ.w)]
def key_Less.t (S : Sig) (a0 a1 : Value) (s : St) : Option Value :=
  S.bd (bx a0) fun c1 => S.bd (bx a1) fun c2 => S.bd (lal c1 0 2) fun x3 => S.bd (lal c2 0 2) fun x4 => S.bd (key_CompareQ.r x3 x4 s) fun x5 => S.bd (bin .lss x5 (Go.Value.int Go.IntKind.i64 0)) fun x6 => some (x6)
def key_Less.r (a0 a1 : Value) (s : St) : Option Value := key_Less.t std a0 a1 s
def key_Less.w : List Value → St → Option Value
  | [a0, a1], s => key_Less.r a0 a1 s
  | _, _ => none
def key_Less.an : An := ⟨9, true, [2, 3], [], [], []⟩
theorem key_Less.ok (S : Sig) (a0 a1 : Value) (s : St) : evG S Tryz.prog key_Less.ctx key_Less.an Tryz.f67 [a0, a1] s = key_Less.t S a0 a1 s := by kernel_rfl
theorem key_Less.cok : CtxOk Tryz.prog key_Less.ctx := .cons key_CompareQ.sound key_CompareQ.can <| .nil
theorem key_Less.draws : fnDraws key_Less.an Tryz.f67 = true := by kernel_rfl
theorem key_Less.can : callOk Tryz.prog 67 = true := by kernel_rfl
theorem key_Less.sound : FnOk Tryz.prog 67 (.rd key_Less.w) := FnOk.rd_of (evG_ok key_Less.cok mixed (f := 67) (fn := Tryz.f67) (by kernel_rfl) key_Less.draws) fun args s r h => by
  unfold key_Less.w at h; split at h
  · rw [key_Less.ok std]; exact h
  · simp at h

/-! ### (*leapfrog/seek.Seek).again: function 66 -/
def seek_Seek_again.ctx : Ctx := [(65, .st seek_Seek_counts.w)]
def seek_Seek_again.t (S : Sig) (a0 : Value) (s : St) : Option (Value × St) :=
  S.bd (seek_Seek_counts.v a0 s) fun r1 => S.cnd r1.1 (S.bd (bld [(Go.Value.int Go.IntKind.i64 0), (Go.Value.int Go.IntKind.u64 0)] [(0, 1, (Go.Value.int Go.IntKind.i64 1))]) fun x2 => S.bd (nck a0) fun x3 => S.bd (fld 0 x3) fun x4 => S.bd (fld 0 x4) fun x5 => S.bd (ldc r1.2 x5) fun x6 => S.bd (bld [(Go.Value.int Go.IntKind.i64 0), (Go.Value.int Go.IntKind.u64 0)] [(0, 1, x6)]) fun x7 => S.bd (bld [(Go.Value.int Go.IntKind.i64 0), (Go.Value.int Go.IntKind.i64 0), (Go.Value.int Go.IntKind.u64 0), (Go.Value.int Go.IntKind.i64 0), (Go.Value.int Go.IntKind.u64 0)] [(1, 2, x2), (3, 2, x7)]) fun x8 => S.bd (nck a0) fun x9 => S.bd (fld 9 x9) fun x10 => S.bd (stv r1.2 5 x10 x8) fun s11 => S.bd (nck a0) fun x12 => S.bd (fld 0 x12) fun x13 => S.bd (fld 0 x13) fun x14 => S.bd (ldc s11 x14) fun x15 => S.bd (bld [(Go.Value.int Go.IntKind.i64 0), (Go.Value.int Go.IntKind.u64 0)] [(0, 1, x15)]) fun x16 => S.bd (nck a0) fun x17 => S.bd (fld 14 x17) fun x18 => S.bd (stv s11 2 x18 x16) fun s19 => S.bd (nck a0) fun x20 => S.bd (fld 16 x20) fun x21 => S.bd (stv s19 1 x21 (Go.Value.bool Bool.false)) fun s22 => some ((Value.tuple ⟨[]⟩), s22)) (some ((Value.tuple ⟨[]⟩), r1.2))
def seek_Seek_again.v (a0 : Value) (s : St) : Option (Value × St) := seek_Seek_again.t std a0 s
def seek_Seek_again.w : List Value → St → Option (Value × St)
  | [a0], s => seek_Seek_again.v a0 s
  | _, _ => none
def seek_Seek_again.an : An := ⟨27, false, [], [], [], []⟩
theorem seek_Seek_again.ok (S : Sig) (a0 : Value) (s : St) : evF S Tryz.prog seek_Seek_again.ctx seek_Seek_again.an Tryz.f66 [a0] s = seek_Seek_again.t S a0 s := by kernel_rfl
theorem seek_Seek_again.cok : CtxOk Tryz.prog seek_Seek_again.ctx := .cons seek_Seek_counts.sound seek_Seek_counts.can <| .nil
theorem seek_Seek_again.draws : fnDraws seek_Seek_again.an Tryz.f66 = true := by kernel_rfl
theorem seek_Seek_again.can : callOk Tryz.prog 66 = true := by kernel_rfl
theorem seek_Seek_again.sound : FnOk Tryz.prog 66 (.st seek_Seek_again.w) := FnOk.st_of (evF_ok seek_Seek_again.cok mixed (f := 66) (fn := Tryz.f66) (by kernel_rfl) seek_Seek_again.draws) fun args s r h => by
  unfold seek_Seek_again.w at h; split at h
  · rw [seek_Seek_again.ok std]; exact h
  · simp at h

/-! ### leapfrog/vec.low: function 73 -/
def vec_low.ctx : Ctx := []
def vec_low.t (S : Sig) (a0 : Value) (s : St) : Option Value :=
  S.bd (cvi .u64 a0) fun x1 => S.bd (bin .shl (Go.Value.int Go.IntKind.u64 1) x1) fun x2 => S.bd (bin .sub x2 (Go.Value.int Go.IntKind.u64 1)) fun x3 => some (x3)
def vec_low.r (a0 : Value) (s : St) : Option Value := vec_low.t std a0 s
def vec_low.w : List Value → St → Option Value
  | [a0], s => vec_low.r a0 s
  | _, _ => none
def vec_low.an : An := ⟨7, true, [], [], [], []⟩
theorem vec_low.ok (S : Sig) (a0 : Value) (s : St) : evG S Tryz.prog vec_low.ctx vec_low.an Tryz.f73 [a0] s = vec_low.t S a0 s := by kernel_rfl
theorem vec_low.cok : CtxOk Tryz.prog vec_low.ctx := .nil
theorem vec_low.draws : fnDraws vec_low.an Tryz.f73 = true := by kernel_rfl
theorem vec_low.can : callOk Tryz.prog 73 = true := by kernel_rfl
theorem vec_low.sound : FnOk Tryz.prog 73 (.rd vec_low.w) := FnOk.rd_of (evG_ok vec_low.cok mixed (f := 73) (fn := Tryz.f73) (by kernel_rfl) vec_low.draws) fun args s r h => by
  unfold vec_low.w at h; split at h
  · rw [vec_low.ok std]; exact h
  · simp at h

/-! ### leapfrog/vec.Right: function 58 -/
def vec_Right.ctx : Ctx := [(73, .rd vec_low.w)]
def vec_Right.t (S : Sig) (a0 : Value) (s : St) : Option Value :=
  S.bd (bx a0) fun c1 => S.bd (lcl c1 0) fun x2 => S.bd (bin .lss x2 (Go.Value.int Go.IntKind.i64 0)) fun x3 => S.bd (S.gd x3 false (lcl c1 0)) fun x4 => S.bd (S.gd x3 false (bin .gtr x4 (Go.Value.int Go.IntKind.i64 32))) fun x5 => S.bd (pik x3 (Go.Value.bool Bool.true) x5) fun x6 => S.bd (S.gd x6 false (lcl c1 1)) fun x7 => S.bd (S.gd x6 false (lcl c1 0)) fun x8 => S.bd (S.gd x6 false (vec_low.r x8 s)) fun x9 => S.bd (S.gd x6 false (bin .gtr x7 x9)) fun x10 => S.bd (pik x6 (Go.Value.bool Bool.true) x10) fun x11 => S.cnd x11 (some ((Go.Value.int Go.IntKind.i64 10))) (some ((Go.Value.int Go.IntKind.i64 0)))
def vec_Right.r (a0 : Value) (s : St) : Option Value := vec_Right.t std a0 s
def vec_Right.w : List Value → St → Option Value
  | [a0], s => vec_Right.r a0 s
  | _, _ => none
def vec_Right.an : An := ⟨19, true, [1], [], [], [(1, [(0, 0, [], []), (1, 9, [], []), (2, 0, [], []), (3, 0, [], []), (4, 0, [], []), (5, 9, [], []), (6, 0, [], []), (7, 0, [], []), (8, 0, [], []), (9, 0, [], []), (10, 9, [], []), (11, 0, [], []), (12, 9, [], []), (13, 3, [], []), (14, 0, [], []), (15, 0, [], [])])]⟩
theorem vec_Right.ok (S : Sig) (a0 : Value) (s : St) : evG S Tryz.prog vec_Right.ctx vec_Right.an Tryz.f58 [a0] s = vec_Right.t S a0 s := by kernel_rfl
theorem vec_Right.cok : CtxOk Tryz.prog vec_Right.ctx := .cons vec_low.sound vec_low.can <| .nil
theorem vec_Right.draws : fnDraws vec_Right.an Tryz.f58 = true := by kernel_rfl
theorem vec_Right.can : callOk Tryz.prog 58 = true := by kernel_rfl
theorem vec_Right.sound : FnOk Tryz.prog 58 (.rd vec_Right.w) := FnOk.rd_of (evG_ok vec_Right.cok mixed (f := 58) (fn := Tryz.f58) (by kernel_rfl) vec_Right.draws) fun args s r h => by
  unfold vec_Right.w at h; split at h
  · rw [vec_Right.ok std]; exact h
  · simp at h

/-! ### leapfrog/vec.upTo: function 114 -/
def vec_upTo.ctx : Ctx := [(58, .rd vec_Right.w)]
def vec_upTo.t (S : Sig) (a0 a1 : Value) (s : St) : Option Value :=
  S.bd (bx a0) fun c1 => S.bd (lal c1 0 2) fun x2 => S.bd (vec_Right.r x2 s) fun x3 => S.bd (eqb [1] false true x3 (Go.Value.int Go.IntKind.i64 0)) fun x4 => S.cnd x4 (some (x3)) (S.bd (bin .lss a1 (Go.Value.int Go.IntKind.i64 0)) fun x5 => S.bd (S.gd x5 false (some a1)) fun x6 => S.bd (S.gd x5 false (lcl c1 0)) fun x7 => S.bd (S.gd x5 false (bin .gtr x6 x7)) fun x8 => S.bd (pik x5 (Go.Value.bool Bool.true) x8) fun x9 => S.cnd x9 (some ((Go.Value.int Go.IntKind.i64 5))) (some ((Go.Value.int Go.IntKind.i64 0))))
def vec_upTo.r (a0 a1 : Value) (s : St) : Option Value := vec_upTo.t std a0 a1 s
def vec_upTo.w : List Value → St → Option Value
  | [a0, a1], s => vec_upTo.r a0 a1 s
  | _, _ => none
def vec_upTo.an : An := ⟨19, true, [2], [], [], []⟩
theorem vec_upTo.ok (S : Sig) (a0 a1 : Value) (s : St) : evG S Tryz.prog vec_upTo.ctx vec_upTo.an Tryz.f114 [a0, a1] s = vec_upTo.t S a0 a1 s := by kernel_rfl
theorem vec_upTo.cok : CtxOk Tryz.prog vec_upTo.ctx := .cons vec_Right.sound vec_Right.can <| .nil
theorem vec_upTo.draws : fnDraws vec_upTo.an Tryz.f114 = true := by kernel_rfl
theorem vec_upTo.can : callOk Tryz.prog 114 = true := by kernel_rfl
theorem vec_upTo.sound : FnOk Tryz.prog 114 (.rd vec_upTo.w) := FnOk.rd_of (evG_ok vec_upTo.cok mixed (f := 114) (fn := Tryz.f114) (by kernel_rfl) vec_upTo.draws) fun args s r h => by
  unfold vec_upTo.w at h; split at h
  · rw [vec_upTo.ok std]; exact h
  · simp at h

/-! ### leapfrog/vec.prefix: function 115 -/
def vec_prefix.ctx : Ctx := []
def vec_prefix.t (S : Sig) (a0 a1 : Value) (s : St) : Option Value :=
  S.bd (bx a0) fun c1 => S.bd (bx (Go.Value.agg #[(Go.Value.int Go.IntKind.i64 0), (Go.Value.int Go.IntKind.u64 0)])) fun c2 => S.bd (lcl c1 1) fun x3 => S.bd (lcl c1 0) fun x4 => S.bd (bin .sub x4 a1) fun x5 => S.bd (cvi .u64 x5) fun x6 => S.bd (bin .shr x3 x6) fun x7 => S.bd (bld [(Go.Value.int Go.IntKind.i64 0), (Go.Value.int Go.IntKind.u64 0)] [(0, 1, a1), (1, 1, x7)]) fun x8 => S.bd (stl c2 0 2 x8) fun c9 => S.bd (lal c9 0 2) fun x10 => some (x10)
def vec_prefix.r (a0 a1 : Value) (s : St) : Option Value := vec_prefix.t std a0 a1 s
def vec_prefix.w : List Value → St → Option Value
  | [a0, a1], s => vec_prefix.r a0 a1 s
  | _, _ => none
def vec_prefix.an : An := ⟨15, true, [2, 4], [], [], []⟩
theorem vec_prefix.ok (S : Sig) (a0 a1 : Value) (s : St) : evG S Tryz.prog vec_prefix.ctx vec_prefix.an Tryz.f115 [a0, a1] s = vec_prefix.t S a0 a1 s := by kernel_rfl
theorem vec_prefix.cok : CtxOk Tryz.prog vec_prefix.ctx := .nil
theorem vec_prefix.draws : fnDraws vec_prefix.an Tryz.f115 = true := by kernel_rfl
theorem vec_prefix.can : callOk Tryz.prog 115 = true := by kernel_rfl
theorem vec_prefix.sound : FnOk Tryz.prog 115 (.rd vec_prefix.w) := FnOk.rd_of (evG_ok vec_prefix.cok mixed (f := 115) (fn := Tryz.f115) (by kernel_rfl) vec_prefix.draws) fun args s r h => by
  unfold vec_prefix.w at h; split at h
  · rw [vec_prefix.ok std]; exact h
  · simp at h

/-! ### leapfrog/vec.Prefix: function 91 -/
def vec_Prefix.ctx : Ctx := [(114, .rd vec_upTo.w), (115, .rd vec_prefix.w)]
def vec_Prefix.t (S : Sig) (a0 a1 : Value) (s : St) : Option Value :=
  S.bd (bx a0) fun c1 => S.bd (bx (Go.Value.agg #[(Go.Value.int Go.IntKind.i64 0), (Go.Value.int Go.IntKind.u64 0)])) fun c2 => S.bd (lal c1 0 2) fun x3 => S.bd (vec_upTo.r x3 a1 s) fun x4 => S.bd (eqb [1] false true x4 (Go.Value.int Go.IntKind.i64 0)) fun x5 => S.cnd x5 (S.bd (bld [(Go.Value.int Go.IntKind.i64 0), (Go.Value.int Go.IntKind.u64 0)] []) fun x6 => S.bd (stl c2 0 2 x6) fun c7 => S.bd (lal c7 0 2) fun x8 => some ((Value.tuple ⟨[x8, x4]⟩))) (S.bd (lal c1 0 2) fun x9 => S.bd (vec_prefix.r x9 a1 s) fun x10 => S.bd (stl c2 0 2 x10) fun c11 => S.bd (lal c11 0 2) fun x12 => some ((Value.tuple ⟨[x12, (Go.Value.int Go.IntKind.i64 0)]⟩)))
def vec_Prefix.r (a0 a1 : Value) (s : St) : Option Value := vec_Prefix.t std a0 a1 s
def vec_Prefix.w : List Value → St → Option Value
  | [a0, a1], s => vec_Prefix.r a0 a1 s
  | _, _ => none
def vec_Prefix.an : An := ⟨17, true, [2, 4], [], [], []⟩
theorem vec_Prefix.ok (S : Sig) (a0 a1 : Value) (s : St) : evG S Tryz.prog vec_Prefix.ctx vec_Prefix.an Tryz.f91 [a0, a1] s = vec_Prefix.t S a0 a1 s := by kernel_rfl
theorem vec_Prefix.cok : CtxOk Tryz.prog vec_Prefix.ctx := .cons vec_upTo.sound vec_upTo.can <| .cons vec_prefix.sound vec_prefix.can <| .nil
theorem vec_Prefix.draws : fnDraws vec_Prefix.an Tryz.f91 = true := by kernel_rfl
theorem vec_Prefix.can : callOk Tryz.prog 91 = true := by kernel_rfl
theorem vec_Prefix.sound : FnOk Tryz.prog 91 (.rd vec_Prefix.w) := FnOk.rd_of (evG_ok vec_Prefix.cok mixed (f := 91) (fn := Tryz.f91) (by kernel_rfl) vec_Prefix.draws) fun args s r h => by
  unfold vec_Prefix.w at h; split at h
  · rw [vec_Prefix.ok std]; exact h
  · simp at h

/-! ### (*leapfrog/seek.Seek).goes: function 63 -/
def seek_Seek_goes.ctx : Ctx := [(36, .rd key_Check.w), (67, .rd key_Less.w), (66, .st seek_Seek_again.w), (91, .rd vec_Prefix.w)]
def seek_Seek_goes.l2 (S : Sig) (rec37 : List Value → St → Option Cut) (xs35 : List Value) (s36 : St) : Option Cut :=
  S.bd (lal (cellsA (xs35.getD 1 undef)) 1 2) fun x38 => S.bd (key_Check.r x38 s36) fun x39 => S.bd (eqb [1] false true x39 (Go.Value.int Go.IntKind.i64 0)) fun x40 => S.bd (S.gd x40 false (lal (cellsA (xs35.getD 2 undef)) 0 2)) fun x41 => S.bd (S.gd x40 false (lal (cellsA (xs35.getD 1 undef)) 1 2)) fun x42 => S.bd (S.gd x40 false (key_Less.r x41 x42 s36)) fun x43 => S.bd (S.gd x40 false (un .not x43)) fun x44 => S.bd (pik x40 (Go.Value.bool Bool.true) x44) fun x45 => S.cnd x45 (S.bd (seek_Seek_again.v (xs35.getD 0 undef) s36) fun r46 => some (1, [], r46.2)) (S.bd (nck (xs35.getD 0 undef)) fun x47 => S.bd (fld 22 x47) fun x48 => S.bd (ldc s36 x48) fun x49 => S.bd (lcl (cellsA (xs35.getD 1 undef)) 0) fun x50 => S.bd (nck (xs35.getD 0 undef)) fun x51 => S.bd (fld 14 x51) fun x52 => S.bd (lda s36 2 x52) fun x53 => S.bd (bld [(Go.Value.int Go.IntKind.i64 0), (Go.Value.int Go.IntKind.i64 0), (Go.Value.int Go.IntKind.u64 0)] [(0, 1, x50), (1, 2, x53)]) fun x54 => S.bd (lkp s36 [1, 1, 1] true (Go.Value.agg #[(Go.Value.int Go.IntKind.i64 0), (Go.Value.int Go.IntKind.i64 0), (Go.Value.int Go.IntKind.u64 0), (Go.Value.int Go.IntKind.i64 0), (Go.Value.int Go.IntKind.u64 0)]) true x49 x54) fun x55 => S.bd (xtr 0 x55) fun x56 => S.bd (xtr 1 x55) fun x57 => S.bd (bx (Go.Value.agg #[(Go.Value.int Go.IntKind.i64 0), (Go.Value.int Go.IntKind.i64 0), (Go.Value.int Go.IntKind.u64 0), (Go.Value.int Go.IntKind.i64 0), (Go.Value.int Go.IntKind.u64 0)])) fun c58 => S.bd (stl c58 0 5 x56) fun c59 => S.bd (un .not x57) fun x60 => S.cnd x60 (some (0, [(xs35.getD 0 undef), (Value.agg ⟨(cellsA (xs35.getD 1 undef))⟩)], s36)) (S.bd (lal (cellsA (xs35.getD 1 undef)) 1 2) fun x61 => S.bd (lal c59 0 5) fun x62 => S.bd (stl (cellsA (xs35.getD 2 undef)) 0 2 x61) fun c63 => S.bd (stl (cellsA (xs35.getD 1 undef)) 0 5 x62) fun c64 => rec37 [(xs35.getD 0 undef), (Value.agg ⟨c64⟩), (Value.agg ⟨c63⟩)] s36))

def seek_Seek_goes.t.p1 (S : Sig) (r65 : Cut) : Option (Value × St) :=
  S.bd (nck (r65.2.1.getD 0 undef)) fun x79 => S.bd (fld 14 x79) fun x80 => S.bd (fld 0 x80) fun x81 => S.bd (ldc r65.2.2 x81) fun x82 => S.bd (bin .gtr x82 (Go.Value.int Go.IntKind.i64 0)) fun x83 => S.cnd x83 (S.bd (nck (r65.2.1.getD 0 undef)) fun x84 => S.bd (fld 14 x84) fun x85 => S.bd (lda r65.2.2 2 x85) fun x86 => S.bd (nck (r65.2.1.getD 0 undef)) fun x87 => S.bd (fld 14 x87) fun x88 => S.bd (fld 0 x88) fun x89 => S.bd (ldc r65.2.2 x89) fun x90 => S.bd (bin .sub x90 (Go.Value.int Go.IntKind.i64 1)) fun x91 => S.bd (vec_Prefix.r x86 x91 r65.2.2) fun x92 => S.bd (xtr 0 x92) fun x93 => S.bd (xtr 1 x92) fun x94 => S.bd (nck (r65.2.1.getD 0 undef)) fun x95 => S.bd (fld 14 x95) fun x96 => S.bd (stv r65.2.2 2 x96 x93) fun s97 => S.bd (nck (r65.2.1.getD 0 undef)) fun x98 => S.bd (fld 16 x98) fun x99 => S.bd (stv s97 1 x99 (Go.Value.bool Bool.false)) fun s100 => some ((Value.tuple ⟨[]⟩), s100)) (S.bd (nck (r65.2.1.getD 0 undef)) fun x101 => S.bd (fld 9 x101) fun x102 => S.bd (lda r65.2.2 5 x102) fun x103 => S.bd (lal (cellsA (r65.2.1.getD 1 undef)) 0 5) fun x104 => S.bd (lal (cellsA (r65.2.1.getD 1 undef)) 1 2) fun x105 => S.bd (nck (r65.2.1.getD 0 undef)) fun x106 => S.bd (fld 0 x106) fun x107 => S.bd (fld 6 x107) fun x108 => S.bd (lda r65.2.2 2 x108) fun x109 => S.bd (eqb [1, 1] true false x105 x109) fun x110 => S.bd (bld [(Go.Value.int Go.IntKind.i64 0), (Go.Value.int Go.IntKind.u64 0), (Go.Value.slice Option.none 0 0), (Go.Value.slice Option.none 0 0), (Go.Value.int Go.IntKind.i64 0), (Go.Value.int Go.IntKind.i64 0), (Go.Value.int Go.IntKind.u64 0), (Go.Value.int Go.IntKind.i64 0), (Go.Value.int Go.IntKind.u64 0), (Go.Value.int Go.IntKind.i64 0), (Go.Value.int Go.IntKind.i64 0), (Go.Value.int Go.IntKind.u64 0), (Go.Value.int Go.IntKind.i64 0), (Go.Value.int Go.IntKind.u64 0), (Go.Value.bool Bool.false)] [(4, 5, x103), (9, 5, x104), (14, 1, x110)]) fun x111 => S.bd (nck (r65.2.1.getD 0 undef)) fun x112 => S.bd (fld 24 x112) fun x113 => S.bd (stv r65.2.2 1 x113 (Go.Value.bool Bool.true)) fun s114 => S.bd (nck (r65.2.1.getD 0 undef)) fun x115 => S.bd (fld 25 x115) fun x116 => S.bd (stv s114 15 x116 x111) fun s117 => some ((Value.tuple ⟨[]⟩), s117))

def seek_Seek_goes.t (S : Sig) (a0 a1 : Value) (s : St) : Option (Value × St) :=
  S.bd (bx a1) fun c1 => S.bd (nck a0) fun x2 => S.bd (fld 9 x2) fun x3 => S.bd (fld 1 x3) fun x4 => S.bd (lda s 2 x4) fun x5 => S.bd (bx (Go.Value.agg #[(Go.Value.int Go.IntKind.i64 0), (Go.Value.int Go.IntKind.u64 0)])) fun c6 => S.bd (stl c6 0 2 x5) fun c7 => S.bd (S.it (seek_Seek_goes.l2 S) [a0, (Value.agg ⟨c1⟩), (Value.agg ⟨c7⟩)] s) fun r65 => if r65.1 = 0 then (S.bd (lal (cellsA (r65.2.1.getD 1 undef)) 1 2) fun x66 => S.bd (nck (r65.2.1.getD 0 undef)) fun x67 => S.bd (fld 0 x67) fun x68 => S.bd (fld 6 x68) fun x69 => S.bd (lda r65.2.2 2 x69) fun x70 => S.bd (key_Less.r x66 x70 r65.2.2) fun x71 => S.cnd x71 (S.bd (lal (cellsA (r65.2.1.getD 1 undef)) 0 5) fun x72 => S.bd (nck (r65.2.1.getD 0 undef)) fun x73 => S.bd (fld 16 x73) fun x74 => S.bd (stv r65.2.2 1 x74 (Go.Value.bool Bool.true)) fun s75 => S.bd (nck (r65.2.1.getD 0 undef)) fun x76 => S.bd (fld 17 x76) fun x77 => S.bd (stv s75 5 x77 x72) fun s78 => some ((Value.tuple ⟨[]⟩), s78)) (seek_Seek_goes.t.p1 S r65)) else (some ((Value.tuple ⟨[]⟩), r65.2.2))
def seek_Seek_goes.v (a0 a1 : Value) (s : St) : Option (Value × St) := seek_Seek_goes.t std a0 a1 s
def seek_Seek_goes.w : List Value → St → Option (Value × St)
  | [a0, a1], s => seek_Seek_goes.v a0 a1 s
  | _, _ => none
def seek_Seek_goes.an : An := ⟨108, false, [3, 4, 5], [(2, ⟨[.v 0, .p 3 3 0, .p 4 4 0, .l 3, .l 4], [(.exit 0, [.v 0, .p 3 3 0, .l 3]), (.ret, [])]⟩)], [], [(4, [(0, 0, [], []), (1, 0, [], []), (2, 0, [], []), (3, 2, [], []), (4, 0, [], []), (5, 25, [], []), (6, 0, [], []), (7, 0, [], []), (8, 0, [], []), (9, 2, [], []), (10, 0, [], []), (11, 2, [], []), (12, 0, [], []), (13, 0, [], []), (14, 0, [], []), (15, 6, [], []), (16, 45, [], []), (17, 0, [], [])]), (6, [(0, 0, [], []), (1, 25, [], []), (2, 41, [], []), (3, 37, [], []), (4, 29, [], [])]), (8, [(0, 0, [], []), (1, 25, [], []), (2, 0, [], []), (3, 0, [], []), (4, 0, [], []), (5, 0, [], []), (6, 2, [], []), (7, 3, [], []), (8, 0, [], [])]), (9, [(0, 0, [], []), (1, 0, [], []), (2, 25, [], []), (3, 0, [], []), (4, 0, [], []), (5, 4, [], []), (6, 0, [], []), (7, 0, [], []), (8, 4, [], [])]), (11, [(0, 0, [], []), (1, 0, [], []), (2, 0, [], []), (3, 0, [], []), (4, 2, [], []), (5, 0, [], []), (6, 0, [], []), (7, 0, [], []), (8, 0, [], []), (9, 2, [], []), (10, 0, [], []), (11, 3, [], []), (12, 0, [], []), (13, 0, [], []), (14, 0, [], []), (15, 0, [], []), (16, 0, [], []), (17, 4, [], [])]), (7, [(0, 0, [], []), (1, 0, [], []), (2, 0, [], []), (3, 0, [], []), (4, 0, [], []), (5, 2, [], []), (6, 25, [], []), (7, 0, [], []), (8, 25, [], []), (9, 0, [], []), (10, 0, [], []), (11, 0, [], []), (12, 0, [], []), (13, 2, [], []), (14, 0, [], []), (15, 0, [], []), (16, 0, [], []), (17, 0, [], []), (18, 4, [], []), (19, 0, [], []), (20, 0, [], []), (21, 4, [], [])])]⟩
theorem seek_Seek_goes.ok (S : Sig) (a0 a1 : Value) (s : St) : evF S Tryz.prog seek_Seek_goes.ctx seek_Seek_goes.an Tryz.f63 [a0, a1] s = seek_Seek_goes.t S a0 a1 s := by kernel_rfl
theorem seek_Seek_goes.cok : CtxOk Tryz.prog seek_Seek_goes.ctx := .cons key_Check.sound key_Check.can <| .cons key_Less.sound key_Less.can <| .cons seek_Seek_again.sound seek_Seek_again.can <| .cons vec_Prefix.sound vec_Prefix.can <| .nil
theorem seek_Seek_goes.draws : fnDraws seek_Seek_goes.an Tryz.f63 = true := by kernel_rfl
theorem seek_Seek_goes.can : callOk Tryz.prog 63 = true := by kernel_rfl
theorem seek_Seek_goes.sound : FnOk Tryz.prog 63 (.st seek_Seek_goes.w) := FnOk.st_of (evF_ok seek_Seek_goes.cok mixed (f := 63) (fn := Tryz.f63) (by kernel_rfl) seek_Seek_goes.draws) fun args s r h => by
  unfold seek_Seek_goes.w at h; split at h
  · rw [seek_Seek_goes.ok std]; exact h
  · simp at h

/-! ### (*leapfrog/seek.Seek).looked: function 46 -/
def seek_Seek_looked.ctx : Ctx := [(63, .st seek_Seek_goes.w), (64, .st seek_Seek_keep.w), (65, .st seek_Seek_counts.w), (66, .st seek_Seek_again.w)]
def seek_Seek_looked.t (S : Sig) (a0 a1 : Value) (s : St) : Option (Value × St) :=
  S.bd (bx a1) fun c1 => S.bd (lcl c1 0) fun x2 => S.bd (eqb [1] false false x2 (Go.Value.int Go.IntKind.i64 1)) fun x3 => S.cnd x3 (S.bd (nck a0) fun x4 => S.bd (fld 17 x4) fun x5 => S.bd (lda s 5 x5) fun x6 => S.bd (nck a0) fun x7 => S.bd (fld 9 x7) fun x8 => S.bd (stv s 5 x8 x6) fun s9 => S.bd (nck a0) fun x10 => S.bd (fld 16 x10) fun x11 => S.bd (stv s9 1 x11 (Go.Value.bool Bool.false)) fun s12 => S.bd (lal c1 7 5) fun x13 => S.bd (seek_Seek_goes.v a0 x13 s12) fun r14 => some ((Value.tuple ⟨[]⟩), r14.2)) (S.bd (eqb [1] false false x2 (Go.Value.int Go.IntKind.i64 3)) fun x15 => S.cnd x15 (S.bd (nck a0) fun x16 => S.bd (fld 17 x16) fun x17 => S.bd (lda s 5 x17) fun x18 => S.bd (lal c1 0 13) fun x19 => S.bd (seek_Seek_keep.v a0 x18 x19 s) fun r20 => S.bd (seek_Seek_counts.v a0 r20.2) fun r21 => S.cnd r21.1 (S.bd (nck a0) fun x22 => S.bd (fld 16 x22) fun x23 => S.bd (stv r21.2 1 x23 (Go.Value.bool Bool.false)) fun s24 => some ((Value.tuple ⟨[]⟩), s24)) (some ((Value.tuple ⟨[]⟩), r21.2))) (S.bd (seek_Seek_again.v a0 s) fun r25 => some ((Value.tuple ⟨[]⟩), r25.2)))
def seek_Seek_looked.v (a0 a1 : Value) (s : St) : Option (Value × St) := seek_Seek_looked.t std a0 a1 s
def seek_Seek_looked.w : List Value → St → Option (Value × St)
  | [a0, a1], s => seek_Seek_looked.v a0 a1 s
  | _, _ => none
def seek_Seek_looked.an : An := ⟨38, false, [3], [], [], [(7, [(0, 0, [], []), (1, 0, [], []), (2, 0, [], []), (3, 0, [], []), (4, 2, [], []), (5, 25, [], []), (6, 4, [], [])])]⟩
theorem seek_Seek_looked.ok (S : Sig) (a0 a1 : Value) (s : St) : evF S Tryz.prog seek_Seek_looked.ctx seek_Seek_looked.an Tryz.f46 [a0, a1] s = seek_Seek_looked.t S a0 a1 s := by kernel_rfl
theorem seek_Seek_looked.cok : CtxOk Tryz.prog seek_Seek_looked.ctx := .cons seek_Seek_goes.sound seek_Seek_goes.can <| .cons seek_Seek_keep.sound seek_Seek_keep.can <| .cons seek_Seek_counts.sound seek_Seek_counts.can <| .cons seek_Seek_again.sound seek_Seek_again.can <| .nil
theorem seek_Seek_looked.draws : fnDraws seek_Seek_looked.an Tryz.f46 = true := by kernel_rfl
theorem seek_Seek_looked.can : callOk Tryz.prog 46 = true := by kernel_rfl
theorem seek_Seek_looked.sound : FnOk Tryz.prog 46 (.st seek_Seek_looked.w) := FnOk.st_of (evF_ok seek_Seek_looked.cok mixed (f := 46) (fn := Tryz.f46) (by kernel_rfl) seek_Seek_looked.draws) fun args s r h => by
  unfold seek_Seek_looked.w at h; split at h
  · rw [seek_Seek_looked.ok std]; exact h
  · simp at h

/-! ### (*leapfrog/seek.Seek).stood: function 47 -/
def seek_Seek_stood.ctx : Ctx := [(67, .rd key_Less.w), (63, .st seek_Seek_goes.w), (36, .rd key_Check.w), (66, .st seek_Seek_again.w), (64, .st seek_Seek_keep.w)]
def seek_Seek_stood.t (S : Sig) (a0 a1 : Value) (s : St) : Option (Value × St) :=
  S.bd (bx a1) fun c1 => S.bd (lcl c1 0) fun x2 => S.bd (eqb [1] false false x2 (Go.Value.int Go.IntKind.i64 1)) fun x3 => S.cnd x3 (S.bd (nck a0) fun x4 => S.bd (fld 9 x4) fun x5 => S.bd (fld 1 x5) fun x6 => S.bd (lda s 2 x6) fun x7 => S.bd (nck a0) fun x8 => S.bd (fld 0 x8) fun x9 => S.bd (fld 6 x9) fun x10 => S.bd (lda s 2 x10) fun x11 => S.bd (key_Less.r x7 x11 s) fun x12 => S.cnd x12 (S.bd (lal c1 7 5) fun x13 => S.bd (seek_Seek_goes.v a0 x13 s) fun r14 => some ((Value.tuple ⟨[]⟩), r14.2)) (S.bd (lal c1 3 2) fun x15 => S.bd (key_Check.r x15 s) fun x16 => S.bd (eqb [1] false false x16 (Go.Value.int Go.IntKind.i64 0)) fun x17 => S.bd (S.gd x17 true (lal c1 3 2)) fun x18 => S.bd (S.gd x17 true (some a0)) fun x19 => S.bd (S.gd x17 true (nck x19)) fun x20 => S.bd (S.gd x17 true (fld 9 x20)) fun x21 => S.bd (S.gd x17 true (fld 1 x21)) fun x22 => S.bd (S.gd x17 true (lda s 2 x22)) fun x23 => S.bd (S.gd x17 true (key_Less.r x18 x23 s)) fun x24 => S.bd (pik x17 x24 (Go.Value.bool Bool.false)) fun x25 => S.cnd x25 (S.bd (lal c1 2 5) fun x26 => S.bd (nck a0) fun x27 => S.bd (fld 9 x27) fun x28 => S.bd (stv s 5 x28 x26) fun s29 => some ((Value.tuple ⟨[]⟩), s29)) (S.bd (seek_Seek_again.v a0 s) fun r30 => some ((Value.tuple ⟨[]⟩), r30.2)))) (S.bd (eqb [1] false false x2 (Go.Value.int Go.IntKind.i64 3)) fun x31 => S.cnd x31 (S.bd (nck a0) fun x32 => S.bd (fld 9 x32) fun x33 => S.bd (lda s 5 x33) fun x34 => S.bd (lal c1 0 13) fun x35 => S.bd (seek_Seek_keep.v a0 x34 x35 s) fun r36 => S.bd (seek_Seek_again.v a0 r36.2) fun r37 => some ((Value.tuple ⟨[]⟩), r37.2)) (S.bd (seek_Seek_again.v a0 s) fun r38 => some ((Value.tuple ⟨[]⟩), r38.2)))
def seek_Seek_stood.v (a0 a1 : Value) (s : St) : Option (Value × St) := seek_Seek_stood.t std a0 a1 s
def seek_Seek_stood.w : List Value → St → Option (Value × St)
  | [a0, a1], s => seek_Seek_stood.v a0 a1 s
  | _, _ => none
def seek_Seek_stood.an : An := ⟨55, false, [3], [], [], [(4, [(0, 0, [], []), (1, 0, [], []), (2, 0, [], []), (3, 0, [], []), (4, 2, [], []), (5, 0, [], []), (6, 0, [], []), (7, 0, [], []), (8, 0, [], []), (9, 2, [], []), (10, 3, [], [])]), (6, [(0, 0, [], []), (1, 0, [], []), (2, 25, [], []), (3, 3, [], []), (4, 0, [], []), (5, 0, [], []), (6, 0, [], []), (7, 0, [], []), (8, 25, [], []), (9, 0, [], []), (10, 0, [], []), (11, 0, [], []), (12, 0, [], []), (13, 2, [], []), (14, 3, [], []), (15, 0, [], [])]), (8, [(0, 0, [], []), (1, 0, [], []), (2, 0, [], []), (3, 0, [], []), (4, 2, [], []), (5, 25, [], []), (6, 4, [], [])])]⟩
theorem seek_Seek_stood.ok (S : Sig) (a0 a1 : Value) (s : St) : evF S Tryz.prog seek_Seek_stood.ctx seek_Seek_stood.an Tryz.f47 [a0, a1] s = seek_Seek_stood.t S a0 a1 s := by kernel_rfl
theorem seek_Seek_stood.cok : CtxOk Tryz.prog seek_Seek_stood.ctx := .cons key_Less.sound key_Less.can <| .cons seek_Seek_goes.sound seek_Seek_goes.can <| .cons key_Check.sound key_Check.can <| .cons seek_Seek_again.sound seek_Seek_again.can <| .cons seek_Seek_keep.sound seek_Seek_keep.can <| .nil
theorem seek_Seek_stood.draws : fnDraws seek_Seek_stood.an Tryz.f47 = true := by kernel_rfl
theorem seek_Seek_stood.can : callOk Tryz.prog 47 = true := by kernel_rfl
theorem seek_Seek_stood.sound : FnOk Tryz.prog 47 (.st seek_Seek_stood.w) := FnOk.st_of (evF_ok seek_Seek_stood.cok mixed (f := 47) (fn := Tryz.f47) (by kernel_rfl) seek_Seek_stood.draws) fun args s r h => by
  unfold seek_Seek_stood.w at h; split at h
  · rw [seek_Seek_stood.ok std]; exact h
  · simp at h

/-! ### (*leapfrog/seek.Seek).Tell: function 29 -/
def seek_Seek_Tell.ctx : Ctx := [(43, .rd seek_Seek_is.w), (46, .st seek_Seek_looked.w), (47, .st seek_Seek_stood.w)]
def seek_Seek_Tell.t (S : Sig) (a0 a1 : Value) (s : St) : Option (Value × St) :=
  S.bd (bx a1) fun c1 => S.bd (seek_Seek_is.r a0 s) fun x2 => S.bd (un .not x2) fun x3 => S.bd (S.gd x3 false (some a0)) fun x4 => S.bd (S.gd x3 false (nck x4)) fun x5 => S.bd (S.gd x3 false (fld 24 x5)) fun x6 => S.bd (S.gd x3 false (ldc s x6)) fun x7 => S.bd (pik x3 (Go.Value.bool Bool.true) x7) fun x8 => S.cnd x8 (some ((Value.tuple ⟨[]⟩), s)) (S.bd (nck a0) fun x9 => S.bd (fld 16 x9) fun x10 => S.bd (ldc s x10) fun x11 => S.cnd x11 (S.bd (lal c1 0 13) fun x12 => S.bd (seek_Seek_looked.v a0 x12 s) fun r13 => some ((Value.tuple ⟨[]⟩), r13.2)) (S.bd (lal c1 0 13) fun x14 => S.bd (seek_Seek_stood.v a0 x14 s) fun r15 => some ((Value.tuple ⟨[]⟩), r15.2)))
def seek_Seek_Tell.v (a0 a1 : Value) (s : St) : Option (Value × St) := seek_Seek_Tell.t std a0 a1 s
def seek_Seek_Tell.w : List Value → St → Option (Value × St)
  | [a0, a1], s => seek_Seek_Tell.v a0 a1 s
  | _, _ => none
def seek_Seek_Tell.an : An := ⟨25, false, [3], [], [], []⟩
theorem seek_Seek_Tell.ok (S : Sig) (a0 a1 : Value) (s : St) : evF S Tryz.prog seek_Seek_Tell.ctx seek_Seek_Tell.an Tryz.f29 [a0, a1] s = seek_Seek_Tell.t S a0 a1 s := by kernel_rfl
theorem seek_Seek_Tell.cok : CtxOk Tryz.prog seek_Seek_Tell.ctx := .cons seek_Seek_is.sound seek_Seek_is.can <| .cons seek_Seek_looked.sound seek_Seek_looked.can <| .cons seek_Seek_stood.sound seek_Seek_stood.can <| .nil
theorem seek_Seek_Tell.draws : fnDraws seek_Seek_Tell.an Tryz.f29 = true := by kernel_rfl
theorem seek_Seek_Tell.can : callOk Tryz.prog 29 = true := by kernel_rfl
theorem seek_Seek_Tell.sound : FnOk Tryz.prog 29 (.st seek_Seek_Tell.w) := FnOk.st_of (evF_ok seek_Seek_Tell.cok mixed (f := 29) (fn := Tryz.f29) (by kernel_rfl) seek_Seek_Tell.draws) fun args s r h => by
  unfold seek_Seek_Tell.w at h; split at h
  · rw [seek_Seek_Tell.ok std]; exact h
  · simp at h

/-! ### (*leapfrog/read.Read).got: function 31 -/
def read_Read_got.ctx : Ctx := [(48, .st read_Read_end.w), (18, .st read_New_fn1.w), (49, .st read_Read_got_fn1.w), (44, .st read_Read_fail.w)]
def read_Read_got.t (S : Sig) (a0 a1 : Value) (s : St) : Option (Value × St) :=
  S.bd (alv s a0) fun r1 => S.bd (alv r1.2 a1) fun r2 => S.bd (fld 0 r2.1) fun x3 => S.bd (ldc r2.2 x3) fun x4 => S.bd (eqb [1] false false x4 (Go.Value.int Go.IntKind.i64 1)) fun x5 => S.bd (S.gd x5 true (fld 1 r2.1)) fun x6 => S.bd (S.gd x5 true (ldc r2.2 x6)) fun x7 => S.bd (S.gd x5 true (un .not x7)) fun x8 => S.bd (pik x5 x8 (Go.Value.bool Bool.false)) fun x9 => S.cnd x9 (S.bd (ldc r2.2 r1.1) fun x10 => S.bd (ldc r2.2 r1.1) fun x11 => S.bd (nck x11) fun x12 => S.bd (fld 10 x12) fun x13 => S.bd (fld 1 x13) fun x14 => S.bd (fld 1 x14) fun x15 => S.bd (ldc r2.2 x15) fun x16 => S.bd (fld 12 r2.1) fun x17 => S.bd (ldc r2.2 x17) fun x18 => S.bd (bld [(Go.Value.int Go.IntKind.i64 0), (Go.Value.int Go.IntKind.u64 0), (Go.Value.slice Option.none 0 0), (Go.Value.slice Option.none 0 0), (Go.Value.int Go.IntKind.i64 0), (Go.Value.int Go.IntKind.i64 0), (Go.Value.int Go.IntKind.u64 0), (Go.Value.int Go.IntKind.i64 0), (Go.Value.int Go.IntKind.u64 0), (Go.Value.int Go.IntKind.i64 0), (Go.Value.int Go.IntKind.i64 0), (Go.Value.int Go.IntKind.u64 0), (Go.Value.int Go.IntKind.i64 0), (Go.Value.int Go.IntKind.u64 0), (Go.Value.bool Bool.false)] [(1, 1, x16), (2, 1, x18), (14, 1, (Go.Value.bool Bool.true))]) fun x19 => S.bd (read_Read_end.v x10 x19 r2.2) fun r20 => S.bd (ldc r20.2 r1.1) fun x21 => S.cnd (Value.bool (sameV x21 x11)) (S.bd (ldc r20.2 x15) fun x22 => S.cnd (Value.bool (sameV x22 x16)) (S.bd (ldc r20.2 x17) fun x23 => S.cnd (Value.bool (sameV x23 x18)) (some ((Value.tuple ⟨[]⟩), r20.2)) (none)) (none)) (none)) (S.bd (ldc r2.2 r1.1) fun x24 => S.bd (nck x24) fun x25 => S.bd (fld 16 x25) fun x26 => S.bd (ldc r2.2 x26) fun x27 => S.bd (callV (read_Read_got.ctx) x27 [(Value.func (.func 49) ⟨[]⟩ ⟨[r1.1, r2.1]⟩)] r2.2) fun r28 => S.bd (un .not r28.1) fun x29 => S.cnd x29 (S.bd (ldc r28.2 r1.1) fun x30 => S.bd (read_Read_fail.v x30 (Go.Value.int Go.IntKind.i64 101) r28.2) fun r31 => some ((Value.tuple ⟨[]⟩), r31.2)) (some ((Value.tuple ⟨[]⟩), r28.2)))
def read_Read_got.v (a0 a1 : Value) (s : St) : Option (Value × St) := read_Read_got.t std a0 a1 s
def read_Read_got.w : List Value → St → Option (Value × St)
  | [a0, a1], s => read_Read_got.v a0 a1 s
  | _, _ => none
def read_Read_got.an : An := ⟨34, false, [], [], [], [(2, [(0, 2, [], []), (1, 2, [], []), (2, 0, [], []), (3, 0, [], []), (4, 0, [], []), (5, 0, [], []), (6, 2, [], []), (7, 0, [], []), (8, 2, [], []), (9, 0, [], []), (10, 4, [1, 6, 8], [])])]⟩
theorem read_Read_got.ok (S : Sig) (a0 a1 : Value) (s : St) : evF S Tryz.prog read_Read_got.ctx read_Read_got.an Tryz.f31 [a0, a1] s = read_Read_got.t S a0 a1 s := by kernel_rfl
theorem read_Read_got.cok : CtxOk Tryz.prog read_Read_got.ctx := .cons read_Read_end.sound read_Read_end.can <| .cons read_New_fn1.sound read_New_fn1.can <| .cons read_Read_got_fn1.sound read_Read_got_fn1.can <| .cons read_Read_fail.sound read_Read_fail.can <| .nil
theorem read_Read_got.draws : fnDraws read_Read_got.an Tryz.f31 = true := by kernel_rfl
theorem read_Read_got.can : callOk Tryz.prog 31 = true := by kernel_rfl
theorem read_Read_got.sound : FnOk Tryz.prog 31 (.st read_Read_got.w) := FnOk.st_of (evF_ok read_Read_got.cok mixed (f := 31) (fn := Tryz.f31) (by kernel_rfl) read_Read_got.draws) fun args s r h => by
  unfold read_Read_got.w at h; split at h
  · rw [read_Read_got.ok std]; exact h
  · simp at h

/-! ### (*leapfrog/read.Read).Tell: function 14 -/
def read_Read_Tell.ctx : Ctx := [(29, .st seek_Seek_Tell.w), (30, .st read_Read_sought.w), (31, .st read_Read_got.w)]
def read_Read_Tell.t (S : Sig) (a0 a1 : Value) (s : St) : Option (Value × St) :=
  S.bd (bx a1) fun c1 => S.bd (eqb [3] false false a0 (Go.Value.pointer Option.none)) fun x2 => S.cnd x2 (some ((Value.tuple ⟨[]⟩), s)) (S.bd (nck a0) fun x3 => S.bd (fld 8 x3) fun x4 => S.bd (ldc s x4) fun x5 => S.bd (eqb [1] false false x5 (Go.Value.int Go.IntKind.i64 1)) fun x6 => S.cnd x6 (S.bd (nck a0) fun x7 => S.bd (fld 9 x7) fun x8 => S.bd (ldc s x8) fun x9 => S.bd (lal c1 0 13) fun x10 => S.bd (seek_Seek_Tell.v x9 x10 s) fun r11 => S.bd (read_Read_sought.v a0 r11.2) fun r12 => some ((Value.tuple ⟨[]⟩), r12.2)) (S.bd (eqb [1] false false x5 (Go.Value.int Go.IntKind.i64 2)) fun x13 => S.cnd x13 (S.bd (lal c1 0 13) fun x14 => S.bd (read_Read_got.v a0 x14 s) fun r15 => some ((Value.tuple ⟨[]⟩), r15.2)) (some ((Value.tuple ⟨[]⟩), s))))
def read_Read_Tell.v (a0 a1 : Value) (s : St) : Option (Value × St) := read_Read_Tell.t std a0 a1 s
def read_Read_Tell.w : List Value → St → Option (Value × St)
  | [a0, a1], s => read_Read_Tell.v a0 a1 s
  | _, _ => none
def read_Read_Tell.an : An := ⟨25, false, [3], [], [], [(4, [(0, 0, [], []), (1, 0, [], []), (2, 0, [], []), (3, 2, [], []), (4, 25, [], []), (5, 4, [], [])])]⟩
theorem read_Read_Tell.ok (S : Sig) (a0 a1 : Value) (s : St) : evF S Tryz.prog read_Read_Tell.ctx read_Read_Tell.an Tryz.f14 [a0, a1] s = read_Read_Tell.t S a0 a1 s := by kernel_rfl
theorem read_Read_Tell.cok : CtxOk Tryz.prog read_Read_Tell.ctx := .cons seek_Seek_Tell.sound seek_Seek_Tell.can <| .cons read_Read_sought.sound read_Read_sought.can <| .cons read_Read_got.sound read_Read_got.can <| .nil
theorem read_Read_Tell.draws : fnDraws read_Read_Tell.an Tryz.f14 = true := by kernel_rfl
theorem read_Read_Tell.can : callOk Tryz.prog 14 = true := by kernel_rfl
theorem read_Read_Tell.sound : FnOk Tryz.prog 14 (.st read_Read_Tell.w) := FnOk.st_of (evF_ok read_Read_Tell.cok mixed (f := 14) (fn := Tryz.f14) (by kernel_rfl) read_Read_Tell.draws) fun args s r h => by
  unfold read_Read_Tell.w at h; split at h
  · rw [read_Read_Tell.ok std]; exact h
  · simp at h

/-! ### leapfrog/read.target: function 17 -/
def read_target.ctx : Ctx := []
def read_target.t (S : Sig) (a0 : Value) (s : St) : Option Value :=
  S.bd (bx a0) fun c1 => S.bd (bx (Go.Value.agg #[(Go.Value.int Go.IntKind.i64 0), (Go.Value.int Go.IntKind.u64 0)])) fun c2 => S.bd (lcl c1 6) fun x3 => S.bd (bld [(Go.Value.int Go.IntKind.i64 0), (Go.Value.int Go.IntKind.u64 0)] [(0, 1, (Go.Value.int Go.IntKind.i64 2)), (1, 1, x3)]) fun x4 => S.bd (stl c2 0 2 x4) fun c5 => S.bd (lal c5 0 2) fun x6 => some (x6)
def read_target.r (a0 : Value) (s : St) : Option Value := read_target.t std a0 s
def read_target.w : List Value → St → Option Value
  | [a0], s => read_target.r a0 s
  | _, _ => none
def read_target.an : An := ⟨6, true, [1, 2], [], [], []⟩
theorem read_target.ok (S : Sig) (a0 : Value) (s : St) : evG S Tryz.prog read_target.ctx read_target.an Tryz.f17 [a0] s = read_target.t S a0 s := by kernel_rfl
theorem read_target.cok : CtxOk Tryz.prog read_target.ctx := .nil
theorem read_target.draws : fnDraws read_target.an Tryz.f17 = true := by kernel_rfl
theorem read_target.can : callOk Tryz.prog 17 = true := by kernel_rfl
theorem read_target.sound : FnOk Tryz.prog 17 (.rd read_target.w) := FnOk.rd_of (evG_ok read_target.cok mixed (f := 17) (fn := Tryz.f17) (by kernel_rfl) read_target.draws) fun args s r h => by
  unfold read_target.w at h; split at h
  · rw [read_target.ok std]; exact h
  · simp at h

/-! ### leapfrog/seek.right: function 35 -/
def seek_right.ctx : Ctx := [(36, .rd key_Check.w), (58, .rd vec_Right.w)]
def seek_right.t (S : Sig) (a0 a1 : Value) (s : St) : Option Value :=
  S.bd (bx a0) fun c1 => S.bd (lal c1 1 2) fun x2 => S.bd (key_Check.r x2 s) fun x3 => S.bd (eqb [1] false false x3 (Go.Value.int Go.IntKind.i64 0)) fun x4 => S.bd (S.gd x4 true (lal c1 3 2)) fun x5 => S.bd (S.gd x4 true (vec_Right.r x5 s)) fun x6 => S.bd (S.gd x4 true (eqb [1] false false x6 (Go.Value.int Go.IntKind.i64 0))) fun x7 => S.bd (pik x4 x7 (Go.Value.bool Bool.false)) fun x8 => S.bd (S.gd x8 true (lcl c1 3)) fun x9 => S.bd (S.gd x8 true (some a1)) fun x10 => S.bd (S.gd x8 true (eqb [1] false false x9 x10)) fun x11 => S.bd (pik x8 x11 (Go.Value.bool Bool.false)) fun x12 => some (x12)
def seek_right.r (a0 a1 : Value) (s : St) : Option Value := seek_right.t std a0 a1 s
def seek_right.w : List Value → St → Option Value
  | [a0, a1], s => seek_right.r a0 a1 s
  | _, _ => none
def seek_right.an : An := ⟨22, true, [2], [], [], []⟩
theorem seek_right.ok (S : Sig) (a0 a1 : Value) (s : St) : evG S Tryz.prog seek_right.ctx seek_right.an Tryz.f35 [a0, a1] s = seek_right.t S a0 a1 s := by kernel_rfl
theorem seek_right.cok : CtxOk Tryz.prog seek_right.ctx := .cons key_Check.sound key_Check.can <| .cons vec_Right.sound vec_Right.can <| .nil
theorem seek_right.draws : fnDraws seek_right.an Tryz.f35 = true := by kernel_rfl
theorem seek_right.can : callOk Tryz.prog 35 = true := by kernel_rfl
theorem seek_right.sound : FnOk Tryz.prog 35 (.rd seek_right.w) := FnOk.rd_of (evG_ok seek_right.cok mixed (f := 35) (fn := Tryz.f35) (by kernel_rfl) seek_right.draws) fun args s r h => by
  unfold seek_right.w at h; split at h
  · rw [seek_right.ok std]; exact h
  · simp at h

/-! ### leapfrog/seek.New: function 16 -/
def seek_New.ctx : Ctx := [(35, .rd seek_right.w), (36, .rd key_Check.w)]
def seek_New.t.p1 (S : Sig) (x6 : Value) (x9 : Value) (c1 : List Value) (s : St) : Option (Value × St) :=
  S.bd (S.gd x6 false (un .not x9)) fun x10 => S.bd (pik x6 (Go.Value.bool Bool.true) x10) fun x11 => S.bd (S.gd x11 false (lal c1 6 2)) fun x12 => S.bd (S.gd x11 false (key_Check.r x12 s)) fun x13 => S.bd (S.gd x11 false (eqb [1] false true x13 (Go.Value.int Go.IntKind.i64 0))) fun x14 => S.bd (pik x11 (Go.Value.bool Bool.true) x14) fun x15 => S.bd (S.gd x15 false (lcl c1 6)) fun x16 => S.bd (S.gd x15 false (eqb [1] false false x16 (Go.Value.int Go.IntKind.i64 1))) fun x17 => S.bd (pik x15 (Go.Value.bool Bool.true) x17) fun x18 => S.cnd x18 (some ((Value.tuple ⟨[(Go.Value.pointer Option.none), (Go.Value.int Go.IntKind.i64 120)]⟩), s)) (S.bd (lal c1 0 8) fun x19 => S.bd (lal c1 1 5) fun x20 => S.bd (lal c1 4 2) fun x21 => S.bd (mkm s) fun r22 => S.bd (bld [(Go.Value.int Go.IntKind.i64 0), (Go.Value.int Go.IntKind.i64 0), (Go.Value.int Go.IntKind.i64 0), (Go.Value.int Go.IntKind.u64 0), (Go.Value.int Go.IntKind.i64 0), (Go.Value.int Go.IntKind.u64 0), (Go.Value.int Go.IntKind.i64 0), (Go.Value.int Go.IntKind.u64 0), (Go.Value.bool Bool.false), (Go.Value.int Go.IntKind.i64 0), (Go.Value.int Go.IntKind.i64 0), (Go.Value.int Go.IntKind.u64 0), (Go.Value.int Go.IntKind.i64 0), (Go.Value.int Go.IntKind.u64 0), (Go.Value.int Go.IntKind.i64 0), (Go.Value.int Go.IntKind.u64 0), (Go.Value.bool Bool.false), (Go.Value.int Go.IntKind.i64 0), (Go.Value.int Go.IntKind.i64 0), (Go.Value.int Go.IntKind.u64 0), (Go.Value.int Go.IntKind.i64 0), (Go.Value.int Go.IntKind.u64 0), (Go.Value.map Option.none), (Go.Value.int Go.IntKind.i64 0), (Go.Value.bool Bool.false), (Go.Value.int Go.IntKind.i64 0), (Go.Value.int Go.IntKind.u64 0), (Go.Value.slice Option.none 0 0), (Go.Value.slice Option.none 0 0), (Go.Value.int Go.IntKind.i64 0), (Go.Value.int Go.IntKind.i64 0), (Go.Value.int Go.IntKind.u64 0), (Go.Value.int Go.IntKind.i64 0), (Go.Value.int Go.IntKind.u64 0), (Go.Value.int Go.IntKind.i64 0), (Go.Value.int Go.IntKind.i64 0), (Go.Value.int Go.IntKind.u64 0), (Go.Value.int Go.IntKind.i64 0), (Go.Value.int Go.IntKind.u64 0), (Go.Value.bool Bool.false)] [(0, 8, x19), (8, 1, (Go.Value.bool Bool.true)), (9, 5, x20), (14, 2, x21), (22, 1, r22.1)]) fun x23 => S.bd (alv r22.2 x23) fun r24 => some ((Value.tuple ⟨[r24.1, (Go.Value.int Go.IntKind.i64 0)]⟩), r24.2))

def seek_New.t (S : Sig) (a0 : Value) (s : St) : Option (Value × St) :=
  S.bd (bx a0) fun c1 => S.bd (lcl c1 0) fun x2 => S.bd (bin .lss x2 (Go.Value.int Go.IntKind.i64 0)) fun x3 => S.bd (S.gd x3 false (lcl c1 0)) fun x4 => S.bd (S.gd x3 false (bin .gtr x4 (Go.Value.int Go.IntKind.i64 32))) fun x5 => S.bd (pik x3 (Go.Value.bool Bool.true) x5) fun x6 => S.bd (S.gd x6 false (lal c1 1 5)) fun x7 => S.bd (S.gd x6 false (lcl c1 0)) fun x8 => S.bd (S.gd x6 false (seek_right.r x7 x8 s)) fun x9 => seek_New.t.p1 S x6 x9 c1 s
def seek_New.v (a0 : Value) (s : St) : Option (Value × St) := seek_New.t std a0 s
def seek_New.w : List Value → St → Option (Value × St)
  | [a0], s => seek_New.v a0 s
  | _, _ => none
def seek_New.an : An := ⟨41, false, [1], [], [], []⟩
theorem seek_New.ok (S : Sig) (a0 : Value) (s : St) : evF S Tryz.prog seek_New.ctx seek_New.an Tryz.f16 [a0] s = seek_New.t S a0 s := by kernel_rfl
theorem seek_New.cok : CtxOk Tryz.prog seek_New.ctx := .cons seek_right.sound seek_right.can <| .cons key_Check.sound key_Check.can <| .nil
theorem seek_New.draws : fnDraws seek_New.an Tryz.f16 = true := by kernel_rfl
theorem seek_New.can : callOk Tryz.prog 16 = true := by kernel_rfl
theorem seek_New.sound : FnOk Tryz.prog 16 (.st seek_New.w) := FnOk.st_of (evF_ok seek_New.cok mixed (f := 16) (fn := Tryz.f16) (by kernel_rfl) seek_New.draws) fun args s r h => by
  unfold seek_New.w at h; split at h
  · rw [seek_New.ok std]; exact h
  · simp at h

/-! ### (*leapfrog/read.Read).again: function 27 -/
def read_Read_again.ctx : Ctx := [(44, .st read_Read_fail.w), (17, .rd read_target.w), (16, .st seek_New.w)]
def read_Read_again.t (S : Sig) (a0 : Value) (s : St) : Option (Value × St) :=
  S.bd (nck a0) fun x1 => S.bd (fld 15 x1) fun x2 => S.bd (ldc s x2) fun x3 => S.bd (bin .geq x3 (Go.Value.int Go.IntKind.i64 64)) fun x4 => S.cnd x4 (S.bd (read_Read_fail.v a0 (Go.Value.int Go.IntKind.i64 121) s) fun r5 => some ((Value.tuple ⟨[]⟩), r5.2)) (S.bd (nck a0) fun x6 => S.bd (fld 15 x6) fun x7 => S.bd (ldc s x7) fun x8 => S.bd (bin .add x8 (Go.Value.int Go.IntKind.i64 1)) fun x9 => S.bd (nck a0) fun x10 => S.bd (fld 15 x10) fun x11 => S.bd (stv s 1 x11 x9) fun s12 => S.bd (nck a0) fun x13 => S.bd (fld 0 x13) fun x14 => S.bd (fld 0 x14) fun x15 => S.bd (ldc s12 x15) fun x16 => S.bd (nck a0) fun x17 => S.bd (fld 0 x17) fun x18 => S.bd (fld 1 x18) fun x19 => S.bd (lda s12 5 x19) fun x20 => S.bd (nck a0) fun x21 => S.bd (fld 0 x21) fun x22 => S.bd (lda s12 8 x22) fun x23 => S.bd (read_target.r x23 s12) fun x24 => S.bd (bld [(Go.Value.int Go.IntKind.i64 0), (Go.Value.int Go.IntKind.i64 0), (Go.Value.int Go.IntKind.i64 0), (Go.Value.int Go.IntKind.u64 0), (Go.Value.int Go.IntKind.i64 0), (Go.Value.int Go.IntKind.u64 0), (Go.Value.int Go.IntKind.i64 0), (Go.Value.int Go.IntKind.u64 0)] [(0, 1, x16), (1, 5, x20), (6, 2, x24)]) fun x25 => S.bd (seek_New.v x25 s12) fun r26 => S.bd (ldc r26.2 x15) fun x27 => S.cnd (Value.bool (sameV x27 x16)) (S.bd (lda r26.2 5 x19) fun x28 => S.cnd (Value.bool (sameV x28 x20)) (S.bd (xtr 0 r26.1) fun x29 => S.bd (xtr 1 r26.1) fun x30 => S.bd (nck a0) fun x31 => S.bd (fld 9 x31) fun x32 => S.bd (stv r26.2 1 x32 x29) fun s33 => S.bd (nck a0) fun x34 => S.bd (fld 8 x34) fun x35 => S.bd (stv s33 1 x35 (Go.Value.int Go.IntKind.i64 1)) fun s36 => some ((Value.tuple ⟨[]⟩), s36)) (none)) (none))
def read_Read_again.v (a0 : Value) (s : St) : Option (Value × St) := read_Read_again.t std a0 s
def read_Read_again.w : List Value → St → Option (Value × St)
  | [a0], s => read_Read_again.v a0 s
  | _, _ => none
def read_Read_again.an : An := ⟨42, false, [], [], [], [(3, [(0, 0, [], []), (1, 0, [], []), (2, 0, [], []), (3, 0, [], []), (4, 0, [], []), (5, 2, [], []), (6, 0, [], []), (7, 0, [], []), (8, 0, [], []), (9, 0, [], []), (10, 2, [], []), (11, 0, [], []), (12, 0, [], []), (13, 0, [], []), (14, 2, [], []), (15, 3, [], []), (16, 0, [], []), (17, 4, [5, 10], []), (18, 0, [], []), (19, 0, [], []), (20, 0, [], []), (21, 0, [], []), (22, 0, [], []), (23, 4, [], [])])]⟩
theorem read_Read_again.ok (S : Sig) (a0 : Value) (s : St) : evF S Tryz.prog read_Read_again.ctx read_Read_again.an Tryz.f27 [a0] s = read_Read_again.t S a0 s := by kernel_rfl
theorem read_Read_again.cok : CtxOk Tryz.prog read_Read_again.ctx := .cons read_Read_fail.sound read_Read_fail.can <| .cons read_target.sound read_target.can <| .cons seek_New.sound seek_New.can <| .nil
theorem read_Read_again.draws : fnDraws read_Read_again.an Tryz.f27 = true := by kernel_rfl
theorem read_Read_again.can : callOk Tryz.prog 27 = true := by kernel_rfl
theorem read_Read_again.sound : FnOk Tryz.prog 27 (.st read_Read_again.w) := FnOk.st_of (evF_ok read_Read_again.cok mixed (f := 27) (fn := Tryz.f27) (by kernel_rfl) read_Read_again.draws) fun args s r h => by
  unfold read_Read_again.w at h; split at h
  · rw [read_Read_again.ok std]; exact h
  · simp at h

/-! ### (*leapfrog/read.Read).Wake: function 12 -/
def read_Read_Wake.ctx : Ctx := [(27, .st read_Read_again.w)]
def read_Read_Wake.t (S : Sig) (a0 : Value) (s : St) : Option (Value × St) :=
  S.bd (eqb [3] false true a0 (Go.Value.pointer Option.none)) fun x1 => S.bd (S.gd x1 true (some a0)) fun x2 => S.bd (S.gd x1 true (nck x2)) fun x3 => S.bd (S.gd x1 true (fld 8 x3)) fun x4 => S.bd (S.gd x1 true (ldc s x4)) fun x5 => S.bd (S.gd x1 true (eqb [1] false false x5 (Go.Value.int Go.IntKind.i64 3))) fun x6 => S.bd (pik x1 x6 (Go.Value.bool Bool.false)) fun x7 => S.cnd x7 (S.bd (read_Read_again.v a0 s) fun r8 => some ((Value.tuple ⟨[]⟩), r8.2)) (some ((Value.tuple ⟨[]⟩), s))
def read_Read_Wake.v (a0 : Value) (s : St) : Option (Value × St) := read_Read_Wake.t std a0 s
def read_Read_Wake.w : List Value → St → Option (Value × St)
  | [a0], s => read_Read_Wake.v a0 s
  | _, _ => none
def read_Read_Wake.an : An := ⟨13, false, [], [], [], []⟩
theorem read_Read_Wake.ok (S : Sig) (a0 : Value) (s : St) : evF S Tryz.prog read_Read_Wake.ctx read_Read_Wake.an Tryz.f12 [a0] s = read_Read_Wake.t S a0 s := by kernel_rfl
theorem read_Read_Wake.cok : CtxOk Tryz.prog read_Read_Wake.ctx := .cons read_Read_again.sound read_Read_again.can <| .nil
theorem read_Read_Wake.draws : fnDraws read_Read_Wake.an Tryz.f12 = true := by kernel_rfl
theorem read_Read_Wake.can : callOk Tryz.prog 12 = true := by kernel_rfl
theorem read_Read_Wake.sound : FnOk Tryz.prog 12 (.st read_Read_Wake.w) := FnOk.st_of (evF_ok read_Read_Wake.cok mixed (f := 12) (fn := Tryz.f12) (by kernel_rfl) read_Read_Wake.draws) fun args s r h => by
  unfold read_Read_Wake.w at h; split at h
  · rw [read_Read_Wake.ok std]; exact h
  · simp at h

/-! ### (*leapfrog/read.Read).Next: function 10 -/
def read_Read_Next.ctx : Ctx := [(25, .rd seek_Seek_Next.w)]
def read_Read_Next.t.p1 (S : Sig) (a0 : Value) (s : St) (c1 : List Value) : Option Value :=
  S.bd (nck a0) fun x17 => S.bd (fld 10 x17) fun x18 => S.bd (lda s 5 x18) fun x19 => S.bd (bld [(Go.Value.int Go.IntKind.i64 0), (Go.Value.int Go.IntKind.i64 0), (Go.Value.int Go.IntKind.u64 0), (Go.Value.int Go.IntKind.i64 0), (Go.Value.int Go.IntKind.i64 0), (Go.Value.int Go.IntKind.u64 0), (Go.Value.int Go.IntKind.i64 0), (Go.Value.int Go.IntKind.u64 0), (Go.Value.int Go.IntKind.i64 0), (Go.Value.int Go.IntKind.i64 0), (Go.Value.int Go.IntKind.u64 0), (Go.Value.int Go.IntKind.i64 0), (Go.Value.int Go.IntKind.u64 0), (Go.Value.int Go.IntKind.i64 0), (Go.Value.int Go.IntKind.i64 0)] [(0, 1, (Go.Value.int Go.IntKind.i64 2))]) fun x20 => S.bd (bld [(Go.Value.int Go.IntKind.i64 0), (Go.Value.int Go.IntKind.i64 0), (Go.Value.int Go.IntKind.i64 0), (Go.Value.int Go.IntKind.u64 0), (Go.Value.int Go.IntKind.i64 0), (Go.Value.int Go.IntKind.u64 0), (Go.Value.int Go.IntKind.i64 0), (Go.Value.int Go.IntKind.i64 0), (Go.Value.int Go.IntKind.u64 0), (Go.Value.int Go.IntKind.i64 0), (Go.Value.int Go.IntKind.i64 0), (Go.Value.int Go.IntKind.u64 0), (Go.Value.int Go.IntKind.i64 0), (Go.Value.int Go.IntKind.u64 0), (Go.Value.int Go.IntKind.i64 0), (Go.Value.int Go.IntKind.i64 0), (Go.Value.int Go.IntKind.u64 0), (Go.Value.int Go.IntKind.i64 0), (Go.Value.int Go.IntKind.u64 0), (Go.Value.int Go.IntKind.i64 0), (Go.Value.int Go.IntKind.i64 0), (Go.Value.int Go.IntKind.i64 0), (Go.Value.int Go.IntKind.u64 0), (Go.Value.slice Option.none 0 0), (Go.Value.slice Option.none 0 0), (Go.Value.int Go.IntKind.i64 0), (Go.Value.int Go.IntKind.i64 0), (Go.Value.int Go.IntKind.u64 0), (Go.Value.int Go.IntKind.i64 0), (Go.Value.int Go.IntKind.u64 0), (Go.Value.int Go.IntKind.i64 0), (Go.Value.int Go.IntKind.i64 0), (Go.Value.int Go.IntKind.u64 0), (Go.Value.int Go.IntKind.i64 0), (Go.Value.int Go.IntKind.u64 0), (Go.Value.bool Bool.false)] [(0, 1, (Go.Value.int Go.IntKind.i64 1)), (1, 5, x19), (6, 15, x20)]) fun x21 => S.bd (stl c1 0 36 x21) fun c22 => S.bd (lal c22 0 36) fun x23 => some (x23)

def read_Read_Next.t.p2 (S : Sig) (x8 : Value) (a0 : Value) (s : St) (c1 : List Value) : Option Value :=
  S.bd (eqb [1] false false x8 (Go.Value.int Go.IntKind.i64 4)) fun x28 => S.cnd x28 (S.bd (nck a0) fun x29 => S.bd (fld 17 x29) fun x30 => S.bd (lda s 15 x30) fun x31 => S.bd (bld [(Go.Value.int Go.IntKind.i64 0), (Go.Value.int Go.IntKind.i64 0), (Go.Value.int Go.IntKind.i64 0), (Go.Value.int Go.IntKind.u64 0), (Go.Value.int Go.IntKind.i64 0), (Go.Value.int Go.IntKind.u64 0), (Go.Value.int Go.IntKind.i64 0), (Go.Value.int Go.IntKind.i64 0), (Go.Value.int Go.IntKind.u64 0), (Go.Value.int Go.IntKind.i64 0), (Go.Value.int Go.IntKind.i64 0), (Go.Value.int Go.IntKind.u64 0), (Go.Value.int Go.IntKind.i64 0), (Go.Value.int Go.IntKind.u64 0), (Go.Value.int Go.IntKind.i64 0), (Go.Value.int Go.IntKind.i64 0), (Go.Value.int Go.IntKind.u64 0), (Go.Value.int Go.IntKind.i64 0), (Go.Value.int Go.IntKind.u64 0), (Go.Value.int Go.IntKind.i64 0), (Go.Value.int Go.IntKind.i64 0), (Go.Value.int Go.IntKind.i64 0), (Go.Value.int Go.IntKind.u64 0), (Go.Value.slice Option.none 0 0), (Go.Value.slice Option.none 0 0), (Go.Value.int Go.IntKind.i64 0), (Go.Value.int Go.IntKind.i64 0), (Go.Value.int Go.IntKind.u64 0), (Go.Value.int Go.IntKind.i64 0), (Go.Value.int Go.IntKind.u64 0), (Go.Value.int Go.IntKind.i64 0), (Go.Value.int Go.IntKind.i64 0), (Go.Value.int Go.IntKind.u64 0), (Go.Value.int Go.IntKind.i64 0), (Go.Value.int Go.IntKind.u64 0), (Go.Value.bool Bool.false)] [(0, 1, (Go.Value.int Go.IntKind.i64 3)), (21, 15, x31)]) fun x32 => S.bd (stl c1 0 36 x32) fun c33 => S.bd (lal c33 0 36) fun x34 => some (x34)) (S.bd (bld [(Go.Value.int Go.IntKind.i64 0), (Go.Value.int Go.IntKind.i64 0), (Go.Value.int Go.IntKind.i64 0), (Go.Value.int Go.IntKind.u64 0), (Go.Value.int Go.IntKind.i64 0), (Go.Value.int Go.IntKind.u64 0), (Go.Value.int Go.IntKind.i64 0), (Go.Value.int Go.IntKind.i64 0), (Go.Value.int Go.IntKind.u64 0), (Go.Value.int Go.IntKind.i64 0), (Go.Value.int Go.IntKind.i64 0), (Go.Value.int Go.IntKind.u64 0), (Go.Value.int Go.IntKind.i64 0), (Go.Value.int Go.IntKind.u64 0), (Go.Value.int Go.IntKind.i64 0), (Go.Value.int Go.IntKind.i64 0), (Go.Value.int Go.IntKind.u64 0), (Go.Value.int Go.IntKind.i64 0), (Go.Value.int Go.IntKind.u64 0), (Go.Value.int Go.IntKind.i64 0), (Go.Value.int Go.IntKind.i64 0), (Go.Value.int Go.IntKind.i64 0), (Go.Value.int Go.IntKind.u64 0), (Go.Value.slice Option.none 0 0), (Go.Value.slice Option.none 0 0), (Go.Value.int Go.IntKind.i64 0), (Go.Value.int Go.IntKind.i64 0), (Go.Value.int Go.IntKind.u64 0), (Go.Value.int Go.IntKind.i64 0), (Go.Value.int Go.IntKind.u64 0), (Go.Value.int Go.IntKind.i64 0), (Go.Value.int Go.IntKind.i64 0), (Go.Value.int Go.IntKind.u64 0), (Go.Value.int Go.IntKind.i64 0), (Go.Value.int Go.IntKind.u64 0), (Go.Value.bool Bool.false)] []) fun x35 => S.bd (stl c1 0 36 x35) fun c36 => S.bd (lal c36 0 36) fun x37 => some (x37))

def read_Read_Next.t.p3 (S : Sig) (a0 : Value) (s : St) (c1 : List Value) : Option Value :=
  S.bd (nck a0) fun x6 => S.bd (fld 8 x6) fun x7 => S.bd (ldc s x7) fun x8 => S.bd (eqb [1] false false x8 (Go.Value.int Go.IntKind.i64 1)) fun x9 => S.cnd x9 (S.bd (nck a0) fun x10 => S.bd (fld 9 x10) fun x11 => S.bd (ldc s x11) fun x12 => S.bd (seek_Seek_Next.r x12 s) fun x13 => S.bd (stl c1 0 36 x13) fun c14 => S.bd (lal c14 0 36) fun x15 => some (x15)) (S.bd (eqb [1] false false x8 (Go.Value.int Go.IntKind.i64 2)) fun x16 => S.cnd x16 (read_Read_Next.t.p1 S a0 s c1) (S.bd (eqb [1] false false x8 (Go.Value.int Go.IntKind.i64 3)) fun x24 => S.cnd x24 (S.bd (bld [(Go.Value.int Go.IntKind.i64 0), (Go.Value.int Go.IntKind.i64 0), (Go.Value.int Go.IntKind.i64 0), (Go.Value.int Go.IntKind.u64 0), (Go.Value.int Go.IntKind.i64 0), (Go.Value.int Go.IntKind.u64 0), (Go.Value.int Go.IntKind.i64 0), (Go.Value.int Go.IntKind.i64 0), (Go.Value.int Go.IntKind.u64 0), (Go.Value.int Go.IntKind.i64 0), (Go.Value.int Go.IntKind.i64 0), (Go.Value.int Go.IntKind.u64 0), (Go.Value.int Go.IntKind.i64 0), (Go.Value.int Go.IntKind.u64 0), (Go.Value.int Go.IntKind.i64 0), (Go.Value.int Go.IntKind.i64 0), (Go.Value.int Go.IntKind.u64 0), (Go.Value.int Go.IntKind.i64 0), (Go.Value.int Go.IntKind.u64 0), (Go.Value.int Go.IntKind.i64 0), (Go.Value.int Go.IntKind.i64 0), (Go.Value.int Go.IntKind.i64 0), (Go.Value.int Go.IntKind.u64 0), (Go.Value.slice Option.none 0 0), (Go.Value.slice Option.none 0 0), (Go.Value.int Go.IntKind.i64 0), (Go.Value.int Go.IntKind.i64 0), (Go.Value.int Go.IntKind.u64 0), (Go.Value.int Go.IntKind.i64 0), (Go.Value.int Go.IntKind.u64 0), (Go.Value.int Go.IntKind.i64 0), (Go.Value.int Go.IntKind.i64 0), (Go.Value.int Go.IntKind.u64 0), (Go.Value.int Go.IntKind.i64 0), (Go.Value.int Go.IntKind.u64 0), (Go.Value.bool Bool.false)] [(0, 1, (Go.Value.int Go.IntKind.i64 2))]) fun x25 => S.bd (stl c1 0 36 x25) fun c26 => S.bd (lal c26 0 36) fun x27 => some (x27)) (read_Read_Next.t.p2 S x8 a0 s c1)))

def read_Read_Next.t (S : Sig) (a0 : Value) (s : St) : Option Value :=
  S.bd (bx (Go.Value.agg #[(Go.Value.int Go.IntKind.i64 0), (Go.Value.int Go.IntKind.i64 0), (Go.Value.int Go.IntKind.i64 0), (Go.Value.int Go.IntKind.u64 0), (Go.Value.int Go.IntKind.i64 0), (Go.Value.int Go.IntKind.u64 0), (Go.Value.int Go.IntKind.i64 0), (Go.Value.int Go.IntKind.i64 0), (Go.Value.int Go.IntKind.u64 0), (Go.Value.int Go.IntKind.i64 0), (Go.Value.int Go.IntKind.i64 0), (Go.Value.int Go.IntKind.u64 0), (Go.Value.int Go.IntKind.i64 0), (Go.Value.int Go.IntKind.u64 0), (Go.Value.int Go.IntKind.i64 0), (Go.Value.int Go.IntKind.i64 0), (Go.Value.int Go.IntKind.u64 0), (Go.Value.int Go.IntKind.i64 0), (Go.Value.int Go.IntKind.u64 0), (Go.Value.int Go.IntKind.i64 0), (Go.Value.int Go.IntKind.i64 0), (Go.Value.int Go.IntKind.i64 0), (Go.Value.int Go.IntKind.u64 0), (Go.Value.slice Option.none 0 0), (Go.Value.slice Option.none 0 0), (Go.Value.int Go.IntKind.i64 0), (Go.Value.int Go.IntKind.i64 0), (Go.Value.int Go.IntKind.u64 0), (Go.Value.int Go.IntKind.i64 0), (Go.Value.int Go.IntKind.u64 0), (Go.Value.int Go.IntKind.i64 0), (Go.Value.int Go.IntKind.i64 0), (Go.Value.int Go.IntKind.u64 0), (Go.Value.int Go.IntKind.i64 0), (Go.Value.int Go.IntKind.u64 0), (Go.Value.bool Bool.false)])) fun c1 => S.bd (eqb [3] false false a0 (Go.Value.pointer Option.none)) fun x2 => S.cnd x2 (S.bd (bld [(Go.Value.int Go.IntKind.i64 0), (Go.Value.int Go.IntKind.i64 0), (Go.Value.int Go.IntKind.i64 0), (Go.Value.int Go.IntKind.u64 0), (Go.Value.int Go.IntKind.i64 0), (Go.Value.int Go.IntKind.u64 0), (Go.Value.int Go.IntKind.i64 0), (Go.Value.int Go.IntKind.i64 0), (Go.Value.int Go.IntKind.u64 0), (Go.Value.int Go.IntKind.i64 0), (Go.Value.int Go.IntKind.i64 0), (Go.Value.int Go.IntKind.u64 0), (Go.Value.int Go.IntKind.i64 0), (Go.Value.int Go.IntKind.u64 0), (Go.Value.int Go.IntKind.i64 0), (Go.Value.int Go.IntKind.i64 0), (Go.Value.int Go.IntKind.u64 0), (Go.Value.int Go.IntKind.i64 0), (Go.Value.int Go.IntKind.u64 0), (Go.Value.int Go.IntKind.i64 0), (Go.Value.int Go.IntKind.i64 0), (Go.Value.int Go.IntKind.i64 0), (Go.Value.int Go.IntKind.u64 0), (Go.Value.slice Option.none 0 0), (Go.Value.slice Option.none 0 0), (Go.Value.int Go.IntKind.i64 0), (Go.Value.int Go.IntKind.i64 0), (Go.Value.int Go.IntKind.u64 0), (Go.Value.int Go.IntKind.i64 0), (Go.Value.int Go.IntKind.u64 0), (Go.Value.int Go.IntKind.i64 0), (Go.Value.int Go.IntKind.i64 0), (Go.Value.int Go.IntKind.u64 0), (Go.Value.int Go.IntKind.i64 0), (Go.Value.int Go.IntKind.u64 0), (Go.Value.bool Bool.false)] []) fun x3 => S.bd (stl c1 0 36 x3) fun c4 => S.bd (lal c4 0 36) fun x5 => some (x5)) (read_Read_Next.t.p3 S a0 s c1)
def read_Read_Next.r (a0 : Value) (s : St) : Option Value := read_Read_Next.t std a0 s
def read_Read_Next.w : List Value → St → Option Value
  | [a0], s => read_Read_Next.r a0 s
  | _, _ => none
def read_Read_Next.an : An := ⟨36, true, [2], [], [], []⟩
theorem read_Read_Next.ok (S : Sig) (a0 : Value) (s : St) : evG S Tryz.prog read_Read_Next.ctx read_Read_Next.an Tryz.f10 [a0] s = read_Read_Next.t S a0 s := by kernel_rfl
theorem read_Read_Next.cok : CtxOk Tryz.prog read_Read_Next.ctx := .cons seek_Seek_Next.sound seek_Seek_Next.can <| .nil
theorem read_Read_Next.draws : fnDraws read_Read_Next.an Tryz.f10 = true := by kernel_rfl
theorem read_Read_Next.can : callOk Tryz.prog 10 = true := by kernel_rfl
theorem read_Read_Next.sound : FnOk Tryz.prog 10 (.rd read_Read_Next.w) := FnOk.rd_of (evG_ok read_Read_Next.cok mixed (f := 10) (fn := Tryz.f10) (by kernel_rfl) read_Read_Next.draws) fun args s r h => by
  unfold read_Read_Next.w at h; split at h
  · rw [read_Read_Next.ok std]; exact h
  · simp at h

/-! ### leapfrog/leapfrogref12.SameResult: function 24 -/
def leapfrogref12x_SameResult.ctx : Ctx := []
def leapfrogref12x_SameResult.l4 (S : Sig) (rec63 : List Value → St → Option Cut) (xs61 : List Value) (s62 : St) : Option Cut :=
  S.bd (lcl (cellsA (xs61.getD 1 undef)) 3) fun x64 => S.bd (lenL x64) fun x65 => S.bd (bin .lss (xs61.getD 0 undef) x65) fun x66 => S.cnd x66 (S.bd (lcl (cellsA (xs61.getD 1 undef)) 3) fun x67 => S.bd (idx s62 2 x67 (xs61.getD 0 undef)) fun x68 => S.bd (fld 0 x68) fun x69 => S.bd (ldc s62 x69) fun x70 => S.bd (lcl (cellsA (xs61.getD 2 undef)) 3) fun x71 => S.bd (idx s62 2 x71 (xs61.getD 0 undef)) fun x72 => S.bd (fld 0 x72) fun x73 => S.bd (ldc s62 x73) fun x74 => S.bd (eqb [1] false true x70 x74) fun x75 => S.bd (S.gd x75 false (lcl (cellsA (xs61.getD 1 undef)) 3)) fun x76 => S.bd (S.gd x75 false (some (xs61.getD 0 undef))) fun x77 => S.bd (S.gd x75 false (idx s62 2 x76 x77)) fun x78 => S.bd (S.gd x75 false (fld 1 x78)) fun x79 => S.bd (S.gd x75 false (ldc s62 x79)) fun x80 => S.bd (S.gd x75 false (b2s s62 x80)) fun x81 => S.bd (S.gd x75 false (lcl (cellsA (xs61.getD 2 undef)) 3)) fun x82 => S.bd (S.gd x75 false (some (xs61.getD 0 undef))) fun x83 => S.bd (S.gd x75 false (idx s62 2 x82 x83)) fun x84 => S.bd (S.gd x75 false (fld 1 x84)) fun x85 => S.bd (S.gd x75 false (ldc s62 x85)) fun x86 => S.bd (S.gd x75 false (b2s s62 x86)) fun x87 => S.bd (S.gd x75 false (eqb [2] false true x81 x87)) fun x88 => S.bd (pik x75 (Go.Value.bool Bool.true) x88) fun x89 => S.cnd x89 (some (1, [(Go.Value.bool Bool.false)], s62)) (S.bd (bin .add (xs61.getD 0 undef) (Go.Value.int Go.IntKind.i64 1)) fun x90 => rec63 [x90, (Value.agg ⟨(cellsA (xs61.getD 1 undef))⟩), (Value.agg ⟨(cellsA (xs61.getD 2 undef))⟩)] s62)) (some (0, [], s62))

def leapfrogref12x_SameResult.t (S : Sig) (a0 a1 : Value) (s : St) : Option Value :=
  S.bd (bx a0) fun c1 => S.bd (bx a1) fun c2 => S.bd (lcl c1 0) fun x3 => S.bd (lcl c2 0) fun x4 => S.bd (eqb [1] false true x3 x4) fun x5 => S.bd (S.gd x5 false (lcl c1 1)) fun x6 => S.bd (S.gd x5 false (lcl c2 1)) fun x7 => S.bd (S.gd x5 false (eqb [1] false true x6 x7)) fun x8 => S.bd (pik x5 (Go.Value.bool Bool.true) x8) fun x9 => S.bd (S.gd x9 false (lcl c1 2)) fun x10 => S.bd (S.gd x9 false (b2s s x10)) fun x11 => S.bd (S.gd x9 false (lcl c2 2)) fun x12 => S.bd (S.gd x9 false (b2s s x12)) fun x13 => S.bd (S.gd x9 false (eqb [2] false true x11 x13)) fun x14 => S.bd (pik x9 (Go.Value.bool Bool.true) x14) fun x15 => S.bd (S.gd x15 false (lcl c1 3)) fun x16 => S.bd (S.gd x15 false (lenL x16)) fun x17 => S.bd (S.gd x15 false (lcl c2 3)) fun x18 => S.bd (S.gd x15 false (lenL x18)) fun x19 => S.bd (S.gd x15 false (eqb [1] false true x17 x19)) fun x20 => S.bd (pik x15 (Go.Value.bool Bool.true) x20) fun x21 => S.bd (S.gd x21 false (lal c1 4 5)) fun x22 => S.bd (S.gd x21 false (lal c2 4 5)) fun x23 => S.bd (S.gd x21 false (eqb [1, 1, 1, 1, 1] true true x22 x23)) fun x24 => S.bd (pik x21 (Go.Value.bool Bool.true) x24) fun x25 => S.bd (S.gd x25 false (lal c1 9 5)) fun x26 => S.bd (S.gd x25 false (lal c2 9 5)) fun x27 => S.bd (S.gd x25 false (eqb [1, 1, 1, 1, 1] true true x26 x27)) fun x28 => S.bd (pik x25 (Go.Value.bool Bool.true) x28) fun x29 => S.bd (S.gd x29 false (lcl c1 14)) fun x30 => S.bd (S.gd x29 false (lcl c2 14)) fun x31 => S.bd (S.gd x29 false (eqb [0] false true x30 x31)) fun x32 => S.bd (pik x29 (Go.Value.bool Bool.true) x32) fun x33 => S.cnd x33 (some ((Go.Value.bool Bool.false))) (S.bd (S.it (leapfrogref12x_SameResult.l4 S) [(Go.Value.int Go.IntKind.i64 0), (Value.agg ⟨c1⟩), (Value.agg ⟨c2⟩)] s) fun r91 => if r91.1 = 0 then (some ((Go.Value.bool Bool.true))) else (some ((r91.2.1.getD 0 undef))))
def leapfrogref12x_SameResult.r (a0 a1 : Value) (s : St) : Option Value := leapfrogref12x_SameResult.t std a0 a1 s
def leapfrogref12x_SameResult.w : List Value → St → Option Value
  | [a0, a1], s => leapfrogref12x_SameResult.r a0 a1 s
  | _, _ => none
def leapfrogref12x_SameResult.an : An := ⟨94, true, [2, 3], [(4, ⟨[.p 2 2 0, .p 3 3 0, .v 5, .l 2, .l 3], [(.exit 0, []), (.ret, [.v 4])]⟩)], [], [(6, [(0, 0, [], []), (1, 17, [], []), (2, 0, [], []), (3, 2, [], []), (4, 0, [], []), (5, 2, [], []), (6, 0, [], []), (7, 25, [], []), (8, 0, [], []), (9, 2, [], []), (10, 0, [], []), (11, 2, [], []), (12, 0, [], []), (13, 0, [], []), (14, 0, [], []), (15, 17, [], []), (16, 0, [], []), (17, 2, [], []), (18, 0, [], []), (19, 2, [], []), (20, 2, [], []), (21, 0, [], []), (22, 25, [], []), (23, 0, [], []), (24, 2, [], []), (25, 0, [], []), (26, 2, [], []), (27, 2, [], []), (28, 0, [], []), (29, 0, [], [])])]⟩
theorem leapfrogref12x_SameResult.ok (S : Sig) (a0 a1 : Value) (s : St) : evG S Tryz.prog leapfrogref12x_SameResult.ctx leapfrogref12x_SameResult.an Tryz.f24 [a0, a1] s = leapfrogref12x_SameResult.t S a0 a1 s := by kernel_rfl
theorem leapfrogref12x_SameResult.cok : CtxOk Tryz.prog leapfrogref12x_SameResult.ctx := .nil
theorem leapfrogref12x_SameResult.draws : fnDraws leapfrogref12x_SameResult.an Tryz.f24 = true := by kernel_rfl
theorem leapfrogref12x_SameResult.can : callOk Tryz.prog 24 = true := by kernel_rfl
theorem leapfrogref12x_SameResult.sound : FnOk Tryz.prog 24 (.rd leapfrogref12x_SameResult.w) := FnOk.rd_of (evG_ok leapfrogref12x_SameResult.cok mixed (f := 24) (fn := Tryz.f24) (by kernel_rfl) leapfrogref12x_SameResult.draws) fun args s r h => by
  unfold leapfrogref12x_SameResult.w at h; split at h
  · rw [leapfrogref12x_SameResult.ok std]; exact h
  · simp at h

/-! ### leapfrog/leapfrogref12.SameStep: function 9 -/
def leapfrogref12x_SameStep.ctx : Ctx := [(24, .rd leapfrogref12x_SameResult.w)]
def leapfrogref12x_SameStep.t (S : Sig) (a0 a1 : Value) (s : St) : Option Value :=
  S.bd (bx a0) fun c1 => S.bd (bx a1) fun c2 => S.bd (lcl c1 0) fun x3 => S.bd (lcl c2 0) fun x4 => S.bd (eqb [1] false false x3 x4) fun x5 => S.bd (S.gd x5 true (lal c1 1 5)) fun x6 => S.bd (S.gd x5 true (lal c2 1 5)) fun x7 => S.bd (S.gd x5 true (eqb [1, 1, 1, 1, 1] true false x6 x7)) fun x8 => S.bd (pik x5 x8 (Go.Value.bool Bool.false)) fun x9 => S.bd (S.gd x9 true (lal c1 6 15)) fun x10 => S.bd (S.gd x9 true (lal c2 6 15)) fun x11 => S.bd (S.gd x9 true (eqb [1, 1, 1, 1, 1, 1, 1, 1, 1, 1, 1, 1, 1, 1, 1] true false x10 x11)) fun x12 => S.bd (pik x9 x12 (Go.Value.bool Bool.false)) fun x13 => S.bd (S.gd x13 true (lal c1 21 15)) fun x14 => S.bd (S.gd x13 true (lal c2 21 15)) fun x15 => S.bd (S.gd x13 true (leapfrogref12x_SameResult.r x14 x15 s)) fun x16 => S.bd (pik x13 x16 (Go.Value.bool Bool.false)) fun x17 => some (x17)
def leapfrogref12x_SameStep.r (a0 a1 : Value) (s : St) : Option Value := leapfrogref12x_SameStep.t std a0 a1 s
def leapfrogref12x_SameStep.w : List Value → St → Option Value
  | [a0, a1], s => leapfrogref12x_SameStep.r a0 a1 s
  | _, _ => none
def leapfrogref12x_SameStep.an : An := ⟨31, true, [2, 3], [], [], []⟩
theorem leapfrogref12x_SameStep.ok (S : Sig) (a0 a1 : Value) (s : St) : evG S Tryz.prog leapfrogref12x_SameStep.ctx leapfrogref12x_SameStep.an Tryz.f9 [a0, a1] s = leapfrogref12x_SameStep.t S a0 a1 s := by kernel_rfl
theorem leapfrogref12x_SameStep.cok : CtxOk Tryz.prog leapfrogref12x_SameStep.ctx := .cons leapfrogref12x_SameResult.sound leapfrogref12x_SameResult.can <| .nil
theorem leapfrogref12x_SameStep.draws : fnDraws leapfrogref12x_SameStep.an Tryz.f9 = true := by kernel_rfl
theorem leapfrogref12x_SameStep.can : callOk Tryz.prog 9 = true := by kernel_rfl
theorem leapfrogref12x_SameStep.sound : FnOk Tryz.prog 9 (.rd leapfrogref12x_SameStep.w) := FnOk.rd_of (evG_ok leapfrogref12x_SameStep.cok mixed (f := 9) (fn := Tryz.f9) (by kernel_rfl) leapfrogref12x_SameStep.draws) fun args s r h => by
  unfold leapfrogref12x_SameStep.w at h; split at h
  · rw [leapfrogref12x_SameStep.ok std]; exact h
  · simp at h

/-! ### leapfrog/leapfrogref12.Head: function 22 -/
def leapfrogref12x_Head.ctx : Ctx := []
def leapfrogref12x_Head.t (S : Sig) (a0 : Value) (s : St) : Option Value :=
  S.bd (bx (Go.Value.agg #[(Go.Value.int Go.IntKind.i64 0), (Go.Value.int Go.IntKind.i64 0), (Go.Value.int Go.IntKind.u64 0), (Go.Value.int Go.IntKind.i64 0), (Go.Value.int Go.IntKind.u64 0)])) fun c1 => S.bd (bld [(Go.Value.int Go.IntKind.i64 0), (Go.Value.int Go.IntKind.u64 0)] [(0, 1, (Go.Value.int Go.IntKind.i64 1))]) fun x2 => S.bd (bld [(Go.Value.int Go.IntKind.i64 0), (Go.Value.int Go.IntKind.u64 0)] [(0, 1, a0)]) fun x3 => S.bd (bld [(Go.Value.int Go.IntKind.i64 0), (Go.Value.int Go.IntKind.i64 0), (Go.Value.int Go.IntKind.u64 0), (Go.Value.int Go.IntKind.i64 0), (Go.Value.int Go.IntKind.u64 0)] [(1, 2, x2), (3, 2, x3)]) fun x4 => S.bd (stl c1 0 5 x4) fun c5 => S.bd (lal c5 0 5) fun x6 => some (x6)
def leapfrogref12x_Head.r (a0 : Value) (s : St) : Option Value := leapfrogref12x_Head.t std a0 s
def leapfrogref12x_Head.w : List Value → St → Option Value
  | [a0], s => leapfrogref12x_Head.r a0 s
  | _, _ => none
def leapfrogref12x_Head.an : An := ⟨7, true, [2], [], [], []⟩
theorem leapfrogref12x_Head.ok (S : Sig) (a0 : Value) (s : St) : evG S Tryz.prog leapfrogref12x_Head.ctx leapfrogref12x_Head.an Tryz.f22 [a0] s = leapfrogref12x_Head.t S a0 s := by kernel_rfl
theorem leapfrogref12x_Head.cok : CtxOk Tryz.prog leapfrogref12x_Head.ctx := .nil
theorem leapfrogref12x_Head.draws : fnDraws leapfrogref12x_Head.an Tryz.f22 = true := by kernel_rfl
theorem leapfrogref12x_Head.can : callOk Tryz.prog 22 = true := by kernel_rfl
theorem leapfrogref12x_Head.sound : FnOk Tryz.prog 22 (.rd leapfrogref12x_Head.w) := FnOk.rd_of (evG_ok leapfrogref12x_Head.cok mixed (f := 22) (fn := Tryz.f22) (by kernel_rfl) leapfrogref12x_Head.draws) fun args s r h => by
  unfold leapfrogref12x_Head.w at h; split at h
  · rw [leapfrogref12x_Head.ok std]; exact h
  · simp at h

/-! ### leapfrog/leapfroglaw17.at: function 42 -/
def leapfroglaw17x_at.ctx : Ctx := []
def leapfroglaw17x_at.t (S : Sig) (a0 : Value) (s : St) : Option Value :=
  S.bd (bx (Go.Value.agg #[(Go.Value.int Go.IntKind.i64 0), (Go.Value.int Go.IntKind.u64 0)])) fun c1 => S.bd (bld [(Go.Value.int Go.IntKind.i64 0), (Go.Value.int Go.IntKind.u64 0)] [(0, 1, (Go.Value.int Go.IntKind.i64 2)), (1, 1, a0)]) fun x2 => S.bd (stl c1 0 2 x2) fun c3 => S.bd (lal c3 0 2) fun x4 => some (x4)
def leapfroglaw17x_at.r (a0 : Value) (s : St) : Option Value := leapfroglaw17x_at.t std a0 s
def leapfroglaw17x_at.w : List Value → St → Option Value
  | [a0], s => leapfroglaw17x_at.r a0 s
  | _, _ => none
def leapfroglaw17x_at.an : An := ⟨5, true, [2], [], [], []⟩
theorem leapfroglaw17x_at.ok (S : Sig) (a0 : Value) (s : St) : evG S Tryz.prog leapfroglaw17x_at.ctx leapfroglaw17x_at.an Tryz.f42 [a0] s = leapfroglaw17x_at.t S a0 s := by kernel_rfl
theorem leapfroglaw17x_at.cok : CtxOk Tryz.prog leapfroglaw17x_at.ctx := .nil
theorem leapfroglaw17x_at.draws : fnDraws leapfroglaw17x_at.an Tryz.f42 = true := by kernel_rfl
theorem leapfroglaw17x_at.can : callOk Tryz.prog 42 = true := by kernel_rfl
theorem leapfroglaw17x_at.sound : FnOk Tryz.prog 42 (.rd leapfroglaw17x_at.w) := FnOk.rd_of (evG_ok leapfroglaw17x_at.cok mixed (f := 42) (fn := Tryz.f42) (by kernel_rfl) leapfroglaw17x_at.draws) fun args s r h => by
  unfold leapfroglaw17x_at.w at h; split at h
  · rw [leapfroglaw17x_at.ok std]; exact h
  · simp at h

/-! ### leapfrog/leapfrogref01.Power: function 74 -/
def leapfrogref01x_Power.ctx : Ctx := []
def leapfrogref01x_Power.l2 (S : Sig) (rec6 : List Value → St → Option Cut) (xs4 : List Value) (s5 : St) : Option Cut :=
  S.bd (bin .gtr (xs4.getD 0 undef) (Go.Value.int Go.IntKind.i64 0)) fun x7 => S.cnd x7 (S.bd (bin .mul (xs4.getD 1 undef) (Go.Value.int Go.IntKind.u64 2)) fun x8 => S.bd (bin .sub (xs4.getD 0 undef) (Go.Value.int Go.IntKind.i64 1)) fun x9 => rec6 [x9, x8] s5) (some (0, [(xs4.getD 1 undef)], s5))

def leapfrogref01x_Power.t (S : Sig) (a0 : Value) (s : St) : Option Value :=
  S.bd (S.it (leapfrogref01x_Power.l2 S) [a0, (Go.Value.int Go.IntKind.u64 1)] s) fun r10 => some ((r10.2.1.getD 0 undef))
def leapfrogref01x_Power.r (a0 : Value) (s : St) : Option Value := leapfrogref01x_Power.t std a0 s
def leapfrogref01x_Power.w : List Value → St → Option Value
  | [a0], s => leapfrogref01x_Power.r a0 s
  | _, _ => none
def leapfrogref01x_Power.an : An := ⟨11, true, [], [(2, ⟨[.v 0, .v 3], [(.exit 0, [.v 3])]⟩)], [], []⟩
theorem leapfrogref01x_Power.ok (S : Sig) (a0 : Value) (s : St) : evG S Tryz.prog leapfrogref01x_Power.ctx leapfrogref01x_Power.an Tryz.f74 [a0] s = leapfrogref01x_Power.t S a0 s := by kernel_rfl
theorem leapfrogref01x_Power.cok : CtxOk Tryz.prog leapfrogref01x_Power.ctx := .nil
theorem leapfrogref01x_Power.draws : fnDraws leapfrogref01x_Power.an Tryz.f74 = true := by kernel_rfl
theorem leapfrogref01x_Power.can : callOk Tryz.prog 74 = true := by kernel_rfl
theorem leapfrogref01x_Power.sound : FnOk Tryz.prog 74 (.rd leapfrogref01x_Power.w) := FnOk.rd_of (evG_ok leapfrogref01x_Power.cok mixed (f := 74) (fn := Tryz.f74) (by kernel_rfl) leapfrogref01x_Power.draws) fun args s r h => by
  unfold leapfrogref01x_Power.w at h; split at h
  · rw [leapfrogref01x_Power.ok std]; exact h
  · simp at h

/-! ### leapfrog/leapfrogref01.Right: function 59 -/
def leapfrogref01x_Right.ctx : Ctx := [(74, .rd leapfrogref01x_Power.w)]
def leapfrogref01x_Right.t (S : Sig) (a0 : Value) (s : St) : Option Value :=
  S.bd (bx a0) fun c1 => S.bd (lcl c1 0) fun x2 => S.bd (bin .geq x2 (Go.Value.int Go.IntKind.i64 0)) fun x3 => S.bd (S.gd x3 true (lcl c1 0)) fun x4 => S.bd (S.gd x3 true (bin .leq x4 (Go.Value.int Go.IntKind.i64 32))) fun x5 => S.bd (pik x3 x5 (Go.Value.bool Bool.false)) fun x6 => S.bd (S.gd x6 true (lcl c1 1)) fun x7 => S.bd (S.gd x6 true (lcl c1 0)) fun x8 => S.bd (S.gd x6 true (leapfrogref01x_Power.r x8 s)) fun x9 => S.bd (S.gd x6 true (bin .lss x7 x9)) fun x10 => S.bd (pik x6 x10 (Go.Value.bool Bool.false)) fun x11 => some (x11)
def leapfrogref01x_Right.r (a0 : Value) (s : St) : Option Value := leapfrogref01x_Right.t std a0 s
def leapfrogref01x_Right.w : List Value → St → Option Value
  | [a0], s => leapfrogref01x_Right.r a0 s
  | _, _ => none
def leapfrogref01x_Right.an : An := ⟨19, true, [1], [], [], [(1, [(0, 0, [], []), (1, 9, [], []), (2, 0, [], []), (3, 0, [], []), (4, 0, [], []), (5, 9, [], []), (6, 0, [], []), (7, 0, [], []), (8, 0, [], []), (9, 0, [], []), (10, 9, [], []), (11, 0, [], []), (12, 9, [], []), (13, 3, [], []), (14, 0, [], []), (15, 0, [], []), (16, 0, [], [])])]⟩
theorem leapfrogref01x_Right.ok (S : Sig) (a0 : Value) (s : St) : evG S Tryz.prog leapfrogref01x_Right.ctx leapfrogref01x_Right.an Tryz.f59 [a0] s = leapfrogref01x_Right.t S a0 s := by kernel_rfl
theorem leapfrogref01x_Right.cok : CtxOk Tryz.prog leapfrogref01x_Right.ctx := .cons leapfrogref01x_Power.sound leapfrogref01x_Power.can <| .nil
theorem leapfrogref01x_Right.draws : fnDraws leapfrogref01x_Right.an Tryz.f59 = true := by kernel_rfl
theorem leapfrogref01x_Right.can : callOk Tryz.prog 59 = true := by kernel_rfl
theorem leapfrogref01x_Right.sound : FnOk Tryz.prog 59 (.rd leapfrogref01x_Right.w) := FnOk.rd_of (evG_ok leapfrogref01x_Right.cok mixed (f := 59) (fn := Tryz.f59) (by kernel_rfl) leapfrogref01x_Right.draws) fun args s r h => by
  unfold leapfrogref01x_Right.w at h; split at h
  · rw [leapfrogref01x_Right.ok std]; exact h
  · simp at h

/-! ### leapfrog/leapfrogref11.Check: function 88 -/
def leapfrogref11x_Check.ctx : Ctx := [(59, .rd leapfrogref01x_Right.w)]
def leapfrogref11x_Check.l10 (S : Sig) (rec93 : List Value → St → Option Cut) (xs91 : List Value) (s92 : St) : Option Cut :=
  S.bd (bin .lss (xs91.getD 3 undef) (xs91.getD 2 undef)) fun x94 => S.cnd x94 (S.bd (idx s92 5 (xs91.getD 1 undef) (xs91.getD 3 undef)) fun x95 => S.bd (fld 0 x95) fun x96 => S.bd (ldc s92 x96) fun x97 => S.bd (lcl (cellsA (xs91.getD 14 undef)) 0) fun x98 => S.bd (eqb [1] false false x97 x98) fun x99 => S.bd (S.gd x99 false (some (xs91.getD 1 undef))) fun x100 => S.bd (S.gd x99 false (some (xs91.getD 3 undef))) fun x101 => S.bd (S.gd x99 false (idx s92 5 x100 x101)) fun x102 => S.bd (S.gd x99 false (fld 1 x102)) fun x103 => S.bd (S.gd x99 false (lda s92 2 x103)) fun x104 => S.bd (S.gd x99 false (lal (cellsA (xs91.getD 14 undef)) 1 2)) fun x105 => S.bd (S.gd x99 false (eqb [1, 1] true false x104 x105)) fun x106 => S.bd (pik x99 (Go.Value.bool Bool.true) x106) fun x107 => S.cnd x107 (some (1, [(Go.Value.int Go.IntKind.i64 110)], s92)) (S.bd (bin .add (xs91.getD 3 undef) (Go.Value.int Go.IntKind.i64 1)) fun x108 => rec93 [(xs91.getD 0 undef), (xs91.getD 1 undef), (xs91.getD 2 undef), x108, (xs91.getD 4 undef), (xs91.getD 5 undef), (xs91.getD 6 undef), (xs91.getD 7 undef), (xs91.getD 8 undef), (xs91.getD 9 undef), (xs91.getD 10 undef), (xs91.getD 11 undef), (xs91.getD 12 undef), (xs91.getD 13 undef), (Value.agg ⟨(cellsA (xs91.getD 14 undef))⟩)] s92)) (some (0, [(xs91.getD 0 undef), (xs91.getD 1 undef), (xs91.getD 2 undef), (xs91.getD 4 undef), (xs91.getD 5 undef), (xs91.getD 6 undef), (xs91.getD 7 undef), (xs91.getD 8 undef), (xs91.getD 9 undef), (xs91.getD 10 undef), (xs91.getD 11 undef), (xs91.getD 12 undef), (xs91.getD 13 undef)], s92))

def leapfrogref11x_Check.l4 (S : Sig) (rec68 : List Value → St → Option Cut) (xs66 : List Value) (s67 : St) : Option Cut :=
  S.bd (lenL (xs66.getD 1 undef)) fun x69 => S.bd (bin .lss (xs66.getD 2 undef) x69) fun x70 => S.cnd x70 (S.bd (idx s67 5 (xs66.getD 1 undef) (xs66.getD 2 undef)) fun x71 => S.bd (lda s67 5 x71) fun x72 => S.bd (bx (Go.Value.agg #[(Go.Value.int Go.IntKind.i64 0), (Go.Value.int Go.IntKind.i64 0), (Go.Value.int Go.IntKind.u64 0), (Go.Value.int Go.IntKind.i64 0), (Go.Value.int Go.IntKind.u64 0)])) fun c73 => S.bd (stl c73 0 5 x72) fun c74 => S.bd (lcl c74 0) fun x75 => S.bd (bin .lss x75 (Go.Value.int Go.IntKind.i64 2)) fun x76 => S.bd (S.gd x76 false (lcl c74 0)) fun x77 => S.bd (S.gd x76 false (bin .geq x77 (Go.Value.int Go.IntKind.i64 1024))) fun x78 => S.bd (pik x76 (Go.Value.bool Bool.true) x78) fun x79 => S.bd (S.gd x79 false (lcl c74 1)) fun x80 => S.bd (S.gd x79 false (eqb [1] false true x80 (Go.Value.int Go.IntKind.i64 2))) fun x81 => S.bd (pik x79 (Go.Value.bool Bool.true) x81) fun x82 => S.bd (S.gd x82 false (lal c74 3 2)) fun x83 => S.bd (S.gd x82 false (leapfrogref01x_Right.r x83 s67)) fun x84 => S.bd (S.gd x82 false (un .not x84)) fun x85 => S.bd (pik x82 (Go.Value.bool Bool.true) x85) fun x86 => S.bd (S.gd x86 false (lcl c74 3)) fun x87 => S.bd (S.gd x86 false (some (xs66.getD 0 undef))) fun x88 => S.bd (S.gd x86 false (eqb [1] false true x87 x88)) fun x89 => S.bd (pik x86 (Go.Value.bool Bool.true) x89) fun x90 => S.cnd x90 (some (1, [(Go.Value.int Go.IntKind.i64 110)], s67)) (S.bd (S.it (leapfrogref11x_Check.l10 S) [(xs66.getD 0 undef), (xs66.getD 1 undef), (xs66.getD 2 undef), (Go.Value.int Go.IntKind.i64 0), x77, x78, x80, x81, x83, x84, x85, x87, x88, x89, (Value.agg ⟨c74⟩)] s67) fun r109 => if r109.1 = 0 then (S.bd (bin .add (r109.2.1.getD 2 undef) (Go.Value.int Go.IntKind.i64 1)) fun x110 => rec68 [(r109.2.1.getD 0 undef), (r109.2.1.getD 1 undef), x110] r109.2.2) else (some (1, [(r109.2.1.getD 0 undef)], r109.2.2)))) (some (0, [], s67))

def leapfrogref11x_Check.t (S : Sig) (a0 a1 : Value) (s : St) : Option Value :=
  S.bd (bin .lss a0 (Go.Value.int Go.IntKind.i64 0)) fun x1 => S.bd (S.gd x1 false (some a0)) fun x2 => S.bd (S.gd x1 false (bin .gtr x2 (Go.Value.int Go.IntKind.i64 32))) fun x3 => S.bd (pik x1 (Go.Value.bool Bool.true) x3) fun x4 => S.bd (S.gd x4 false (some a1)) fun x5 => S.bd (S.gd x4 false (lenL x5)) fun x6 => S.bd (S.gd x4 false (bin .gtr x6 (Go.Value.int Go.IntKind.i64 1022))) fun x7 => S.bd (pik x4 (Go.Value.bool Bool.true) x7) fun x8 => S.cnd x8 (some ((Go.Value.int Go.IntKind.i64 110))) (S.bd (S.it (leapfrogref11x_Check.l4 S) [a0, a1, (Go.Value.int Go.IntKind.i64 0)] s) fun r111 => if r111.1 = 0 then (some ((Go.Value.int Go.IntKind.i64 0))) else (some ((r111.2.1.getD 0 undef))))
def leapfrogref11x_Check.r (a0 a1 : Value) (s : St) : Option Value := leapfrogref11x_Check.t std a0 a1 s
def leapfrogref11x_Check.w : List Value → St → Option Value
  | [a0, a1], s => leapfrogref11x_Check.r a0 a1 s
  | _, _ => none
def leapfrogref11x_Check.an : An := ⟨79, true, [6], [(10, ⟨[.v 0, .v 1, .v 5, .p 6 6 0, .v 7, .v 34, .v 35, .v 40, .v 41, .v 45, .v 46, .v 47, .v 52, .v 53, .v 54, .l 6], [(.exit 2, [.v 0, .v 1, .v 5, .v 34, .v 35, .v 40, .v 41, .v 45, .v 46, .v 47, .v 52, .v 53, .v 54]), (.ret, [.v 4])]⟩), (4, ⟨[.v 0, .v 1, .v 5], [(.exit 0, []), (.ret, [.v 4])]⟩)], [], [(12, [(0, 0, [], []), (1, 0, [], []), (2, 2, [], []), (3, 0, [], []), (4, 2, [], []), (5, 0, [], []), (6, 49, [], []), (7, 0, [], []), (8, 0, [], []), (9, 0, [], []), (10, 0, [], []), (11, 2, [], []), (12, 0, [], []), (13, 2, [], []), (14, 0, [], []), (15, 49, [], []), (16, 0, [], []), (17, 0, [], [])])]⟩
theorem leapfrogref11x_Check.ok (S : Sig) (a0 a1 : Value) (s : St) : evG S Tryz.prog leapfrogref11x_Check.ctx leapfrogref11x_Check.an Tryz.f88 [a0, a1] s = leapfrogref11x_Check.t S a0 a1 s := by kernel_rfl
theorem leapfrogref11x_Check.cok : CtxOk Tryz.prog leapfrogref11x_Check.ctx := .cons leapfrogref01x_Right.sound leapfrogref01x_Right.can <| .nil
theorem leapfrogref11x_Check.draws : fnDraws leapfrogref11x_Check.an Tryz.f88 = true := by kernel_rfl
theorem leapfrogref11x_Check.can : callOk Tryz.prog 88 = true := by kernel_rfl
theorem leapfrogref11x_Check.sound : FnOk Tryz.prog 88 (.rd leapfrogref11x_Check.w) := FnOk.rd_of (evG_ok leapfrogref11x_Check.cok mixed (f := 88) (fn := Tryz.f88) (by kernel_rfl) leapfrogref11x_Check.draws) fun args s r h => by
  unfold leapfrogref11x_Check.w at h; split at h
  · rw [leapfrogref11x_Check.ok std]; exact h
  · simp at h

/-! ### leapfrog/leapfrogref01.Bits: function 94 -/
def leapfrogref01x_Bits.ctx : Ctx := []
def leapfrogref01x_Bits.l4 (S : Sig) (rec16 : List Value → St → Option Cut) (xs14 : List Value) (s15 : St) : Option Cut :=
  S.bd (bin .geq (xs14.getD 2 undef) (Go.Value.int Go.IntKind.i64 0)) fun x17 => S.cnd x17 (S.bd (bin .rem (xs14.getD 1 undef) (Go.Value.int Go.IntKind.u64 2)) fun x18 => S.bd (cvi .i64 x18) fun x19 => S.bd (idx s15 1 (xs14.getD 0 undef) (xs14.getD 2 undef)) fun x20 => S.bd (stv s15 1 x20 x19) fun s21 => S.bd (bin .quo (xs14.getD 1 undef) (Go.Value.int Go.IntKind.u64 2)) fun x22 => S.bd (bin .sub (xs14.getD 2 undef) (Go.Value.int Go.IntKind.i64 1)) fun x23 => rec16 [(xs14.getD 0 undef), x22, x23] s21) (some (0, [(xs14.getD 0 undef)], s15))

def leapfrogref01x_Bits.t (S : Sig) (a0 : Value) (s : St) : Option (Value × St) :=
  S.bd (bx a0) fun c1 => S.bd (lcl c1 0) fun x2 => S.bd (mks s 1 8 [(Go.Value.int Go.IntKind.i64 0)] x2 x2) fun r3 => S.bd (lcl c1 1) fun x4 => S.bd (lcl c1 0) fun x5 => S.bd (bin .sub x5 (Go.Value.int Go.IntKind.i64 1)) fun x6 => S.bd (S.it (leapfrogref01x_Bits.l4 S) [r3.1, x4, x6] r3.2) fun r24 => some ((r24.2.1.getD 0 undef), r24.2.2)
def leapfrogref01x_Bits.v (a0 : Value) (s : St) : Option (Value × St) := leapfrogref01x_Bits.t std a0 s
def leapfrogref01x_Bits.w : List Value → St → Option (Value × St)
  | [a0], s => leapfrogref01x_Bits.v a0 s
  | _, _ => none
def leapfrogref01x_Bits.an : An := ⟨27, false, [1], [(4, ⟨[.v 3, .v 4, .v 5], [(.exit 0, [.v 3])]⟩)], [], []⟩
theorem leapfrogref01x_Bits.ok (S : Sig) (a0 : Value) (s : St) : evF S Tryz.prog leapfrogref01x_Bits.ctx leapfrogref01x_Bits.an Tryz.f94 [a0] s = leapfrogref01x_Bits.t S a0 s := by kernel_rfl
theorem leapfrogref01x_Bits.cok : CtxOk Tryz.prog leapfrogref01x_Bits.ctx := .nil
theorem leapfrogref01x_Bits.draws : fnDraws leapfrogref01x_Bits.an Tryz.f94 = true := by kernel_rfl
theorem leapfrogref01x_Bits.can : callOk Tryz.prog 94 = true := by kernel_rfl
theorem leapfrogref01x_Bits.sound : FnOk Tryz.prog 94 (.st leapfrogref01x_Bits.w) := FnOk.st_of (evF_ok leapfrogref01x_Bits.cok mixed (f := 94) (fn := Tryz.f94) (by kernel_rfl) leapfrogref01x_Bits.draws) fun args s r h => by
  unfold leapfrogref01x_Bits.w at h; split at h
  · rw [leapfrogref01x_Bits.ok std]; exact h
  · simp at h

/-! ### leapfrog/leapfrogref01.Of: function 93 -/
def leapfrogref01x_Of.ctx : Ctx := []
def leapfrogref01x_Of.l3 (S : Sig) (rec18 : List Value → St → Option Cut) (xs16 : List Value) (s17 : St) : Option Cut :=
  S.bd (lenL (xs16.getD 0 undef)) fun x19 => S.bd (bin .lss (xs16.getD 1 undef) x19) fun x20 => S.cnd x20 (S.bd (lcl (cellsA (xs16.getD 3 undef)) 1) fun x21 => S.bd (bin .mul x21 (Go.Value.int Go.IntKind.u64 2)) fun x22 => S.bd (idx s17 1 (xs16.getD 0 undef) (xs16.getD 1 undef)) fun x23 => S.bd (ldc s17 x23) fun x24 => S.bd (cvi .u64 x24) fun x25 => S.bd (bin .add x22 x25) fun x26 => S.bd (stl (cellsA (xs16.getD 3 undef)) 1 1 x26) fun c27 => S.bd (bin .add (xs16.getD 1 undef) (Go.Value.int Go.IntKind.i64 1)) fun x28 => rec18 [(xs16.getD 0 undef), x28, (Value.agg ⟨(cellsA (xs16.getD 2 undef))⟩), (Value.agg ⟨c27⟩)] s17) (some (0, [(Value.agg ⟨(cellsA (xs16.getD 2 undef))⟩), (Value.agg ⟨(cellsA (xs16.getD 3 undef))⟩)], s17))

def leapfrogref01x_Of.t (S : Sig) (a0 : Value) (s : St) : Option Value :=
  S.bd (bx (Go.Value.agg #[(Go.Value.int Go.IntKind.i64 0), (Go.Value.int Go.IntKind.u64 0)])) fun c1 => S.bd (lenL a0) fun x2 => S.bd (bld [(Go.Value.int Go.IntKind.i64 0), (Go.Value.int Go.IntKind.u64 0)] [(0, 1, x2)]) fun x3 => S.bd (bx (Go.Value.agg #[(Go.Value.int Go.IntKind.i64 0), (Go.Value.int Go.IntKind.u64 0)])) fun c4 => S.bd (stl c4 0 2 x3) fun c5 => S.bd (S.it (leapfrogref01x_Of.l3 S) [a0, (Go.Value.int Go.IntKind.i64 0), (Value.agg ⟨c1⟩), (Value.agg ⟨c5⟩)] s) fun r29 => S.bd (lal (cellsA (r29.2.1.getD 1 undef)) 0 2) fun x30 => S.bd (stl (cellsA (r29.2.1.getD 0 undef)) 0 2 x30) fun c31 => S.bd (lal c31 0 2) fun x32 => some (x32)
def leapfrogref01x_Of.r (a0 : Value) (s : St) : Option Value := leapfrogref01x_Of.t std a0 s
def leapfrogref01x_Of.w : List Value → St → Option Value
  | [a0], s => leapfrogref01x_Of.r a0 s
  | _, _ => none
def leapfrogref01x_Of.an : An := ⟨25, true, [2, 3], [(3, ⟨[.v 0, .p 2 2 0, .p 3 3 0, .v 4, .l 2, .l 3], [(.exit 0, [.p 2 2 0, .p 3 3 0, .l 2, .l 3])]⟩)], [], [(5, [(0, 0, [], []), (1, 25, [], []), (2, 0, [], []), (3, 0, [], []), (4, 0, [], []), (5, 2, [], []), (6, 2, [], []), (7, 0, [], []), (8, 0, [], []), (9, 0, [], []), (10, 29, [], [])])]⟩
theorem leapfrogref01x_Of.ok (S : Sig) (a0 : Value) (s : St) : evG S Tryz.prog leapfrogref01x_Of.ctx leapfrogref01x_Of.an Tryz.f93 [a0] s = leapfrogref01x_Of.t S a0 s := by kernel_rfl
theorem leapfrogref01x_Of.cok : CtxOk Tryz.prog leapfrogref01x_Of.ctx := .nil
theorem leapfrogref01x_Of.draws : fnDraws leapfrogref01x_Of.an Tryz.f93 = true := by kernel_rfl
theorem leapfrogref01x_Of.can : callOk Tryz.prog 93 = true := by kernel_rfl
theorem leapfrogref01x_Of.sound : FnOk Tryz.prog 93 (.rd leapfrogref01x_Of.w) := FnOk.rd_of (evG_ok leapfrogref01x_Of.cok mixed (f := 93) (fn := Tryz.f93) (by kernel_rfl) leapfrogref01x_Of.draws) fun args s r h => by
  unfold leapfrogref01x_Of.w at h; split at h
  · rw [leapfrogref01x_Of.ok std]; exact h
  · simp at h

/-! ### leapfrog/leapfrogref01.Prefixes: function 110 -/
def leapfrogref01x_Prefixes.ctx : Ctx := [(59, .rd leapfrogref01x_Right.w), (94, .st leapfrogref01x_Bits.w), (93, .rd leapfrogref01x_Of.w)]
def leapfrogref01x_Prefixes.l6 (S : Sig) (rec16 : List Value → St → Option Cut) (xs14 : List Value) (s15 : St) : Option Cut :=
  S.bd (lenL (xs14.getD 1 undef)) fun x17 => S.bd (bin .leq (xs14.getD 2 undef) x17) fun x18 => S.cnd x18 (S.bd (slc s15 1 (xs14.getD 1 undef) none (some (xs14.getD 2 undef)) none) fun x19 => S.bd (leapfrogref01x_Of.r x19 s15) fun x20 => S.bd (S.bd (bls 2 (List.replicate 1 [(Go.Value.int Go.IntKind.i64 0), (Go.Value.int Go.IntKind.u64 0)]) [(0, x20)]) fun rows => als s15 2 1 rows) fun r21 => S.bd (app r21.2 2 16 (xs14.getD 0 undef) r21.1) fun r22 => S.bd (bin .add (xs14.getD 2 undef) (Go.Value.int Go.IntKind.i64 1)) fun x23 => rec16 [r22.1, (xs14.getD 1 undef), x23] r22.2) (some (0, [(xs14.getD 0 undef)], s15))

def leapfrogref01x_Prefixes.t (S : Sig) (a0 : Value) (s : St) : Option (Value × St) :=
  S.bd (bx a0) fun c1 => S.bd (lal c1 0 2) fun x2 => S.bd (leapfrogref01x_Right.r x2 s) fun x3 => S.bd (un .not x3) fun x4 => S.cnd x4 (some ((Go.Value.slice Option.none 0 0), s)) (S.bd (lal c1 0 2) fun x5 => S.bd (leapfrogref01x_Bits.v x5 s) fun r6 => S.bd (S.it (leapfrogref01x_Prefixes.l6 S) [(Go.Value.slice Option.none 0 0), r6.1, (Go.Value.int Go.IntKind.i64 0)] r6.2) fun r24 => some ((r24.2.1.getD 0 undef), r24.2.2))
def leapfrogref01x_Prefixes.v (a0 : Value) (s : St) : Option (Value × St) := leapfrogref01x_Prefixes.t std a0 s
def leapfrogref01x_Prefixes.w : List Value → St → Option (Value × St)
  | [a0], s => leapfrogref01x_Prefixes.v a0 s
  | _, _ => none
def leapfrogref01x_Prefixes.an : An := ⟨25, false, [1], [(6, ⟨[.v 3, .v 4, .v 5], [(.exit 0, [.v 3])]⟩)], [], []⟩
theorem leapfrogref01x_Prefixes.ok (S : Sig) (a0 : Value) (s : St) : evF S Tryz.prog leapfrogref01x_Prefixes.ctx leapfrogref01x_Prefixes.an Tryz.f110 [a0] s = leapfrogref01x_Prefixes.t S a0 s := by kernel_rfl
theorem leapfrogref01x_Prefixes.cok : CtxOk Tryz.prog leapfrogref01x_Prefixes.ctx := .cons leapfrogref01x_Right.sound leapfrogref01x_Right.can <| .cons leapfrogref01x_Bits.sound leapfrogref01x_Bits.can <| .cons leapfrogref01x_Of.sound leapfrogref01x_Of.can <| .nil
theorem leapfrogref01x_Prefixes.draws : fnDraws leapfrogref01x_Prefixes.an Tryz.f110 = true := by kernel_rfl
theorem leapfrogref01x_Prefixes.can : callOk Tryz.prog 110 = true := by kernel_rfl
theorem leapfrogref01x_Prefixes.sound : FnOk Tryz.prog 110 (.st leapfrogref01x_Prefixes.w) := FnOk.st_of (evF_ok leapfrogref01x_Prefixes.cok mixed (f := 110) (fn := Tryz.f110) (by kernel_rfl) leapfrogref01x_Prefixes.draws) fun args s r h => by
  unfold leapfrogref01x_Prefixes.w at h; split at h
  · rw [leapfrogref01x_Prefixes.ok std]; exact h
  · simp at h

/-! ### leapfrog/leapfrogref01.common: function 124 -/
def leapfrogref01x_common.ctx : Ctx := []
def leapfrogref01x_common.l2 (S : Sig) (rec21 : List Value → St → Option Cut) (xs19 : List Value) (s20 : St) : Option Cut :=
  S.bd (lenL (xs19.getD 0 undef)) fun x22 => S.bd (bin .lss (xs19.getD 2 undef) x22) fun x23 => S.bd (S.gd x23 true (some (xs19.getD 2 undef))) fun x24 => S.bd (S.gd x23 true (some (xs19.getD 1 undef))) fun x25 => S.bd (S.gd x23 true (lenL x25)) fun x26 => S.bd (S.gd x23 true (bin .lss x24 x26)) fun x27 => S.bd (pik x23 x27 (Go.Value.bool Bool.false)) fun x28 => S.bd (S.gd x28 true (some (xs19.getD 0 undef))) fun x29 => S.bd (S.gd x28 true (some (xs19.getD 2 undef))) fun x30 => S.bd (S.gd x28 true (idx s20 1 x29 x30)) fun x31 => S.bd (S.gd x28 true (ldc s20 x31)) fun x32 => S.bd (S.gd x28 true (some (xs19.getD 1 undef))) fun x33 => S.bd (S.gd x28 true (some (xs19.getD 2 undef))) fun x34 => S.bd (S.gd x28 true (idx s20 1 x33 x34)) fun x35 => S.bd (S.gd x28 true (ldc s20 x35)) fun x36 => S.bd (S.gd x28 true (eqb [1] false false x32 x36)) fun x37 => S.bd (pik x28 x37 (Go.Value.bool Bool.false)) fun x38 => S.cnd x38 (S.bd (bin .add (xs19.getD 2 undef) (Go.Value.int Go.IntKind.i64 1)) fun x39 => rec21 [(xs19.getD 0 undef), (xs19.getD 1 undef), x39] s20) (some (0, [(xs19.getD 2 undef)], s20))

def leapfrogref01x_common.t (S : Sig) (a0 a1 : Value) (s : St) : Option Value :=
  S.bd (S.it (leapfrogref01x_common.l2 S) [a0, a1, (Go.Value.int Go.IntKind.i64 0)] s) fun r40 => some ((r40.2.1.getD 0 undef))
def leapfrogref01x_common.r (a0 a1 : Value) (s : St) : Option Value := leapfrogref01x_common.t std a0 a1 s
def leapfrogref01x_common.w : List Value → St → Option Value
  | [a0, a1], s => leapfrogref01x_common.r a0 a1 s
  | _, _ => none
def leapfrogref01x_common.an : An := ⟨30, true, [], [(2, ⟨[.v 0, .v 1, .v 5], [(.exit 0, [.v 5])]⟩)], [], [(2, [(0, 0, [], []), (1, 0, [], []), (2, 2, [], []), (3, 0, [], []), (4, 0, [], []), (5, 0, [], []), (6, 0, [], []), (7, 2, [], []), (8, 0, [], []), (9, 0, [], []), (10, 0, [], []), (11, 0, [], []), (12, 0, [], []), (13, 2, [], []), (14, 2, [], []), (15, 0, [], []), (16, 0, [], []), (17, 2, [], []), (18, 2, [], []), (19, 0, [], []), (20, 0, [], [])])]⟩
theorem leapfrogref01x_common.ok (S : Sig) (a0 a1 : Value) (s : St) : evG S Tryz.prog leapfrogref01x_common.ctx leapfrogref01x_common.an Tryz.f124 [a0, a1] s = leapfrogref01x_common.t S a0 a1 s := by kernel_rfl
theorem leapfrogref01x_common.cok : CtxOk Tryz.prog leapfrogref01x_common.ctx := .nil
theorem leapfrogref01x_common.draws : fnDraws leapfrogref01x_common.an Tryz.f124 = true := by kernel_rfl
theorem leapfrogref01x_common.can : callOk Tryz.prog 124 = true := by kernel_rfl
theorem leapfrogref01x_common.sound : FnOk Tryz.prog 124 (.rd leapfrogref01x_common.w) := FnOk.rd_of (evG_ok leapfrogref01x_common.cok mixed (f := 124) (fn := Tryz.f124) (by kernel_rfl) leapfrogref01x_common.draws) fun args s r h => by
  unfold leapfrogref01x_common.w at h; split at h
  · rw [leapfrogref01x_common.ok std]; exact h
  · simp at h

/-! ### leapfrog/leapfrogref01.Compare: function 123 -/
def leapfrogref01x_Compare.ctx : Ctx := [(59, .rd leapfrogref01x_Right.w), (94, .st leapfrogref01x_Bits.w), (124, .rd leapfrogref01x_common.w)]
def leapfrogref01x_Compare.t (S : Sig) (a0 a1 : Value) (s : St) : Option (Value × St) :=
  S.bd (bx a0) fun c1 => S.bd (bx a1) fun c2 => S.bd (lal c1 0 2) fun x3 => S.bd (leapfrogref01x_Right.r x3 s) fun x4 => S.bd (un .not x4) fun x5 => S.bd (S.gd x5 false (lal c2 0 2)) fun x6 => S.bd (S.gd x5 false (leapfrogref01x_Right.r x6 s)) fun x7 => S.bd (S.gd x5 false (un .not x7)) fun x8 => S.bd (pik x5 (Go.Value.bool Bool.true) x8) fun x9 => S.cnd x9 (some ((Value.tuple ⟨[(Go.Value.int Go.IntKind.i64 0), (Go.Value.int Go.IntKind.i64 10)]⟩), s)) (S.bd (lal c1 0 2) fun x10 => S.bd (lal c2 0 2) fun x11 => S.bd (leapfrogref01x_Bits.v x10 s) fun r12 => S.bd (leapfrogref01x_Bits.v x11 r12.2) fun r13 => S.bd (leapfrogref01x_common.r r12.1 r13.1 r13.2) fun x14 => S.bd (lenL r12.1) fun x15 => S.bd (eqb [1] false false x14 x15) fun x16 => S.bd (S.gd x16 true (some x14)) fun x17 => S.bd (S.gd x16 true (some r13.1)) fun x18 => S.bd (S.gd x16 true (lenL x18)) fun x19 => S.bd (S.gd x16 true (eqb [1] false false x17 x19)) fun x20 => S.bd (pik x16 x20 (Go.Value.bool Bool.false)) fun x21 => S.cnd x21 (some ((Value.tuple ⟨[(Go.Value.int Go.IntKind.i64 0), (Go.Value.int Go.IntKind.i64 0)]⟩), r13.2)) (S.bd (lenL r12.1) fun x22 => S.bd (eqb [1] false false x14 x22) fun x23 => S.cnd x23 (some ((Value.tuple ⟨[(Go.Value.int Go.IntKind.i64 (-1)), (Go.Value.int Go.IntKind.i64 0)]⟩), r13.2)) (S.bd (lenL r13.1) fun x24 => S.bd (eqb [1] false false x14 x24) fun x25 => S.cnd x25 (some ((Value.tuple ⟨[(Go.Value.int Go.IntKind.i64 1), (Go.Value.int Go.IntKind.i64 0)]⟩), r13.2)) (S.bd (idx r13.2 1 r12.1 x14) fun x26 => S.bd (ldc r13.2 x26) fun x27 => S.bd (idx r13.2 1 r13.1 x14) fun x28 => S.bd (ldc r13.2 x28) fun x29 => S.bd (bin .lss x27 x29) fun x30 => S.cnd x30 (some ((Value.tuple ⟨[(Go.Value.int Go.IntKind.i64 (-1)), (Go.Value.int Go.IntKind.i64 0)]⟩), r13.2)) (some ((Value.tuple ⟨[(Go.Value.int Go.IntKind.i64 1), (Go.Value.int Go.IntKind.i64 0)]⟩), r13.2))))))
def leapfrogref01x_Compare.v (a0 a1 : Value) (s : St) : Option (Value × St) := leapfrogref01x_Compare.t std a0 a1 s
def leapfrogref01x_Compare.w : List Value → St → Option (Value × St)
  | [a0, a1], s => leapfrogref01x_Compare.v a0 a1 s
  | _, _ => none
def leapfrogref01x_Compare.an : An := ⟨55, false, [2, 3], [], [], [(3, [(0, 17, [], []), (2, 25, [], []), (1, 4, [], []), (3, 4, [], []), (4, 0, [], []), (5, 0, [], [])]), (11, [(0, 0, [], []), (1, 0, [], []), (2, 2, [], []), (3, 2, [], []), (4, 0, [], []), (5, 0, [], []), (6, 2, [], []), (7, 2, [], []), (8, 0, [], []), (9, 0, [], [])])]⟩
theorem leapfrogref01x_Compare.ok (S : Sig) (a0 a1 : Value) (s : St) : evF S Tryz.prog leapfrogref01x_Compare.ctx leapfrogref01x_Compare.an Tryz.f123 [a0, a1] s = leapfrogref01x_Compare.t S a0 a1 s := by kernel_rfl
theorem leapfrogref01x_Compare.cok : CtxOk Tryz.prog leapfrogref01x_Compare.ctx := .cons leapfrogref01x_Right.sound leapfrogref01x_Right.can <| .cons leapfrogref01x_Bits.sound leapfrogref01x_Bits.can <| .cons leapfrogref01x_common.sound leapfrogref01x_common.can <| .nil
theorem leapfrogref01x_Compare.draws : fnDraws leapfrogref01x_Compare.an Tryz.f123 = true := by kernel_rfl
theorem leapfrogref01x_Compare.can : callOk Tryz.prog 123 = true := by kernel_rfl
theorem leapfrogref01x_Compare.sound : FnOk Tryz.prog 123 (.st leapfrogref01x_Compare.w) := FnOk.st_of (evF_ok leapfrogref01x_Compare.cok mixed (f := 123) (fn := Tryz.f123) (by kernel_rfl) leapfrogref01x_Compare.draws) fun args s r h => by
  unfold leapfrogref01x_Compare.w at h; split at h
  · rw [leapfrogref01x_Compare.ok std]; exact h
  · simp at h

/-! ### leapfrog/leapfrogref01.Compare: function 123, as a reading -/
def leapfrogref01x_CompareQ.r (a0 a1 : Value) (s : St) : Option Value := frzR (fun s => leapfrogref01x_Compare.v a0 a1 s) s
def leapfrogref01x_CompareQ.w : List Value → St → Option Value := fun args s => frzR (leapfrogref01x_Compare.w args) s
theorem leapfrogref01x_CompareQ.can : callOk Tryz.prog 123 = true := leapfrogref01x_Compare.can
theorem leapfrogref01x_CompareQ.sound : FnOk Tryz.prog 123 (.rd leapfrogref01x_CompareQ.w) := FnOk.frozen leapfrogref01x_Compare.sound

/-! ### leapfrog/leapfrogref01.Begins: function 107 -/
def leapfrogref01x_Begins.ctx : Ctx := [(59, .rd leapfrogref01x_Right.w), (94, .st leapfrogref01x_Bits.w), (124, .rd leapfrogref01x_common.w)]
def leapfrogref01x_Begins.t (S : Sig) (a0 a1 : Value) (s : St) : Option (Value × St) :=
  S.bd (bx a0) fun c1 => S.bd (bx a1) fun c2 => S.bd (lal c1 0 2) fun x3 => S.bd (leapfrogref01x_Right.r x3 s) fun x4 => S.bd (S.gd x4 true (lal c2 0 2)) fun x5 => S.bd (S.gd x4 true (leapfrogref01x_Right.r x5 s)) fun x6 => S.bd (pik x4 x6 (Go.Value.bool Bool.false)) fun x7 => S.bd (S.gd x7 true (lal c1 0 2)) fun x8 => S.bd (S.gd x7 true (lal c2 0 2)) fun x9 => S.bd (S.gd x7 true (lcl c2 0)) fun x10 => S.bd (S.gdS x7 true (leapfrogref01x_Bits.v x8 s) s) fun r11 => S.bd (S.gdS x7 true (leapfrogref01x_Bits.v x9 r11.2) r11.2) fun r12 => S.bd (S.gd x7 true (leapfrogref01x_common.r r11.1 r12.1 r12.2)) fun x13 => S.bd (S.gd x7 true (eqb [1] false false x13 x10)) fun x14 => S.bd (pik x7 x14 (Go.Value.bool Bool.false)) fun x15 => some (x15, r12.2)
def leapfrogref01x_Begins.v (a0 a1 : Value) (s : St) : Option (Value × St) := leapfrogref01x_Begins.t std a0 a1 s
def leapfrogref01x_Begins.w : List Value → St → Option (Value × St)
  | [a0, a1], s => leapfrogref01x_Begins.v a0 a1 s
  | _, _ => none
def leapfrogref01x_Begins.an : An := ⟨21, false, [2, 3], [], [], [(1, [(0, 17, [], []), (1, 3, [], []), (2, 0, [], []), (3, 25, [], []), (4, 3, [], []), (5, 0, [], []), (6, 0, [], []), (7, 17, [], []), (9, 25, [], []), (12, 0, [], []), (13, 25, [], []), (8, 4, [], []), (10, 4, [], []), (11, 3, [], []), (14, 0, [], []), (15, 0, [], []), (16, 0, [], [])])]⟩
theorem leapfrogref01x_Begins.ok (S : Sig) (a0 a1 : Value) (s : St) : evF S Tryz.prog leapfrogref01x_Begins.ctx leapfrogref01x_Begins.an Tryz.f107 [a0, a1] s = leapfrogref01x_Begins.t S a0 a1 s := by kernel_rfl
theorem leapfrogref01x_Begins.cok : CtxOk Tryz.prog leapfrogref01x_Begins.ctx := .cons leapfrogref01x_Right.sound leapfrogref01x_Right.can <| .cons leapfrogref01x_Bits.sound leapfrogref01x_Bits.can <| .cons leapfrogref01x_common.sound leapfrogref01x_common.can <| .nil
theorem leapfrogref01x_Begins.draws : fnDraws leapfrogref01x_Begins.an Tryz.f107 = true := by kernel_rfl
theorem leapfrogref01x_Begins.can : callOk Tryz.prog 107 = true := by kernel_rfl
theorem leapfrogref01x_Begins.sound : FnOk Tryz.prog 107 (.st leapfrogref01x_Begins.w) := FnOk.st_of (evF_ok leapfrogref01x_Begins.cok mixed (f := 107) (fn := Tryz.f107) (by kernel_rfl) leapfrogref01x_Begins.draws) fun args s r h => by
  unfold leapfrogref01x_Begins.w at h; split at h
  · rw [leapfrogref01x_Begins.ok std]; exact h
  · simp at h

/-! ### leapfrog/leapfrogref01.Begins: function 107, as a reading -/
def leapfrogref01x_BeginsQ.r (a0 a1 : Value) (s : St) : Option Value := frzR (fun s => leapfrogref01x_Begins.v a0 a1 s) s
def leapfrogref01x_BeginsQ.w : List Value → St → Option Value := fun args s => frzR (leapfrogref01x_Begins.w args) s
theorem leapfrogref01x_BeginsQ.can : callOk Tryz.prog 107 = true := leapfrogref01x_Begins.can
theorem leapfrogref01x_BeginsQ.sound : FnOk Tryz.prog 107 (.rd leapfrogref01x_BeginsQ.w) := FnOk.frozen leapfrogref01x_Begins.sound

/-! ### leapfrog/leapfrogref09.Less: function 104 -/
def leapfrogref09x_Less.ctx : Ctx := []
def leapfrogref09x_Less.t (S : Sig) (a0 a1 : Value) (s : St) : Option Value :=
  S.bd (bx a0) fun c1 => S.bd (bx a1) fun c2 => S.bd (lcl c1 0) fun x3 => S.bd (lcl c2 0) fun x4 => S.bd (bin .lss x3 x4) fun x5 => S.bd (S.gd x5 false (lcl c1 0)) fun x6 => S.bd (S.gd x5 false (lcl c2 0)) fun x7 => S.bd (S.gd x5 false (eqb [1] false false x6 x7)) fun x8 => S.bd (S.gd x5 false (some x8)) fun x9 => S.bd (S.gd x9 true (lcl c1 1)) fun x10 => S.bd (S.gd x9 true (lcl c2 1)) fun x11 => S.bd (S.gd x9 true (bin .lss x10 x11)) fun x12 => S.bd (S.gd x5 false (pik x9 x12 (Go.Value.bool Bool.false))) fun x13 => S.bd (pik x5 (Go.Value.bool Bool.true) x13) fun x14 => some (x14)
def leapfrogref09x_Less.r (a0 a1 : Value) (s : St) : Option Value := leapfrogref09x_Less.t std a0 a1 s
def leapfrogref09x_Less.w : List Value → St → Option Value
  | [a0, a1], s => leapfrogref09x_Less.r a0 a1 s
  | _, _ => none
def leapfrogref09x_Less.an : An := ⟨24, true, [2, 3], [], [], []⟩
theorem leapfrogref09x_Less.ok (S : Sig) (a0 a1 : Value) (s : St) : evG S Tryz.prog leapfrogref09x_Less.ctx leapfrogref09x_Less.an Tryz.f104 [a0, a1] s = leapfrogref09x_Less.t S a0 a1 s := by kernel_rfl
theorem leapfrogref09x_Less.cok : CtxOk Tryz.prog leapfrogref09x_Less.ctx := .nil
theorem leapfrogref09x_Less.draws : fnDraws leapfrogref09x_Less.an Tryz.f104 = true := by kernel_rfl
theorem leapfrogref09x_Less.can : callOk Tryz.prog 104 = true := by kernel_rfl
theorem leapfrogref09x_Less.sound : FnOk Tryz.prog 104 (.rd leapfrogref09x_Less.w) := FnOk.rd_of (evG_ok leapfrogref09x_Less.cok mixed (f := 104) (fn := Tryz.f104) (by kernel_rfl) leapfrogref09x_Less.draws) fun args s r h => by
  unfold leapfrogref09x_Less.w at h; split at h
  · rw [leapfrogref09x_Less.ok std]; exact h
  · simp at h

/-! ### leapfrog/leapfrogref11.sorted: function 128 -/
def leapfrogref11x_sorted.ctx : Ctx := [(104, .rd leapfrogref09x_Less.w)]
def leapfrogref11x_sorted.l6 (S : Sig) (rec60 : List Value → St → Option Cut) (xs58 : List Value) (s59 : St) : Option Cut :=
  S.bd (lenL (xs58.getD 1 undef)) fun x61 => S.bd (bin .lss (xs58.getD 3 undef) x61) fun x62 => S.bd (S.gd x62 true (some (xs58.getD 1 undef))) fun x63 => S.bd (S.gd x62 true (some (xs58.getD 3 undef))) fun x64 => S.bd (S.gd x62 true (idx s59 5 x63 x64)) fun x65 => S.bd (S.gd x62 true (fld 1 x65)) fun x66 => S.bd (S.gd x62 true (lda s59 2 x66)) fun x67 => S.bd (S.gd x62 true (some (xs58.getD 0 undef))) fun x68 => S.bd (S.gd x62 true (some (xs58.getD 2 undef))) fun x69 => S.bd (S.gd x62 true (idx s59 5 x68 x69)) fun x70 => S.bd (S.gd x62 true (fld 1 x70)) fun x71 => S.bd (S.gd x62 true (lda s59 2 x71)) fun x72 => S.bd (S.gd x62 true (leapfrogref09x_Less.r x67 x72 s59)) fun x73 => S.bd (pik x62 x73 (Go.Value.bool Bool.false)) fun x74 => S.cnd x74 (S.bd (bin .add (xs58.getD 3 undef) (Go.Value.int Go.IntKind.i64 1)) fun x75 => rec60 [(xs58.getD 0 undef), (xs58.getD 1 undef), (xs58.getD 2 undef), x75] s59) (some (0, [(xs58.getD 0 undef), (xs58.getD 1 undef), (xs58.getD 2 undef), (xs58.getD 3 undef), x63, x64, x65, x66, x67, x68, x69, x70, x71, x72, x73], s59))

def leapfrogref11x_sorted.l3.p1 (S : Sig) (xs53 : List Value) (s54 : St) (rec55 : List Value → St → Option Cut) : Option Cut :=
  S.bd (S.it (leapfrogref11x_sorted.l6 S) [(xs53.getD 0 undef), (xs53.getD 1 undef), (xs53.getD 2 undef), (Go.Value.int Go.IntKind.i64 0)] s54) fun r76 => S.bd (slc r76.2.2 5 (r76.2.1.getD 1 undef) none (some (r76.2.1.getD 3 undef)) none) fun x77 => S.bd (idx r76.2.2 5 (r76.2.1.getD 0 undef) (r76.2.1.getD 2 undef)) fun x78 => S.bd (lda r76.2.2 5 x78) fun x79 => S.bd (slc r76.2.2 5 (r76.2.1.getD 1 undef) (some (r76.2.1.getD 3 undef)) none none) fun x80 => S.bd (S.bd (bls 5 (List.replicate 1 [(Go.Value.int Go.IntKind.i64 0), (Go.Value.int Go.IntKind.i64 0), (Go.Value.int Go.IntKind.u64 0), (Go.Value.int Go.IntKind.i64 0), (Go.Value.int Go.IntKind.u64 0)]) [(0, x79)]) fun rows => als r76.2.2 5 1 rows) fun _ => S.bd (S.bd (bls 5 (List.replicate 0 [(Go.Value.int Go.IntKind.i64 0), (Go.Value.int Go.IntKind.i64 0), (Go.Value.int Go.IntKind.u64 0), (Go.Value.int Go.IntKind.i64 0), (Go.Value.int Go.IntKind.u64 0)]) []) fun rows => als r76.2.2 5 0 rows) fun r81 => S.bd (S.bd (bls 5 (List.replicate 1 [(Go.Value.int Go.IntKind.i64 0), (Go.Value.int Go.IntKind.i64 0), (Go.Value.int Go.IntKind.u64 0), (Go.Value.int Go.IntKind.i64 0), (Go.Value.int Go.IntKind.u64 0)]) [(0, x79)]) fun rows => als r81.2 5 1 rows) fun _ => S.bd (app r81.2 5 40 r81.1 x77) fun r82 => S.bd (idx r82.2 5 (r76.2.1.getD 0 undef) (r76.2.1.getD 2 undef)) fun x83 => S.cnd (Value.bool (sameV x83 x78)) (S.bd (lda r82.2 5 x78) fun x84 => S.cnd (Value.bool (sameV x84 x79)) (S.bd (slc r82.2 5 (r76.2.1.getD 1 undef) (some (r76.2.1.getD 3 undef)) none none) fun x85 => S.cnd (Value.bool (sameV x85 x80)) (S.bd (S.bd (bls 5 (List.replicate 1 [(Go.Value.int Go.IntKind.i64 0), (Go.Value.int Go.IntKind.i64 0), (Go.Value.int Go.IntKind.u64 0), (Go.Value.int Go.IntKind.i64 0), (Go.Value.int Go.IntKind.u64 0)]) [(0, x79)]) fun rows => als r82.2 5 1 rows) fun r86 => S.bd (app r86.2 5 40 r82.1 r86.1) fun r87 => S.bd (idx r87.2 5 (r76.2.1.getD 0 undef) (r76.2.1.getD 2 undef)) fun x88 => S.cnd (Value.bool (sameV x88 x78)) (S.bd (slc r87.2 5 (r76.2.1.getD 1 undef) (some (r76.2.1.getD 3 undef)) none none) fun x89 => S.cnd (Value.bool (sameV x89 x80)) (S.bd (app r87.2 5 40 r87.1 x80) fun r90 => S.bd (idx r90.2 5 (r76.2.1.getD 0 undef) (r76.2.1.getD 2 undef)) fun x91 => S.cnd (Value.bool (sameV x91 x78)) (S.bd (bin .add (r76.2.1.getD 2 undef) (Go.Value.int Go.IntKind.i64 1)) fun x92 => rec55 [(r76.2.1.getD 0 undef), r90.1, x92] r90.2) (none)) (none)) (none)) (none)) (none)) (none)

def leapfrogref11x_sorted.l3 (S : Sig) (rec55 : List Value → St → Option Cut) (xs53 : List Value) (s54 : St) : Option Cut :=
  S.bd (lenL (xs53.getD 0 undef)) fun x56 => S.bd (bin .lss (xs53.getD 2 undef) x56) fun x57 => S.cnd x57 (leapfrogref11x_sorted.l3.p1 S xs53 s54 rec55) (some (0, [(xs53.getD 1 undef)], s54))

def leapfrogref11x_sorted.t (S : Sig) (a0 : Value) (s : St) : Option (Value × St) :=
  S.bd (S.it (leapfrogref11x_sorted.l3 S) [a0, (Go.Value.slice Option.none 0 0), (Go.Value.int Go.IntKind.i64 0)] s) fun r93 => some ((r93.2.1.getD 0 undef), r93.2.2)
def leapfrogref11x_sorted.v (a0 : Value) (s : St) : Option (Value × St) := leapfrogref11x_sorted.t std a0 s
def leapfrogref11x_sorted.w : List Value → St → Option (Value × St)
  | [a0], s => leapfrogref11x_sorted.v a0 s
  | _, _ => none
def leapfrogref11x_sorted.an : An := ⟨47, false, [], [(6, ⟨[.v 0, .v 3, .v 4, .v 5], [(.exit 2, [.v 0, .v 3, .v 4, .v 5, .v 17, .v 18, .v 19, .v 20, .v 21, .v 22, .v 23, .v 24, .v 25, .v 26, .v 27])]⟩), (3, ⟨[.v 0, .v 3, .v 4], [(.exit 0, [.v 3])]⟩)], [], [(6, [(0, 0, [], []), (1, 0, [], []), (2, 2, [], []), (3, 0, [], []), (4, 0, [], []), (5, 0, [], []), (6, 0, [], []), (7, 2, [], []), (8, 0, [], []), (9, 2, [], []), (10, 0, [], []), (11, 0, [], []), (12, 2, [], []), (13, 0, [], []), (14, 2, [], []), (15, 3, [], []), (16, 0, [], [])]), (8, [(1, 0, [], []), (2, 0, [], []), (3, 2, [], []), (5, 0, [], []), (6, 0, [], []), (7, 2, [], []), (8, 2, [], []), (11, 0, [], []), (12, 0, [], []), (13, 2, [], []), (0, 3, [], [9]), (4, 4, [7, 8, 13], [9]), (9, 3, [], []), (10, 4, [7, 13], []), (14, 4, [7], []), (15, 3, [], [])])]⟩
theorem leapfrogref11x_sorted.ok (S : Sig) (a0 : Value) (s : St) : evF S Tryz.prog leapfrogref11x_sorted.ctx leapfrogref11x_sorted.an Tryz.f128 [a0] s = leapfrogref11x_sorted.t S a0 s := by kernel_rfl
theorem leapfrogref11x_sorted.cok : CtxOk Tryz.prog leapfrogref11x_sorted.ctx := .cons leapfrogref09x_Less.sound leapfrogref09x_Less.can <| .nil
theorem leapfrogref11x_sorted.draws : fnDraws leapfrogref11x_sorted.an Tryz.f128 = true := by kernel_rfl
theorem leapfrogref11x_sorted.can : callOk Tryz.prog 128 = true := by kernel_rfl
theorem leapfrogref11x_sorted.sound : FnOk Tryz.prog 128 (.st leapfrogref11x_sorted.w) := FnOk.st_of (evF_ok leapfrogref11x_sorted.cok mixed (f := 128) (fn := Tryz.f128) (by kernel_rfl) leapfrogref11x_sorted.draws) fun args s r h => by
  unfold leapfrogref11x_sorted.w at h; split at h
  · rw [leapfrogref11x_sorted.ok std]; exact h
  · simp at h


end Go.Proofs.YtjiknclbjbfdjaaGreat
