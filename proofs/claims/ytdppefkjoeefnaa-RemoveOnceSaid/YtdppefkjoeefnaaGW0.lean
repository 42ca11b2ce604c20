/-
  What the functions answer that RemoveRuns, RemoveOnce reaches (part 0): for each function of the program a plain function over abstract values, and that the model answers as it does.
-/
import Derived.Test.YtdppefkjoeefnaaSimZ
import Derived.Test.YtdppefkjoeefnaaProg
import Derived.KernelRfl
set_option linter.unusedVariables false
set_option maxRecDepth 100000
namespace Go.Proofs.Ytdppefkjoeefnaa
open Go.Sim
noncomputable section
theorem mixed : Try.prog.follows .mixedOrders = true := by kernel_rfl
/-! ### (*leapfrog/leapfrogref14.Unsplice).ask: function 44 -/
def leapfrogref14x_Unsplice_ask.ctx : Ctx := []
def leapfrogref14x_Unsplice_ask.t.p1 (S : Sig) (x9 : Value) (s : St) (a1 : Value) (x7 : Value) (x8 : Value) (c1 : List Value) (c3 : List Value) : Option Value :=
  S.bd (fld 0 x9) fun x10 => S.bd (fld 7 x10) fun x11 => S.bd (lda s 2 x11) fun x12 => S.bd (bld [(Go.Value.int Go.IntKind.i64 0), (Go.Value.int Go.IntKind.i64 0), (Go.Value.int Go.IntKind.u64 0), (Go.Value.int Go.IntKind.i64 0), (Go.Value.int Go.IntKind.i64 0), (Go.Value.int Go.IntKind.u64 0), (Go.Value.int Go.IntKind.i64 0), (Go.Value.int Go.IntKind.u64 0), (Go.Value.int Go.IntKind.i64 0), (Go.Value.int Go.IntKind.i64 0), (Go.Value.int Go.IntKind.u64 0), (Go.Value.int Go.IntKind.i64 0), (Go.Value.int Go.IntKind.u64 0), (Go.Value.int Go.IntKind.i64 0), (Go.Value.int Go.IntKind.i64 0)] [(0, 1, a1), (1, 2, x7), (3, 5, x8), (13, 2, x12)]) fun x13 => S.bd (bx (Go.Value.agg #[(Go.Value.int Go.IntKind.i64 0), (Go.Value.int Go.IntKind.i64 0), (Go.Value.int Go.IntKind.u64 0), (Go.Value.int Go.IntKind.i64 0), (Go.Value.int Go.IntKind.i64 0), (Go.Value.int Go.IntKind.u64 0), (Go.Value.int Go.IntKind.i64 0), (Go.Value.int Go.IntKind.u64 0), (Go.Value.int Go.IntKind.i64 0), (Go.Value.int Go.IntKind.i64 0), (Go.Value.int Go.IntKind.u64 0), (Go.Value.int Go.IntKind.i64 0), (Go.Value.int Go.IntKind.u64 0), (Go.Value.int Go.IntKind.i64 0), (Go.Value.int Go.IntKind.i64 0)])) fun c14 => S.bd (stl c14 0 15 x13) fun c15 => S.bd (show Option Cut from S.bd (eqb [1] false false a1 (Go.Value.int Go.IntKind.i64 1)) fun x22 => S.bd (S.gd x22 false (some a1)) fun x23 => S.bd (S.gd x22 false (eqb [1] false false x23 (Go.Value.int Go.IntKind.i64 6))) fun x24 => S.bd (pik x22 (Go.Value.bool Bool.true) x24) fun x25 => S.cnd x25 (S.bd (bld [(Go.Value.int Go.IntKind.i64 0), (Go.Value.int Go.IntKind.i64 0)] []) fun x26 => S.bd (stl c15 13 2 x26) fun c27 => some (0, [(Value.agg ⟨c1⟩), (Value.agg ⟨c3⟩), (Value.agg ⟨c27⟩)], s)) (some (0, [(Value.agg ⟨c1⟩), (Value.agg ⟨c3⟩), (Value.agg ⟨c15⟩)], s))) fun r28 => S.bd (lal (cellsA (r28.2.1.getD 0 undef)) 0 5) fun x29 => S.bd (lal (cellsA (r28.2.1.getD 2 undef)) 0 15) fun x30 => S.bd (bld [(Go.Value.int Go.IntKind.i64 0), (Go.Value.int Go.IntKind.i64 0), (Go.Value.int Go.IntKind.i64 0), (Go.Value.int Go.IntKind.u64 0), (Go.Value.int Go.IntKind.i64 0), (Go.Value.int Go.IntKind.u64 0), (Go.Value.int Go.IntKind.i64 0), (Go.Value.int Go.IntKind.i64 0), (Go.Value.int Go.IntKind.u64 0), (Go.Value.int Go.IntKind.i64 0), (Go.Value.int Go.IntKind.i64 0), (Go.Value.int Go.IntKind.u64 0), (Go.Value.int Go.IntKind.i64 0), (Go.Value.int Go.IntKind.u64 0), (Go.Value.int Go.IntKind.i64 0), (Go.Value.int Go.IntKind.i64 0), (Go.Value.int Go.IntKind.u64 0), (Go.Value.int Go.IntKind.i64 0), (Go.Value.int Go.IntKind.u64 0), (Go.Value.int Go.IntKind.i64 0), (Go.Value.int Go.IntKind.i64 0), (Go.Value.int Go.IntKind.i64 0), (Go.Value.int Go.IntKind.u64 0), (Go.Value.slice Option.none 0 0), (Go.Value.slice Option.none 0 0), (Go.Value.int Go.IntKind.i64 0), (Go.Value.int Go.IntKind.i64 0), (Go.Value.int Go.IntKind.u64 0), (Go.Value.int Go.IntKind.i64 0), (Go.Value.int Go.IntKind.u64 0), (Go.Value.int Go.IntKind.i64 0), (Go.Value.int Go.IntKind.i64 0), (Go.Value.int Go.IntKind.u64 0), (Go.Value.int Go.IntKind.i64 0), (Go.Value.int Go.IntKind.u64 0), (Go.Value.bool Bool.false)] [(0, 1, (Go.Value.int Go.IntKind.i64 1)), (1, 5, x29), (6, 15, x30)]) fun x31 => S.bd (stl (cellsA (r28.2.1.getD 1 undef)) 0 36 x31) fun c32 => S.bd (lal c32 0 36) fun x33 => some (x33)

def leapfrogref14x_Unsplice_ask.t (S : Sig) (a0 a1 a2 a3 : Value) (s : St) : Option Value :=
  S.bd (bx a2) fun c1 => S.bd (bx a3) fun c2 => S.bd (bx (Go.Value.agg #[(Go.Value.int Go.IntKind.i64 0), (Go.Value.int Go.IntKind.i64 0), (Go.Value.int Go.IntKind.i64 0), (Go.Value.int Go.IntKind.u64 0), (Go.Value.int Go.IntKind.i64 0), (Go.Value.int Go.IntKind.u64 0), (Go.Value.int Go.IntKind.i64 0), (Go.Value.int Go.IntKind.i64 0), (Go.Value.int Go.IntKind.u64 0), (Go.Value.int Go.IntKind.i64 0), (Go.Value.int Go.IntKind.i64 0), (Go.Value.int Go.IntKind.u64 0), (Go.Value.int Go.IntKind.i64 0), (Go.Value.int Go.IntKind.u64 0), (Go.Value.int Go.IntKind.i64 0), (Go.Value.int Go.IntKind.i64 0), (Go.Value.int Go.IntKind.u64 0), (Go.Value.int Go.IntKind.i64 0), (Go.Value.int Go.IntKind.u64 0), (Go.Value.int Go.IntKind.i64 0), (Go.Value.int Go.IntKind.i64 0), (Go.Value.int Go.IntKind.i64 0), (Go.Value.int Go.IntKind.u64 0), (Go.Value.slice Option.none 0 0), (Go.Value.slice Option.none 0 0), (Go.Value.int Go.IntKind.i64 0), (Go.Value.int Go.IntKind.i64 0), (Go.Value.int Go.IntKind.u64 0), (Go.Value.int Go.IntKind.i64 0), (Go.Value.int Go.IntKind.u64 0), (Go.Value.int Go.IntKind.i64 0), (Go.Value.int Go.IntKind.i64 0), (Go.Value.int Go.IntKind.u64 0), (Go.Value.int Go.IntKind.i64 0), (Go.Value.int Go.IntKind.u64 0), (Go.Value.bool Bool.false)])) fun c3 => S.bd (nck a0) fun x4 => S.bd (fld 0 x4) fun x5 => S.bd (fld 0 x5) fun x6 => S.bd (lda s 2 x6) fun x7 => S.bd (lal c2 0 5) fun x8 => S.bd (nck a0) fun x9 => leapfrogref14x_Unsplice_ask.t.p1 S x9 s a1 x7 x8 c1 c3
def leapfrogref14x_Unsplice_ask.r (a0 a1 a2 a3 : Value) (s : St) : Option Value := leapfrogref14x_Unsplice_ask.t std a0 a1 a2 a3 s
def leapfrogref14x_Unsplice_ask.w : List Value → St → Option Value
  | [a0, a1, a2, a3], s => leapfrogref14x_Unsplice_ask.r a0 a1 a2 a3 s
  | _, _ => none
def leapfrogref14x_Unsplice_ask.an : An := ⟨34, true, [6, 7, 8, 9], [], [(4, ⟨[], [(.normal, [.p 6 6 0, .p 8 8 0, .p 9 9 0, .l 6, .l 8, .l 9])]⟩)], [(1, [(0, 0, [], []), (1, 0, [], []), (2, 0, [], []), (3, 0, [], []), (4, 0, [], []), (5, 2, [], []), (6, 57, [], []), (7, 0, [], []), (8, 0, [], []), (9, 0, [], []), (10, 0, [], []), (11, 2, [], []), (12, 0, [], []), (13, 6, [], []), (14, 77, [], [])])]⟩
theorem leapfrogref14x_Unsplice_ask.ok (S : Sig) (a0 a1 a2 a3 : Value) (s : St) : evG S Try.prog leapfrogref14x_Unsplice_ask.ctx leapfrogref14x_Unsplice_ask.an Try.f44 [a0, a1, a2, a3] s = leapfrogref14x_Unsplice_ask.t S a0 a1 a2 a3 s := by kernel_rfl
theorem leapfrogref14x_Unsplice_ask.cok : CtxOk Try.prog leapfrogref14x_Unsplice_ask.ctx := .nil
theorem leapfrogref14x_Unsplice_ask.draws : fnDraws leapfrogref14x_Unsplice_ask.an Try.f44 = true := by kernel_rfl
theorem leapfrogref14x_Unsplice_ask.can : callOk Try.prog 44 = true := by kernel_rfl
theorem leapfrogref14x_Unsplice_ask.sound : FnOk Try.prog 44 (.rd leapfrogref14x_Unsplice_ask.w) := FnOk.rd_of (evG_ok leapfrogref14x_Unsplice_ask.cok mixed (f := 44) (fn := Try.f44) (by kernel_rfl) leapfrogref14x_Unsplice_ask.draws) fun args s r h => by
  unfold leapfrogref14x_Unsplice_ask.w at h; split at h
  · rw [leapfrogref14x_Unsplice_ask.ok std]; exact h
  · simp at h

/-! ### (*leapfrog/leapfrogref14.Unsplice).Next: function 28 -/
def leapfrogref14x_Unsplice_Next.ctx : Ctx := [(44, .rd leapfrogref14x_Unsplice_ask.w)]
def leapfrogref14x_Unsplice_Next.t.p1 (S : Sig) (a0 : Value) (s : St) (c1 : List Value) : Option Value :=
  S.bd (nck a0) fun x84 => S.bd (fld 21 x84) fun x85 => S.bd (ldc s x85) fun x86 => S.bd (bld [(Go.Value.int Go.IntKind.i64 0), (Go.Value.int Go.IntKind.u64 0), (Go.Value.slice Option.none 0 0), (Go.Value.slice Option.none 0 0), (Go.Value.int Go.IntKind.i64 0), (Go.Value.int Go.IntKind.i64 0), (Go.Value.int Go.IntKind.u64 0), (Go.Value.int Go.IntKind.i64 0), (Go.Value.int Go.IntKind.u64 0), (Go.Value.int Go.IntKind.i64 0), (Go.Value.int Go.IntKind.i64 0), (Go.Value.int Go.IntKind.u64 0), (Go.Value.int Go.IntKind.i64 0), (Go.Value.int Go.IntKind.u64 0), (Go.Value.bool Bool.false)] [(0, 1, x86)]) fun x87 => S.bd (bld [(Go.Value.int Go.IntKind.i64 0), (Go.Value.int Go.IntKind.i64 0), (Go.Value.int Go.IntKind.i64 0), (Go.Value.int Go.IntKind.u64 0), (Go.Value.int Go.IntKind.i64 0), (Go.Value.int Go.IntKind.u64 0), (Go.Value.int Go.IntKind.i64 0), (Go.Value.int Go.IntKind.i64 0), (Go.Value.int Go.IntKind.u64 0), (Go.Value.int Go.IntKind.i64 0), (Go.Value.int Go.IntKind.i64 0), (Go.Value.int Go.IntKind.u64 0), (Go.Value.int Go.IntKind.i64 0), (Go.Value.int Go.IntKind.u64 0), (Go.Value.int Go.IntKind.i64 0), (Go.Value.int Go.IntKind.i64 0), (Go.Value.int Go.IntKind.u64 0), (Go.Value.int Go.IntKind.i64 0), (Go.Value.int Go.IntKind.u64 0), (Go.Value.int Go.IntKind.i64 0), (Go.Value.int Go.IntKind.i64 0), (Go.Value.int Go.IntKind.i64 0), (Go.Value.int Go.IntKind.u64 0), (Go.Value.slice Option.none 0 0), (Go.Value.slice Option.none 0 0), (Go.Value.int Go.IntKind.i64 0), (Go.Value.int Go.IntKind.i64 0), (Go.Value.int Go.IntKind.u64 0), (Go.Value.int Go.IntKind.i64 0), (Go.Value.int Go.IntKind.u64 0), (Go.Value.int Go.IntKind.i64 0), (Go.Value.int Go.IntKind.i64 0), (Go.Value.int Go.IntKind.u64 0), (Go.Value.int Go.IntKind.i64 0), (Go.Value.int Go.IntKind.u64 0), (Go.Value.bool Bool.false)] [(0, 1, (Go.Value.int Go.IntKind.i64 3)), (21, 15, x87)]) fun x88 => S.bd (stl c1 0 36 x88) fun c89 => S.bd (lal c89 0 36) fun x90 => some (x90)

def leapfrogref14x_Unsplice_Next.t.p2 (S : Sig) (x7 : Value) (a0 : Value) (s : St) (c4 : List Value) (c1 : List Value) : Option Value :=
  S.bd (eqb [1] false false x7 (Go.Value.int Go.IntKind.i64 8)) fun x72 => S.cnd x72 (S.bd (nck a0) fun x73 => S.bd (fld 10 x73) fun x74 => S.bd (lda s 5 x74) fun x75 => S.bd (lal c4 0 5) fun x76 => S.bd (leapfrogref14x_Unsplice_ask.r a0 (Go.Value.int Go.IntKind.i64 4) x75 x76 s) fun x77 => S.bd (stl c1 0 36 x77) fun c78 => S.bd (lal c78 0 36) fun x79 => some (x79)) (S.bd (eqb [1] false false x7 (Go.Value.int Go.IntKind.i64 9)) fun x80 => S.cnd x80 (S.bd (bld [(Go.Value.int Go.IntKind.i64 0), (Go.Value.int Go.IntKind.i64 0), (Go.Value.int Go.IntKind.i64 0), (Go.Value.int Go.IntKind.u64 0), (Go.Value.int Go.IntKind.i64 0), (Go.Value.int Go.IntKind.u64 0), (Go.Value.int Go.IntKind.i64 0), (Go.Value.int Go.IntKind.i64 0), (Go.Value.int Go.IntKind.u64 0), (Go.Value.int Go.IntKind.i64 0), (Go.Value.int Go.IntKind.i64 0), (Go.Value.int Go.IntKind.u64 0), (Go.Value.int Go.IntKind.i64 0), (Go.Value.int Go.IntKind.u64 0), (Go.Value.int Go.IntKind.i64 0), (Go.Value.int Go.IntKind.i64 0), (Go.Value.int Go.IntKind.u64 0), (Go.Value.int Go.IntKind.i64 0), (Go.Value.int Go.IntKind.u64 0), (Go.Value.int Go.IntKind.i64 0), (Go.Value.int Go.IntKind.i64 0), (Go.Value.int Go.IntKind.i64 0), (Go.Value.int Go.IntKind.u64 0), (Go.Value.slice Option.none 0 0), (Go.Value.slice Option.none 0 0), (Go.Value.int Go.IntKind.i64 0), (Go.Value.int Go.IntKind.i64 0), (Go.Value.int Go.IntKind.u64 0), (Go.Value.int Go.IntKind.i64 0), (Go.Value.int Go.IntKind.u64 0), (Go.Value.int Go.IntKind.i64 0), (Go.Value.int Go.IntKind.i64 0), (Go.Value.int Go.IntKind.u64 0), (Go.Value.int Go.IntKind.i64 0), (Go.Value.int Go.IntKind.u64 0), (Go.Value.bool Bool.false)] [(0, 1, (Go.Value.int Go.IntKind.i64 2))]) fun x81 => S.bd (stl c1 0 36 x81) fun c82 => S.bd (lal c82 0 36) fun x83 => some (x83)) (leapfrogref14x_Unsplice_Next.t.p1 S a0 s c1))

def leapfrogref14x_Unsplice_Next.t.p3 (S : Sig) (x7 : Value) (a0 : Value) (s : St) (c4 : List Value) (c1 : List Value) : Option Value :=
  S.bd (eqb [1] false false x7 (Go.Value.int Go.IntKind.i64 3)) fun x25 => S.cnd x25 (S.bd (nck a0) fun x26 => S.bd (fld 0 x26) fun x27 => S.bd (fld 2 x27) fun x28 => S.bd (lda s 5 x28) fun x29 => S.bd (lal c4 0 5) fun x30 => S.bd (leapfrogref14x_Unsplice_ask.r a0 (Go.Value.int Go.IntKind.i64 3) x29 x30 s) fun x31 => S.bd (stl c1 0 36 x31) fun c32 => S.bd (lal c32 0 36) fun x33 => some (x33)) (S.bd (eqb [1] false false x7 (Go.Value.int Go.IntKind.i64 4)) fun x34 => S.cnd x34 (S.bd (nck a0) fun x35 => S.bd (fld 10 x35) fun x36 => S.bd (lda s 5 x36) fun x37 => S.bd (nck a0) fun x38 => S.bd (fld 15 x38) fun x39 => S.bd (lda s 5 x39) fun x40 => S.bd (leapfrogref14x_Unsplice_ask.r a0 (Go.Value.int Go.IntKind.i64 5) x37 x40 s) fun x41 => S.bd (stl c1 0 36 x41) fun c42 => S.bd (lal c42 0 36) fun x43 => some (x43)) (S.bd (eqb [1] false false x7 (Go.Value.int Go.IntKind.i64 5)) fun x44 => S.cnd x44 (S.bd (nck a0) fun x45 => S.bd (fld 15 x45) fun x46 => S.bd (lda s 5 x46) fun x47 => S.bd (nck a0) fun x48 => S.bd (fld 10 x48) fun x49 => S.bd (lda s 5 x49) fun x50 => S.bd (leapfrogref14x_Unsplice_ask.r a0 (Go.Value.int Go.IntKind.i64 6) x47 x50 s) fun x51 => S.bd (stl c1 0 36 x51) fun c52 => S.bd (lal c52 0 36) fun x53 => some (x53)) (S.bd (eqb [1] false false x7 (Go.Value.int Go.IntKind.i64 6)) fun x54 => S.cnd x54 (S.bd (nck a0) fun x55 => S.bd (fld 0 x55) fun x56 => S.bd (fld 2 x56) fun x57 => S.bd (lda s 5 x57) fun x58 => S.bd (lal c4 0 5) fun x59 => S.bd (leapfrogref14x_Unsplice_ask.r a0 (Go.Value.int Go.IntKind.i64 8) x58 x59 s) fun x60 => S.bd (stl c1 0 36 x60) fun c61 => S.bd (lal c61 0 36) fun x62 => some (x62)) (S.bd (eqb [1] false false x7 (Go.Value.int Go.IntKind.i64 7)) fun x63 => S.cnd x63 (S.bd (nck a0) fun x64 => S.bd (fld 0 x64) fun x65 => S.bd (fld 2 x65) fun x66 => S.bd (lda s 5 x66) fun x67 => S.bd (lal c4 0 5) fun x68 => S.bd (leapfrogref14x_Unsplice_ask.r a0 (Go.Value.int Go.IntKind.i64 4) x67 x68 s) fun x69 => S.bd (stl c1 0 36 x69) fun c70 => S.bd (lal c70 0 36) fun x71 => some (x71)) (leapfrogref14x_Unsplice_Next.t.p2 S x7 a0 s c4 c1)))))

def leapfrogref14x_Unsplice_Next.t (S : Sig) (a0 : Value) (s : St) : Option Value :=
  S.bd (bx (Go.Value.agg #[(Go.Value.int Go.IntKind.i64 0), (Go.Value.int Go.IntKind.i64 0), (Go.Value.int Go.IntKind.i64 0), (Go.Value.int Go.IntKind.u64 0), (Go.Value.int Go.IntKind.i64 0), (Go.Value.int Go.IntKind.u64 0), (Go.Value.int Go.IntKind.i64 0), (Go.Value.int Go.IntKind.i64 0), (Go.Value.int Go.IntKind.u64 0), (Go.Value.int Go.IntKind.i64 0), (Go.Value.int Go.IntKind.i64 0), (Go.Value.int Go.IntKind.u64 0), (Go.Value.int Go.IntKind.i64 0), (Go.Value.int Go.IntKind.u64 0), (Go.Value.int Go.IntKind.i64 0), (Go.Value.int Go.IntKind.i64 0), (Go.Value.int Go.IntKind.u64 0), (Go.Value.int Go.IntKind.i64 0), (Go.Value.int Go.IntKind.u64 0), (Go.Value.int Go.IntKind.i64 0), (Go.Value.int Go.IntKind.i64 0), (Go.Value.int Go.IntKind.i64 0), (Go.Value.int Go.IntKind.u64 0), (Go.Value.slice Option.none 0 0), (Go.Value.slice Option.none 0 0), (Go.Value.int Go.IntKind.i64 0), (Go.Value.int Go.IntKind.i64 0), (Go.Value.int Go.IntKind.u64 0), (Go.Value.int Go.IntKind.i64 0), (Go.Value.int Go.IntKind.u64 0), (Go.Value.int Go.IntKind.i64 0), (Go.Value.int Go.IntKind.i64 0), (Go.Value.int Go.IntKind.u64 0), (Go.Value.int Go.IntKind.i64 0), (Go.Value.int Go.IntKind.u64 0), (Go.Value.bool Bool.false)])) fun c1 => S.bd (bld [(Go.Value.int Go.IntKind.i64 0), (Go.Value.int Go.IntKind.i64 0), (Go.Value.int Go.IntKind.u64 0), (Go.Value.int Go.IntKind.i64 0), (Go.Value.int Go.IntKind.u64 0)] []) fun x2 => S.bd (bx (Go.Value.agg #[(Go.Value.int Go.IntKind.i64 0), (Go.Value.int Go.IntKind.i64 0), (Go.Value.int Go.IntKind.u64 0), (Go.Value.int Go.IntKind.i64 0), (Go.Value.int Go.IntKind.u64 0)])) fun c3 => S.bd (stl c3 0 5 x2) fun c4 => S.bd (nck a0) fun x5 => S.bd (fld 9 x5) fun x6 => S.bd (ldc s x6) fun x7 => S.bd (eqb [1] false false x7 (Go.Value.int Go.IntKind.i64 1)) fun x8 => S.cnd x8 (S.bd (nck a0) fun x9 => S.bd (fld 0 x9) fun x10 => S.bd (fld 2 x10) fun x11 => S.bd (lda s 5 x11) fun x12 => S.bd (lal c4 0 5) fun x13 => S.bd (leapfrogref14x_Unsplice_ask.r a0 (Go.Value.int Go.IntKind.i64 1) x12 x13 s) fun x14 => S.bd (stl c1 0 36 x14) fun c15 => S.bd (lal c15 0 36) fun x16 => some (x16)) (S.bd (eqb [1] false false x7 (Go.Value.int Go.IntKind.i64 2)) fun x17 => S.cnd x17 (S.bd (nck a0) fun x18 => S.bd (fld 10 x18) fun x19 => S.bd (lda s 5 x19) fun x20 => S.bd (lal c4 0 5) fun x21 => S.bd (leapfrogref14x_Unsplice_ask.r a0 (Go.Value.int Go.IntKind.i64 3) x20 x21 s) fun x22 => S.bd (stl c1 0 36 x22) fun c23 => S.bd (lal c23 0 36) fun x24 => some (x24)) (leapfrogref14x_Unsplice_Next.t.p3 S x7 a0 s c4 c1))
def leapfrogref14x_Unsplice_Next.r (a0 : Value) (s : St) : Option Value := leapfrogref14x_Unsplice_Next.t std a0 s
def leapfrogref14x_Unsplice_Next.w : List Value → St → Option Value
  | [a0], s => leapfrogref14x_Unsplice_Next.r a0 s
  | _, _ => none
def leapfrogref14x_Unsplice_Next.an : An := ⟨100, true, [2, 3], [], [], [(4, [(0, 0, [], []), (1, 0, [], []), (2, 0, [], []), (3, 0, [], []), (4, 0, [], []), (5, 2, [], []), (6, 25, [], []), (7, 3, [], []), (8, 21, [], [])]), (6, [(0, 0, [], []), (1, 0, [], []), (2, 0, [], []), (3, 0, [], []), (4, 2, [], []), (5, 25, [], []), (6, 3, [], []), (7, 21, [], [])]), (8, [(0, 0, [], []), (1, 0, [], []), (2, 0, [], []), (3, 0, [], []), (4, 0, [], []), (5, 2, [], []), (6, 25, [], []), (7, 3, [], []), (8, 21, [], [])]), (10, [(0, 0, [], []), (1, 0, [], []), (2, 0, [], []), (3, 0, [], []), (4, 2, [], []), (5, 0, [], []), (6, 0, [], []), (7, 0, [], []), (8, 2, [], []), (9, 3, [], []), (10, 21, [], [])]), (12, [(0, 0, [], []), (1, 0, [], []), (2, 0, [], []), (3, 0, [], []), (4, 2, [], []), (5, 0, [], []), (6, 0, [], []), (7, 0, [], []), (8, 2, [], []), (9, 3, [], []), (10, 21, [], [])]), (14, [(0, 0, [], []), (1, 0, [], []), (2, 0, [], []), (3, 0, [], []), (4, 0, [], []), (5, 2, [], []), (6, 25, [], []), (7, 3, [], []), (8, 21, [], [])]), (16, [(0, 0, [], []), (1, 0, [], []), (2, 0, [], []), (3, 0, [], []), (4, 0, [], []), (5, 2, [], []), (6, 25, [], []), (7, 3, [], []), (8, 21, [], [])]), (18, [(0, 0, [], []), (1, 0, [], []), (2, 0, [], []), (3, 0, [], []), (4, 2, [], []), (5, 25, [], []), (6, 3, [], []), (7, 21, [], [])])]⟩
theorem leapfrogref14x_Unsplice_Next.ok (S : Sig) (a0 : Value) (s : St) : evG S Try.prog leapfrogref14x_Unsplice_Next.ctx leapfrogref14x_Unsplice_Next.an Try.f28 [a0] s = leapfrogref14x_Unsplice_Next.t S a0 s := by kernel_rfl
theorem leapfrogref14x_Unsplice_Next.cok : CtxOk Try.prog leapfrogref14x_Unsplice_Next.ctx := .cons leapfrogref14x_Unsplice_ask.sound leapfrogref14x_Unsplice_ask.can <| .nil
theorem leapfrogref14x_Unsplice_Next.draws : fnDraws leapfrogref14x_Unsplice_Next.an Try.f28 = true := by kernel_rfl
theorem leapfrogref14x_Unsplice_Next.can : callOk Try.prog 28 = true := by kernel_rfl
theorem leapfrogref14x_Unsplice_Next.sound : FnOk Try.prog 28 (.rd leapfrogref14x_Unsplice_Next.w) := FnOk.rd_of (evG_ok leapfrogref14x_Unsplice_Next.cok mixed (f := 28) (fn := Try.f28) (by kernel_rfl) leapfrogref14x_Unsplice_Next.draws) fun args s r h => by
  unfold leapfrogref14x_Unsplice_Next.w at h; split at h
  · rw [leapfrogref14x_Unsplice_Next.ok std]; exact h
  · simp at h

/-! ### (*leapfrog/leapfrogref12.Seek).Next: function 29 -/
def leapfrogref12x_Seek_Next.ctx : Ctx := []
def leapfrogref12x_Seek_Next.t.p1 (S : Sig) (a0 : Value) (s : St) (c1 : List Value) : Option Value :=
  S.bd (nck a0) fun x11 => S.bd (fld 8 x11) fun x12 => S.bd (lda s 5 x12) fun x13 => S.bd (nck a0) fun x14 => S.bd (fld 13 x14) fun x15 => S.bd (lda s 2 x15) fun x16 => S.bd (bld [(Go.Value.int Go.IntKind.i64 0), (Go.Value.int Go.IntKind.i64 0), (Go.Value.int Go.IntKind.u64 0), (Go.Value.int Go.IntKind.i64 0), (Go.Value.int Go.IntKind.i64 0), (Go.Value.int Go.IntKind.u64 0), (Go.Value.int Go.IntKind.i64 0), (Go.Value.int Go.IntKind.u64 0), (Go.Value.int Go.IntKind.i64 0), (Go.Value.int Go.IntKind.i64 0), (Go.Value.int Go.IntKind.u64 0), (Go.Value.int Go.IntKind.i64 0), (Go.Value.int Go.IntKind.u64 0), (Go.Value.int Go.IntKind.i64 0), (Go.Value.int Go.IntKind.i64 0)] [(0, 1, (Go.Value.int Go.IntKind.i64 1)), (1, 2, x16)]) fun x17 => S.bd (bld [(Go.Value.int Go.IntKind.i64 0), (Go.Value.int Go.IntKind.i64 0), (Go.Value.int Go.IntKind.i64 0), (Go.Value.int Go.IntKind.u64 0), (Go.Value.int Go.IntKind.i64 0), (Go.Value.int Go.IntKind.u64 0), (Go.Value.int Go.IntKind.i64 0), (Go.Value.int Go.IntKind.i64 0), (Go.Value.int Go.IntKind.u64 0), (Go.Value.int Go.IntKind.i64 0), (Go.Value.int Go.IntKind.i64 0), (Go.Value.int Go.IntKind.u64 0), (Go.Value.int Go.IntKind.i64 0), (Go.Value.int Go.IntKind.u64 0), (Go.Value.int Go.IntKind.i64 0), (Go.Value.int Go.IntKind.i64 0), (Go.Value.int Go.IntKind.u64 0), (Go.Value.int Go.IntKind.i64 0), (Go.Value.int Go.IntKind.u64 0), (Go.Value.int Go.IntKind.i64 0), (Go.Value.int Go.IntKind.i64 0), (Go.Value.int Go.IntKind.i64 0), (Go.Value.int Go.IntKind.u64 0), (Go.Value.slice Option.none 0 0), (Go.Value.slice Option.none 0 0), (Go.Value.int Go.IntKind.i64 0), (Go.Value.int Go.IntKind.i64 0), (Go.Value.int Go.IntKind.u64 0), (Go.Value.int Go.IntKind.i64 0), (Go.Value.int Go.IntKind.u64 0), (Go.Value.int Go.IntKind.i64 0), (Go.Value.int Go.IntKind.i64 0), (Go.Value.int Go.IntKind.u64 0), (Go.Value.int Go.IntKind.i64 0), (Go.Value.int Go.IntKind.u64 0), (Go.Value.bool Bool.false)] [(0, 1, (Go.Value.int Go.IntKind.i64 1)), (1, 5, x13), (6, 15, x17)]) fun x18 => S.bd (bx (Go.Value.agg #[(Go.Value.int Go.IntKind.i64 0), (Go.Value.int Go.IntKind.i64 0), (Go.Value.int Go.IntKind.i64 0), (Go.Value.int Go.IntKind.u64 0), (Go.Value.int Go.IntKind.i64 0), (Go.Value.int Go.IntKind.u64 0), (Go.Value.int Go.IntKind.i64 0), (Go.Value.int Go.IntKind.i64 0), (Go.Value.int Go.IntKind.u64 0), (Go.Value.int Go.IntKind.i64 0), (Go.Value.int Go.IntKind.i64 0), (Go.Value.int Go.IntKind.u64 0), (Go.Value.int Go.IntKind.i64 0), (Go.Value.int Go.IntKind.u64 0), (Go.Value.int Go.IntKind.i64 0), (Go.Value.int Go.IntKind.i64 0), (Go.Value.int Go.IntKind.u64 0), (Go.Value.int Go.IntKind.i64 0), (Go.Value.int Go.IntKind.u64 0), (Go.Value.int Go.IntKind.i64 0), (Go.Value.int Go.IntKind.i64 0), (Go.Value.int Go.IntKind.i64 0), (Go.Value.int Go.IntKind.u64 0), (Go.Value.slice Option.none 0 0), (Go.Value.slice Option.none 0 0), (Go.Value.int Go.IntKind.i64 0), (Go.Value.int Go.IntKind.i64 0), (Go.Value.int Go.IntKind.u64 0), (Go.Value.int Go.IntKind.i64 0), (Go.Value.int Go.IntKind.u64 0), (Go.Value.int Go.IntKind.i64 0), (Go.Value.int Go.IntKind.i64 0), (Go.Value.int Go.IntKind.u64 0), (Go.Value.int Go.IntKind.i64 0), (Go.Value.int Go.IntKind.u64 0), (Go.Value.bool Bool.false)])) fun c19 => S.bd (stl c19 0 36 x18) fun c20 => S.bd (nck a0) fun x21 => S.bd (fld 15 x21) fun x22 => S.bd (ldc s x22) fun x23 => S.cnd x23 (S.bd (nck a0) fun x24 => S.bd (fld 16 x24) fun x25 => S.bd (lda s 5 x25) fun x26 => S.bd (stl c20 1 5 x26) fun c27 => S.bd (lal c27 0 36) fun x28 => S.bd (stl c1 0 36 x28) fun c29 => S.bd (lal c29 0 36) fun x30 => some (x30)) (S.bd (lal c20 0 36) fun x31 => S.bd (stl c1 0 36 x31) fun c32 => S.bd (lal c32 0 36) fun x33 => some (x33))

def leapfrogref12x_Seek_Next.t (S : Sig) (a0 : Value) (s : St) : Option Value :=
  S.bd (bx (Go.Value.agg #[(Go.Value.int Go.IntKind.i64 0), (Go.Value.int Go.IntKind.i64 0), (Go.Value.int Go.IntKind.i64 0), (Go.Value.int Go.IntKind.u64 0), (Go.Value.int Go.IntKind.i64 0), (Go.Value.int Go.IntKind.u64 0), (Go.Value.int Go.IntKind.i64 0), (Go.Value.int Go.IntKind.i64 0), (Go.Value.int Go.IntKind.u64 0), (Go.Value.int Go.IntKind.i64 0), (Go.Value.int Go.IntKind.i64 0), (Go.Value.int Go.IntKind.u64 0), (Go.Value.int Go.IntKind.i64 0), (Go.Value.int Go.IntKind.u64 0), (Go.Value.int Go.IntKind.i64 0), (Go.Value.int Go.IntKind.i64 0), (Go.Value.int Go.IntKind.u64 0), (Go.Value.int Go.IntKind.i64 0), (Go.Value.int Go.IntKind.u64 0), (Go.Value.int Go.IntKind.i64 0), (Go.Value.int Go.IntKind.i64 0), (Go.Value.int Go.IntKind.i64 0), (Go.Value.int Go.IntKind.u64 0), (Go.Value.slice Option.none 0 0), (Go.Value.slice Option.none 0 0), (Go.Value.int Go.IntKind.i64 0), (Go.Value.int Go.IntKind.i64 0), (Go.Value.int Go.IntKind.u64 0), (Go.Value.int Go.IntKind.i64 0), (Go.Value.int Go.IntKind.u64 0), (Go.Value.int Go.IntKind.i64 0), (Go.Value.int Go.IntKind.i64 0), (Go.Value.int Go.IntKind.u64 0), (Go.Value.int Go.IntKind.i64 0), (Go.Value.int Go.IntKind.u64 0), (Go.Value.bool Bool.false)])) fun c1 => S.bd (nck a0) fun x2 => S.bd (fld 23 x2) fun x3 => S.bd (ldc s x3) fun x4 => S.cnd x4 (S.bd (nck a0) fun x5 => S.bd (fld 24 x5) fun x6 => S.bd (lda s 15 x6) fun x7 => S.bd (bld [(Go.Value.int Go.IntKind.i64 0), (Go.Value.int Go.IntKind.i64 0), (Go.Value.int Go.IntKind.i64 0), (Go.Value.int Go.IntKind.u64 0), (Go.Value.int Go.IntKind.i64 0), (Go.Value.int Go.IntKind.u64 0), (Go.Value.int Go.IntKind.i64 0), (Go.Value.int Go.IntKind.i64 0), (Go.Value.int Go.IntKind.u64 0), (Go.Value.int Go.IntKind.i64 0), (Go.Value.int Go.IntKind.i64 0), (Go.Value.int Go.IntKind.u64 0), (Go.Value.int Go.IntKind.i64 0), (Go.Value.int Go.IntKind.u64 0), (Go.Value.int Go.IntKind.i64 0), (Go.Value.int Go.IntKind.i64 0), (Go.Value.int Go.IntKind.u64 0), (Go.Value.int Go.IntKind.i64 0), (Go.Value.int Go.IntKind.u64 0), (Go.Value.int Go.IntKind.i64 0), (Go.Value.int Go.IntKind.i64 0), (Go.Value.int Go.IntKind.i64 0), (Go.Value.int Go.IntKind.u64 0), (Go.Value.slice Option.none 0 0), (Go.Value.slice Option.none 0 0), (Go.Value.int Go.IntKind.i64 0), (Go.Value.int Go.IntKind.i64 0), (Go.Value.int Go.IntKind.u64 0), (Go.Value.int Go.IntKind.i64 0), (Go.Value.int Go.IntKind.u64 0), (Go.Value.int Go.IntKind.i64 0), (Go.Value.int Go.IntKind.i64 0), (Go.Value.int Go.IntKind.u64 0), (Go.Value.int Go.IntKind.i64 0), (Go.Value.int Go.IntKind.u64 0), (Go.Value.bool Bool.false)] [(0, 1, (Go.Value.int Go.IntKind.i64 3)), (21, 15, x7)]) fun x8 => S.bd (stl c1 0 36 x8) fun c9 => S.bd (lal c9 0 36) fun x10 => some (x10)) (leapfrogref12x_Seek_Next.t.p1 S a0 s c1)
def leapfrogref12x_Seek_Next.r (a0 : Value) (s : St) : Option Value := leapfrogref12x_Seek_Next.t std a0 s
def leapfrogref12x_Seek_Next.w : List Value → St → Option Value
  | [a0], s => leapfrogref12x_Seek_Next.r a0 s
  | _, _ => none
def leapfrogref12x_Seek_Next.an : An := ⟨33, true, [2, 3], [], [], [(3, [(0, 0, [], []), (1, 0, [], []), (2, 0, [], []), (3, 2, [], []), (4, 0, [], []), (5, 0, [], []), (6, 0, [], []), (7, 2, [], []), (8, 0, [], []), (9, 0, [], []), (10, 6, [], []), (11, 29, [], [])])]⟩
theorem leapfrogref12x_Seek_Next.ok (S : Sig) (a0 : Value) (s : St) : evG S Try.prog leapfrogref12x_Seek_Next.ctx leapfrogref12x_Seek_Next.an Try.f29 [a0] s = leapfrogref12x_Seek_Next.t S a0 s := by kernel_rfl
theorem leapfrogref12x_Seek_Next.cok : CtxOk Try.prog leapfrogref12x_Seek_Next.ctx := .nil
theorem leapfrogref12x_Seek_Next.draws : fnDraws leapfrogref12x_Seek_Next.an Try.f29 = true := by kernel_rfl
theorem leapfrogref12x_Seek_Next.can : callOk Try.prog 29 = true := by kernel_rfl
theorem leapfrogref12x_Seek_Next.sound : FnOk Try.prog 29 (.rd leapfrogref12x_Seek_Next.w) := FnOk.rd_of (evG_ok leapfrogref12x_Seek_Next.cok mixed (f := 29) (fn := Try.f29) (by kernel_rfl) leapfrogref12x_Seek_Next.draws) fun args s r h => by
  unfold leapfrogref12x_Seek_Next.w at h; split at h
  · rw [leapfrogref12x_Seek_Next.ok std]; exact h
  · simp at h

/-! ### (*leapfrog/leapfrogref16.Remove).Next: function 11 -/
def leapfrogref16x_Remove_Next.ctx : Ctx := [(28, .rd leapfrogref14x_Unsplice_Next.w), (29, .rd leapfrogref12x_Seek_Next.w)]
def leapfrogref16x_Remove_Next.t.p1 (S : Sig) (a0 : Value) (s : St) (c1 : List Value) : Option Value :=
  S.bd (nck a0) fun x5 => S.bd (fld 19 x5) fun x6 => S.bd (ldc s x6) fun x7 => S.bd (bld [(Go.Value.int Go.IntKind.i64 0), (Go.Value.int Go.IntKind.u64 0), (Go.Value.slice Option.none 0 0), (Go.Value.slice Option.none 0 0), (Go.Value.int Go.IntKind.i64 0), (Go.Value.int Go.IntKind.i64 0), (Go.Value.int Go.IntKind.u64 0), (Go.Value.int Go.IntKind.i64 0), (Go.Value.int Go.IntKind.u64 0), (Go.Value.int Go.IntKind.i64 0), (Go.Value.int Go.IntKind.i64 0), (Go.Value.int Go.IntKind.u64 0), (Go.Value.int Go.IntKind.i64 0), (Go.Value.int Go.IntKind.u64 0), (Go.Value.bool Bool.false)] [(0, 1, x7)]) fun x8 => S.bd (bld [(Go.Value.int Go.IntKind.i64 0), (Go.Value.int Go.IntKind.i64 0), (Go.Value.int Go.IntKind.i64 0), (Go.Value.int Go.IntKind.u64 0), (Go.Value.int Go.IntKind.i64 0), (Go.Value.int Go.IntKind.u64 0), (Go.Value.int Go.IntKind.i64 0), (Go.Value.int Go.IntKind.i64 0), (Go.Value.int Go.IntKind.u64 0), (Go.Value.int Go.IntKind.i64 0), (Go.Value.int Go.IntKind.i64 0), (Go.Value.int Go.IntKind.u64 0), (Go.Value.int Go.IntKind.i64 0), (Go.Value.int Go.IntKind.u64 0), (Go.Value.int Go.IntKind.i64 0), (Go.Value.int Go.IntKind.i64 0), (Go.Value.int Go.IntKind.u64 0), (Go.Value.int Go.IntKind.i64 0), (Go.Value.int Go.IntKind.u64 0), (Go.Value.int Go.IntKind.i64 0), (Go.Value.int Go.IntKind.i64 0), (Go.Value.int Go.IntKind.i64 0), (Go.Value.int Go.IntKind.u64 0), (Go.Value.slice Option.none 0 0), (Go.Value.slice Option.none 0 0), (Go.Value.int Go.IntKind.i64 0), (Go.Value.int Go.IntKind.i64 0), (Go.Value.int Go.IntKind.u64 0), (Go.Value.int Go.IntKind.i64 0), (Go.Value.int Go.IntKind.u64 0), (Go.Value.int Go.IntKind.i64 0), (Go.Value.int Go.IntKind.i64 0), (Go.Value.int Go.IntKind.u64 0), (Go.Value.int Go.IntKind.i64 0), (Go.Value.int Go.IntKind.u64 0), (Go.Value.bool Bool.false)] [(0, 1, (Go.Value.int Go.IntKind.i64 3)), (21, 15, x8)]) fun x9 => S.bd (stl c1 0 36 x9) fun c10 => S.bd (lal c10 0 36) fun x11 => some (x11)

def leapfrogref16x_Remove_Next.t.p2 (S : Sig) (a0 : Value) (s : St) (c1 : List Value) : Option Value :=
  S.bd (nck a0) fun x15 => S.bd (fld 10 x15) fun x16 => S.bd (lda s 5 x16) fun x17 => S.bd (bld [(Go.Value.int Go.IntKind.i64 0), (Go.Value.int Go.IntKind.i64 0), (Go.Value.int Go.IntKind.u64 0), (Go.Value.int Go.IntKind.i64 0), (Go.Value.int Go.IntKind.i64 0), (Go.Value.int Go.IntKind.u64 0), (Go.Value.int Go.IntKind.i64 0), (Go.Value.int Go.IntKind.u64 0), (Go.Value.int Go.IntKind.i64 0), (Go.Value.int Go.IntKind.i64 0), (Go.Value.int Go.IntKind.u64 0), (Go.Value.int Go.IntKind.i64 0), (Go.Value.int Go.IntKind.u64 0), (Go.Value.int Go.IntKind.i64 0), (Go.Value.int Go.IntKind.i64 0)] [(0, 1, (Go.Value.int Go.IntKind.i64 9))]) fun x18 => S.bd (bld [(Go.Value.int Go.IntKind.i64 0), (Go.Value.int Go.IntKind.i64 0), (Go.Value.int Go.IntKind.i64 0), (Go.Value.int Go.IntKind.u64 0), (Go.Value.int Go.IntKind.i64 0), (Go.Value.int Go.IntKind.u64 0), (Go.Value.int Go.IntKind.i64 0), (Go.Value.int Go.IntKind.i64 0), (Go.Value.int Go.IntKind.u64 0), (Go.Value.int Go.IntKind.i64 0), (Go.Value.int Go.IntKind.i64 0), (Go.Value.int Go.IntKind.u64 0), (Go.Value.int Go.IntKind.i64 0), (Go.Value.int Go.IntKind.u64 0), (Go.Value.int Go.IntKind.i64 0), (Go.Value.int Go.IntKind.i64 0), (Go.Value.int Go.IntKind.u64 0), (Go.Value.int Go.IntKind.i64 0), (Go.Value.int Go.IntKind.u64 0), (Go.Value.int Go.IntKind.i64 0), (Go.Value.int Go.IntKind.i64 0), (Go.Value.int Go.IntKind.i64 0), (Go.Value.int Go.IntKind.u64 0), (Go.Value.slice Option.none 0 0), (Go.Value.slice Option.none 0 0), (Go.Value.int Go.IntKind.i64 0), (Go.Value.int Go.IntKind.i64 0), (Go.Value.int Go.IntKind.u64 0), (Go.Value.int Go.IntKind.i64 0), (Go.Value.int Go.IntKind.u64 0), (Go.Value.int Go.IntKind.i64 0), (Go.Value.int Go.IntKind.i64 0), (Go.Value.int Go.IntKind.u64 0), (Go.Value.int Go.IntKind.i64 0), (Go.Value.int Go.IntKind.u64 0), (Go.Value.bool Bool.false)] [(0, 1, (Go.Value.int Go.IntKind.i64 1)), (1, 5, x17), (6, 15, x18)]) fun x19 => S.bd (stl c1 0 36 x19) fun c20 => S.bd (lal c20 0 36) fun x21 => some (x21)

def leapfrogref16x_Remove_Next.t (S : Sig) (a0 : Value) (s : St) : Option Value :=
  S.bd (bx (Go.Value.agg #[(Go.Value.int Go.IntKind.i64 0), (Go.Value.int Go.IntKind.i64 0), (Go.Value.int Go.IntKind.i64 0), (Go.Value.int Go.IntKind.u64 0), (Go.Value.int Go.IntKind.i64 0), (Go.Value.int Go.IntKind.u64 0), (Go.Value.int Go.IntKind.i64 0), (Go.Value.int Go.IntKind.i64 0), (Go.Value.int Go.IntKind.u64 0), (Go.Value.int Go.IntKind.i64 0), (Go.Value.int Go.IntKind.i64 0), (Go.Value.int Go.IntKind.u64 0), (Go.Value.int Go.IntKind.i64 0), (Go.Value.int Go.IntKind.u64 0), (Go.Value.int Go.IntKind.i64 0), (Go.Value.int Go.IntKind.i64 0), (Go.Value.int Go.IntKind.u64 0), (Go.Value.int Go.IntKind.i64 0), (Go.Value.int Go.IntKind.u64 0), (Go.Value.int Go.IntKind.i64 0), (Go.Value.int Go.IntKind.i64 0), (Go.Value.int Go.IntKind.i64 0), (Go.Value.int Go.IntKind.u64 0), (Go.Value.slice Option.none 0 0), (Go.Value.slice Option.none 0 0), (Go.Value.int Go.IntKind.i64 0), (Go.Value.int Go.IntKind.i64 0), (Go.Value.int Go.IntKind.u64 0), (Go.Value.int Go.IntKind.i64 0), (Go.Value.int Go.IntKind.u64 0), (Go.Value.int Go.IntKind.i64 0), (Go.Value.int Go.IntKind.i64 0), (Go.Value.int Go.IntKind.u64 0), (Go.Value.int Go.IntKind.i64 0), (Go.Value.int Go.IntKind.u64 0), (Go.Value.bool Bool.false)])) fun c1 => S.bd (nck a0) fun x2 => S.bd (fld 18 x2) fun x3 => S.bd (ldc s x3) fun x4 => S.cnd x4 (leapfrogref16x_Remove_Next.t.p1 S a0 s c1) (S.bd (nck a0) fun x12 => S.bd (fld 15 x12) fun x13 => S.bd (ldc s x13) fun x14 => S.cnd x14 (leapfrogref16x_Remove_Next.t.p2 S a0 s c1) (S.bd (nck a0) fun x22 => S.bd (fld 17 x22) fun x23 => S.bd (ldc s x23) fun x24 => S.bd (eqb [3] false true x24 (Go.Value.pointer Option.none)) fun x25 => S.cnd x25 (S.bd (nck a0) fun x26 => S.bd (fld 17 x26) fun x27 => S.bd (ldc s x27) fun x28 => S.bd (leapfrogref14x_Unsplice_Next.r x28 s) fun x29 => S.bd (stl c1 0 36 x29) fun c30 => S.bd (lal c30 0 36) fun x31 => some (x31)) (S.bd (nck a0) fun x32 => S.bd (fld 9 x32) fun x33 => S.bd (ldc s x33) fun x34 => S.bd (leapfrogref12x_Seek_Next.r x34 s) fun x35 => S.bd (stl c1 0 36 x35) fun c36 => S.bd (lal c36 0 36) fun x37 => some (x37))))
def leapfrogref16x_Remove_Next.r (a0 : Value) (s : St) : Option Value := leapfrogref16x_Remove_Next.t std a0 s
def leapfrogref16x_Remove_Next.w : List Value → St → Option Value
  | [a0], s => leapfrogref16x_Remove_Next.r a0 s
  | _, _ => none
def leapfrogref16x_Remove_Next.an : An := ⟨41, true, [2], [], [], []⟩
theorem leapfrogref16x_Remove_Next.ok (S : Sig) (a0 : Value) (s : St) : evG S Try.prog leapfrogref16x_Remove_Next.ctx leapfrogref16x_Remove_Next.an Try.f11 [a0] s = leapfrogref16x_Remove_Next.t S a0 s := by kernel_rfl
theorem leapfrogref16x_Remove_Next.cok : CtxOk Try.prog leapfrogref16x_Remove_Next.ctx := .cons leapfrogref14x_Unsplice_Next.sound leapfrogref14x_Unsplice_Next.can <| .cons leapfrogref12x_Seek_Next.sound leapfrogref12x_Seek_Next.can <| .nil
theorem leapfrogref16x_Remove_Next.draws : fnDraws leapfrogref16x_Remove_Next.an Try.f11 = true := by kernel_rfl
theorem leapfrogref16x_Remove_Next.can : callOk Try.prog 11 = true := by kernel_rfl
theorem leapfrogref16x_Remove_Next.sound : FnOk Try.prog 11 (.rd leapfrogref16x_Remove_Next.w) := FnOk.rd_of (evG_ok leapfrogref16x_Remove_Next.cok mixed (f := 11) (fn := Try.f11) (by kernel_rfl) leapfrogref16x_Remove_Next.draws) fun args s r h => by
  unfold leapfrogref16x_Remove_Next.w at h; split at h
  · rw [leapfrogref16x_Remove_Next.ok std]; exact h
  · simp at h

/-! ### (*leapfrog/leapfrogref16.Remove).end: function 33 -/
def leapfrogref16x_Remove_end.ctx : Ctx := []
def leapfrogref16x_Remove_end.t (S : Sig) (a0 a1 : Value) (s : St) : Option (Value × St) :=
  S.bd (nck a0) fun x1 => S.bd (fld 18 x1) fun x2 => S.bd (stv s 1 x2 (Go.Value.bool Bool.true)) fun s3 => S.bd (nck a0) fun x4 => S.bd (fld 19 x4) fun x5 => S.bd (stv s3 1 x5 a1) fun s6 => some ((Value.tuple ⟨[]⟩), s6)
def leapfrogref16x_Remove_end.v (a0 a1 : Value) (s : St) : Option (Value × St) := leapfrogref16x_Remove_end.t std a0 a1 s
def leapfrogref16x_Remove_end.w : List Value → St → Option (Value × St)
  | [a0, a1], s => leapfrogref16x_Remove_end.v a0 a1 s
  | _, _ => none
def leapfrogref16x_Remove_end.an : An := ⟨11, false, [], [], [], []⟩
theorem leapfrogref16x_Remove_end.ok (S : Sig) (a0 a1 : Value) (s : St) : evF S Try.prog leapfrogref16x_Remove_end.ctx leapfrogref16x_Remove_end.an Try.f33 [a0, a1] s = leapfrogref16x_Remove_end.t S a0 a1 s := by kernel_rfl
theorem leapfrogref16x_Remove_end.cok : CtxOk Try.prog leapfrogref16x_Remove_end.ctx := .nil
theorem leapfrogref16x_Remove_end.draws : fnDraws leapfrogref16x_Remove_end.an Try.f33 = true := by kernel_rfl
theorem leapfrogref16x_Remove_end.can : callOk Try.prog 33 = true := by kernel_rfl
theorem leapfrogref16x_Remove_end.sound : FnOk Try.prog 33 (.st leapfrogref16x_Remove_end.w) := FnOk.st_of (evF_ok leapfrogref16x_Remove_end.cok mixed (f := 33) (fn := Try.f33) (by kernel_rfl) leapfrogref16x_Remove_end.draws) fun args s r h => by
  unfold leapfrogref16x_Remove_end.w at h; split at h
  · rw [leapfrogref16x_Remove_end.ok std]; exact h
  · simp at h

/-! ### leapfrog/leapfrogref01.Power: function 70 -/
def leapfrogref01x_Power.ctx : Ctx := []
def leapfrogref01x_Power.l2 (S : Sig) (rec6 : List Value → St → Option Cut) (xs4 : List Value) (s5 : St) : Option Cut :=
  S.bd (bin .gtr (xs4.getD 0 undef) (Go.Value.int Go.IntKind.i64 0)) fun x7 => S.cnd x7 (S.bd (bin .mul (xs4.getD 1 undef) (Go.Value.int Go.IntKind.u64 2)) fun x8 => S.bd (bin .sub (xs4.getD 0 undef) (Go.Value.int Go.IntKind.i64 1)) fun x9 => rec6 [x9, x8] s5) (some (0, [(xs4.getD 1 undef)], s5))

def leapfrogref01x_Power.t (S : Sig) (a0 : Value) (s : St) : Option Value :=
  S.bd (S.it (leapfrogref01x_Power.l2 S) [a0, (Go.Value.int Go.IntKind.u64 1)] s) fun r10 => some ((r10.2.1.getD 0 undef))
def leapfrogref01x_Power.r (a0 : Value) (s : St) : Option Value := leapfrogref01x_Power.t std a0 s
def leapfrogref01x_Power.w : List Value → St → Option Value
  | [a0], s => leapfrogref01x_Power.r a0 s
  | _, _ => none
def leapfrogref01x_Power.an : An := ⟨11, true, [], [(2, ⟨[.v 0, .v 3], [(.exit 0, [.v 3])]⟩)], [], []⟩
theorem leapfrogref01x_Power.ok (S : Sig) (a0 : Value) (s : St) : evG S Try.prog leapfrogref01x_Power.ctx leapfrogref01x_Power.an Try.f70 [a0] s = leapfrogref01x_Power.t S a0 s := by kernel_rfl
theorem leapfrogref01x_Power.cok : CtxOk Try.prog leapfrogref01x_Power.ctx := .nil
theorem leapfrogref01x_Power.draws : fnDraws leapfrogref01x_Power.an Try.f70 = true := by kernel_rfl
theorem leapfrogref01x_Power.can : callOk Try.prog 70 = true := by kernel_rfl
theorem leapfrogref01x_Power.sound : FnOk Try.prog 70 (.rd leapfrogref01x_Power.w) := FnOk.rd_of (evG_ok leapfrogref01x_Power.cok mixed (f := 70) (fn := Try.f70) (by kernel_rfl) leapfrogref01x_Power.draws) fun args s r h => by
  unfold leapfrogref01x_Power.w at h; split at h
  · rw [leapfrogref01x_Power.ok std]; exact h
  · simp at h

/-! ### leapfrog/leapfrogref01.Right: function 58 -/
def leapfrogref01x_Right.ctx : Ctx := [(70, .rd leapfrogref01x_Power.w)]
def leapfrogref01x_Right.t (S : Sig) (a0 : Value) (s : St) : Option Value :=
  S.bd (bx a0) fun c1 => S.bd (lcl c1 0) fun x2 => S.bd (bin .geq x2 (Go.Value.int Go.IntKind.i64 0)) fun x3 => S.bd (S.gd x3 true (lcl c1 0)) fun x4 => S.bd (S.gd x3 true (bin .leq x4 (Go.Value.int Go.IntKind.i64 32))) fun x5 => S.bd (pik x3 x5 (Go.Value.bool Bool.false)) fun x6 => S.bd (S.gd x6 true (lcl c1 1)) fun x7 => S.bd (S.gd x6 true (lcl c1 0)) fun x8 => S.bd (S.gd x6 true (leapfrogref01x_Power.r x8 s)) fun x9 => S.bd (S.gd x6 true (bin .lss x7 x9)) fun x10 => S.bd (pik x6 x10 (Go.Value.bool Bool.false)) fun x11 => some (x11)
def leapfrogref01x_Right.r (a0 : Value) (s : St) : Option Value := leapfrogref01x_Right.t std a0 s
def leapfrogref01x_Right.w : List Value → St → Option Value
  | [a0], s => leapfrogref01x_Right.r a0 s
  | _, _ => none
def leapfrogref01x_Right.an : An := ⟨19, true, [1], [], [], [(1, [(0, 0, [], []), (1, 9, [], []), (2, 0, [], []), (3, 0, [], []), (4, 0, [], []), (5, 9, [], []), (6, 0, [], []), (7, 0, [], []), (8, 0, [], []), (9, 0, [], []), (10, 9, [], []), (11, 0, [], []), (12, 9, [], []), (13, 3, [], []), (14, 0, [], []), (15, 0, [], []), (16, 0, [], [])])]⟩
theorem leapfrogref01x_Right.ok (S : Sig) (a0 : Value) (s : St) : evG S Try.prog leapfrogref01x_Right.ctx leapfrogref01x_Right.an Try.f58 [a0] s = leapfrogref01x_Right.t S a0 s := by kernel_rfl
theorem leapfrogref01x_Right.cok : CtxOk Try.prog leapfrogref01x_Right.ctx := .cons leapfrogref01x_Power.sound leapfrogref01x_Power.can <| .nil
theorem leapfrogref01x_Right.draws : fnDraws leapfrogref01x_Right.an Try.f58 = true := by kernel_rfl
theorem leapfrogref01x_Right.can : callOk Try.prog 58 = true := by kernel_rfl
theorem leapfrogref01x_Right.sound : FnOk Try.prog 58 (.rd leapfrogref01x_Right.w) := FnOk.rd_of (evG_ok leapfrogref01x_Right.cok mixed (f := 58) (fn := Try.f58) (by kernel_rfl) leapfrogref01x_Right.draws) fun args s r h => by
  unfold leapfrogref01x_Right.w at h; split at h
  · rw [leapfrogref01x_Right.ok std]; exact h
  · simp at h

/-! ### leapfrog/leapfrogref01.Bits: function 64 -/
def leapfrogref01x_Bits.ctx : Ctx := []
def leapfrogref01x_Bits.l4 (S : Sig) (rec16 : List Value → St → Option Cut) (xs14 : List Value) (s15 : St) : Option Cut :=
  S.bd (bin .geq (xs14.getD 2 undef) (Go.Value.int Go.IntKind.i64 0)) fun x17 => S.cnd x17 (S.bd (bin .rem (xs14.getD 1 undef) (Go.Value.int Go.IntKind.u64 2)) fun x18 => S.bd (cvi .i64 x18) fun x19 => S.bd (idx s15 1 (xs14.getD 0 undef) (xs14.getD 2 undef)) fun x20 => S.bd (stv s15 1 x20 x19) fun s21 => S.bd (bin .quo (xs14.getD 1 undef) (Go.Value.int Go.IntKind.u64 2)) fun x22 => S.bd (bin .sub (xs14.getD 2 undef) (Go.Value.int Go.IntKind.i64 1)) fun x23 => rec16 [(xs14.getD 0 undef), x22, x23] s21) (some (0, [(xs14.getD 0 undef)], s15))

def leapfrogref01x_Bits.t (S : Sig) (a0 : Value) (s : St) : Option (Value × St) :=
  S.bd (bx a0) fun c1 => S.bd (lcl c1 0) fun x2 => S.bd (mks s 1 8 [(Go.Value.int Go.IntKind.i64 0)] x2 x2) fun r3 => S.bd (lcl c1 1) fun x4 => S.bd (lcl c1 0) fun x5 => S.bd (bin .sub x5 (Go.Value.int Go.IntKind.i64 1)) fun x6 => S.bd (S.it (leapfrogref01x_Bits.l4 S) [r3.1, x4, x6] r3.2) fun r24 => some ((r24.2.1.getD 0 undef), r24.2.2)
def leapfrogref01x_Bits.v (a0 : Value) (s : St) : Option (Value × St) := leapfrogref01x_Bits.t std a0 s
def leapfrogref01x_Bits.w : List Value → St → Option (Value × St)
  | [a0], s => leapfrogref01x_Bits.v a0 s
  | _, _ => none
def leapfrogref01x_Bits.an : An := ⟨27, false, [1], [(4, ⟨[.v 3, .v 4, .v 5], [(.exit 0, [.v 3])]⟩)], [], []⟩
theorem leapfrogref01x_Bits.ok (S : Sig) (a0 : Value) (s : St) : evF S Try.prog leapfrogref01x_Bits.ctx leapfrogref01x_Bits.an Try.f64 [a0] s = leapfrogref01x_Bits.t S a0 s := by kernel_rfl
theorem leapfrogref01x_Bits.cok : CtxOk Try.prog leapfrogref01x_Bits.ctx := .nil
theorem leapfrogref01x_Bits.draws : fnDraws leapfrogref01x_Bits.an Try.f64 = true := by kernel_rfl
theorem leapfrogref01x_Bits.can : callOk Try.prog 64 = true := by kernel_rfl
theorem leapfrogref01x_Bits.sound : FnOk Try.prog 64 (.st leapfrogref01x_Bits.w) := FnOk.st_of (evF_ok leapfrogref01x_Bits.cok mixed (f := 64) (fn := Try.f64) (by kernel_rfl) leapfrogref01x_Bits.draws) fun args s r h => by
  unfold leapfrogref01x_Bits.w at h; split at h
  · rw [leapfrogref01x_Bits.ok std]; exact h
  · simp at h

/-! ### leapfrog/leapfrogref01.common: function 71 -/
def leapfrogref01x_common.ctx : Ctx := []
def leapfrogref01x_common.l2 (S : Sig) (rec21 : List Value → St → Option Cut) (xs19 : List Value) (s20 : St) : Option Cut :=
  S.bd (lenL (xs19.getD 0 undef)) fun x22 => S.bd (bin .lss (xs19.getD 2 undef) x22) fun x23 => S.bd (S.gd x23 true (some (xs19.getD 2 undef))) fun x24 => S.bd (S.gd x23 true (some (xs19.getD 1 undef))) fun x25 => S.bd (S.gd x23 true (lenL x25)) fun x26 => S.bd (S.gd x23 true (bin .lss x24 x26)) fun x27 => S.bd (pik x23 x27 (Go.Value.bool Bool.false)) fun x28 => S.bd (S.gd x28 true (some (xs19.getD 0 undef))) fun x29 => S.bd (S.gd x28 true (some (xs19.getD 2 undef))) fun x30 => S.bd (S.gd x28 true (idx s20 1 x29 x30)) fun x31 => S.bd (S.gd x28 true (ldc s20 x31)) fun x32 => S.bd (S.gd x28 true (some (xs19.getD 1 undef))) fun x33 => S.bd (S.gd x28 true (some (xs19.getD 2 undef))) fun x34 => S.bd (S.gd x28 true (idx s20 1 x33 x34)) fun x35 => S.bd (S.gd x28 true (ldc s20 x35)) fun x36 => S.bd (S.gd x28 true (eqb [1] false false x32 x36)) fun x37 => S.bd (pik x28 x37 (Go.Value.bool Bool.false)) fun x38 => S.cnd x38 (S.bd (bin .add (xs19.getD 2 undef) (Go.Value.int Go.IntKind.i64 1)) fun x39 => rec21 [(xs19.getD 0 undef), (xs19.getD 1 undef), x39] s20) (some (0, [(xs19.getD 2 undef)], s20))

def leapfrogref01x_common.t (S : Sig) (a0 a1 : Value) (s : St) : Option Value :=
  S.bd (S.it (leapfrogref01x_common.l2 S) [a0, a1, (Go.Value.int Go.IntKind.i64 0)] s) fun r40 => some ((r40.2.1.getD 0 undef))
def leapfrogref01x_common.r (a0 a1 : Value) (s : St) : Option Value := leapfrogref01x_common.t std a0 a1 s
def leapfrogref01x_common.w : List Value → St → Option Value
  | [a0, a1], s => leapfrogref01x_common.r a0 a1 s
  | _, _ => none
def leapfrogref01x_common.an : An := ⟨30, true, [], [(2, ⟨[.v 0, .v 1, .v 5], [(.exit 0, [.v 5])]⟩)], [], [(2, [(0, 0, [], []), (1, 0, [], []), (2, 2, [], []), (3, 0, [], []), (4, 0, [], []), (5, 0, [], []), (6, 0, [], []), (7, 2, [], []), (8, 0, [], []), (9, 0, [], []), (10, 0, [], []), (11, 0, [], []), (12, 0, [], []), (13, 2, [], []), (14, 2, [], []), (15, 0, [], []), (16, 0, [], []), (17, 2, [], []), (18, 2, [], []), (19, 0, [], []), (20, 0, [], [])])]⟩
theorem leapfrogref01x_common.ok (S : Sig) (a0 a1 : Value) (s : St) : evG S Try.prog leapfrogref01x_common.ctx leapfrogref01x_common.an Try.f71 [a0, a1] s = leapfrogref01x_common.t S a0 a1 s := by kernel_rfl
theorem leapfrogref01x_common.cok : CtxOk Try.prog leapfrogref01x_common.ctx := .nil
theorem leapfrogref01x_common.draws : fnDraws leapfrogref01x_common.an Try.f71 = true := by kernel_rfl
theorem leapfrogref01x_common.can : callOk Try.prog 71 = true := by kernel_rfl
theorem leapfrogref01x_common.sound : FnOk Try.prog 71 (.rd leapfrogref01x_common.w) := FnOk.rd_of (evG_ok leapfrogref01x_common.cok mixed (f := 71) (fn := Try.f71) (by kernel_rfl) leapfrogref01x_common.draws) fun args s r h => by
  unfold leapfrogref01x_common.w at h; split at h
  · rw [leapfrogref01x_common.ok std]; exact h
  · simp at h

/-! ### leapfrog/leapfrogref01.Begins: function 62 -/
def leapfrogref01x_Begins.ctx : Ctx := [(58, .rd leapfrogref01x_Right.w), (64, .st leapfrogref01x_Bits.w), (71, .rd leapfrogref01x_common.w)]
def leapfrogref01x_Begins.t (S : Sig) (a0 a1 : Value) (s : St) : Option (Value × St) :=
  S.bd (bx a0) fun c1 => S.bd (bx a1) fun c2 => S.bd (lal c1 0 2) fun x3 => S.bd (leapfrogref01x_Right.r x3 s) fun x4 => S.bd (S.gd x4 true (lal c2 0 2)) fun x5 => S.bd (S.gd x4 true (leapfrogref01x_Right.r x5 s)) fun x6 => S.bd (pik x4 x6 (Go.Value.bool Bool.false)) fun x7 => S.bd (S.gd x7 true (lal c1 0 2)) fun x8 => S.bd (S.gd x7 true (lal c2 0 2)) fun x9 => S.bd (S.gd x7 true (lcl c2 0)) fun x10 => S.bd (S.gdS x7 true (leapfrogref01x_Bits.v x8 s) s) fun r11 => S.bd (S.gdS x7 true (leapfrogref01x_Bits.v x9 r11.2) r11.2) fun r12 => S.bd (S.gd x7 true (leapfrogref01x_common.r r11.1 r12.1 r12.2)) fun x13 => S.bd (S.gd x7 true (eqb [1] false false x13 x10)) fun x14 => S.bd (pik x7 x14 (Go.Value.bool Bool.false)) fun x15 => some (x15, r12.2)
def leapfrogref01x_Begins.v (a0 a1 : Value) (s : St) : Option (Value × St) := leapfrogref01x_Begins.t std a0 a1 s
def leapfrogref01x_Begins.w : List Value → St → Option (Value × St)
  | [a0, a1], s => leapfrogref01x_Begins.v a0 a1 s
  | _, _ => none
def leapfrogref01x_Begins.an : An := ⟨21, false, [2, 3], [], [], [(1, [(0, 17, [], []), (1, 3, [], []), (2, 0, [], []), (3, 25, [], []), (4, 3, [], []), (5, 0, [], []), (6, 0, [], []), (7, 17, [], []), (9, 25, [], []), (12, 0, [], []), (13, 25, [], []), (8, 4, [], []), (10, 4, [], []), (11, 3, [], []), (14, 0, [], []), (15, 0, [], []), (16, 0, [], [])])]⟩
theorem leapfrogref01x_Begins.ok (S : Sig) (a0 a1 : Value) (s : St) : evF S Try.prog leapfrogref01x_Begins.ctx leapfrogref01x_Begins.an Try.f62 [a0, a1] s = leapfrogref01x_Begins.t S a0 a1 s := by kernel_rfl
theorem leapfrogref01x_Begins.cok : CtxOk Try.prog leapfrogref01x_Begins.ctx := .cons leapfrogref01x_Right.sound leapfrogref01x_Right.can <| .cons leapfrogref01x_Bits.sound leapfrogref01x_Bits.can <| .cons leapfrogref01x_common.sound leapfrogref01x_common.can <| .nil
theorem leapfrogref01x_Begins.draws : fnDraws leapfrogref01x_Begins.an Try.f62 = true := by kernel_rfl
theorem leapfrogref01x_Begins.can : callOk Try.prog 62 = true := by kernel_rfl
theorem leapfrogref01x_Begins.sound : FnOk Try.prog 62 (.st leapfrogref01x_Begins.w) := FnOk.st_of (evF_ok leapfrogref01x_Begins.cok mixed (f := 62) (fn := Try.f62) (by kernel_rfl) leapfrogref01x_Begins.draws) fun args s r h => by
  unfold leapfrogref01x_Begins.w at h; split at h
  · rw [leapfrogref01x_Begins.ok std]; exact h
  · simp at h

/-! ### leapfrog/leapfrogref01.Begins: function 62, as a reading -/
def leapfrogref01x_BeginsQ.r (a0 a1 : Value) (s : St) : Option Value := frzR (fun s => leapfrogref01x_Begins.v a0 a1 s) s
def leapfrogref01x_BeginsQ.w : List Value → St → Option Value := fun args s => frzR (leapfrogref01x_Begins.w args) s
theorem leapfrogref01x_BeginsQ.can : callOk Try.prog 62 = true := leapfrogref01x_Begins.can
theorem leapfrogref01x_BeginsQ.sound : FnOk Try.prog 62 (.rd leapfrogref01x_BeginsQ.w) := FnOk.frozen leapfrogref01x_Begins.sound

/-! ### leapfrog/leapfrogref07.IsOwner: function 25 -/
def leapfrogref07x_IsOwner.ctx : Ctx := []
def leapfrogref07x_IsOwner.t (S : Sig) (a0 : Value) (s : St) : Option Value :=
  S.bd (bx a0) fun c1 => S.bd (lcl c1 0) fun x2 => S.bd (bin .geq x2 (Go.Value.int Go.IntKind.i64 0)) fun x3 => S.bd (S.gd x3 true (lcl c1 0)) fun x4 => S.bd (S.gd x3 true (bin .lss x4 (Go.Value.int Go.IntKind.i64 1024))) fun x5 => S.bd (pik x3 x5 (Go.Value.bool Bool.false)) fun x6 => S.bd (S.gd x6 true (lcl c1 1)) fun x7 => S.bd (S.gd x6 true (bin .geq x7 (Go.Value.int Go.IntKind.i64 1))) fun x8 => S.bd (pik x6 x8 (Go.Value.bool Bool.false)) fun x9 => S.bd (S.gd x9 true (lcl c1 1)) fun x10 => S.bd (S.gd x9 true (bin .leq x10 (Go.Value.int Go.IntKind.i64 1073741824))) fun x11 => S.bd (pik x9 x11 (Go.Value.bool Bool.false)) fun x12 => some (x12)
def leapfrogref07x_IsOwner.r (a0 : Value) (s : St) : Option Value := leapfrogref07x_IsOwner.t std a0 s
def leapfrogref07x_IsOwner.w : List Value → St → Option Value
  | [a0], s => leapfrogref07x_IsOwner.r a0 s
  | _, _ => none
def leapfrogref07x_IsOwner.an : An := ⟨21, true, [1], [], [], []⟩
theorem leapfrogref07x_IsOwner.ok (S : Sig) (a0 : Value) (s : St) : evG S Try.prog leapfrogref07x_IsOwner.ctx leapfrogref07x_IsOwner.an Try.f25 [a0] s = leapfrogref07x_IsOwner.t S a0 s := by kernel_rfl
theorem leapfrogref07x_IsOwner.cok : CtxOk Try.prog leapfrogref07x_IsOwner.ctx := .nil
theorem leapfrogref07x_IsOwner.draws : fnDraws leapfrogref07x_IsOwner.an Try.f25 = true := by kernel_rfl
theorem leapfrogref07x_IsOwner.can : callOk Try.prog 25 = true := by kernel_rfl
theorem leapfrogref07x_IsOwner.sound : FnOk Try.prog 25 (.rd leapfrogref07x_IsOwner.w) := FnOk.rd_of (evG_ok leapfrogref07x_IsOwner.cok mixed (f := 25) (fn := Try.f25) (by kernel_rfl) leapfrogref07x_IsOwner.draws) fun args s r h => by
  unfold leapfrogref07x_IsOwner.w at h; split at h
  · rw [leapfrogref07x_IsOwner.ok std]; exact h
  · simp at h

/-! ### leapfrog/leapfrogref14.New: function 47 -/
def leapfrogref14x_New.ctx : Ctx := [(58, .rd leapfrogref01x_Right.w), (62, .rd leapfrogref01x_BeginsQ.w), (25, .rd leapfrogref07x_IsOwner.w)]
def leapfrogref14x_New.t (S : Sig) (a0 : Value) (s : St) : Option (Value × St) :=
  S.bd (bx a0) fun c1 => S.bd (lcl c1 3) fun x2 => S.bd (eqb [1] false true x2 (Go.Value.int Go.IntKind.i64 2)) fun x3 => S.bd (S.gd x3 false (lal c1 5 2)) fun x4 => S.bd (S.gd x3 false (leapfrogref01x_Right.r x4 s)) fun x5 => S.bd (S.gd x3 false (un .not x5)) fun x6 => S.bd (pik x3 (Go.Value.bool Bool.true) x6) fun x7 => S.bd (S.gd x7 false (lal c1 5 2)) fun x8 => S.bd (S.gd x7 false (lal c1 0 2)) fun x9 => S.bd (S.gd x7 false (leapfrogref01x_BeginsQ.r x8 x9 s)) fun x10 => S.bd (S.gd x7 false (un .not x10)) fun x11 => S.bd (pik x7 (Go.Value.bool Bool.true) x11) fun x12 => S.bd (S.gd x12 false (lal c1 7 2)) fun x13 => S.bd (S.gd x12 false (leapfrogref07x_IsOwner.r x13 s)) fun x14 => S.bd (S.gd x12 false (un .not x14)) fun x15 => S.bd (pik x12 (Go.Value.bool Bool.true) x15) fun x16 => S.cnd x16 (some ((Value.tuple ⟨[(Go.Value.pointer Option.none), (Go.Value.int Go.IntKind.i64 140)]⟩), s)) (S.bd (lal c1 0 9) fun x17 => S.bd (bld [(Go.Value.int Go.IntKind.i64 0), (Go.Value.int Go.IntKind.u64 0), (Go.Value.int Go.IntKind.i64 0), (Go.Value.int Go.IntKind.i64 0), (Go.Value.int Go.IntKind.u64 0), (Go.Value.int Go.IntKind.i64 0), (Go.Value.int Go.IntKind.u64 0), (Go.Value.int Go.IntKind.i64 0), (Go.Value.int Go.IntKind.i64 0), (Go.Value.int Go.IntKind.i64 0), (Go.Value.int Go.IntKind.i64 0), (Go.Value.int Go.IntKind.i64 0), (Go.Value.int Go.IntKind.u64 0), (Go.Value.int Go.IntKind.i64 0), (Go.Value.int Go.IntKind.u64 0), (Go.Value.int Go.IntKind.i64 0), (Go.Value.int Go.IntKind.i64 0), (Go.Value.int Go.IntKind.u64 0), (Go.Value.int Go.IntKind.i64 0), (Go.Value.int Go.IntKind.u64 0), (Go.Value.int Go.IntKind.i64 0), (Go.Value.int Go.IntKind.i64 0)] [(0, 9, x17), (9, 1, (Go.Value.int Go.IntKind.i64 1))]) fun x18 => S.bd (alv s x18) fun r19 => some ((Value.tuple ⟨[r19.1, (Go.Value.int Go.IntKind.i64 0)]⟩), r19.2))
def leapfrogref14x_New.v (a0 : Value) (s : St) : Option (Value × St) := leapfrogref14x_New.t std a0 s
def leapfrogref14x_New.w : List Value → St → Option (Value × St)
  | [a0], s => leapfrogref14x_New.v a0 s
  | _, _ => none
def leapfrogref14x_New.an : An := ⟨34, false, [1], [], [], []⟩
theorem leapfrogref14x_New.ok (S : Sig) (a0 : Value) (s : St) : evF S Try.prog leapfrogref14x_New.ctx leapfrogref14x_New.an Try.f47 [a0] s = leapfrogref14x_New.t S a0 s := by kernel_rfl
theorem leapfrogref14x_New.cok : CtxOk Try.prog leapfrogref14x_New.ctx := .cons leapfrogref01x_Right.sound leapfrogref01x_Right.can <| .cons leapfrogref01x_BeginsQ.sound leapfrogref01x_BeginsQ.can <| .cons leapfrogref07x_IsOwner.sound leapfrogref07x_IsOwner.can <| .nil
theorem leapfrogref14x_New.draws : fnDraws leapfrogref14x_New.an Try.f47 = true := by kernel_rfl
theorem leapfrogref14x_New.can : callOk Try.prog 47 = true := by kernel_rfl
theorem leapfrogref14x_New.sound : FnOk Try.prog 47 (.st leapfrogref14x_New.w) := FnOk.st_of (evF_ok leapfrogref14x_New.cok mixed (f := 47) (fn := Try.f47) (by kernel_rfl) leapfrogref14x_New.draws) fun args s r h => by
  unfold leapfrogref14x_New.w at h; split at h
  · rw [leapfrogref14x_New.ok std]; exact h
  · simp at h

/-! ### (*leapfrog/leapfrogref16.Remove).leave: function 34 -/
def leapfrogref16x_Remove_leave.ctx : Ctx := [(47, .st leapfrogref14x_New.w), (33, .st leapfrogref16x_Remove_end.w)]
def leapfrogref16x_Remove_leave.t (S : Sig) (a0 a1 : Value) (s : St) : Option (Value × St) :=
  S.bd (bx a1) fun c1 => S.bd (lal c1 0 2) fun x2 => S.bd (nck a0) fun x3 => S.bd (fld 10 x3) fun x4 => S.bd (lda s 5 x4) fun x5 => S.bd (nck a0) fun x6 => S.bd (fld 0 x6) fun x7 => S.bd (fld 7 x7) fun x8 => S.bd (lda s 2 x8) fun x9 => S.bd (bld [(Go.Value.int Go.IntKind.i64 0), (Go.Value.int Go.IntKind.u64 0), (Go.Value.int Go.IntKind.i64 0), (Go.Value.int Go.IntKind.i64 0), (Go.Value.int Go.IntKind.u64 0), (Go.Value.int Go.IntKind.i64 0), (Go.Value.int Go.IntKind.u64 0), (Go.Value.int Go.IntKind.i64 0), (Go.Value.int Go.IntKind.i64 0)] [(0, 2, x2), (2, 5, x5), (7, 2, x9)]) fun x10 => S.bd (leapfrogref14x_New.v x10 s) fun r11 => S.bd (lda r11.2 5 x4) fun x12 => S.cnd (Value.bool (sameV x12 x5)) (S.bd (lda r11.2 2 x8) fun x13 => S.cnd (Value.bool (sameV x13 x9)) (S.bd (xtr 0 r11.1) fun x14 => S.bd (xtr 1 r11.1) fun x15 => S.bd (eqb [1] false true x15 (Go.Value.int Go.IntKind.i64 0)) fun x16 => S.cnd x16 (S.bd (leapfrogref16x_Remove_end.v a0 (Go.Value.int Go.IntKind.i64 0) r11.2) fun r17 => some ((Value.tuple ⟨[]⟩), r17.2)) (S.bd (nck a0) fun x18 => S.bd (fld 17 x18) fun x19 => S.bd (stv r11.2 1 x19 x14) fun s20 => some ((Value.tuple ⟨[]⟩), s20))) (none)) (none)
def leapfrogref16x_Remove_leave.v (a0 a1 : Value) (s : St) : Option (Value × St) := leapfrogref16x_Remove_leave.t std a0 a1 s
def leapfrogref16x_Remove_leave.w : List Value → St → Option (Value × St)
  | [a0, a1], s => leapfrogref16x_Remove_leave.v a0 a1 s
  | _, _ => none
def leapfrogref16x_Remove_leave.an : An := ⟨29, false, [3], [], [], [(1, [(0, 25, [], []), (1, 0, [], []), (2, 0, [], []), (3, 0, [], []), (4, 2, [], []), (5, 0, [], []), (6, 0, [], []), (7, 0, [], []), (8, 0, [], []), (9, 2, [], []), (10, 0, [], []), (11, 4, [4, 9], []), (12, 0, [], []), (13, 0, [], []), (14, 0, [], []), (15, 0, [], []), (16, 0, [], [])])]⟩
theorem leapfrogref16x_Remove_leave.ok (S : Sig) (a0 a1 : Value) (s : St) : evF S Try.prog leapfrogref16x_Remove_leave.ctx leapfrogref16x_Remove_leave.an Try.f34 [a0, a1] s = leapfrogref16x_Remove_leave.t S a0 a1 s := by kernel_rfl
theorem leapfrogref16x_Remove_leave.cok : CtxOk Try.prog leapfrogref16x_Remove_leave.ctx := .cons leapfrogref14x_New.sound leapfrogref14x_New.can <| .cons leapfrogref16x_Remove_end.sound leapfrogref16x_Remove_end.can <| .nil
theorem leapfrogref16x_Remove_leave.draws : fnDraws leapfrogref16x_Remove_leave.an Try.f34 = true := by kernel_rfl
theorem leapfrogref16x_Remove_leave.can : callOk Try.prog 34 = true := by kernel_rfl
theorem leapfrogref16x_Remove_leave.sound : FnOk Try.prog 34 (.st leapfrogref16x_Remove_leave.w) := FnOk.st_of (evF_ok leapfrogref16x_Remove_leave.cok mixed (f := 34) (fn := Try.f34) (by kernel_rfl) leapfrogref16x_Remove_leave.draws) fun args s r h => by
  unfold leapfrogref16x_Remove_leave.w at h; split at h
  · rw [leapfrogref16x_Remove_leave.ok std]; exact h
  · simp at h

/-! ### leapfrog/leapfrogref02.Compare: function 66 -/
def leapfrogref02x_Compare.ctx : Ctx := []
def leapfrogref02x_Compare.t (S : Sig) (a0 a1 : Value) (s : St) : Option Value :=
  S.bd (bx a0) fun c1 => S.bd (bx a1) fun c2 => S.bd (lcl c1 0) fun x3 => S.bd (lcl c2 0) fun x4 => S.bd (bin .lss x3 x4) fun x5 => S.bd (S.gd x5 false (lcl c1 0)) fun x6 => S.bd (S.gd x5 false (lcl c2 0)) fun x7 => S.bd (S.gd x5 false (eqb [1] false false x6 x7)) fun x8 => S.bd (S.gd x5 false (some x8)) fun x9 => S.bd (S.gd x9 true (lcl c1 1)) fun x10 => S.bd (S.gd x9 true (lcl c2 1)) fun x11 => S.bd (S.gd x9 true (bin .lss x10 x11)) fun x12 => S.bd (S.gd x5 false (pik x9 x12 (Go.Value.bool Bool.false))) fun x13 => S.bd (pik x5 (Go.Value.bool Bool.true) x13) fun x14 => S.cnd x14 (some ((Go.Value.int Go.IntKind.i64 (-1)))) (S.bd (lal c1 0 2) fun x15 => S.bd (lal c2 0 2) fun x16 => S.bd (eqb [1, 1] true false x15 x16) fun x17 => S.cnd x17 (some ((Go.Value.int Go.IntKind.i64 0))) (some ((Go.Value.int Go.IntKind.i64 1))))
def leapfrogref02x_Compare.r (a0 a1 : Value) (s : St) : Option Value := leapfrogref02x_Compare.t std a0 a1 s
def leapfrogref02x_Compare.w : List Value → St → Option Value
  | [a0, a1], s => leapfrogref02x_Compare.r a0 a1 s
  | _, _ => none
def leapfrogref02x_Compare.an : An := ⟨29, true, [2, 3], [], [], []⟩
theorem leapfrogref02x_Compare.ok (S : Sig) (a0 a1 : Value) (s : St) : evG S Try.prog leapfrogref02x_Compare.ctx leapfrogref02x_Compare.an Try.f66 [a0, a1] s = leapfrogref02x_Compare.t S a0 a1 s := by kernel_rfl
theorem leapfrogref02x_Compare.cok : CtxOk Try.prog leapfrogref02x_Compare.ctx := .nil
theorem leapfrogref02x_Compare.draws : fnDraws leapfrogref02x_Compare.an Try.f66 = true := by kernel_rfl
theorem leapfrogref02x_Compare.can : callOk Try.prog 66 = true := by kernel_rfl
theorem leapfrogref02x_Compare.sound : FnOk Try.prog 66 (.rd leapfrogref02x_Compare.w) := FnOk.rd_of (evG_ok leapfrogref02x_Compare.cok mixed (f := 66) (fn := Try.f66) (by kernel_rfl) leapfrogref02x_Compare.draws) fun args s r h => by
  unfold leapfrogref02x_Compare.w at h; split at h
  · rw [leapfrogref02x_Compare.ok std]; exact h
  · simp at h

/-! ### leapfrog/leapfrogref02.Less: function 53 -/
def leapfrogref02x_Less.ctx : Ctx := [(66, .rd leapfrogref02x_Compare.w)]
def leapfrogref02x_Less.t (S : Sig) (a0 a1 : Value) (s : St) : Option Value :=
  S.bd (bx a0) fun c1 => S.bd (bx a1) fun c2 => S.bd (lal c1 0 2) fun x3 => S.bd (lal c2 0 2) fun x4 => S.bd (leapfrogref02x_Compare.r x3 x4 s) fun x5 => S.bd (bin .lss x5 (Go.Value.int Go.IntKind.i64 0)) fun x6 => some (x6)
def leapfrogref02x_Less.r (a0 a1 : Value) (s : St) : Option Value := leapfrogref02x_Less.t std a0 a1 s
def leapfrogref02x_Less.w : List Value → St → Option Value
  | [a0, a1], s => leapfrogref02x_Less.r a0 a1 s
  | _, _ => none
def leapfrogref02x_Less.an : An := ⟨9, true, [2, 3], [], [], []⟩
theorem leapfrogref02x_Less.ok (S : Sig) (a0 a1 : Value) (s : St) : evG S Try.prog leapfrogref02x_Less.ctx leapfrogref02x_Less.an Try.f53 [a0, a1] s = leapfrogref02x_Less.t S a0 a1 s := by kernel_rfl
theorem leapfrogref02x_Less.cok : CtxOk Try.prog leapfrogref02x_Less.ctx := .cons leapfrogref02x_Compare.sound leapfrogref02x_Compare.can <| .nil
theorem leapfrogref02x_Less.draws : fnDraws leapfrogref02x_Less.an Try.f53 = true := by kernel_rfl
theorem leapfrogref02x_Less.can : callOk Try.prog 53 = true := by kernel_rfl
theorem leapfrogref02x_Less.sound : FnOk Try.prog 53 (.rd leapfrogref02x_Less.w) := FnOk.rd_of (evG_ok leapfrogref02x_Less.cok mixed (f := 53) (fn := Try.f53) (by kernel_rfl) leapfrogref02x_Less.draws) fun args s r h => by
  unfold leapfrogref02x_Less.w at h; split at h
  · rw [leapfrogref02x_Less.ok std]; exact h
  · simp at h

/-! ### (*leapfrog/leapfrogref14.Unsplice).read: function 48 -/
def leapfrogref14x_Unsplice_read.ctx : Ctx := [(53, .rd leapfrogref02x_Less.w)]
def leapfrogref14x_Unsplice_read.t (S : Sig) (a0 a1 : Value) (s : St) : Option (Value × St) :=
  S.bd (bx a1) fun c1 => S.bd (lcl c1 0) fun x2 => S.bd (eqb [1] false false x2 (Go.Value.int Go.IntKind.i64 1)) fun x3 => S.bd (S.gd x3 true (lal c1 3 2)) fun x4 => S.bd (S.gd x3 true (some a0)) fun x5 => S.bd (S.gd x3 true (nck x5)) fun x6 => S.bd (S.gd x3 true (fld 0 x6)) fun x7 => S.bd (S.gd x3 true (fld 2 x7)) fun x8 => S.bd (S.gd x3 true (fld 1 x8)) fun x9 => S.bd (S.gd x3 true (lda s 2 x9)) fun x10 => S.bd (S.gd x3 true (leapfrogref02x_Less.r x4 x10 s)) fun x11 => S.bd (pik x3 x11 (Go.Value.bool Bool.false)) fun x12 => S.cnd x12 (S.bd (lal c1 2 5) fun x13 => S.bd (nck a0) fun x14 => S.bd (fld 10 x14) fun x15 => S.bd (stv s 5 x15 x13) fun s16 => S.bd (nck a0) fun x17 => S.bd (fld 9 x17) fun x18 => S.bd (stv s16 1 x18 (Go.Value.int Go.IntKind.i64 2)) fun s19 => some ((Value.tuple ⟨[]⟩), s19)) (S.bd (lcl c1 0) fun x20 => S.bd (eqb [1] false false x20 (Go.Value.int Go.IntKind.i64 2)) fun x21 => S.cnd x21 (S.bd (nck a0) fun x22 => S.bd (fld 9 x22) fun x23 => S.bd (stv s 1 x23 (Go.Value.int Go.IntKind.i64 10)) fun s24 => some ((Value.tuple ⟨[]⟩), s24)) (S.bd (lcl c1 0) fun x25 => S.bd (eqb [1] false false x25 (Go.Value.int Go.IntKind.i64 3)) fun x26 => S.cnd x26 (S.bd (nck a0) fun x27 => S.bd (fld 9 x27) fun x28 => S.bd (stv s 1 x28 (Go.Value.int Go.IntKind.i64 10)) fun s29 => S.bd (nck a0) fun x30 => S.bd (fld 21 x30) fun x31 => S.bd (stv s29 1 x31 (Go.Value.int Go.IntKind.i64 132)) fun s32 => some ((Value.tuple ⟨[]⟩), s32)) (S.bd (nck a0) fun x33 => S.bd (fld 9 x33) fun x34 => S.bd (stv s 1 x34 (Go.Value.int Go.IntKind.i64 9)) fun s35 => some ((Value.tuple ⟨[]⟩), s35))))
def leapfrogref14x_Unsplice_read.v (a0 a1 : Value) (s : St) : Option (Value × St) := leapfrogref14x_Unsplice_read.t std a0 a1 s
def leapfrogref14x_Unsplice_read.w : List Value → St → Option (Value × St)
  | [a0, a1], s => leapfrogref14x_Unsplice_read.v a0 a1 s
  | _, _ => none
def leapfrogref14x_Unsplice_read.an : An := ⟨48, false, [3], [], [], [(2, [(0, 0, [], []), (1, 25, [], []), (2, 0, [], []), (3, 0, [], []), (4, 0, [], []), (5, 0, [], []), (6, 25, [], []), (7, 0, [], []), (8, 0, [], []), (9, 0, [], []), (10, 0, [], []), (11, 0, [], []), (12, 2, [], []), (13, 3, [], []), (14, 0, [], []), (15, 0, [], [])])]⟩
theorem leapfrogref14x_Unsplice_read.ok (S : Sig) (a0 a1 : Value) (s : St) : evF S Try.prog leapfrogref14x_Unsplice_read.ctx leapfrogref14x_Unsplice_read.an Try.f48 [a0, a1] s = leapfrogref14x_Unsplice_read.t S a0 a1 s := by kernel_rfl
theorem leapfrogref14x_Unsplice_read.cok : CtxOk Try.prog leapfrogref14x_Unsplice_read.ctx := .cons leapfrogref02x_Less.sound leapfrogref02x_Less.can <| .nil
theorem leapfrogref14x_Unsplice_read.draws : fnDraws leapfrogref14x_Unsplice_read.an Try.f48 = true := by kernel_rfl
theorem leapfrogref14x_Unsplice_read.can : callOk Try.prog 48 = true := by kernel_rfl
theorem leapfrogref14x_Unsplice_read.sound : FnOk Try.prog 48 (.st leapfrogref14x_Unsplice_read.w) := FnOk.st_of (evF_ok leapfrogref14x_Unsplice_read.cok mixed (f := 48) (fn := Try.f48) (by kernel_rfl) leapfrogref14x_Unsplice_read.draws) fun args s r h => by
  unfold leapfrogref14x_Unsplice_read.w at h; split at h
  · rw [leapfrogref14x_Unsplice_read.ok std]; exact h
  · simp at h

/-! ### (*leapfrog/leapfrogref14.Unsplice).back: function 49 -/
def leapfrogref14x_Unsplice_back.ctx : Ctx := []
def leapfrogref14x_Unsplice_back.t (S : Sig) (a0 a1 a2 : Value) (s : St) : Option (Value × St) :=
  S.bd (nck a0) fun x1 => S.bd (fld 9 x1) fun x2 => S.bd (stv s 1 x2 (Go.Value.int Go.IntKind.i64 8)) fun s3 => S.bd (nck a0) fun x4 => S.bd (fld 20 x4) fun x5 => S.bd (stv s3 1 x5 a1) fun s6 => S.bd (nck a0) fun x7 => S.bd (fld 21 x7) fun x8 => S.bd (stv s6 1 x8 a2) fun s9 => some ((Value.tuple ⟨[]⟩), s9)
def leapfrogref14x_Unsplice_back.v (a0 a1 a2 : Value) (s : St) : Option (Value × St) := leapfrogref14x_Unsplice_back.t std a0 a1 a2 s
def leapfrogref14x_Unsplice_back.w : List Value → St → Option (Value × St)
  | [a0, a1, a2], s => leapfrogref14x_Unsplice_back.v a0 a1 a2 s
  | _, _ => none
def leapfrogref14x_Unsplice_back.an : An := ⟨17, false, [], [], [], []⟩
theorem leapfrogref14x_Unsplice_back.ok (S : Sig) (a0 a1 a2 : Value) (s : St) : evF S Try.prog leapfrogref14x_Unsplice_back.ctx leapfrogref14x_Unsplice_back.an Try.f49 [a0, a1, a2] s = leapfrogref14x_Unsplice_back.t S a0 a1 a2 s := by kernel_rfl
theorem leapfrogref14x_Unsplice_back.cok : CtxOk Try.prog leapfrogref14x_Unsplice_back.ctx := .nil
theorem leapfrogref14x_Unsplice_back.draws : fnDraws leapfrogref14x_Unsplice_back.an Try.f49 = true := by kernel_rfl
theorem leapfrogref14x_Unsplice_back.can : callOk Try.prog 49 = true := by kernel_rfl
theorem leapfrogref14x_Unsplice_back.sound : FnOk Try.prog 49 (.st leapfrogref14x_Unsplice_back.w) := FnOk.st_of (evF_ok leapfrogref14x_Unsplice_back.cok mixed (f := 49) (fn := Try.f49) (by kernel_rfl) leapfrogref14x_Unsplice_back.draws) fun args s r h => by
  unfold leapfrogref14x_Unsplice_back.w at h; split at h
  · rw [leapfrogref14x_Unsplice_back.ok std]; exact h
  · simp at h

/-! ### (*leapfrog/leapfrogref14.Unsplice).locked: function 50 -/
def leapfrogref14x_Unsplice_locked.ctx : Ctx := [(53, .rd leapfrogref02x_Less.w), (49, .st leapfrogref14x_Unsplice_back.w)]
def leapfrogref14x_Unsplice_locked.t (S : Sig) (a0 a1 : Value) (s : St) : Option (Value × St) :=
  S.bd (bx a1) fun c1 => S.bd (lcl c1 0) fun x2 => S.bd (eqb [1] false false x2 (Go.Value.int Go.IntKind.i64 1)) fun x3 => S.bd (S.gd x3 true (some a0)) fun x4 => S.bd (S.gd x3 true (nck x4)) fun x5 => S.bd (S.gd x3 true (fld 0 x5)) fun x6 => S.bd (S.gd x3 true (fld 2 x6)) fun x7 => S.bd (S.gd x3 true (fld 1 x7)) fun x8 => S.bd (S.gd x3 true (lda s 2 x8)) fun x9 => S.bd (S.gd x3 true (lal c1 8 2)) fun x10 => S.bd (S.gd x3 true (leapfrogref02x_Less.r x9 x10 s)) fun x11 => S.bd (pik x3 x11 (Go.Value.bool Bool.false)) fun x12 => S.cnd x12 (S.bd (lal c1 7 5) fun x13 => S.bd (nck a0) fun x14 => S.bd (fld 15 x14) fun x15 => S.bd (stv s 5 x15 x13) fun s16 => S.bd (nck a0) fun x17 => S.bd (fld 9 x17) fun x18 => S.bd (stv s16 1 x18 (Go.Value.int Go.IntKind.i64 4)) fun s19 => some ((Value.tuple ⟨[]⟩), s19)) (S.bd (lcl c1 0) fun x20 => S.bd (eqb [1] false false x20 (Go.Value.int Go.IntKind.i64 1)) fun x21 => S.cnd x21 (S.bd (nck a0) fun x22 => S.bd (fld 9 x22) fun x23 => S.bd (stv s 1 x23 (Go.Value.int Go.IntKind.i64 7)) fun s24 => some ((Value.tuple ⟨[]⟩), s24)) (S.bd (lcl c1 0) fun x25 => S.bd (eqb [1] false false x25 (Go.Value.int Go.IntKind.i64 2)) fun x26 => S.cnd x26 (S.bd (leapfrogref14x_Unsplice_back.v a0 (Go.Value.int Go.IntKind.i64 10) (Go.Value.int Go.IntKind.i64 0) s) fun r27 => some ((Value.tuple ⟨[]⟩), r27.2)) (S.bd (lcl c1 0) fun x28 => S.bd (eqb [1] false false x28 (Go.Value.int Go.IntKind.i64 3)) fun x29 => S.cnd x29 (S.bd (leapfrogref14x_Unsplice_back.v a0 (Go.Value.int Go.IntKind.i64 10) (Go.Value.int Go.IntKind.i64 132) s) fun r30 => some ((Value.tuple ⟨[]⟩), r30.2)) (S.bd (leapfrogref14x_Unsplice_back.v a0 (Go.Value.int Go.IntKind.i64 9) (Go.Value.int Go.IntKind.i64 0) s) fun r31 => some ((Value.tuple ⟨[]⟩), r31.2)))))
def leapfrogref14x_Unsplice_locked.v (a0 a1 : Value) (s : St) : Option (Value × St) := leapfrogref14x_Unsplice_locked.t std a0 a1 s
def leapfrogref14x_Unsplice_locked.w : List Value → St → Option (Value × St)
  | [a0, a1], s => leapfrogref14x_Unsplice_locked.v a0 a1 s
  | _, _ => none
def leapfrogref14x_Unsplice_locked.an : An := ⟨49, false, [3], [], [], [(2, [(0, 0, [], []), (1, 25, [], []), (2, 0, [], []), (3, 0, [], []), (4, 0, [], []), (5, 0, [], []), (6, 0, [], []), (7, 0, [], []), (8, 0, [], []), (9, 2, [], []), (10, 0, [], []), (11, 0, [], []), (12, 25, [], []), (13, 3, [], []), (14, 0, [], []), (15, 0, [], [])])]⟩
theorem leapfrogref14x_Unsplice_locked.ok (S : Sig) (a0 a1 : Value) (s : St) : evF S Try.prog leapfrogref14x_Unsplice_locked.ctx leapfrogref14x_Unsplice_locked.an Try.f50 [a0, a1] s = leapfrogref14x_Unsplice_locked.t S a0 a1 s := by kernel_rfl
theorem leapfrogref14x_Unsplice_locked.cok : CtxOk Try.prog leapfrogref14x_Unsplice_locked.ctx := .cons leapfrogref02x_Less.sound leapfrogref02x_Less.can <| .cons leapfrogref14x_Unsplice_back.sound leapfrogref14x_Unsplice_back.can <| .nil
theorem leapfrogref14x_Unsplice_locked.draws : fnDraws leapfrogref14x_Unsplice_locked.an Try.f50 = true := by kernel_rfl
theorem leapfrogref14x_Unsplice_locked.can : callOk Try.prog 50 = true := by kernel_rfl
theorem leapfrogref14x_Unsplice_locked.sound : FnOk Try.prog 50 (.st leapfrogref14x_Unsplice_locked.w) := FnOk.st_of (evF_ok leapfrogref14x_Unsplice_locked.cok mixed (f := 50) (fn := Try.f50) (by kernel_rfl) leapfrogref14x_Unsplice_locked.draws) fun args s r h => by
  unfold leapfrogref14x_Unsplice_locked.w at h; split at h
  · rw [leapfrogref14x_Unsplice_locked.ok std]; exact h
  · simp at h

/-! ### (*leapfrog/leapfrogref14.Unsplice).Tell: function 35 -/
def leapfrogref14x_Unsplice_Tell.ctx : Ctx := [(48, .st leapfrogref14x_Unsplice_read.w), (49, .st leapfrogref14x_Unsplice_back.w), (50, .st leapfrogref14x_Unsplice_locked.w)]
def leapfrogref14x_Unsplice_Tell.t.p1 (S : Sig) (x4 : Value) (a0 : Value) (s : St) (c1 : List Value) : Option (Value × St) :=
  S.bd (eqb [1] false false x4 (Go.Value.int Go.IntKind.i64 4)) fun x31 => S.cnd x31 (S.bd (nck a0) fun x32 => S.bd (fld 9 x32) fun x33 => S.bd (stv s 1 x33 (Go.Value.int Go.IntKind.i64 7)) fun s34 => S.bd (lcl c1 0) fun x35 => S.bd (eqb [1] false false x35 (Go.Value.int Go.IntKind.i64 1)) fun x36 => S.bd (S.gd x36 false (lcl c1 0)) fun x37 => S.bd (S.gd x36 false (eqb [1] false false x37 (Go.Value.int Go.IntKind.i64 3))) fun x38 => S.bd (S.gd x36 false (some x38)) fun x39 => S.bd (S.gd x39 true (lal c1 7 5)) fun x40 => S.bd (S.gd x39 true (some a0)) fun x41 => S.bd (S.gd x39 true (nck x41)) fun x42 => S.bd (S.gd x39 true (fld 15 x42)) fun x43 => S.bd (S.gd x39 true (lda s34 5 x43)) fun x44 => S.bd (S.gd x39 true (eqb [1, 1, 1, 1, 1] true false x40 x44)) fun x45 => S.bd (S.gd x36 false (pik x39 x45 (Go.Value.bool Bool.false))) fun x46 => S.bd (pik x36 (Go.Value.bool Bool.true) x46) fun x47 => S.cnd x47 (S.bd (nck a0) fun x48 => S.bd (fld 9 x48) fun x49 => S.bd (stv s34 1 x49 (Go.Value.int Go.IntKind.i64 5)) fun s50 => some ((Value.tuple ⟨[]⟩), s50)) (some ((Value.tuple ⟨[]⟩), s34))) (S.bd (eqb [1] false false x4 (Go.Value.int Go.IntKind.i64 5)) fun x51 => S.cnd x51 (S.bd (nck a0) fun x52 => S.bd (fld 9 x52) fun x53 => S.bd (stv s 1 x53 (Go.Value.int Go.IntKind.i64 6)) fun s54 => some ((Value.tuple ⟨[]⟩), s54)) (S.bd (eqb [1] false false x4 (Go.Value.int Go.IntKind.i64 6)) fun x55 => S.cnd x55 (S.bd (lcl c1 0) fun x56 => S.bd (eqb [1] false false x56 (Go.Value.int Go.IntKind.i64 3)) fun x57 => S.cnd x57 (S.bd (leapfrogref14x_Unsplice_back.v a0 (Go.Value.int Go.IntKind.i64 10) (Go.Value.int Go.IntKind.i64 132) s) fun r58 => some ((Value.tuple ⟨[]⟩), r58.2)) (S.bd (leapfrogref14x_Unsplice_back.v a0 (Go.Value.int Go.IntKind.i64 10) (Go.Value.int Go.IntKind.i64 0) s) fun r59 => some ((Value.tuple ⟨[]⟩), r59.2))) (S.bd (eqb [1] false false x4 (Go.Value.int Go.IntKind.i64 7)) fun x60 => S.cnd x60 (S.bd (leapfrogref14x_Unsplice_back.v a0 (Go.Value.int Go.IntKind.i64 9) (Go.Value.int Go.IntKind.i64 0) s) fun r61 => some ((Value.tuple ⟨[]⟩), r61.2)) (S.bd (eqb [1] false false x4 (Go.Value.int Go.IntKind.i64 8)) fun x62 => S.cnd x62 (S.bd (nck a0) fun x63 => S.bd (fld 20 x63) fun x64 => S.bd (ldc s x64) fun x65 => S.bd (nck a0) fun x66 => S.bd (fld 9 x66) fun x67 => S.bd (stv s 1 x67 x65) fun s68 => some ((Value.tuple ⟨[]⟩), s68)) (some ((Value.tuple ⟨[]⟩), s))))))

def leapfrogref14x_Unsplice_Tell.t (S : Sig) (a0 a1 : Value) (s : St) : Option (Value × St) :=
  S.bd (bx a1) fun c1 => S.bd (nck a0) fun x2 => S.bd (fld 9 x2) fun x3 => S.bd (ldc s x3) fun x4 => S.bd (eqb [1] false false x4 (Go.Value.int Go.IntKind.i64 1)) fun x5 => S.cnd x5 (S.bd (lal c1 0 13) fun x6 => S.bd (leapfrogref14x_Unsplice_read.v a0 x6 s) fun r7 => some ((Value.tuple ⟨[]⟩), r7.2)) (S.bd (eqb [1] false false x4 (Go.Value.int Go.IntKind.i64 2)) fun x8 => S.cnd x8 (S.bd (lcl c1 0) fun x9 => S.bd (eqb [1] false false x9 (Go.Value.int Go.IntKind.i64 1)) fun x10 => S.bd (S.gd x10 true (lal c1 7 5)) fun x11 => S.bd (S.gd x10 true (some a0)) fun x12 => S.bd (S.gd x10 true (nck x12)) fun x13 => S.bd (S.gd x10 true (fld 0 x13)) fun x14 => S.bd (S.gd x10 true (fld 2 x14)) fun x15 => S.bd (S.gd x10 true (lda s 5 x15)) fun x16 => S.bd (S.gd x10 true (eqb [1, 1, 1, 1, 1] true false x11 x16)) fun x17 => S.bd (pik x10 x17 (Go.Value.bool Bool.false)) fun x18 => S.cnd x18 (S.bd (nck a0) fun x19 => S.bd (fld 9 x19) fun x20 => S.bd (stv s 1 x20 (Go.Value.int Go.IntKind.i64 3)) fun s21 => some ((Value.tuple ⟨[]⟩), s21)) (S.bd (lcl c1 0) fun x22 => S.bd (eqb [1] false false x22 (Go.Value.int Go.IntKind.i64 1)) fun x23 => S.cnd x23 (S.bd (leapfrogref14x_Unsplice_back.v a0 (Go.Value.int Go.IntKind.i64 9) (Go.Value.int Go.IntKind.i64 0) s) fun r24 => some ((Value.tuple ⟨[]⟩), r24.2)) (S.bd (nck a0) fun x25 => S.bd (fld 9 x25) fun x26 => S.bd (stv s 1 x26 (Go.Value.int Go.IntKind.i64 9)) fun s27 => some ((Value.tuple ⟨[]⟩), s27)))) (S.bd (eqb [1] false false x4 (Go.Value.int Go.IntKind.i64 3)) fun x28 => S.cnd x28 (S.bd (lal c1 0 13) fun x29 => S.bd (leapfrogref14x_Unsplice_locked.v a0 x29 s) fun r30 => some ((Value.tuple ⟨[]⟩), r30.2)) (leapfrogref14x_Unsplice_Tell.t.p1 S x4 a0 s c1)))
def leapfrogref14x_Unsplice_Tell.v (a0 a1 : Value) (s : St) : Option (Value × St) := leapfrogref14x_Unsplice_Tell.t std a0 a1 s
def leapfrogref14x_Unsplice_Tell.w : List Value → St → Option (Value × St)
  | [a0, a1], s => leapfrogref14x_Unsplice_Tell.v a0 a1 s
  | _, _ => none
def leapfrogref14x_Unsplice_Tell.an : An := ⟨98, false, [3], [], [], [(6, [(0, 0, [], []), (1, 25, [], []), (2, 0, [], []), (3, 0, [], []), (4, 0, [], []), (5, 25, [], []), (6, 0, [], []), (7, 0, [], []), (8, 0, [], []), (9, 0, [], []), (10, 2, [], []), (11, 0, [], []), (12, 0, [], []), (13, 0, [], [])]), (14, [(0, 0, [], []), (1, 25, [], []), (2, 0, [], []), (3, 0, [], []), (4, 0, [], []), (5, 25, [], []), (6, 0, [], []), (7, 0, [], []), (8, 0, [], []), (9, 25, [], []), (10, 0, [], []), (11, 0, [], []), (12, 0, [], []), (13, 2, [], []), (14, 0, [], []), (15, 0, [], []), (16, 0, [], [])])]⟩
theorem leapfrogref14x_Unsplice_Tell.ok (S : Sig) (a0 a1 : Value) (s : St) : evF S Try.prog leapfrogref14x_Unsplice_Tell.ctx leapfrogref14x_Unsplice_Tell.an Try.f35 [a0, a1] s = leapfrogref14x_Unsplice_Tell.t S a0 a1 s := by kernel_rfl
theorem leapfrogref14x_Unsplice_Tell.cok : CtxOk Try.prog leapfrogref14x_Unsplice_Tell.ctx := .cons leapfrogref14x_Unsplice_read.sound leapfrogref14x_Unsplice_read.can <| .cons leapfrogref14x_Unsplice_back.sound leapfrogref14x_Unsplice_back.can <| .cons leapfrogref14x_Unsplice_locked.sound leapfrogref14x_Unsplice_locked.can <| .nil
theorem leapfrogref14x_Unsplice_Tell.draws : fnDraws leapfrogref14x_Unsplice_Tell.an Try.f35 = true := by kernel_rfl
theorem leapfrogref14x_Unsplice_Tell.can : callOk Try.prog 35 = true := by kernel_rfl
theorem leapfrogref14x_Unsplice_Tell.sound : FnOk Try.prog 35 (.st leapfrogref14x_Unsplice_Tell.w) := FnOk.st_of (evF_ok leapfrogref14x_Unsplice_Tell.cok mixed (f := 35) (fn := Try.f35) (by kernel_rfl) leapfrogref14x_Unsplice_Tell.draws) fun args s r h => by
  unfold leapfrogref14x_Unsplice_Tell.w at h; split at h
  · rw [leapfrogref14x_Unsplice_Tell.ok std]; exact h
  · simp at h

/-! ### leapfrog/leapfrogref01.Of: function 63 -/
def leapfrogref01x_Of.ctx : Ctx := []
def leapfrogref01x_Of.l3 (S : Sig) (rec18 : List Value → St → Option Cut) (xs16 : List Value) (s17 : St) : Option Cut :=
  S.bd (lenL (xs16.getD 0 undef)) fun x19 => S.bd (bin .lss (xs16.getD 1 undef) x19) fun x20 => S.cnd x20 (S.bd (lcl (cellsA (xs16.getD 3 undef)) 1) fun x21 => S.bd (bin .mul x21 (Go.Value.int Go.IntKind.u64 2)) fun x22 => S.bd (idx s17 1 (xs16.getD 0 undef) (xs16.getD 1 undef)) fun x23 => S.bd (ldc s17 x23) fun x24 => S.bd (cvi .u64 x24) fun x25 => S.bd (bin .add x22 x25) fun x26 => S.bd (stl (cellsA (xs16.getD 3 undef)) 1 1 x26) fun c27 => S.bd (bin .add (xs16.getD 1 undef) (Go.Value.int Go.IntKind.i64 1)) fun x28 => rec18 [(xs16.getD 0 undef), x28, (Value.agg ⟨(cellsA (xs16.getD 2 undef))⟩), (Value.agg ⟨c27⟩)] s17) (some (0, [(Value.agg ⟨(cellsA (xs16.getD 2 undef))⟩), (Value.agg ⟨(cellsA (xs16.getD 3 undef))⟩)], s17))

def leapfrogref01x_Of.t (S : Sig) (a0 : Value) (s : St) : Option Value :=
  S.bd (bx (Go.Value.agg #[(Go.Value.int Go.IntKind.i64 0), (Go.Value.int Go.IntKind.u64 0)])) fun c1 => S.bd (lenL a0) fun x2 => S.bd (bld [(Go.Value.int Go.IntKind.i64 0), (Go.Value.int Go.IntKind.u64 0)] [(0, 1, x2)]) fun x3 => S.bd (bx (Go.Value.agg #[(Go.Value.int Go.IntKind.i64 0), (Go.Value.int Go.IntKind.u64 0)])) fun c4 => S.bd (stl c4 0 2 x3) fun c5 => S.bd (S.it (leapfrogref01x_Of.l3 S) [a0, (Go.Value.int Go.IntKind.i64 0), (Value.agg ⟨c1⟩), (Value.agg ⟨c5⟩)] s) fun r29 => S.bd (lal (cellsA (r29.2.1.getD 1 undef)) 0 2) fun x30 => S.bd (stl (cellsA (r29.2.1.getD 0 undef)) 0 2 x30) fun c31 => S.bd (lal c31 0 2) fun x32 => some (x32)
def leapfrogref01x_Of.r (a0 : Value) (s : St) : Option Value := leapfrogref01x_Of.t std a0 s
def leapfrogref01x_Of.w : List Value → St → Option Value
  | [a0], s => leapfrogref01x_Of.r a0 s
  | _, _ => none
def leapfrogref01x_Of.an : An := ⟨25, true, [2, 3], [(3, ⟨[.v 0, .p 2 2 0, .p 3 3 0, .v 4, .l 2, .l 3], [(.exit 0, [.p 2 2 0, .p 3 3 0, .l 2, .l 3])]⟩)], [], [(5, [(0, 0, [], []), (1, 25, [], []), (2, 0, [], []), (3, 0, [], []), (4, 0, [], []), (5, 2, [], []), (6, 2, [], []), (7, 0, [], []), (8, 0, [], []), (9, 0, [], []), (10, 29, [], [])])]⟩
theorem leapfrogref01x_Of.ok (S : Sig) (a0 : Value) (s : St) : evG S Try.prog leapfrogref01x_Of.ctx leapfrogref01x_Of.an Try.f63 [a0] s = leapfrogref01x_Of.t S a0 s := by kernel_rfl
theorem leapfrogref01x_Of.cok : CtxOk Try.prog leapfrogref01x_Of.ctx := .nil
theorem leapfrogref01x_Of.draws : fnDraws leapfrogref01x_Of.an Try.f63 = true := by kernel_rfl
theorem leapfrogref01x_Of.can : callOk Try.prog 63 = true := by kernel_rfl
theorem leapfrogref01x_Of.sound : FnOk Try.prog 63 (.rd leapfrogref01x_Of.w) := FnOk.rd_of (evG_ok leapfrogref01x_Of.cok mixed (f := 63) (fn := Try.f63) (by kernel_rfl) leapfrogref01x_Of.draws) fun args s r h => by
  unfold leapfrogref01x_Of.w at h; split at h
  · rw [leapfrogref01x_Of.ok std]; exact h
  · simp at h

/-! ### leapfrog/leapfrogref01.Prefix: function 51 -/
def leapfrogref01x_Prefix.ctx : Ctx := [(58, .rd leapfrogref01x_Right.w), (64, .st leapfrogref01x_Bits.w), (63, .rd leapfrogref01x_Of.w)]
def leapfrogref01x_Prefix.t (S : Sig) (a0 a1 : Value) (s : St) : Option (Value × St) :=
  S.bd (bx a0) fun c1 => S.bd (bx (Go.Value.agg #[(Go.Value.int Go.IntKind.i64 0), (Go.Value.int Go.IntKind.u64 0)])) fun c2 => S.bd (lal c1 0 2) fun x3 => S.bd (leapfrogref01x_Right.r x3 s) fun x4 => S.bd (un .not x4) fun x5 => S.cnd x5 (S.bd (bld [(Go.Value.int Go.IntKind.i64 0), (Go.Value.int Go.IntKind.u64 0)] []) fun x6 => S.bd (stl c2 0 2 x6) fun c7 => S.bd (lal c7 0 2) fun x8 => some ((Value.tuple ⟨[x8, (Go.Value.int Go.IntKind.i64 10)]⟩), s)) (S.bd (bin .lss a1 (Go.Value.int Go.IntKind.i64 0)) fun x9 => S.bd (S.gd x9 false (some a1)) fun x10 => S.bd (S.gd x9 false (lcl c1 0)) fun x11 => S.bd (S.gd x9 false (bin .gtr x10 x11)) fun x12 => S.bd (pik x9 (Go.Value.bool Bool.true) x12) fun x13 => S.cnd x13 (S.bd (bld [(Go.Value.int Go.IntKind.i64 0), (Go.Value.int Go.IntKind.u64 0)] []) fun x14 => S.bd (stl c2 0 2 x14) fun c15 => S.bd (lal c15 0 2) fun x16 => some ((Value.tuple ⟨[x16, (Go.Value.int Go.IntKind.i64 5)]⟩), s)) (S.bd (lal c1 0 2) fun x17 => S.bd (leapfrogref01x_Bits.v x17 s) fun r18 => S.bd (slc r18.2 1 r18.1 none (some a1) none) fun x19 => S.bd (leapfrogref01x_Of.r x19 r18.2) fun x20 => S.bd (stl c2 0 2 x20) fun c21 => S.bd (lal c21 0 2) fun x22 => some ((Value.tuple ⟨[x22, (Go.Value.int Go.IntKind.i64 0)]⟩), r18.2)))
def leapfrogref01x_Prefix.v (a0 a1 : Value) (s : St) : Option (Value × St) := leapfrogref01x_Prefix.t std a0 a1 s
def leapfrogref01x_Prefix.w : List Value → St → Option (Value × St)
  | [a0, a1], s => leapfrogref01x_Prefix.v a0 a1 s
  | _, _ => none
def leapfrogref01x_Prefix.an : An := ⟨24, false, [2, 4], [], [], []⟩
theorem leapfrogref01x_Prefix.ok (S : Sig) (a0 a1 : Value) (s : St) : evF S Try.prog leapfrogref01x_Prefix.ctx leapfrogref01x_Prefix.an Try.f51 [a0, a1] s = leapfrogref01x_Prefix.t S a0 a1 s := by kernel_rfl
theorem leapfrogref01x_Prefix.cok : CtxOk Try.prog leapfrogref01x_Prefix.ctx := .cons leapfrogref01x_Right.sound leapfrogref01x_Right.can <| .cons leapfrogref01x_Bits.sound leapfrogref01x_Bits.can <| .cons leapfrogref01x_Of.sound leapfrogref01x_Of.can <| .nil
theorem leapfrogref01x_Prefix.draws : fnDraws leapfrogref01x_Prefix.an Try.f51 = true := by kernel_rfl
theorem leapfrogref01x_Prefix.can : callOk Try.prog 51 = true := by kernel_rfl
theorem leapfrogref01x_Prefix.sound : FnOk Try.prog 51 (.st leapfrogref01x_Prefix.w) := FnOk.st_of (evF_ok leapfrogref01x_Prefix.cok mixed (f := 51) (fn := Try.f51) (by kernel_rfl) leapfrogref01x_Prefix.draws) fun args s r h => by
  unfold leapfrogref01x_Prefix.w at h; split at h
  · rw [leapfrogref01x_Prefix.ok std]; exact h
  · simp at h

/-! ### leapfrog/leapfrogref01.Prefix: function 51, as a reading -/
def leapfrogref01x_PrefixQ.r (a0 a1 : Value) (s : St) : Option Value := frzR (fun s => leapfrogref01x_Prefix.v a0 a1 s) s
def leapfrogref01x_PrefixQ.w : List Value → St → Option Value := fun args s => frzR (leapfrogref01x_Prefix.w args) s
theorem leapfrogref01x_PrefixQ.can : callOk Try.prog 51 = true := leapfrogref01x_Prefix.can
theorem leapfrogref01x_PrefixQ.sound : FnOk Try.prog 51 (.rd leapfrogref01x_PrefixQ.w) := FnOk.frozen leapfrogref01x_Prefix.sound

/-! ### (*leapfrog/leapfrogref16.Remove).left: function 36 -/
def leapfrogref16x_Remove_left.ctx : Ctx := [(33, .st leapfrogref16x_Remove_end.w), (51, .rd leapfrogref01x_PrefixQ.w), (34, .st leapfrogref16x_Remove_leave.w)]
def leapfrogref16x_Remove_left.t (S : Sig) (a0 : Value) (s : St) : Option (Value × St) :=
  S.bd (nck a0) fun x1 => S.bd (fld 17 x1) fun x2 => S.bd (ldc s x2) fun x3 => S.bd (nck x3) fun x4 => S.bd (fld 0 x4) fun x5 => S.bd (fld 0 x5) fun x6 => S.bd (lda s 2 x6) fun x7 => S.bd (bx (Go.Value.agg #[(Go.Value.int Go.IntKind.i64 0), (Go.Value.int Go.IntKind.u64 0)])) fun c8 => S.bd (stl c8 0 2 x7) fun c9 => S.bd (nck a0) fun x10 => S.bd (fld 17 x10) fun x11 => S.bd (ldc s x11) fun x12 => S.bd (nck x12) fun x13 => S.bd (fld 21 x13) fun x14 => S.bd (ldc s x14) fun x15 => S.bd (eqb [1] false true x15 (Go.Value.int Go.IntKind.i64 0)) fun x16 => S.bd (S.gd x16 false (lcl c9 0)) fun x17 => S.bd (S.gd x16 false (eqb [1] false false x17 (Go.Value.int Go.IntKind.i64 0))) fun x18 => S.bd (pik x16 (Go.Value.bool Bool.true) x18) fun x19 => S.cnd x19 (S.bd (leapfrogref16x_Remove_end.v a0 (Go.Value.int Go.IntKind.i64 0) s) fun r20 => some ((Value.tuple ⟨[]⟩), r20.2)) (S.bd (lal c9 0 2) fun x21 => S.bd (lcl c9 0) fun x22 => S.bd (bin .sub x22 (Go.Value.int Go.IntKind.i64 1)) fun x23 => S.bd (leapfrogref01x_PrefixQ.r x21 x23 s) fun x24 => S.bd (xtr 0 x24) fun x25 => S.bd (xtr 1 x24) fun x26 => S.bd (bx (Go.Value.agg #[(Go.Value.int Go.IntKind.i64 0), (Go.Value.int Go.IntKind.u64 0)])) fun c27 => S.bd (stl c27 0 2 x25) fun c28 => S.bd (lal c28 0 2) fun x29 => S.bd (leapfrogref16x_Remove_leave.v a0 x29 s) fun r30 => some ((Value.tuple ⟨[]⟩), r30.2))
def leapfrogref16x_Remove_left.v (a0 : Value) (s : St) : Option (Value × St) := leapfrogref16x_Remove_left.t std a0 s
def leapfrogref16x_Remove_left.w : List Value → St → Option (Value × St)
  | [a0], s => leapfrogref16x_Remove_left.v a0 s
  | _, _ => none
def leapfrogref16x_Remove_left.an : An := ⟨39, false, [2, 3], [], [], []⟩
theorem leapfrogref16x_Remove_left.ok (S : Sig) (a0 : Value) (s : St) : evF S Try.prog leapfrogref16x_Remove_left.ctx leapfrogref16x_Remove_left.an Try.f36 [a0] s = leapfrogref16x_Remove_left.t S a0 s := by kernel_rfl
theorem leapfrogref16x_Remove_left.cok : CtxOk Try.prog leapfrogref16x_Remove_left.ctx := .cons leapfrogref16x_Remove_end.sound leapfrogref16x_Remove_end.can <| .cons leapfrogref01x_PrefixQ.sound leapfrogref01x_PrefixQ.can <| .cons leapfrogref16x_Remove_leave.sound leapfrogref16x_Remove_leave.can <| .nil
theorem leapfrogref16x_Remove_left.draws : fnDraws leapfrogref16x_Remove_left.an Try.f36 = true := by kernel_rfl
theorem leapfrogref16x_Remove_left.can : callOk Try.prog 36 = true := by kernel_rfl
theorem leapfrogref16x_Remove_left.sound : FnOk Try.prog 36 (.st leapfrogref16x_Remove_left.w) := FnOk.st_of (evF_ok leapfrogref16x_Remove_left.cok mixed (f := 36) (fn := Try.f36) (by kernel_rfl) leapfrogref16x_Remove_left.draws) fun args s r h => by
  unfold leapfrogref16x_Remove_left.w at h; split at h
  · rw [leapfrogref16x_Remove_left.ok std]; exact h
  · simp at h

/-! ### leapfrog/leapfrogref02.Check: function 43 -/
def leapfrogref02x_Check.ctx : Ctx := []
def leapfrogref02x_Check.t (S : Sig) (a0 : Value) (s : St) : Option Value :=
  S.bd (bx a0) fun c1 => S.bd (lcl c1 0) fun x2 => S.bd (eqb [1] false false x2 (Go.Value.int Go.IntKind.i64 2)) fun x3 => S.bd (S.gd x3 false (lcl c1 0)) fun x4 => S.bd (S.gd x3 false (eqb [1] false false x4 (Go.Value.int Go.IntKind.i64 1))) fun x5 => S.bd (S.gd x3 false (some x5)) fun x6 => S.bd (S.gd x6 false (lcl c1 0)) fun x7 => S.bd (S.gd x6 false (eqb [1] false false x7 (Go.Value.int Go.IntKind.i64 3))) fun x8 => S.bd (S.gd x3 false (pik x6 (Go.Value.bool Bool.true) x8)) fun x9 => S.bd (S.gd x3 false (some x9)) fun x10 => S.bd (S.gd x10 true (lcl c1 1)) fun x11 => S.bd (S.gd x10 true (eqb [1] false false x11 (Go.Value.int Go.IntKind.u64 0))) fun x12 => S.bd (S.gd x3 false (pik x10 x12 (Go.Value.bool Bool.false))) fun x13 => S.bd (pik x3 (Go.Value.bool Bool.true) x13) fun x14 => S.cnd x14 (some ((Go.Value.int Go.IntKind.i64 0))) (some ((Go.Value.int Go.IntKind.i64 20)))
def leapfrogref02x_Check.r (a0 : Value) (s : St) : Option Value := leapfrogref02x_Check.t std a0 s
def leapfrogref02x_Check.w : List Value → St → Option Value
  | [a0], s => leapfrogref02x_Check.r a0 s
  | _, _ => none
def leapfrogref02x_Check.an : An := ⟨21, true, [1], [], [], []⟩
theorem leapfrogref02x_Check.ok (S : Sig) (a0 : Value) (s : St) : evG S Try.prog leapfrogref02x_Check.ctx leapfrogref02x_Check.an Try.f43 [a0] s = leapfrogref02x_Check.t S a0 s := by kernel_rfl
theorem leapfrogref02x_Check.cok : CtxOk Try.prog leapfrogref02x_Check.ctx := .nil
theorem leapfrogref02x_Check.draws : fnDraws leapfrogref02x_Check.an Try.f43 = true := by kernel_rfl
theorem leapfrogref02x_Check.can : callOk Try.prog 43 = true := by kernel_rfl
theorem leapfrogref02x_Check.sound : FnOk Try.prog 43 (.rd leapfrogref02x_Check.w) := FnOk.rd_of (evG_ok leapfrogref02x_Check.cok mixed (f := 43) (fn := Try.f43) (by kernel_rfl) leapfrogref02x_Check.draws) fun args s r h => by
  unfold leapfrogref02x_Check.w at h; split at h
  · rw [leapfrogref02x_Check.ok std]; exact h
  · simp at h

/-! ### (*leapfrog/leapfrogref12.Seek).end: function 68 -/
def leapfrogref12x_Seek_end.ctx : Ctx := []
def leapfrogref12x_Seek_end.t (S : Sig) (a0 a1 : Value) (s : St) : Option (Value × St) :=
  S.bd (bx a1) fun c1 => S.bd (lal c1 0 15) fun x2 => S.bd (nck a0) fun x3 => S.bd (fld 23 x3) fun x4 => S.bd (stv s 1 x4 (Go.Value.bool Bool.true)) fun s5 => S.bd (nck a0) fun x6 => S.bd (fld 24 x6) fun x7 => S.bd (stv s5 15 x7 x2) fun s8 => some ((Value.tuple ⟨[]⟩), s8)
def leapfrogref12x_Seek_end.v (a0 a1 : Value) (s : St) : Option (Value × St) := leapfrogref12x_Seek_end.t std a0 a1 s
def leapfrogref12x_Seek_end.w : List Value → St → Option (Value × St)
  | [a0, a1], s => leapfrogref12x_Seek_end.v a0 a1 s
  | _, _ => none
def leapfrogref12x_Seek_end.an : An := ⟨11, false, [3], [], [], [(1, [(0, 0, [], []), (1, 0, [], []), (2, 25, [], []), (3, 0, [], []), (4, 0, [], []), (5, 4, [], []), (6, 0, [], []), (7, 0, [], []), (8, 4, [], [])])]⟩
theorem leapfrogref12x_Seek_end.ok (S : Sig) (a0 a1 : Value) (s : St) : evF S Try.prog leapfrogref12x_Seek_end.ctx leapfrogref12x_Seek_end.an Try.f68 [a0, a1] s = leapfrogref12x_Seek_end.t S a0 a1 s := by kernel_rfl
theorem leapfrogref12x_Seek_end.cok : CtxOk Try.prog leapfrogref12x_Seek_end.ctx := .nil
theorem leapfrogref12x_Seek_end.draws : fnDraws leapfrogref12x_Seek_end.an Try.f68 = true := by kernel_rfl
theorem leapfrogref12x_Seek_end.can : callOk Try.prog 68 = true := by kernel_rfl
theorem leapfrogref12x_Seek_end.sound : FnOk Try.prog 68 (.st leapfrogref12x_Seek_end.w) := FnOk.st_of (evF_ok leapfrogref12x_Seek_end.cok mixed (f := 68) (fn := Try.f68) (by kernel_rfl) leapfrogref12x_Seek_end.draws) fun args s r h => by
  unfold leapfrogref12x_Seek_end.w at h; split at h
  · rw [leapfrogref12x_Seek_end.ok std]; exact h
  · simp at h

/-! ### (*leapfrog/leapfrogref12.Seek).counts: function 65 -/
def leapfrogref12x_Seek_counts.ctx : Ctx := [(68, .st leapfrogref12x_Seek_end.w)]
def leapfrogref12x_Seek_counts.t (S : Sig) (a0 : Value) (s : St) : Option (Value × St) :=
  S.bd (nck a0) fun x1 => S.bd (fld 22 x1) fun x2 => S.bd (ldc s x2) fun x3 => S.bd (bin .geq x3 (Go.Value.int Go.IntKind.i64 64)) fun x4 => S.cnd x4 (S.bd (bld [(Go.Value.int Go.IntKind.i64 0), (Go.Value.int Go.IntKind.u64 0), (Go.Value.slice Option.none 0 0), (Go.Value.slice Option.none 0 0), (Go.Value.int Go.IntKind.i64 0), (Go.Value.int Go.IntKind.i64 0), (Go.Value.int Go.IntKind.u64 0), (Go.Value.int Go.IntKind.i64 0), (Go.Value.int Go.IntKind.u64 0), (Go.Value.int Go.IntKind.i64 0), (Go.Value.int Go.IntKind.i64 0), (Go.Value.int Go.IntKind.u64 0), (Go.Value.int Go.IntKind.i64 0), (Go.Value.int Go.IntKind.u64 0), (Go.Value.bool Bool.false)] [(0, 1, (Go.Value.int Go.IntKind.i64 121))]) fun x5 => S.bd (leapfrogref12x_Seek_end.v a0 x5 s) fun r6 => some ((Go.Value.bool Bool.false), r6.2)) (S.bd (nck a0) fun x7 => S.bd (fld 22 x7) fun x8 => S.bd (ldc s x8) fun x9 => S.bd (bin .add x9 (Go.Value.int Go.IntKind.i64 1)) fun x10 => S.bd (nck a0) fun x11 => S.bd (fld 22 x11) fun x12 => S.bd (stv s 1 x12 x10) fun s13 => some ((Go.Value.bool Bool.true), s13))
def leapfrogref12x_Seek_counts.v (a0 : Value) (s : St) : Option (Value × St) := leapfrogref12x_Seek_counts.t std a0 s
def leapfrogref12x_Seek_counts.w : List Value → St → Option (Value × St)
  | [a0], s => leapfrogref12x_Seek_counts.v a0 s
  | _, _ => none
def leapfrogref12x_Seek_counts.an : An := ⟨18, false, [], [], [], []⟩
theorem leapfrogref12x_Seek_counts.ok (S : Sig) (a0 : Value) (s : St) : evF S Try.prog leapfrogref12x_Seek_counts.ctx leapfrogref12x_Seek_counts.an Try.f65 [a0] s = leapfrogref12x_Seek_counts.t S a0 s := by kernel_rfl
theorem leapfrogref12x_Seek_counts.cok : CtxOk Try.prog leapfrogref12x_Seek_counts.ctx := .cons leapfrogref12x_Seek_end.sound leapfrogref12x_Seek_end.can <| .nil
theorem leapfrogref12x_Seek_counts.draws : fnDraws leapfrogref12x_Seek_counts.an Try.f65 = true := by kernel_rfl
theorem leapfrogref12x_Seek_counts.can : callOk Try.prog 65 = true := by kernel_rfl
theorem leapfrogref12x_Seek_counts.sound : FnOk Try.prog 65 (.st leapfrogref12x_Seek_counts.w) := FnOk.st_of (evF_ok leapfrogref12x_Seek_counts.cok mixed (f := 65) (fn := Try.f65) (by kernel_rfl) leapfrogref12x_Seek_counts.draws) fun args s r h => by
  unfold leapfrogref12x_Seek_counts.w at h; split at h
  · rw [leapfrogref12x_Seek_counts.ok std]; exact h
  · simp at h

/-! ### leapfrog/leapfrogref12.Head: function 19 -/
def leapfrogref12x_Head.ctx : Ctx := []
def leapfrogref12x_Head.t (S : Sig) (a0 : Value) (s : St) : Option Value :=
  S.bd (bx (Go.Value.agg #[(Go.Value.int Go.IntKind.i64 0), (Go.Value.int Go.IntKind.i64 0), (Go.Value.int Go.IntKind.u64 0), (Go.Value.int Go.IntKind.i64 0), (Go.Value.int Go.IntKind.u64 0)])) fun c1 => S.bd (bld [(Go.Value.int Go.IntKind.i64 0), (Go.Value.int Go.IntKind.u64 0)] [(0, 1, (Go.Value.int Go.IntKind.i64 1))]) fun x2 => S.bd (bld [(Go.Value.int Go.IntKind.i64 0), (Go.Value.int Go.IntKind.u64 0)] [(0, 1, a0)]) fun x3 => S.bd (bld [(Go.Value.int Go.IntKind.i64 0), (Go.Value.int Go.IntKind.i64 0), (Go.Value.int Go.IntKind.u64 0), (Go.Value.int Go.IntKind.i64 0), (Go.Value.int Go.IntKind.u64 0)] [(1, 2, x2), (3, 2, x3)]) fun x4 => S.bd (stl c1 0 5 x4) fun c5 => S.bd (lal c5 0 5) fun x6 => some (x6)
def leapfrogref12x_Head.r (a0 : Value) (s : St) : Option Value := leapfrogref12x_Head.t std a0 s
def leapfrogref12x_Head.w : List Value → St → Option Value
  | [a0], s => leapfrogref12x_Head.r a0 s
  | _, _ => none
def leapfrogref12x_Head.an : An := ⟨7, true, [2], [], [], []⟩
theorem leapfrogref12x_Head.ok (S : Sig) (a0 : Value) (s : St) : evG S Try.prog leapfrogref12x_Head.ctx leapfrogref12x_Head.an Try.f19 [a0] s = leapfrogref12x_Head.t S a0 s := by kernel_rfl
theorem leapfrogref12x_Head.cok : CtxOk Try.prog leapfrogref12x_Head.ctx := .nil
theorem leapfrogref12x_Head.draws : fnDraws leapfrogref12x_Head.an Try.f19 = true := by kernel_rfl
theorem leapfrogref12x_Head.can : callOk Try.prog 19 = true := by kernel_rfl
theorem leapfrogref12x_Head.sound : FnOk Try.prog 19 (.rd leapfrogref12x_Head.w) := FnOk.rd_of (evG_ok leapfrogref12x_Head.cok mixed (f := 19) (fn := Try.f19) (by kernel_rfl) leapfrogref12x_Head.draws) fun args s r h => by
  unfold leapfrogref12x_Head.w at h; split at h
  · rw [leapfrogref12x_Head.ok std]; exact h
  · simp at h

/-! ### (*leapfrog/leapfrogref12.Seek).again: function 56 -/
def leapfrogref12x_Seek_again.ctx : Ctx := [(65, .st leapfrogref12x_Seek_counts.w), (19, .rd leapfrogref12x_Head.w)]
def leapfrogref12x_Seek_again.t (S : Sig) (a0 : Value) (s : St) : Option (Value × St) :=
  S.bd (leapfrogref12x_Seek_counts.v a0 s) fun r1 => S.cnd r1.1 (S.bd (nck a0) fun x2 => S.bd (fld 0 x2) fun x3 => S.bd (fld 0 x3) fun x4 => S.bd (ldc r1.2 x4) fun x5 => S.bd (nck a0) fun x6 => S.bd (fld 0 x6) fun x7 => S.bd (fld 0 x7) fun x8 => S.bd (ldc r1.2 x8) fun x9 => S.bd (bld [(Go.Value.int Go.IntKind.i64 0), (Go.Value.int Go.IntKind.u64 0)] [(0, 1, x9)]) fun x10 => S.bd (leapfrogref12x_Head.r x5 r1.2) fun x11 => S.bd (nck a0) fun x12 => S.bd (fld 8 x12) fun x13 => S.bd (stv r1.2 5 x13 x11) fun s14 => S.bd (nck a0) fun x15 => S.bd (fld 13 x15) fun x16 => S.bd (stv s14 2 x16 x10) fun s17 => S.bd (nck a0) fun x18 => S.bd (fld 15 x18) fun x19 => S.bd (stv s17 1 x19 (Go.Value.bool Bool.false)) fun s20 => some ((Value.tuple ⟨[]⟩), s20)) (some ((Value.tuple ⟨[]⟩), r1.2))
def leapfrogref12x_Seek_again.v (a0 : Value) (s : St) : Option (Value × St) := leapfrogref12x_Seek_again.t std a0 s
def leapfrogref12x_Seek_again.w : List Value → St → Option (Value × St)
  | [a0], s => leapfrogref12x_Seek_again.v a0 s
  | _, _ => none
def leapfrogref12x_Seek_again.an : An := ⟨25, false, [], [], [], [(1, [(0, 0, [], []), (1, 0, [], []), (2, 0, [], []), (3, 0, [], []), (4, 0, [], []), (5, 0, [], []), (6, 0, [], []), (7, 2, [], []), (9, 0, [], []), (10, 0, [], []), (11, 0, [], []), (12, 0, [], []), (13, 2, [], []), (14, 0, [], []), (8, 3, [], []), (15, 0, [], []), (16, 0, [], []), (17, 4, [], []), (18, 0, [], []), (19, 0, [], []), (20, 4, [], []), (21, 0, [], []), (22, 0, [], []), (23, 4, [], [])])]⟩
theorem leapfrogref12x_Seek_again.ok (S : Sig) (a0 : Value) (s : St) : evF S Try.prog leapfrogref12x_Seek_again.ctx leapfrogref12x_Seek_again.an Try.f56 [a0] s = leapfrogref12x_Seek_again.t S a0 s := by kernel_rfl
theorem leapfrogref12x_Seek_again.cok : CtxOk Try.prog leapfrogref12x_Seek_again.ctx := .cons leapfrogref12x_Seek_counts.sound leapfrogref12x_Seek_counts.can <| .cons leapfrogref12x_Head.sound leapfrogref12x_Head.can <| .nil
theorem leapfrogref12x_Seek_again.draws : fnDraws leapfrogref12x_Seek_again.an Try.f56 = true := by kernel_rfl
theorem leapfrogref12x_Seek_again.can : callOk Try.prog 56 = true := by kernel_rfl
theorem leapfrogref12x_Seek_again.sound : FnOk Try.prog 56 (.st leapfrogref12x_Seek_again.w) := FnOk.st_of (evF_ok leapfrogref12x_Seek_again.cok mixed (f := 56) (fn := Try.f56) (by kernel_rfl) leapfrogref12x_Seek_again.draws) fun args s r h => by
  unfold leapfrogref12x_Seek_again.w at h; split at h
  · rw [leapfrogref12x_Seek_again.ok std]; exact h
  · simp at h

/-! ### (*leapfrog/leapfrogref12.Seek).known: function 67 -/
def leapfrogref12x_Seek_known.ctx : Ctx := []
def leapfrogref12x_Seek_known.l2 (S : Sig) (rec32 : List Value → St → Option Cut) (xs30 : List Value) (s31 : St) : Option Cut :=
  S.bd (nck (xs30.getD 0 undef)) fun x33 => S.bd (fld 21 x33) fun x34 => S.bd (ldc s31 x34) fun x35 => S.bd (lenL x35) fun x36 => S.bd (bin .lss (xs30.getD 1 undef) x36) fun x37 => S.cnd x37 (S.bd (nck (xs30.getD 0 undef)) fun x38 => S.bd (fld 21 x38) fun x39 => S.bd (ldc s31 x39) fun x40 => S.bd (idx s31 13 x40 (xs30.getD 1 undef)) fun x41 => S.bd (fld 0 x41) fun x42 => S.bd (ldc s31 x42) fun x43 => S.bd (lcl (cellsA (xs30.getD 2 undef)) 0) fun x44 => S.bd (eqb [1] false false x43 x44) fun x45 => S.bd (S.gd x45 true (some (xs30.getD 0 undef))) fun x46 => S.bd (S.gd x45 true (nck x46)) fun x47 => S.bd (S.gd x45 true (fld 21 x47)) fun x48 => S.bd (S.gd x45 true (ldc s31 x48)) fun x49 => S.bd (S.gd x45 true (some (xs30.getD 1 undef))) fun x50 => S.bd (S.gd x45 true (idx s31 13 x49 x50)) fun x51 => S.bd (S.gd x45 true (fld 1 x51)) fun x52 => S.bd (S.gd x45 true (lda s31 2 x52)) fun x53 => S.bd (S.gd x45 true (some (xs30.getD 0 undef))) fun x54 => S.bd (S.gd x45 true (nck x54)) fun x55 => S.bd (S.gd x45 true (fld 13 x55)) fun x56 => S.bd (S.gd x45 true (lda s31 2 x56)) fun x57 => S.bd (S.gd x45 true (eqb [1, 1] true false x53 x57)) fun x58 => S.bd (pik x45 x58 (Go.Value.bool Bool.false)) fun x59 => S.cnd x59 (some (1, [(xs30.getD 1 undef)], s31)) (S.bd (bin .add (xs30.getD 1 undef) (Go.Value.int Go.IntKind.i64 1)) fun x60 => rec32 [(xs30.getD 0 undef), x60, (Value.agg ⟨(cellsA (xs30.getD 2 undef))⟩)] s31)) (some (0, [], s31))

def leapfrogref12x_Seek_known.t (S : Sig) (a0 a1 : Value) (s : St) : Option Value :=
  S.bd (bx a1) fun c1 => S.bd (S.it (leapfrogref12x_Seek_known.l2 S) [a0, (Go.Value.int Go.IntKind.i64 0), (Value.agg ⟨c1⟩)] s) fun r61 => if r61.1 = 0 then (some ((Go.Value.int Go.IntKind.i64 (-1)))) else (some ((r61.2.1.getD 0 undef)))
def leapfrogref12x_Seek_known.r (a0 a1 : Value) (s : St) : Option Value := leapfrogref12x_Seek_known.t std a0 a1 s
def leapfrogref12x_Seek_known.w : List Value → St → Option Value
  | [a0, a1], s => leapfrogref12x_Seek_known.r a0 a1 s
  | _, _ => none
def leapfrogref12x_Seek_known.an : An := ⟨42, true, [3], [(2, ⟨[.v 0, .p 3 3 0, .v 5, .l 3], [(.exit 0, []), (.ret, [.v 4])]⟩)], [], [(4, [(0, 0, [], []), (1, 0, [], []), (2, 0, [], []), (3, 2, [], []), (4, 0, [], []), (5, 2, [], []), (6, 0, [], []), (7, 2, [], []), (8, 0, [], []), (9, 25, [], []), (10, 0, [], []), (11, 0, [], []), (12, 0, [], []), (13, 0, [], []), (14, 0, [], []), (15, 2, [], []), (16, 0, [], []), (17, 2, [], []), (18, 0, [], []), (19, 2, [], []), (20, 0, [], []), (21, 0, [], []), (22, 0, [], []), (23, 2, [], []), (24, 0, [], []), (25, 0, [], [])])]⟩
theorem leapfrogref12x_Seek_known.ok (S : Sig) (a0 a1 : Value) (s : St) : evG S Try.prog leapfrogref12x_Seek_known.ctx leapfrogref12x_Seek_known.an Try.f67 [a0, a1] s = leapfrogref12x_Seek_known.t S a0 a1 s := by kernel_rfl
theorem leapfrogref12x_Seek_known.cok : CtxOk Try.prog leapfrogref12x_Seek_known.ctx := .nil
theorem leapfrogref12x_Seek_known.draws : fnDraws leapfrogref12x_Seek_known.an Try.f67 = true := by kernel_rfl
theorem leapfrogref12x_Seek_known.can : callOk Try.prog 67 = true := by kernel_rfl
theorem leapfrogref12x_Seek_known.sound : FnOk Try.prog 67 (.rd leapfrogref12x_Seek_known.w) := FnOk.rd_of (evG_ok leapfrogref12x_Seek_known.cok mixed (f := 67) (fn := Try.f67) (by kernel_rfl) leapfrogref12x_Seek_known.draws) fun args s r h => by
  unfold leapfrogref12x_Seek_known.w at h; split at h
  · rw [leapfrogref12x_Seek_known.ok std]; exact h
  · simp at h

/-! ### (*leapfrog/leapfrogref12.Seek).right: function 54 -/
def leapfrogref12x_Seek_right.ctx : Ctx := [(43, .rd leapfrogref02x_Check.w), (53, .rd leapfrogref02x_Less.w), (56, .st leapfrogref12x_Seek_again.w), (67, .rd leapfrogref12x_Seek_known.w), (51, .rd leapfrogref01x_PrefixQ.w), (68, .st leapfrogref12x_Seek_end.w)]
def leapfrogref12x_Seek_right.l2 (S : Sig) (rec31 : List Value → St → Option Cut) (xs29 : List Value) (s30 : St) : Option Cut :=
  S.bd (lal (cellsA (xs29.getD 1 undef)) 1 2) fun x32 => S.bd (leapfrogref02x_Check.r x32 s30) fun x33 => S.bd (eqb [1] false true x33 (Go.Value.int Go.IntKind.i64 0)) fun x34 => S.bd (S.gd x34 false (lal (cellsA (xs29.getD 2 undef)) 0 2)) fun x35 => S.bd (S.gd x34 false (lal (cellsA (xs29.getD 1 undef)) 1 2)) fun x36 => S.bd (S.gd x34 false (leapfrogref02x_Less.r x35 x36 s30)) fun x37 => S.bd (S.gd x34 false (un .not x37)) fun x38 => S.bd (pik x34 (Go.Value.bool Bool.true) x38) fun x39 => S.cnd x39 (S.bd (leapfrogref12x_Seek_again.v (xs29.getD 0 undef) s30) fun r40 => some (1, [], r40.2)) (S.bd (lal (cellsA (xs29.getD 1 undef)) 0 5) fun x41 => S.bd (leapfrogref12x_Seek_known.r (xs29.getD 0 undef) x41 s30) fun x42 => S.bd (bin .lss x42 (Go.Value.int Go.IntKind.i64 0)) fun x43 => S.cnd x43 (some (0, [(xs29.getD 0 undef), (Value.agg ⟨(cellsA (xs29.getD 1 undef))⟩)], s30)) (S.bd (lal (cellsA (xs29.getD 1 undef)) 1 2) fun x44 => S.bd (nck (xs29.getD 0 undef)) fun x45 => S.bd (fld 21 x45) fun x46 => S.bd (ldc s30 x46) fun x47 => S.bd (idx s30 13 x47 x42) fun x48 => S.bd (fld 8 x48) fun x49 => S.bd (lda s30 5 x49) fun x50 => S.bd (stl (cellsA (xs29.getD 2 undef)) 0 2 x44) fun c51 => S.bd (stl (cellsA (xs29.getD 1 undef)) 0 5 x50) fun c52 => rec31 [(xs29.getD 0 undef), (Value.agg ⟨c52⟩), (Value.agg ⟨c51⟩)] s30))

def leapfrogref12x_Seek_right.t.p1 (S : Sig) (r53 : Cut) : Option (Value × St) :=
  S.bd (nck (r53.2.1.getD 0 undef)) fun x67 => S.bd (fld 13 x67) fun x68 => S.bd (fld 0 x68) fun x69 => S.bd (ldc r53.2.2 x69) fun x70 => S.bd (bin .gtr x70 (Go.Value.int Go.IntKind.i64 0)) fun x71 => S.cnd x71 (S.bd (nck (r53.2.1.getD 0 undef)) fun x72 => S.bd (fld 13 x72) fun x73 => S.bd (lda r53.2.2 2 x73) fun x74 => S.bd (nck (r53.2.1.getD 0 undef)) fun x75 => S.bd (fld 13 x75) fun x76 => S.bd (fld 0 x76) fun x77 => S.bd (ldc r53.2.2 x77) fun x78 => S.bd (bin .sub x78 (Go.Value.int Go.IntKind.i64 1)) fun x79 => S.bd (leapfrogref01x_PrefixQ.r x74 x79 r53.2.2) fun x80 => S.bd (xtr 0 x80) fun x81 => S.bd (xtr 1 x80) fun x82 => S.bd (nck (r53.2.1.getD 0 undef)) fun x83 => S.bd (fld 13 x83) fun x84 => S.bd (stv r53.2.2 2 x84 x81) fun s85 => S.bd (nck (r53.2.1.getD 0 undef)) fun x86 => S.bd (fld 15 x86) fun x87 => S.bd (stv s85 1 x87 (Go.Value.bool Bool.false)) fun s88 => some ((Value.tuple ⟨[]⟩), s88)) (S.bd (nck (r53.2.1.getD 0 undef)) fun x89 => S.bd (fld 8 x89) fun x90 => S.bd (lda r53.2.2 5 x90) fun x91 => S.bd (lal (cellsA (r53.2.1.getD 1 undef)) 0 5) fun x92 => S.bd (lal (cellsA (r53.2.1.getD 1 undef)) 1 2) fun x93 => S.bd (nck (r53.2.1.getD 0 undef)) fun x94 => S.bd (fld 0 x94) fun x95 => S.bd (fld 6 x95) fun x96 => S.bd (lda r53.2.2 2 x96) fun x97 => S.bd (eqb [1, 1] true false x93 x97) fun x98 => S.bd (bld [(Go.Value.int Go.IntKind.i64 0), (Go.Value.int Go.IntKind.u64 0), (Go.Value.slice Option.none 0 0), (Go.Value.slice Option.none 0 0), (Go.Value.int Go.IntKind.i64 0), (Go.Value.int Go.IntKind.i64 0), (Go.Value.int Go.IntKind.u64 0), (Go.Value.int Go.IntKind.i64 0), (Go.Value.int Go.IntKind.u64 0), (Go.Value.int Go.IntKind.i64 0), (Go.Value.int Go.IntKind.i64 0), (Go.Value.int Go.IntKind.u64 0), (Go.Value.int Go.IntKind.i64 0), (Go.Value.int Go.IntKind.u64 0), (Go.Value.bool Bool.false)] [(4, 5, x91), (9, 5, x92), (14, 1, x98)]) fun x99 => S.bd (leapfrogref12x_Seek_end.v (r53.2.1.getD 0 undef) x99 r53.2.2) fun r100 => S.bd (lda r100.2 5 x90) fun x101 => S.cnd (Value.bool (sameV x101 x91)) (S.bd (lda r100.2 2 x96) fun x102 => S.cnd (Value.bool (sameV x102 x97)) (some ((Value.tuple ⟨[]⟩), r100.2)) (none)) (none))

def leapfrogref12x_Seek_right.t (S : Sig) (a0 a1 : Value) (s : St) : Option (Value × St) :=
  S.bd (bx a1) fun c1 => S.bd (nck a0) fun x2 => S.bd (fld 8 x2) fun x3 => S.bd (fld 1 x3) fun x4 => S.bd (lda s 2 x4) fun x5 => S.bd (bx (Go.Value.agg #[(Go.Value.int Go.IntKind.i64 0), (Go.Value.int Go.IntKind.u64 0)])) fun c6 => S.bd (stl c6 0 2 x5) fun c7 => S.bd (S.it (leapfrogref12x_Seek_right.l2 S) [a0, (Value.agg ⟨c1⟩), (Value.agg ⟨c7⟩)] s) fun r53 => if r53.1 = 0 then (S.bd (lal (cellsA (r53.2.1.getD 1 undef)) 1 2) fun x54 => S.bd (nck (r53.2.1.getD 0 undef)) fun x55 => S.bd (fld 0 x55) fun x56 => S.bd (fld 6 x56) fun x57 => S.bd (lda r53.2.2 2 x57) fun x58 => S.bd (leapfrogref02x_Less.r x54 x58 r53.2.2) fun x59 => S.cnd x59 (S.bd (lal (cellsA (r53.2.1.getD 1 undef)) 0 5) fun x60 => S.bd (nck (r53.2.1.getD 0 undef)) fun x61 => S.bd (fld 15 x61) fun x62 => S.bd (stv r53.2.2 1 x62 (Go.Value.bool Bool.true)) fun s63 => S.bd (nck (r53.2.1.getD 0 undef)) fun x64 => S.bd (fld 16 x64) fun x65 => S.bd (stv s63 5 x65 x60) fun s66 => some ((Value.tuple ⟨[]⟩), s66)) (leapfrogref12x_Seek_right.t.p1 S r53)) else (some ((Value.tuple ⟨[]⟩), r53.2.2))
def leapfrogref12x_Seek_right.v (a0 a1 : Value) (s : St) : Option (Value × St) := leapfrogref12x_Seek_right.t std a0 a1 s
def leapfrogref12x_Seek_right.w : List Value → St → Option (Value × St)
  | [a0, a1], s => leapfrogref12x_Seek_right.v a0 a1 s
  | _, _ => none
def leapfrogref12x_Seek_right.an : An := ⟨98, false, [3, 4], [(2, ⟨[.v 0, .p 3 3 0, .p 4 4 0, .l 3, .l 4], [(.exit 0, [.v 0, .p 3 3 0, .l 3]), (.ret, [])]⟩)], [], [(6, [(0, 0, [], []), (1, 25, [], []), (2, 0, [], []), (3, 0, [], []), (4, 0, [], []), (5, 2, [], []), (6, 0, [], []), (7, 2, [], []), (8, 0, [], []), (9, 2, [], []), (10, 37, [], []), (11, 29, [], [])]), (8, [(0, 0, [], []), (1, 25, [], []), (2, 0, [], []), (3, 0, [], []), (4, 0, [], []), (5, 0, [], []), (6, 2, [], []), (7, 3, [], []), (8, 0, [], [])]), (9, [(0, 0, [], []), (1, 0, [], []), (2, 25, [], []), (3, 0, [], []), (4, 0, [], []), (5, 4, [], []), (6, 0, [], []), (7, 0, [], []), (8, 4, [], [])]), (11, [(0, 0, [], []), (1, 0, [], []), (2, 0, [], []), (3, 0, [], []), (4, 2, [], []), (5, 0, [], []), (6, 0, [], []), (7, 0, [], []), (8, 0, [], []), (9, 2, [], []), (10, 0, [], []), (11, 3, [], []), (12, 0, [], []), (13, 0, [], []), (14, 0, [], []), (15, 0, [], []), (16, 0, [], []), (17, 4, [], [])]), (7, [(0, 0, [], []), (1, 0, [], []), (2, 0, [], []), (3, 0, [], []), (4, 2, [], []), (5, 25, [], []), (6, 0, [], []), (7, 25, [], []), (8, 0, [], []), (9, 0, [], []), (10, 0, [], []), (11, 0, [], []), (12, 2, [], []), (13, 0, [], []), (14, 0, [], []), (15, 4, [4, 12], [])])]⟩
theorem leapfrogref12x_Seek_right.ok (S : Sig) (a0 a1 : Value) (s : St) : evF S Try.prog leapfrogref12x_Seek_right.ctx leapfrogref12x_Seek_right.an Try.f54 [a0, a1] s = leapfrogref12x_Seek_right.t S a0 a1 s := by kernel_rfl
theorem leapfrogref12x_Seek_right.cok : CtxOk Try.prog leapfrogref12x_Seek_right.ctx := .cons leapfrogref02x_Check.sound leapfrogref02x_Check.can <| .cons leapfrogref02x_Less.sound leapfrogref02x_Less.can <| .cons leapfrogref12x_Seek_again.sound leapfrogref12x_Seek_again.can <| .cons leapfrogref12x_Seek_known.sound leapfrogref12x_Seek_known.can <| .cons leapfrogref01x_PrefixQ.sound leapfrogref01x_PrefixQ.can <| .cons leapfrogref12x_Seek_end.sound leapfrogref12x_Seek_end.can <| .nil
theorem leapfrogref12x_Seek_right.draws : fnDraws leapfrogref12x_Seek_right.an Try.f54 = true := by kernel_rfl
theorem leapfrogref12x_Seek_right.can : callOk Try.prog 54 = true := by kernel_rfl
theorem leapfrogref12x_Seek_right.sound : FnOk Try.prog 54 (.st leapfrogref12x_Seek_right.w) := FnOk.st_of (evF_ok leapfrogref12x_Seek_right.cok mixed (f := 54) (fn := Try.f54) (by kernel_rfl) leapfrogref12x_Seek_right.draws) fun args s r h => by
  unfold leapfrogref12x_Seek_right.w at h; split at h
  · rw [leapfrogref12x_Seek_right.ok std]; exact h
  · simp at h

/-! ### (*leapfrog/leapfrogref12.Seek).keep: function 55 -/
def leapfrogref12x_Seek_keep.ctx : Ctx := [(67, .rd leapfrogref12x_Seek_known.w)]
def leapfrogref12x_Seek_keep.t.p1 (S : Sig) (c2 : List Value) (x5 : Value) (x8 : Value) (x9 : Value) (x4 : Value) (a0 : Value) (s : St) : Option (Value × St) :=
  S.bd (lal c2 7 5) fun x10 => S.bd (bld [(Go.Value.int Go.IntKind.i64 0), (Go.Value.int Go.IntKind.i64 0), (Go.Value.int Go.IntKind.u64 0), (Go.Value.int Go.IntKind.i64 0), (Go.Value.int Go.IntKind.i64 0), (Go.Value.int Go.IntKind.u64 0), (Go.Value.int Go.IntKind.i64 0), (Go.Value.int Go.IntKind.u64 0), (Go.Value.int Go.IntKind.i64 0), (Go.Value.int Go.IntKind.i64 0), (Go.Value.int Go.IntKind.u64 0), (Go.Value.int Go.IntKind.i64 0), (Go.Value.int Go.IntKind.u64 0)] [(0, 1, x5), (1, 2, x8), (3, 5, x9), (8, 5, x10)]) fun x11 => S.bd (bx (Go.Value.agg #[(Go.Value.int Go.IntKind.i64 0), (Go.Value.int Go.IntKind.i64 0), (Go.Value.int Go.IntKind.u64 0), (Go.Value.int Go.IntKind.i64 0), (Go.Value.int Go.IntKind.i64 0), (Go.Value.int Go.IntKind.u64 0), (Go.Value.int Go.IntKind.i64 0), (Go.Value.int Go.IntKind.u64 0), (Go.Value.int Go.IntKind.i64 0), (Go.Value.int Go.IntKind.i64 0), (Go.Value.int Go.IntKind.u64 0), (Go.Value.int Go.IntKind.i64 0), (Go.Value.int Go.IntKind.u64 0)])) fun c12 => S.bd (stl c12 0 13 x11) fun c13 => S.bd (bin .geq x4 (Go.Value.int Go.IntKind.i64 0)) fun x14 => S.cnd x14 (S.bd (nck a0) fun x15 => S.bd (fld 21 x15) fun x16 => S.bd (ldc s x16) fun x17 => S.bd (lal c13 0 13) fun x18 => S.bd (idx s 13 x17 x4) fun x19 => S.bd (stv s 13 x19 x18) fun s20 => some ((Value.tuple ⟨[]⟩), s20)) (S.bd (nck a0) fun x21 => S.bd (fld 21 x21) fun x22 => S.bd (ldc s x22) fun x23 => S.bd (lal c13 0 13) fun x24 => S.bd (S.bd (bls 13 (List.replicate 1 [(Go.Value.int Go.IntKind.i64 0), (Go.Value.int Go.IntKind.i64 0), (Go.Value.int Go.IntKind.u64 0), (Go.Value.int Go.IntKind.i64 0), (Go.Value.int Go.IntKind.i64 0), (Go.Value.int Go.IntKind.u64 0), (Go.Value.int Go.IntKind.i64 0), (Go.Value.int Go.IntKind.u64 0), (Go.Value.int Go.IntKind.i64 0), (Go.Value.int Go.IntKind.i64 0), (Go.Value.int Go.IntKind.u64 0), (Go.Value.int Go.IntKind.i64 0), (Go.Value.int Go.IntKind.u64 0)]) [(0, x24)]) fun rows => als s 13 1 rows) fun r25 => S.bd (app r25.2 13 104 x23 r25.1) fun r26 => S.bd (nck a0) fun x27 => S.bd (fld 21 x27) fun x28 => S.bd (stv r26.2 1 x28 r26.1) fun s29 => some ((Value.tuple ⟨[]⟩), s29))

def leapfrogref12x_Seek_keep.t (S : Sig) (a0 a1 a2 : Value) (s : St) : Option (Value × St) :=
  S.bd (bx a1) fun c1 => S.bd (bx a2) fun c2 => S.bd (lal c1 0 5) fun x3 => S.bd (leapfrogref12x_Seek_known.r a0 x3 s) fun x4 => S.bd (lcl c1 0) fun x5 => S.bd (nck a0) fun x6 => S.bd (fld 13 x6) fun x7 => S.bd (lda s 2 x7) fun x8 => S.bd (lal c2 2 5) fun x9 => leapfrogref12x_Seek_keep.t.p1 S c2 x5 x8 x9 x4 a0 s
def leapfrogref12x_Seek_keep.v (a0 a1 a2 : Value) (s : St) : Option (Value × St) := leapfrogref12x_Seek_keep.t std a0 a1 a2 s
def leapfrogref12x_Seek_keep.w : List Value → St → Option (Value × St)
  | [a0, a1, a2], s => leapfrogref12x_Seek_keep.v a0 a1 a2 s
  | _, _ => none
def leapfrogref12x_Seek_keep.an : An := ⟨41, false, [4, 5, 7], [], [], [(2, [(0, 0, [], []), (1, 33, [], []), (2, 0, [], []), (3, 0, [], []), (4, 0, [], []), (5, 2, [], []), (6, 0, [], []), (7, 41, [], []), (8, 0, [], []), (9, 41, [], []), (10, 0, [], []), (11, 6, [], []), (12, 61, [], [])]), (4, [(0, 0, [], []), (1, 0, [], []), (2, 0, [], []), (3, 2, [], []), (4, 0, [], []), (5, 57, [], []), (6, 2, [], []), (7, 4, [], [])]), (5, [(0, 0, [], []), (1, 0, [], []), (2, 0, [], []), (3, 0, [], []), (4, 2, [], []), (5, 57, [], []), (6, 3, [], []), (7, 4, [], []), (8, 0, [], []), (9, 0, [], []), (10, 4, [], [])])]⟩
theorem leapfrogref12x_Seek_keep.ok (S : Sig) (a0 a1 a2 : Value) (s : St) : evF S Try.prog leapfrogref12x_Seek_keep.ctx leapfrogref12x_Seek_keep.an Try.f55 [a0, a1, a2] s = leapfrogref12x_Seek_keep.t S a0 a1 a2 s := by kernel_rfl
theorem leapfrogref12x_Seek_keep.cok : CtxOk Try.prog leapfrogref12x_Seek_keep.ctx := .cons leapfrogref12x_Seek_known.sound leapfrogref12x_Seek_known.can <| .nil
theorem leapfrogref12x_Seek_keep.draws : fnDraws leapfrogref12x_Seek_keep.an Try.f55 = true := by kernel_rfl
theorem leapfrogref12x_Seek_keep.can : callOk Try.prog 55 = true := by kernel_rfl
theorem leapfrogref12x_Seek_keep.sound : FnOk Try.prog 55 (.st leapfrogref12x_Seek_keep.w) := FnOk.st_of (evF_ok leapfrogref12x_Seek_keep.cok mixed (f := 55) (fn := Try.f55) (by kernel_rfl) leapfrogref12x_Seek_keep.draws) fun args s r h => by
  unfold leapfrogref12x_Seek_keep.w at h; split at h
  · rw [leapfrogref12x_Seek_keep.ok std]; exact h
  · simp at h

/-! ### (*leapfrog/leapfrogref12.Seek).looked: function 52 -/
def leapfrogref12x_Seek_looked.ctx : Ctx := [(54, .st leapfrogref12x_Seek_right.w), (55, .st leapfrogref12x_Seek_keep.w), (65, .st leapfrogref12x_Seek_counts.w), (56, .st leapfrogref12x_Seek_again.w)]
def leapfrogref12x_Seek_looked.t (S : Sig) (a0 a1 : Value) (s : St) : Option (Value × St) :=
  S.bd (bx a1) fun c1 => S.bd (lcl c1 0) fun x2 => S.bd (eqb [1] false false x2 (Go.Value.int Go.IntKind.i64 1)) fun x3 => S.cnd x3 (S.bd (nck a0) fun x4 => S.bd (fld 16 x4) fun x5 => S.bd (lda s 5 x5) fun x6 => S.bd (nck a0) fun x7 => S.bd (fld 8 x7) fun x8 => S.bd (stv s 5 x8 x6) fun s9 => S.bd (nck a0) fun x10 => S.bd (fld 15 x10) fun x11 => S.bd (stv s9 1 x11 (Go.Value.bool Bool.false)) fun s12 => S.bd (lal c1 7 5) fun x13 => S.bd (leapfrogref12x_Seek_right.v a0 x13 s12) fun r14 => some ((Value.tuple ⟨[]⟩), r14.2)) (S.bd (eqb [1] false false x2 (Go.Value.int Go.IntKind.i64 3)) fun x15 => S.cnd x15 (S.bd (nck a0) fun x16 => S.bd (fld 16 x16) fun x17 => S.bd (lda s 5 x17) fun x18 => S.bd (lal c1 0 13) fun x19 => S.bd (leapfrogref12x_Seek_keep.v a0 x18 x19 s) fun r20 => S.bd (leapfrogref12x_Seek_counts.v a0 r20.2) fun r21 => S.cnd r21.1 (S.bd (nck a0) fun x22 => S.bd (fld 15 x22) fun x23 => S.bd (stv r21.2 1 x23 (Go.Value.bool Bool.false)) fun s24 => some ((Value.tuple ⟨[]⟩), s24)) (some ((Value.tuple ⟨[]⟩), r21.2))) (S.bd (leapfrogref12x_Seek_again.v a0 s) fun r25 => some ((Value.tuple ⟨[]⟩), r25.2)))
def leapfrogref12x_Seek_looked.v (a0 a1 : Value) (s : St) : Option (Value × St) := leapfrogref12x_Seek_looked.t std a0 a1 s
def leapfrogref12x_Seek_looked.w : List Value → St → Option (Value × St)
  | [a0, a1], s => leapfrogref12x_Seek_looked.v a0 a1 s
  | _, _ => none
def leapfrogref12x_Seek_looked.an : An := ⟨38, false, [3], [], [], [(7, [(0, 0, [], []), (1, 0, [], []), (2, 0, [], []), (3, 0, [], []), (4, 2, [], []), (5, 25, [], []), (6, 4, [], [])])]⟩
theorem leapfrogref12x_Seek_looked.ok (S : Sig) (a0 a1 : Value) (s : St) : evF S Try.prog leapfrogref12x_Seek_looked.ctx leapfrogref12x_Seek_looked.an Try.f52 [a0, a1] s = leapfrogref12x_Seek_looked.t S a0 a1 s := by kernel_rfl
theorem leapfrogref12x_Seek_looked.cok : CtxOk Try.prog leapfrogref12x_Seek_looked.ctx := .cons leapfrogref12x_Seek_right.sound leapfrogref12x_Seek_right.can <| .cons leapfrogref12x_Seek_keep.sound leapfrogref12x_Seek_keep.can <| .cons leapfrogref12x_Seek_counts.sound leapfrogref12x_Seek_counts.can <| .cons leapfrogref12x_Seek_again.sound leapfrogref12x_Seek_again.can <| .nil
theorem leapfrogref12x_Seek_looked.draws : fnDraws leapfrogref12x_Seek_looked.an Try.f52 = true := by kernel_rfl
theorem leapfrogref12x_Seek_looked.can : callOk Try.prog 52 = true := by kernel_rfl
theorem leapfrogref12x_Seek_looked.sound : FnOk Try.prog 52 (.st leapfrogref12x_Seek_looked.w) := FnOk.st_of (evF_ok leapfrogref12x_Seek_looked.cok mixed (f := 52) (fn := Try.f52) (by kernel_rfl) leapfrogref12x_Seek_looked.draws) fun args s r h => by
  unfold leapfrogref12x_Seek_looked.w at h; split at h
  · rw [leapfrogref12x_Seek_looked.ok std]; exact h
  · simp at h

/-! ### (*leapfrog/leapfrogref12.Seek).Tell: function 37 -/
def leapfrogref12x_Seek_Tell.ctx : Ctx := [(52, .st leapfrogref12x_Seek_looked.w), (53, .rd leapfrogref02x_Less.w), (54, .st leapfrogref12x_Seek_right.w), (43, .rd leapfrogref02x_Check.w), (55, .st leapfrogref12x_Seek_keep.w), (56, .st leapfrogref12x_Seek_again.w)]
def leapfrogref12x_Seek_Tell.t.p1 (S : Sig) (c1 : List Value) (a0 : Value) (s : St) : Option (Value × St) :=
  S.bd (lcl c1 0) fun x10 => S.bd (eqb [1] false false x10 (Go.Value.int Go.IntKind.i64 1)) fun x11 => S.bd (S.gd x11 true (some a0)) fun x12 => S.bd (S.gd x11 true (nck x12)) fun x13 => S.bd (S.gd x11 true (fld 8 x13)) fun x14 => S.bd (S.gd x11 true (fld 1 x14)) fun x15 => S.bd (S.gd x11 true (lda s 2 x15)) fun x16 => S.bd (S.gd x11 true (some a0)) fun x17 => S.bd (S.gd x11 true (nck x17)) fun x18 => S.bd (S.gd x11 true (fld 0 x18)) fun x19 => S.bd (S.gd x11 true (fld 6 x19)) fun x20 => S.bd (S.gd x11 true (lda s 2 x20)) fun x21 => S.bd (S.gd x11 true (leapfrogref02x_Less.r x16 x21 s)) fun x22 => S.bd (pik x11 x22 (Go.Value.bool Bool.false)) fun x23 => S.cnd x23 (S.bd (lal c1 7 5) fun x24 => S.bd (leapfrogref12x_Seek_right.v a0 x24 s) fun r25 => some ((Value.tuple ⟨[]⟩), r25.2)) (S.bd (lcl c1 0) fun x26 => S.bd (eqb [1] false false x26 (Go.Value.int Go.IntKind.i64 1)) fun x27 => S.bd (S.gd x27 true (lal c1 3 2)) fun x28 => S.bd (S.gd x27 true (leapfrogref02x_Check.r x28 s)) fun x29 => S.bd (S.gd x27 true (eqb [1] false false x29 (Go.Value.int Go.IntKind.i64 0))) fun x30 => S.bd (pik x27 x30 (Go.Value.bool Bool.false)) fun x31 => S.bd (S.gd x31 true (lal c1 3 2)) fun x32 => S.bd (S.gd x31 true (some a0)) fun x33 => S.bd (S.gd x31 true (nck x33)) fun x34 => S.bd (S.gd x31 true (fld 8 x34)) fun x35 => S.bd (S.gd x31 true (fld 1 x35)) fun x36 => S.bd (S.gd x31 true (lda s 2 x36)) fun x37 => S.bd (S.gd x31 true (leapfrogref02x_Less.r x32 x37 s)) fun x38 => S.bd (pik x31 x38 (Go.Value.bool Bool.false)) fun x39 => S.cnd x39 (S.bd (lal c1 2 5) fun x40 => S.bd (nck a0) fun x41 => S.bd (fld 8 x41) fun x42 => S.bd (stv s 5 x42 x40) fun s43 => some ((Value.tuple ⟨[]⟩), s43)) (S.bd (lcl c1 0) fun x44 => S.bd (eqb [1] false false x44 (Go.Value.int Go.IntKind.i64 3)) fun x45 => S.cnd x45 (S.bd (nck a0) fun x46 => S.bd (fld 8 x46) fun x47 => S.bd (lda s 5 x47) fun x48 => S.bd (lal c1 0 13) fun x49 => S.bd (leapfrogref12x_Seek_keep.v a0 x48 x49 s) fun r50 => S.bd (leapfrogref12x_Seek_again.v a0 r50.2) fun r51 => some ((Value.tuple ⟨[]⟩), r51.2)) (S.bd (leapfrogref12x_Seek_again.v a0 s) fun r52 => some ((Value.tuple ⟨[]⟩), r52.2))))

def leapfrogref12x_Seek_Tell.t (S : Sig) (a0 a1 : Value) (s : St) : Option (Value × St) :=
  S.bd (bx a1) fun c1 => S.bd (nck a0) fun x2 => S.bd (fld 23 x2) fun x3 => S.bd (ldc s x3) fun x4 => S.cnd x4 (some ((Value.tuple ⟨[]⟩), s)) (S.bd (nck a0) fun x5 => S.bd (fld 15 x5) fun x6 => S.bd (ldc s x6) fun x7 => S.cnd x7 (S.bd (lal c1 0 13) fun x8 => S.bd (leapfrogref12x_Seek_looked.v a0 x8 s) fun r9 => some ((Value.tuple ⟨[]⟩), r9.2)) (leapfrogref12x_Seek_Tell.t.p1 S c1 a0 s))
def leapfrogref12x_Seek_Tell.v (a0 a1 : Value) (s : St) : Option (Value × St) := leapfrogref12x_Seek_Tell.t std a0 a1 s
def leapfrogref12x_Seek_Tell.w : List Value → St → Option (Value × St)
  | [a0, a1], s => leapfrogref12x_Seek_Tell.v a0 a1 s
  | _, _ => none
def leapfrogref12x_Seek_Tell.an : An := ⟨77, false, [3], [], [], [(7, [(0, 0, [], []), (1, 25, [], []), (2, 0, [], []), (3, 0, [], []), (4, 0, [], []), (5, 0, [], []), (6, 0, [], []), (7, 0, [], []), (8, 2, [], []), (9, 0, [], []), (10, 0, [], []), (11, 0, [], []), (12, 0, [], []), (13, 2, [], []), (14, 3, [], []), (15, 0, [], []), (16, 0, [], [])]), (9, [(0, 0, [], []), (1, 25, [], []), (2, 0, [], []), (3, 0, [], []), (4, 0, [], []), (5, 0, [], []), (6, 25, [], []), (7, 3, [], []), (8, 0, [], []), (9, 0, [], []), (10, 0, [], []), (11, 0, [], []), (12, 0, [], []), (13, 25, [], []), (14, 0, [], []), (15, 0, [], []), (16, 0, [], []), (17, 0, [], []), (18, 2, [], []), (19, 3, [], []), (20, 0, [], []), (21, 0, [], [])]), (2, [(0, 0, [], []), (1, 0, [], []), (2, 0, [], []), (3, 0, [], []), (4, 2, [], []), (5, 25, [], []), (6, 4, [], [])])]⟩
theorem leapfrogref12x_Seek_Tell.ok (S : Sig) (a0 a1 : Value) (s : St) : evF S Try.prog leapfrogref12x_Seek_Tell.ctx leapfrogref12x_Seek_Tell.an Try.f37 [a0, a1] s = leapfrogref12x_Seek_Tell.t S a0 a1 s := by kernel_rfl
theorem leapfrogref12x_Seek_Tell.cok : CtxOk Try.prog leapfrogref12x_Seek_Tell.ctx := .cons leapfrogref12x_Seek_looked.sound leapfrogref12x_Seek_looked.can <| .cons leapfrogref02x_Less.sound leapfrogref02x_Less.can <| .cons leapfrogref12x_Seek_right.sound leapfrogref12x_Seek_right.can <| .cons leapfrogref02x_Check.sound leapfrogref02x_Check.can <| .cons leapfrogref12x_Seek_keep.sound leapfrogref12x_Seek_keep.can <| .cons leapfrogref12x_Seek_again.sound leapfrogref12x_Seek_again.can <| .nil
theorem leapfrogref12x_Seek_Tell.draws : fnDraws leapfrogref12x_Seek_Tell.an Try.f37 = true := by kernel_rfl
theorem leapfrogref12x_Seek_Tell.can : callOk Try.prog 37 = true := by kernel_rfl
theorem leapfrogref12x_Seek_Tell.sound : FnOk Try.prog 37 (.st leapfrogref12x_Seek_Tell.w) := FnOk.st_of (evF_ok leapfrogref12x_Seek_Tell.cok mixed (f := 37) (fn := Try.f37) (by kernel_rfl) leapfrogref12x_Seek_Tell.draws) fun args s r h => by
  unfold leapfrogref12x_Seek_Tell.w at h; split at h
  · rw [leapfrogref12x_Seek_Tell.ok std]; exact h
  · simp at h

/-! ### (*leapfrog/leapfrogref16.Remove).sought: function 38 -/
def leapfrogref16x_Remove_sought.ctx : Ctx := [(33, .st leapfrogref16x_Remove_end.w)]
def leapfrogref16x_Remove_sought.t (S : Sig) (a0 : Value) (s : St) : Option (Value × St) :=
  S.bd (nck a0) fun x1 => S.bd (fld 9 x1) fun x2 => S.bd (ldc s x2) fun x3 => S.bd (nck x3) fun x4 => S.bd (fld 24 x4) fun x5 => S.bd (lda s 15 x5) fun x6 => S.bd (bx (Go.Value.agg #[(Go.Value.int Go.IntKind.i64 0), (Go.Value.int Go.IntKind.u64 0), (Go.Value.slice Option.none 0 0), (Go.Value.slice Option.none 0 0), (Go.Value.int Go.IntKind.i64 0), (Go.Value.int Go.IntKind.i64 0), (Go.Value.int Go.IntKind.u64 0), (Go.Value.int Go.IntKind.i64 0), (Go.Value.int Go.IntKind.u64 0), (Go.Value.int Go.IntKind.i64 0), (Go.Value.int Go.IntKind.i64 0), (Go.Value.int Go.IntKind.u64 0), (Go.Value.int Go.IntKind.i64 0), (Go.Value.int Go.IntKind.u64 0), (Go.Value.bool Bool.false)])) fun c7 => S.bd (stl c7 0 15 x6) fun c8 => S.bd (lcl c8 0) fun x9 => S.bd (eqb [1] false true x9 (Go.Value.int Go.IntKind.i64 0)) fun x10 => S.cnd x10 (S.bd (lcl c8 0) fun x11 => S.bd (leapfrogref16x_Remove_end.v a0 x11 s) fun r12 => some ((Value.tuple ⟨[]⟩), r12.2)) (S.bd (lcl c8 14) fun x13 => S.bd (un .not x13) fun x14 => S.cnd x14 (S.bd (leapfrogref16x_Remove_end.v a0 (Go.Value.int Go.IntKind.i64 101) s) fun r15 => some ((Value.tuple ⟨[]⟩), r15.2)) (S.bd (lal c8 9 5) fun x16 => S.bd (nck a0) fun x17 => S.bd (fld 10 x17) fun x18 => S.bd (stv s 5 x18 x16) fun s19 => S.bd (nck a0) fun x20 => S.bd (fld 15 x20) fun x21 => S.bd (stv s19 1 x21 (Go.Value.bool Bool.true)) fun s22 => some ((Value.tuple ⟨[]⟩), s22)))
def leapfrogref16x_Remove_sought.v (a0 : Value) (s : St) : Option (Value × St) := leapfrogref16x_Remove_sought.t std a0 s
def leapfrogref16x_Remove_sought.w : List Value → St → Option (Value × St)
  | [a0], s => leapfrogref16x_Remove_sought.v a0 s
  | _, _ => none
def leapfrogref16x_Remove_sought.an : An := ⟨32, false, [2], [], [], []⟩
theorem leapfrogref16x_Remove_sought.ok (S : Sig) (a0 : Value) (s : St) : evF S Try.prog leapfrogref16x_Remove_sought.ctx leapfrogref16x_Remove_sought.an Try.f38 [a0] s = leapfrogref16x_Remove_sought.t S a0 s := by kernel_rfl
theorem leapfrogref16x_Remove_sought.cok : CtxOk Try.prog leapfrogref16x_Remove_sought.ctx := .cons leapfrogref16x_Remove_end.sound leapfrogref16x_Remove_end.can <| .nil
theorem leapfrogref16x_Remove_sought.draws : fnDraws leapfrogref16x_Remove_sought.an Try.f38 = true := by kernel_rfl
theorem leapfrogref16x_Remove_sought.can : callOk Try.prog 38 = true := by kernel_rfl
theorem leapfrogref16x_Remove_sought.sound : FnOk Try.prog 38 (.st leapfrogref16x_Remove_sought.w) := FnOk.st_of (evF_ok leapfrogref16x_Remove_sought.cok mixed (f := 38) (fn := Try.f38) (by kernel_rfl) leapfrogref16x_Remove_sought.draws) fun args s r h => by
  unfold leapfrogref16x_Remove_sought.w at h; split at h
  · rw [leapfrogref16x_Remove_sought.ok std]; exact h
  · simp at h

/-! ### (*leapfrog/leapfrogref16.Remove).Tell: function 14 -/
def leapfrogref16x_Remove_Tell.ctx : Ctx := [(33, .st leapfrogref16x_Remove_end.w), (34, .st leapfrogref16x_Remove_leave.w), (35, .st leapfrogref14x_Unsplice_Tell.w), (36, .st leapfrogref16x_Remove_left.w), (37, .st leapfrogref12x_Seek_Tell.w), (38, .st leapfrogref16x_Remove_sought.w)]
def leapfrogref16x_Remove_Tell.t.p1 (S : Sig) (a0 : Value) (s : St) (c1 : List Value) : Option (Value × St) :=
  S.bd (nck a0) fun x5 => S.bd (fld 15 x5) fun x6 => S.bd (ldc s x6) fun x7 => S.cnd x7 (S.bd (nck a0) fun x8 => S.bd (fld 15 x8) fun x9 => S.bd (stv s 1 x9 (Go.Value.bool Bool.false)) fun s10 => S.bd (lcl c1 0) fun x11 => S.bd (eqb [1] false false x11 (Go.Value.int Go.IntKind.i64 3)) fun x12 => S.cnd x12 (S.bd (leapfrogref16x_Remove_end.v a0 (Go.Value.int Go.IntKind.i64 132) s10) fun r13 => some ((Value.tuple ⟨[]⟩), r13.2)) (S.bd (lcl c1 0) fun x14 => S.bd (eqb [1] false true x14 (Go.Value.int Go.IntKind.i64 1)) fun x15 => S.cnd x15 (S.bd (leapfrogref16x_Remove_end.v a0 (Go.Value.int Go.IntKind.i64 101) s10) fun r16 => some ((Value.tuple ⟨[]⟩), r16.2)) (S.bd (nck a0) fun x17 => S.bd (fld 16 x17) fun x18 => S.bd (stv s10 1 x18 (Go.Value.bool Bool.true)) fun s19 => S.bd (nck a0) fun x20 => S.bd (fld 10 x20) fun x21 => S.bd (fld 3 x21) fun x22 => S.bd (lda s19 2 x22) fun x23 => S.bd (leapfrogref16x_Remove_leave.v a0 x23 s19) fun r24 => some ((Value.tuple ⟨[]⟩), r24.2)))) (S.bd (nck a0) fun x25 => S.bd (fld 17 x25) fun x26 => S.bd (ldc s x26) fun x27 => S.bd (eqb [3] false true x27 (Go.Value.pointer Option.none)) fun x28 => S.cnd x28 (S.bd (nck a0) fun x29 => S.bd (fld 17 x29) fun x30 => S.bd (ldc s x30) fun x31 => S.bd (lal c1 0 13) fun x32 => S.bd (leapfrogref14x_Unsplice_Tell.v x31 x32 s) fun r33 => S.bd (nck a0) fun x34 => S.bd (fld 17 x34) fun x35 => S.bd (ldc r33.2 x35) fun x36 => S.bd (nck x36) fun x37 => S.bd (fld 9 x37) fun x38 => S.bd (ldc r33.2 x38) fun x39 => S.bd (eqb [1] false false x39 (Go.Value.int Go.IntKind.i64 10)) fun x40 => S.cnd x40 (S.bd (leapfrogref16x_Remove_left.v a0 r33.2) fun r41 => some ((Value.tuple ⟨[]⟩), r41.2)) (some ((Value.tuple ⟨[]⟩), r33.2))) (S.bd (nck a0) fun x42 => S.bd (fld 9 x42) fun x43 => S.bd (ldc s x43) fun x44 => S.bd (lal c1 0 13) fun x45 => S.bd (leapfrogref12x_Seek_Tell.v x44 x45 s) fun r46 => S.bd (nck a0) fun x47 => S.bd (fld 9 x47) fun x48 => S.bd (ldc r46.2 x48) fun x49 => S.bd (nck x49) fun x50 => S.bd (fld 23 x50) fun x51 => S.bd (ldc r46.2 x51) fun x52 => S.cnd x52 (S.bd (leapfrogref16x_Remove_sought.v a0 r46.2) fun r53 => some ((Value.tuple ⟨[]⟩), r53.2)) (some ((Value.tuple ⟨[]⟩), r46.2))))

def leapfrogref16x_Remove_Tell.t (S : Sig) (a0 a1 : Value) (s : St) : Option (Value × St) :=
  S.bd (bx a1) fun c1 => S.bd (nck a0) fun x2 => S.bd (fld 18 x2) fun x3 => S.bd (ldc s x3) fun x4 => S.cnd x4 (some ((Value.tuple ⟨[]⟩), s)) (leapfrogref16x_Remove_Tell.t.p1 S a0 s c1)
def leapfrogref16x_Remove_Tell.v (a0 a1 : Value) (s : St) : Option (Value × St) := leapfrogref16x_Remove_Tell.t std a0 a1 s
def leapfrogref16x_Remove_Tell.w : List Value → St → Option (Value × St)
  | [a0, a1], s => leapfrogref16x_Remove_Tell.v a0 a1 s
  | _, _ => none
def leapfrogref16x_Remove_Tell.an : An := ⟨74, false, [3], [], [], [(14, [(0, 0, [], []), (1, 0, [], []), (2, 0, [], []), (3, 2, [], []), (4, 25, [], []), (5, 4, [], [])]), (1, [(0, 0, [], []), (1, 0, [], []), (2, 0, [], []), (3, 2, [], []), (4, 25, [], []), (5, 4, [], [])])]⟩
theorem leapfrogref16x_Remove_Tell.ok (S : Sig) (a0 a1 : Value) (s : St) : evF S Try.prog leapfrogref16x_Remove_Tell.ctx leapfrogref16x_Remove_Tell.an Try.f14 [a0, a1] s = leapfrogref16x_Remove_Tell.t S a0 a1 s := by kernel_rfl
theorem leapfrogref16x_Remove_Tell.cok : CtxOk Try.prog leapfrogref16x_Remove_Tell.ctx := .cons leapfrogref16x_Remove_end.sound leapfrogref16x_Remove_end.can <| .cons leapfrogref16x_Remove_leave.sound leapfrogref16x_Remove_leave.can <| .cons leapfrogref14x_Unsplice_Tell.sound leapfrogref14x_Unsplice_Tell.can <| .cons leapfrogref16x_Remove_left.sound leapfrogref16x_Remove_left.can <| .cons leapfrogref12x_Seek_Tell.sound leapfrogref12x_Seek_Tell.can <| .cons leapfrogref16x_Remove_sought.sound leapfrogref16x_Remove_sought.can <| .nil
theorem leapfrogref16x_Remove_Tell.draws : fnDraws leapfrogref16x_Remove_Tell.an Try.f14 = true := by kernel_rfl
theorem leapfrogref16x_Remove_Tell.can : callOk Try.prog 14 = true := by kernel_rfl
theorem leapfrogref16x_Remove_Tell.sound : FnOk Try.prog 14 (.st leapfrogref16x_Remove_Tell.w) := FnOk.st_of (evF_ok leapfrogref16x_Remove_Tell.cok mixed (f := 14) (fn := Try.f14) (by kernel_rfl) leapfrogref16x_Remove_Tell.draws) fun args s r h => by
  unfold leapfrogref16x_Remove_Tell.w at h; split at h
  · rw [leapfrogref16x_Remove_Tell.ok std]; exact h
  · simp at h

/-! ### (*leapfrog/leapfrogref14.Unsplice).Wake: function 39 -/
def leapfrogref14x_Unsplice_Wake.ctx : Ctx := []
def leapfrogref14x_Unsplice_Wake.t (S : Sig) (a0 : Value) (s : St) : Option (Value × St) :=
  S.bd (nck a0) fun x1 => S.bd (fld 9 x1) fun x2 => S.bd (ldc s x2) fun x3 => S.bd (eqb [1] false false x3 (Go.Value.int Go.IntKind.i64 9)) fun x4 => S.cnd x4 (S.bd (nck a0) fun x5 => S.bd (fld 9 x5) fun x6 => S.bd (stv s 1 x6 (Go.Value.int Go.IntKind.i64 1)) fun s7 => some ((Value.tuple ⟨[]⟩), s7)) (some ((Value.tuple ⟨[]⟩), s))
def leapfrogref14x_Unsplice_Wake.v (a0 : Value) (s : St) : Option (Value × St) := leapfrogref14x_Unsplice_Wake.t std a0 s
def leapfrogref14x_Unsplice_Wake.w : List Value → St → Option (Value × St)
  | [a0], s => leapfrogref14x_Unsplice_Wake.v a0 s
  | _, _ => none
def leapfrogref14x_Unsplice_Wake.an : An := ⟨10, false, [], [], [], []⟩
theorem leapfrogref14x_Unsplice_Wake.ok (S : Sig) (a0 : Value) (s : St) : evF S Try.prog leapfrogref14x_Unsplice_Wake.ctx leapfrogref14x_Unsplice_Wake.an Try.f39 [a0] s = leapfrogref14x_Unsplice_Wake.t S a0 s := by kernel_rfl
theorem leapfrogref14x_Unsplice_Wake.cok : CtxOk Try.prog leapfrogref14x_Unsplice_Wake.ctx := .nil
theorem leapfrogref14x_Unsplice_Wake.draws : fnDraws leapfrogref14x_Unsplice_Wake.an Try.f39 = true := by kernel_rfl
theorem leapfrogref14x_Unsplice_Wake.can : callOk Try.prog 39 = true := by kernel_rfl
theorem leapfrogref14x_Unsplice_Wake.sound : FnOk Try.prog 39 (.st leapfrogref14x_Unsplice_Wake.w) := FnOk.st_of (evF_ok leapfrogref14x_Unsplice_Wake.cok mixed (f := 39) (fn := Try.f39) (by kernel_rfl) leapfrogref14x_Unsplice_Wake.draws) fun args s r h => by
  unfold leapfrogref14x_Unsplice_Wake.w at h; split at h
  · rw [leapfrogref14x_Unsplice_Wake.ok std]; exact h
  · simp at h

/-! ### (*leapfrog/leapfrogref16.Remove).Wake: function 16 -/
def leapfrogref16x_Remove_Wake.ctx : Ctx := [(39, .st leapfrogref14x_Unsplice_Wake.w)]
def leapfrogref16x_Remove_Wake.t (S : Sig) (a0 : Value) (s : St) : Option (Value × St) :=
  S.bd (nck a0) fun x1 => S.bd (fld 18 x1) fun x2 => S.bd (ldc s x2) fun x3 => S.bd (un .not x3) fun x4 => S.bd (S.gd x4 true (some a0)) fun x5 => S.bd (S.gd x4 true (nck x5)) fun x6 => S.bd (S.gd x4 true (fld 15 x6)) fun x7 => S.bd (S.gd x4 true (ldc s x7)) fun x8 => S.bd (S.gd x4 true (un .not x8)) fun x9 => S.bd (pik x4 x9 (Go.Value.bool Bool.false)) fun x10 => S.bd (S.gd x10 true (some a0)) fun x11 => S.bd (S.gd x10 true (nck x11)) fun x12 => S.bd (S.gd x10 true (fld 17 x12)) fun x13 => S.bd (S.gd x10 true (ldc s x13)) fun x14 => S.bd (S.gd x10 true (eqb [3] false true x14 (Go.Value.pointer Option.none))) fun x15 => S.bd (pik x10 x15 (Go.Value.bool Bool.false)) fun x16 => S.cnd x16 (S.bd (nck a0) fun x17 => S.bd (fld 17 x17) fun x18 => S.bd (ldc s x18) fun x19 => S.bd (leapfrogref14x_Unsplice_Wake.v x19 s) fun r20 => some ((Value.tuple ⟨[]⟩), r20.2)) (some ((Value.tuple ⟨[]⟩), s))
def leapfrogref16x_Remove_Wake.v (a0 : Value) (s : St) : Option (Value × St) := leapfrogref16x_Remove_Wake.t std a0 s
def leapfrogref16x_Remove_Wake.w : List Value → St → Option (Value × St)
  | [a0], s => leapfrogref16x_Remove_Wake.v a0 s
  | _, _ => none
def leapfrogref16x_Remove_Wake.an : An := ⟨26, false, [], [], [], []⟩
theorem leapfrogref16x_Remove_Wake.ok (S : Sig) (a0 : Value) (s : St) : evF S Try.prog leapfrogref16x_Remove_Wake.ctx leapfrogref16x_Remove_Wake.an Try.f16 [a0] s = leapfrogref16x_Remove_Wake.t S a0 s := by kernel_rfl
theorem leapfrogref16x_Remove_Wake.cok : CtxOk Try.prog leapfrogref16x_Remove_Wake.ctx := .cons leapfrogref14x_Unsplice_Wake.sound leapfrogref14x_Unsplice_Wake.can <| .nil
theorem leapfrogref16x_Remove_Wake.draws : fnDraws leapfrogref16x_Remove_Wake.an Try.f16 = true := by kernel_rfl
theorem leapfrogref16x_Remove_Wake.can : callOk Try.prog 16 = true := by kernel_rfl
theorem leapfrogref16x_Remove_Wake.sound : FnOk Try.prog 16 (.st leapfrogref16x_Remove_Wake.w) := FnOk.st_of (evF_ok leapfrogref16x_Remove_Wake.cok mixed (f := 16) (fn := Try.f16) (by kernel_rfl) leapfrogref16x_Remove_Wake.draws) fun args s r h => by
  unfold leapfrogref16x_Remove_Wake.w at h; split at h
  · rw [leapfrogref16x_Remove_Wake.ok std]; exact h
  · simp at h

/-! ### (*leapfrog/seek.Seek).is: function 91 -/
def seek_Seek_is.ctx : Ctx := []
def seek_Seek_is.t (S : Sig) (a0 : Value) (s : St) : Option Value :=
  S.bd (eqb [3] false true a0 (Go.Value.pointer Option.none)) fun x1 => S.bd (S.gd x1 true (some a0)) fun x2 => S.bd (S.gd x1 true (nck x2)) fun x3 => S.bd (S.gd x1 true (fld 8 x3)) fun x4 => S.bd (S.gd x1 true (ldc s x4)) fun x5 => S.bd (pik x1 x5 (Go.Value.bool Bool.false)) fun x6 => some (x6)
def seek_Seek_is.r (a0 : Value) (s : St) : Option Value := seek_Seek_is.t std a0 s
def seek_Seek_is.w : List Value → St → Option Value
  | [a0], s => seek_Seek_is.r a0 s
  | _, _ => none
def seek_Seek_is.an : An := ⟨11, true, [], [], [], []⟩
theorem seek_Seek_is.ok (S : Sig) (a0 : Value) (s : St) : evG S Try.prog seek_Seek_is.ctx seek_Seek_is.an Try.f91 [a0] s = seek_Seek_is.t S a0 s := by kernel_rfl
theorem seek_Seek_is.cok : CtxOk Try.prog seek_Seek_is.ctx := .nil
theorem seek_Seek_is.draws : fnDraws seek_Seek_is.an Try.f91 = true := by kernel_rfl
theorem seek_Seek_is.can : callOk Try.prog 91 = true := by kernel_rfl
theorem seek_Seek_is.sound : FnOk Try.prog 91 (.rd seek_Seek_is.w) := FnOk.rd_of (evG_ok seek_Seek_is.cok mixed (f := 91) (fn := Try.f91) (by kernel_rfl) seek_Seek_is.draws) fun args s r h => by
  unfold seek_Seek_is.w at h; split at h
  · rw [seek_Seek_is.ok std]; exact h
  · simp at h

/-! ### (*leapfrog/seek.Seek).Next: function 88 -/
def seek_Seek_Next.ctx : Ctx := [(91, .rd seek_Seek_is.w)]
def seek_Seek_Next.t.p1 (S : Sig) (r35 : Cut) (x38 : Value) (x36 : Value) : Option Value :=
  S.bd (lda r35.2.2 2 x38) fun x39 => S.bd (bld [(Go.Value.int Go.IntKind.i64 0), (Go.Value.int Go.IntKind.i64 0), (Go.Value.int Go.IntKind.u64 0), (Go.Value.int Go.IntKind.i64 0), (Go.Value.int Go.IntKind.i64 0), (Go.Value.int Go.IntKind.u64 0), (Go.Value.int Go.IntKind.i64 0), (Go.Value.int Go.IntKind.u64 0), (Go.Value.int Go.IntKind.i64 0), (Go.Value.int Go.IntKind.i64 0), (Go.Value.int Go.IntKind.u64 0), (Go.Value.int Go.IntKind.i64 0), (Go.Value.int Go.IntKind.u64 0), (Go.Value.int Go.IntKind.i64 0), (Go.Value.int Go.IntKind.i64 0)] [(0, 1, (Go.Value.int Go.IntKind.i64 1)), (1, 2, x39)]) fun x40 => S.bd (bld [(Go.Value.int Go.IntKind.i64 0), (Go.Value.int Go.IntKind.i64 0), (Go.Value.int Go.IntKind.i64 0), (Go.Value.int Go.IntKind.u64 0), (Go.Value.int Go.IntKind.i64 0), (Go.Value.int Go.IntKind.u64 0), (Go.Value.int Go.IntKind.i64 0), (Go.Value.int Go.IntKind.i64 0), (Go.Value.int Go.IntKind.u64 0), (Go.Value.int Go.IntKind.i64 0), (Go.Value.int Go.IntKind.i64 0), (Go.Value.int Go.IntKind.u64 0), (Go.Value.int Go.IntKind.i64 0), (Go.Value.int Go.IntKind.u64 0), (Go.Value.int Go.IntKind.i64 0), (Go.Value.int Go.IntKind.i64 0), (Go.Value.int Go.IntKind.u64 0), (Go.Value.int Go.IntKind.i64 0), (Go.Value.int Go.IntKind.u64 0), (Go.Value.int Go.IntKind.i64 0), (Go.Value.int Go.IntKind.i64 0), (Go.Value.int Go.IntKind.i64 0), (Go.Value.int Go.IntKind.u64 0), (Go.Value.slice Option.none 0 0), (Go.Value.slice Option.none 0 0), (Go.Value.int Go.IntKind.i64 0), (Go.Value.int Go.IntKind.i64 0), (Go.Value.int Go.IntKind.u64 0), (Go.Value.int Go.IntKind.i64 0), (Go.Value.int Go.IntKind.u64 0), (Go.Value.int Go.IntKind.i64 0), (Go.Value.int Go.IntKind.i64 0), (Go.Value.int Go.IntKind.u64 0), (Go.Value.int Go.IntKind.i64 0), (Go.Value.int Go.IntKind.u64 0), (Go.Value.bool Bool.false)] [(0, 1, (Go.Value.int Go.IntKind.i64 1)), (1, 5, x36), (6, 15, x40)]) fun x41 => S.bd (stl (cellsA (r35.2.1.getD 1 undef)) 0 36 x41) fun c42 => S.bd (lal c42 0 36) fun x43 => some (x43)

def seek_Seek_Next.t.p2 (S : Sig) (a0 : Value) (s : St) (c1 : List Value) : Option Value :=
  S.bd (nck a0) fun x7 => S.bd (fld 24 x7) fun x8 => S.bd (ldc s x8) fun x9 => S.cnd x9 (S.bd (nck a0) fun x10 => S.bd (fld 25 x10) fun x11 => S.bd (lda s 15 x11) fun x12 => S.bd (bld [(Go.Value.int Go.IntKind.i64 0), (Go.Value.int Go.IntKind.i64 0), (Go.Value.int Go.IntKind.i64 0), (Go.Value.int Go.IntKind.u64 0), (Go.Value.int Go.IntKind.i64 0), (Go.Value.int Go.IntKind.u64 0), (Go.Value.int Go.IntKind.i64 0), (Go.Value.int Go.IntKind.i64 0), (Go.Value.int Go.IntKind.u64 0), (Go.Value.int Go.IntKind.i64 0), (Go.Value.int Go.IntKind.i64 0), (Go.Value.int Go.IntKind.u64 0), (Go.Value.int Go.IntKind.i64 0), (Go.Value.int Go.IntKind.u64 0), (Go.Value.int Go.IntKind.i64 0), (Go.Value.int Go.IntKind.i64 0), (Go.Value.int Go.IntKind.u64 0), (Go.Value.int Go.IntKind.i64 0), (Go.Value.int Go.IntKind.u64 0), (Go.Value.int Go.IntKind.i64 0), (Go.Value.int Go.IntKind.i64 0), (Go.Value.int Go.IntKind.i64 0), (Go.Value.int Go.IntKind.u64 0), (Go.Value.slice Option.none 0 0), (Go.Value.slice Option.none 0 0), (Go.Value.int Go.IntKind.i64 0), (Go.Value.int Go.IntKind.i64 0), (Go.Value.int Go.IntKind.u64 0), (Go.Value.int Go.IntKind.i64 0), (Go.Value.int Go.IntKind.u64 0), (Go.Value.int Go.IntKind.i64 0), (Go.Value.int Go.IntKind.i64 0), (Go.Value.int Go.IntKind.u64 0), (Go.Value.int Go.IntKind.i64 0), (Go.Value.int Go.IntKind.u64 0), (Go.Value.bool Bool.false)] [(0, 1, (Go.Value.int Go.IntKind.i64 3)), (21, 15, x12)]) fun x13 => S.bd (stl c1 0 36 x13) fun c14 => S.bd (lal c14 0 36) fun x15 => some (x15)) (S.bd (nck a0) fun x16 => S.bd (fld 9 x16) fun x17 => S.bd (lda s 5 x17) fun x18 => S.bd (bx (Go.Value.agg #[(Go.Value.int Go.IntKind.i64 0), (Go.Value.int Go.IntKind.i64 0), (Go.Value.int Go.IntKind.u64 0), (Go.Value.int Go.IntKind.i64 0), (Go.Value.int Go.IntKind.u64 0)])) fun c19 => S.bd (stl c19 0 5 x18) fun c20 => S.bd (show Option Cut from S.bd (nck a0) fun x28 => S.bd (fld 16 x28) fun x29 => S.bd (ldc s x29) fun x30 => S.cnd x30 (S.bd (nck a0) fun x31 => S.bd (fld 17 x31) fun x32 => S.bd (lda s 5 x32) fun x33 => S.bd (stl c20 0 5 x33) fun c34 => some (0, [a0, (Value.agg ⟨c1⟩), (Value.agg ⟨c34⟩)], s)) (some (0, [a0, (Value.agg ⟨c1⟩), (Value.agg ⟨c20⟩)], s))) fun r35 => S.bd (lal (cellsA (r35.2.1.getD 2 undef)) 0 5) fun x36 => S.bd (nck (r35.2.1.getD 0 undef)) fun x37 => S.bd (fld 14 x37) fun x38 => seek_Seek_Next.t.p1 S r35 x38 x36)

def seek_Seek_Next.t (S : Sig) (a0 : Value) (s : St) : Option Value :=
  S.bd (bx (Go.Value.agg #[(Go.Value.int Go.IntKind.i64 0), (Go.Value.int Go.IntKind.i64 0), (Go.Value.int Go.IntKind.i64 0), (Go.Value.int Go.IntKind.u64 0), (Go.Value.int Go.IntKind.i64 0), (Go.Value.int Go.IntKind.u64 0), (Go.Value.int Go.IntKind.i64 0), (Go.Value.int Go.IntKind.i64 0), (Go.Value.int Go.IntKind.u64 0), (Go.Value.int Go.IntKind.i64 0), (Go.Value.int Go.IntKind.i64 0), (Go.Value.int Go.IntKind.u64 0), (Go.Value.int Go.IntKind.i64 0), (Go.Value.int Go.IntKind.u64 0), (Go.Value.int Go.IntKind.i64 0), (Go.Value.int Go.IntKind.i64 0), (Go.Value.int Go.IntKind.u64 0), (Go.Value.int Go.IntKind.i64 0), (Go.Value.int Go.IntKind.u64 0), (Go.Value.int Go.IntKind.i64 0), (Go.Value.int Go.IntKind.i64 0), (Go.Value.int Go.IntKind.i64 0), (Go.Value.int Go.IntKind.u64 0), (Go.Value.slice Option.none 0 0), (Go.Value.slice Option.none 0 0), (Go.Value.int Go.IntKind.i64 0), (Go.Value.int Go.IntKind.i64 0), (Go.Value.int Go.IntKind.u64 0), (Go.Value.int Go.IntKind.i64 0), (Go.Value.int Go.IntKind.u64 0), (Go.Value.int Go.IntKind.i64 0), (Go.Value.int Go.IntKind.i64 0), (Go.Value.int Go.IntKind.u64 0), (Go.Value.int Go.IntKind.i64 0), (Go.Value.int Go.IntKind.u64 0), (Go.Value.bool Bool.false)])) fun c1 => S.bd (seek_Seek_is.r a0 s) fun x2 => S.bd (un .not x2) fun x3 => S.cnd x3 (S.bd (bld [(Go.Value.int Go.IntKind.i64 0), (Go.Value.int Go.IntKind.i64 0), (Go.Value.int Go.IntKind.i64 0), (Go.Value.int Go.IntKind.u64 0), (Go.Value.int Go.IntKind.i64 0), (Go.Value.int Go.IntKind.u64 0), (Go.Value.int Go.IntKind.i64 0), (Go.Value.int Go.IntKind.i64 0), (Go.Value.int Go.IntKind.u64 0), (Go.Value.int Go.IntKind.i64 0), (Go.Value.int Go.IntKind.i64 0), (Go.Value.int Go.IntKind.u64 0), (Go.Value.int Go.IntKind.i64 0), (Go.Value.int Go.IntKind.u64 0), (Go.Value.int Go.IntKind.i64 0), (Go.Value.int Go.IntKind.i64 0), (Go.Value.int Go.IntKind.u64 0), (Go.Value.int Go.IntKind.i64 0), (Go.Value.int Go.IntKind.u64 0), (Go.Value.int Go.IntKind.i64 0), (Go.Value.int Go.IntKind.i64 0), (Go.Value.int Go.IntKind.i64 0), (Go.Value.int Go.IntKind.u64 0), (Go.Value.slice Option.none 0 0), (Go.Value.slice Option.none 0 0), (Go.Value.int Go.IntKind.i64 0), (Go.Value.int Go.IntKind.i64 0), (Go.Value.int Go.IntKind.u64 0), (Go.Value.int Go.IntKind.i64 0), (Go.Value.int Go.IntKind.u64 0), (Go.Value.int Go.IntKind.i64 0), (Go.Value.int Go.IntKind.i64 0), (Go.Value.int Go.IntKind.u64 0), (Go.Value.int Go.IntKind.i64 0), (Go.Value.int Go.IntKind.u64 0), (Go.Value.bool Bool.false)] []) fun x4 => S.bd (stl c1 0 36 x4) fun c5 => S.bd (lal c5 0 36) fun x6 => some (x6)) (seek_Seek_Next.t.p2 S a0 s c1)
def seek_Seek_Next.r (a0 : Value) (s : St) : Option Value := seek_Seek_Next.t std a0 s
def seek_Seek_Next.w : List Value → St → Option Value
  | [a0], s => seek_Seek_Next.r a0 s
  | _, _ => none
def seek_Seek_Next.an : An := ⟨36, true, [2, 3], [], [(8, ⟨[], [(.normal, [.v 0, .p 2 2 0, .p 3 3 0, .l 2, .l 3])]⟩)], [(8, [(0, 25, [], []), (1, 0, [], []), (2, 0, [], []), (3, 0, [], []), (4, 2, [], []), (5, 0, [], []), (6, 0, [], []), (7, 21, [], [])])]⟩
theorem seek_Seek_Next.ok (S : Sig) (a0 : Value) (s : St) : evG S Try.prog seek_Seek_Next.ctx seek_Seek_Next.an Try.f88 [a0] s = seek_Seek_Next.t S a0 s := by kernel_rfl
theorem seek_Seek_Next.cok : CtxOk Try.prog seek_Seek_Next.ctx := .cons seek_Seek_is.sound seek_Seek_is.can <| .nil
theorem seek_Seek_Next.draws : fnDraws seek_Seek_Next.an Try.f88 = true := by kernel_rfl
theorem seek_Seek_Next.can : callOk Try.prog 88 = true := by kernel_rfl
theorem seek_Seek_Next.sound : FnOk Try.prog 88 (.rd seek_Seek_Next.w) := FnOk.rd_of (evG_ok seek_Seek_Next.cok mixed (f := 88) (fn := Try.f88) (by kernel_rfl) seek_Seek_Next.draws) fun args s r h => by
  unfold seek_Seek_Next.w at h; split at h
  · rw [seek_Seek_Next.ok std]; exact h
  · simp at h

/-! ### leapfrog/key.Check: function 41 -/
def key_Check.ctx : Ctx := []
def key_Check.t (S : Sig) (a0 : Value) (s : St) : Option Value :=
  S.bd (bx a0) fun c1 => S.bd (lcl c1 0) fun x2 => S.bd (eqb [1] false false x2 (Go.Value.int Go.IntKind.i64 2)) fun x3 => S.bd (S.gd x3 false (lcl c1 0)) fun x4 => S.bd (S.gd x3 false (eqb [1] false false x4 (Go.Value.int Go.IntKind.i64 1))) fun x5 => S.bd (S.gd x3 false (some x5)) fun x6 => S.bd (S.gd x6 false (lcl c1 0)) fun x7 => S.bd (S.gd x6 false (eqb [1] false false x7 (Go.Value.int Go.IntKind.i64 3))) fun x8 => S.bd (S.gd x3 false (pik x6 (Go.Value.bool Bool.true) x8)) fun x9 => S.bd (S.gd x3 false (some x9)) fun x10 => S.bd (S.gd x10 true (lcl c1 1)) fun x11 => S.bd (S.gd x10 true (eqb [1] false false x11 (Go.Value.int Go.IntKind.u64 0))) fun x12 => S.bd (S.gd x3 false (pik x10 x12 (Go.Value.bool Bool.false))) fun x13 => S.bd (pik x3 (Go.Value.bool Bool.true) x13) fun x14 => S.cnd x14 (some ((Go.Value.int Go.IntKind.i64 0))) (some ((Go.Value.int Go.IntKind.i64 20)))
def key_Check.r (a0 : Value) (s : St) : Option Value := key_Check.t std a0 s
def key_Check.w : List Value → St → Option Value
  | [a0], s => key_Check.r a0 s
  | _, _ => none
def key_Check.an : An := ⟨21, true, [1], [], [], []⟩
theorem key_Check.ok (S : Sig) (a0 : Value) (s : St) : evG S Try.prog key_Check.ctx key_Check.an Try.f41 [a0] s = key_Check.t S a0 s := by kernel_rfl
theorem key_Check.cok : CtxOk Try.prog key_Check.ctx := .nil
theorem key_Check.draws : fnDraws key_Check.an Try.f41 = true := by kernel_rfl
theorem key_Check.can : callOk Try.prog 41 = true := by kernel_rfl
theorem key_Check.sound : FnOk Try.prog 41 (.rd key_Check.w) := FnOk.rd_of (evG_ok key_Check.cok mixed (f := 41) (fn := Try.f41) (by kernel_rfl) key_Check.draws) fun args s r h => by
  unfold key_Check.w at h; split at h
  · rw [key_Check.ok std]; exact h
  · simp at h

/-! ### cmp.isNaN[leapfrog/api.Rank]: function 103 -/
def cmp_isNaN_api_Rank.ctx : Ctx := []
def cmp_isNaN_api_Rank.t (S : Sig) (a0 : Value) (s : St) : Option Value :=
  S.bd (eqb [1] false true a0 a0) fun x1 => some (x1)
def cmp_isNaN_api_Rank.r (a0 : Value) (s : St) : Option Value := cmp_isNaN_api_Rank.t std a0 s
def cmp_isNaN_api_Rank.w : List Value → St → Option Value
  | [a0], s => cmp_isNaN_api_Rank.r a0 s
  | _, _ => none
def cmp_isNaN_api_Rank.an : An := ⟨6, true, [], [], [], []⟩
theorem cmp_isNaN_api_Rank.ok (S : Sig) (a0 : Value) (s : St) : evG S Try.prog cmp_isNaN_api_Rank.ctx cmp_isNaN_api_Rank.an Try.f103 [a0] s = cmp_isNaN_api_Rank.t S a0 s := by kernel_rfl
theorem cmp_isNaN_api_Rank.cok : CtxOk Try.prog cmp_isNaN_api_Rank.ctx := .nil
theorem cmp_isNaN_api_Rank.draws : fnDraws cmp_isNaN_api_Rank.an Try.f103 = true := by kernel_rfl
theorem cmp_isNaN_api_Rank.can : callOk Try.prog 103 = true := by kernel_rfl
theorem cmp_isNaN_api_Rank.sound : FnOk Try.prog 103 (.rd cmp_isNaN_api_Rank.w) := FnOk.rd_of (evG_ok cmp_isNaN_api_Rank.cok mixed (f := 103) (fn := Try.f103) (by kernel_rfl) cmp_isNaN_api_Rank.draws) fun args s r h => by
  unfold cmp_isNaN_api_Rank.w at h; split at h
  · rw [cmp_isNaN_api_Rank.ok std]; exact h
  · simp at h

/-! ### cmp.Compare[leapfrog/api.Rank]: function 101 -/
def cmp_Compare_api_Rank.ctx : Ctx := [(103, .rd cmp_isNaN_api_Rank.w)]
def cmp_Compare_api_Rank.t (S : Sig) (a0 a1 : Value) (s : St) : Option Value :=
  S.bd (cmp_isNaN_api_Rank.r a0 s) fun x1 => S.bd (cmp_isNaN_api_Rank.r a1 s) fun x2 => S.cnd x1 (S.cnd x2 (some ((Go.Value.int Go.IntKind.i64 0))) (some ((Go.Value.int Go.IntKind.i64 (-1))))) (S.cnd x2 (some ((Go.Value.int Go.IntKind.i64 1))) (S.bd (bin .lss a0 a1) fun x3 => S.cnd x3 (some ((Go.Value.int Go.IntKind.i64 (-1)))) (S.bd (bin .gtr a0 a1) fun x4 => S.cnd x4 (some ((Go.Value.int Go.IntKind.i64 1))) (some ((Go.Value.int Go.IntKind.i64 0))))))
def cmp_Compare_api_Rank.r (a0 a1 : Value) (s : St) : Option Value := cmp_Compare_api_Rank.t std a0 a1 s
def cmp_Compare_api_Rank.w : List Value → St → Option Value
  | [a0, a1], s => cmp_Compare_api_Rank.r a0 a1 s
  | _, _ => none
def cmp_Compare_api_Rank.an : An := ⟨20, true, [], [], [], []⟩
theorem cmp_Compare_api_Rank.ok (S : Sig) (a0 a1 : Value) (s : St) : evG S Try.prog cmp_Compare_api_Rank.ctx cmp_Compare_api_Rank.an Try.f101 [a0, a1] s = cmp_Compare_api_Rank.t S a0 a1 s := by kernel_rfl
theorem cmp_Compare_api_Rank.cok : CtxOk Try.prog cmp_Compare_api_Rank.ctx := .cons cmp_isNaN_api_Rank.sound cmp_isNaN_api_Rank.can <| .nil
theorem cmp_Compare_api_Rank.draws : fnDraws cmp_Compare_api_Rank.an Try.f101 = true := by kernel_rfl
theorem cmp_Compare_api_Rank.can : callOk Try.prog 101 = true := by kernel_rfl
theorem cmp_Compare_api_Rank.sound : FnOk Try.prog 101 (.rd cmp_Compare_api_Rank.w) := FnOk.rd_of (evG_ok cmp_Compare_api_Rank.cok mixed (f := 101) (fn := Try.f101) (by kernel_rfl) cmp_Compare_api_Rank.draws) fun args s r h => by
  unfold cmp_Compare_api_Rank.w at h; split at h
  · rw [cmp_Compare_api_Rank.ok std]; exact h
  · simp at h

/-! ### cmp.isNaN[uint64]: function 104 -/
def cmp_isNaN_uint64.ctx : Ctx := []
def cmp_isNaN_uint64.t (S : Sig) (a0 : Value) (s : St) : Option Value :=
  S.bd (eqb [1] false true a0 a0) fun x1 => some (x1)
def cmp_isNaN_uint64.r (a0 : Value) (s : St) : Option Value := cmp_isNaN_uint64.t std a0 s
def cmp_isNaN_uint64.w : List Value → St → Option Value
  | [a0], s => cmp_isNaN_uint64.r a0 s
  | _, _ => none
def cmp_isNaN_uint64.an : An := ⟨6, true, [], [], [], []⟩
theorem cmp_isNaN_uint64.ok (S : Sig) (a0 : Value) (s : St) : evG S Try.prog cmp_isNaN_uint64.ctx cmp_isNaN_uint64.an Try.f104 [a0] s = cmp_isNaN_uint64.t S a0 s := by kernel_rfl
theorem cmp_isNaN_uint64.cok : CtxOk Try.prog cmp_isNaN_uint64.ctx := .nil
theorem cmp_isNaN_uint64.draws : fnDraws cmp_isNaN_uint64.an Try.f104 = true := by kernel_rfl
theorem cmp_isNaN_uint64.can : callOk Try.prog 104 = true := by kernel_rfl
theorem cmp_isNaN_uint64.sound : FnOk Try.prog 104 (.rd cmp_isNaN_uint64.w) := FnOk.rd_of (evG_ok cmp_isNaN_uint64.cok mixed (f := 104) (fn := Try.f104) (by kernel_rfl) cmp_isNaN_uint64.draws) fun args s r h => by
  unfold cmp_isNaN_uint64.w at h; split at h
  · rw [cmp_isNaN_uint64.ok std]; exact h
  · simp at h

/-! ### cmp.Compare[uint64]: function 102 -/
def cmp_Compare_uint64.ctx : Ctx := [(104, .rd cmp_isNaN_uint64.w)]
def cmp_Compare_uint64.t (S : Sig) (a0 a1 : Value) (s : St) : Option Value :=
  S.bd (cmp_isNaN_uint64.r a0 s) fun x1 => S.bd (cmp_isNaN_uint64.r a1 s) fun x2 => S.cnd x1 (S.cnd x2 (some ((Go.Value.int Go.IntKind.i64 0))) (some ((Go.Value.int Go.IntKind.i64 (-1))))) (S.cnd x2 (some ((Go.Value.int Go.IntKind.i64 1))) (S.bd (bin .lss a0 a1) fun x3 => S.cnd x3 (some ((Go.Value.int Go.IntKind.i64 (-1)))) (S.bd (bin .gtr a0 a1) fun x4 => S.cnd x4 (some ((Go.Value.int Go.IntKind.i64 1))) (some ((Go.Value.int Go.IntKind.i64 0))))))
def cmp_Compare_uint64.r (a0 a1 : Value) (s : St) : Option Value := cmp_Compare_uint64.t std a0 a1 s
def cmp_Compare_uint64.w : List Value → St → Option Value
  | [a0, a1], s => cmp_Compare_uint64.r a0 a1 s
  | _, _ => none
def cmp_Compare_uint64.an : An := ⟨20, true, [], [], [], []⟩
theorem cmp_Compare_uint64.ok (S : Sig) (a0 a1 : Value) (s : St) : evG S Try.prog cmp_Compare_uint64.ctx cmp_Compare_uint64.an Try.f102 [a0, a1] s = cmp_Compare_uint64.t S a0 a1 s := by kernel_rfl
theorem cmp_Compare_uint64.cok : CtxOk Try.prog cmp_Compare_uint64.ctx := .cons cmp_isNaN_uint64.sound cmp_isNaN_uint64.can <| .nil
theorem cmp_Compare_uint64.draws : fnDraws cmp_Compare_uint64.an Try.f102 = true := by kernel_rfl
theorem cmp_Compare_uint64.can : callOk Try.prog 102 = true := by kernel_rfl
theorem cmp_Compare_uint64.sound : FnOk Try.prog 102 (.rd cmp_Compare_uint64.w) := FnOk.rd_of (evG_ok cmp_Compare_uint64.cok mixed (f := 102) (fn := Try.f102) (by kernel_rfl) cmp_Compare_uint64.draws) fun args s r h => by
  unfold cmp_Compare_uint64.w at h; split at h
  · rw [cmp_Compare_uint64.ok std]; exact h
  · simp at h

/-! ### cmp.Or[int]: function 100 -/
def cmp_Or_int.ctx : Ctx := []
def cmp_Or_int.l3 (S : Sig) (rec9 : List Value → St → Option Cut) (xs7 : List Value) (s8 : St) : Option Cut :=
  S.bd (bin .lss (xs7.getD 3 undef) (xs7.getD 2 undef)) fun x10 => S.cnd x10 (S.bd (idx s8 1 (xs7.getD 1 undef) (xs7.getD 3 undef)) fun x11 => S.bd (ldc s8 x11) fun x12 => S.bd (eqb [1] false true x12 (xs7.getD 0 undef)) fun x13 => S.cnd x13 (some (1, [x12], s8)) (S.bd (bin .add (xs7.getD 3 undef) (Go.Value.int Go.IntKind.i64 1)) fun x14 => rec9 [(xs7.getD 0 undef), (xs7.getD 1 undef), (xs7.getD 2 undef), x14] s8)) (some (0, [(xs7.getD 0 undef)], s8))

def cmp_Or_int.t (S : Sig) (a0 : Value) (s : St) : Option Value :=
  S.bd (lenL a0) fun x1 => S.bd (S.it (cmp_Or_int.l3 S) [(Go.Value.int Go.IntKind.i64 0), a0, x1, (Go.Value.int Go.IntKind.i64 0)] s) fun r15 => if r15.1 = 0 then (some ((r15.2.1.getD 0 undef))) else (some ((r15.2.1.getD 0 undef)))
def cmp_Or_int.r (a0 : Value) (s : St) : Option Value := cmp_Or_int.t std a0 s
def cmp_Or_int.w : List Value → St → Option Value
  | [a0], s => cmp_Or_int.r a0 s
  | _, _ => none
def cmp_Or_int.an : An := ⟨18, true, [], [(3, ⟨[.v 3, .v 6, .v 7, .v 8], [(.exit 0, [.v 3]), (.ret, [.v 2])]⟩)], [], []⟩
theorem cmp_Or_int.ok (S : Sig) (a0 : Value) (s : St) : evG S Try.prog cmp_Or_int.ctx cmp_Or_int.an Try.f100 [a0] s = cmp_Or_int.t S a0 s := by kernel_rfl
theorem cmp_Or_int.cok : CtxOk Try.prog cmp_Or_int.ctx := .nil
theorem cmp_Or_int.draws : fnDraws cmp_Or_int.an Try.f100 = true := by kernel_rfl
theorem cmp_Or_int.can : callOk Try.prog 100 = true := by kernel_rfl
theorem cmp_Or_int.sound : FnOk Try.prog 100 (.rd cmp_Or_int.w) := FnOk.rd_of (evG_ok cmp_Or_int.cok mixed (f := 100) (fn := Try.f100) (by kernel_rfl) cmp_Or_int.draws) fun args s r h => by
  unfold cmp_Or_int.w at h; split at h
  · rw [cmp_Or_int.ok std]; exact h
  · simp at h

/-! ### leapfrog/key.Compare: function 99 -/
def key_Compare.ctx : Ctx := [(101, .rd cmp_Compare_api_Rank.w), (102, .rd cmp_Compare_uint64.w), (100, .rd cmp_Or_int.w)]
def key_Compare.t (S : Sig) (a0 a1 : Value) (s : St) : Option (Value × St) :=
  S.bd (bx a0) fun c1 => S.bd (bx a1) fun c2 => S.bd (lcl c1 0) fun x3 => S.bd (lcl c2 0) fun x4 => S.bd (lcl c1 1) fun x5 => S.bd (lcl c2 1) fun x6 => S.bd (cmp_Compare_api_Rank.r x3 x4 s) fun x7 => S.bd (cmp_Compare_uint64.r x5 x6 s) fun x8 => S.bd (S.bd (bls 1 (List.replicate 2 [(Go.Value.int Go.IntKind.i64 0)]) [(0, x7), (1, x8)]) fun rows => als s 1 2 rows) fun r9 => S.bd (cmp_Or_int.r r9.1 r9.2) fun x10 => some (x10, r9.2)
def key_Compare.v (a0 a1 : Value) (s : St) : Option (Value × St) := key_Compare.t std a0 a1 s
def key_Compare.w : List Value → St → Option (Value × St)
  | [a0, a1], s => key_Compare.v a0 a1 s
  | _, _ => none
def key_Compare.an : An := ⟨17, false, [2, 3], [], [], [(1, [(0, 0, [], []), (1, 17, [], []), (2, 0, [], []), (3, 25, [], []), (5, 0, [], []), (6, 17, [], []), (7, 0, [], []), (8, 25, [], []), (4, 3, [], []), (9, 3, [], []), (10, 3, [], []), (11, 3, [], []), (12, 0, [], [])])]⟩
theorem key_Compare.ok (S : Sig) (a0 a1 : Value) (s : St) : evF S Try.prog key_Compare.ctx key_Compare.an Try.f99 [a0, a1] s = key_Compare.t S a0 a1 s := by kernel_rfl
theorem key_Compare.cok : CtxOk Try.prog key_Compare.ctx := .cons cmp_Compare_api_Rank.sound cmp_Compare_api_Rank.can <| .cons cmp_Compare_uint64.sound cmp_Compare_uint64.can <| .cons cmp_Or_int.sound cmp_Or_int.can <| .nil
theorem key_Compare.draws : fnDraws key_Compare.an Try.f99 = true := by kernel_rfl
theorem key_Compare.can : callOk Try.prog 99 = true := by kernel_rfl
theorem key_Compare.sound : FnOk Try.prog 99 (.st key_Compare.w) := FnOk.st_of (evF_ok key_Compare.cok mixed (f := 99) (fn := Try.f99) (by kernel_rfl) key_Compare.draws) fun args s r h => by
  unfold key_Compare.w at h; split at h
  · rw [key_Compare.ok std]; exact h
  · simp at h

/-! ### leapfrog/key.Compare: function 99, as a reading -/
def key_CompareQ.r (a0 a1 : Value) (s : St) : Option Value := frzR (fun s => key_Compare.v a0 a1 s) s
def key_CompareQ.w : List Value → St → Option Value := fun args s => frzR (key_Compare.w args) s
theorem key_CompareQ.can : callOk Try.prog 99 = true := key_Compare.can
theorem key_CompareQ.sound : FnOk Try.prog 99 (.rd key_CompareQ.w) := FnOk.frozen key_Compare.sound

/-! ### leapfrog/key.Less: function 98 -/
def key_Less.ctx : Ctx := [(99, .rd key_CompareQ.w)]
def key_Less.t (S : Sig) (a0 a1 : Value) (s : St) : Option Value :=
  S.bd (bx a0) fun c1 => S.bd (bx a1) fun c2 => S.bd (lal c1 0 2) fun x3 => S.bd (lal c2 0 2) fun x4 => S.bd (key_CompareQ.r x3 x4 s) fun x5 => S.bd (bin .lss x5 (Go.Value.int Go.IntKind.i64 0)) fun x6 => some (x6)
def key_Less.r (a0 a1 : Value) (s : St) : Option Value := key_Less.t std a0 a1 s
def key_Less.w : List Value → St → Option Value
  | [a0, a1], s => key_Less.r a0 a1 s
  | _, _ => none
def key_Less.an : An := ⟨9, true, [2, 3], [], [], []⟩
theorem key_Less.ok (S : Sig) (a0 a1 : Value) (s : St) : evG S Try.prog key_Less.ctx key_Less.an Try.f98 [a0, a1] s = key_Less.t S a0 a1 s := by kernel_rfl
theorem key_Less.cok : CtxOk Try.prog key_Less.ctx := .cons key_CompareQ.sound key_CompareQ.can <| .nil
theorem key_Less.draws : fnDraws key_Less.an Try.f98 = true := by kernel_rfl
theorem key_Less.can : callOk Try.prog 98 = true := by kernel_rfl
theorem key_Less.sound : FnOk Try.prog 98 (.rd key_Less.w) := FnOk.rd_of (evG_ok key_Less.cok mixed (f := 98) (fn := Try.f98) (by kernel_rfl) key_Less.draws) fun args s r h => by
  unfold key_Less.w at h; split at h
  · rw [key_Less.ok std]; exact h
  · simp at h

/-! ### (*leapfrog/seek.Seek).counts: function 96 -/
def seek_Seek_counts.ctx : Ctx := []
def seek_Seek_counts.t (S : Sig) (a0 : Value) (s : St) : Option (Value × St) :=
  S.bd (nck a0) fun x1 => S.bd (fld 23 x1) fun x2 => S.bd (ldc s x2) fun x3 => S.bd (bin .geq x3 (Go.Value.int Go.IntKind.i64 64)) fun x4 => S.cnd x4 (S.bd (bld [(Go.Value.int Go.IntKind.i64 0), (Go.Value.int Go.IntKind.u64 0), (Go.Value.slice Option.none 0 0), (Go.Value.slice Option.none 0 0), (Go.Value.int Go.IntKind.i64 0), (Go.Value.int Go.IntKind.i64 0), (Go.Value.int Go.IntKind.u64 0), (Go.Value.int Go.IntKind.i64 0), (Go.Value.int Go.IntKind.u64 0), (Go.Value.int Go.IntKind.i64 0), (Go.Value.int Go.IntKind.i64 0), (Go.Value.int Go.IntKind.u64 0), (Go.Value.int Go.IntKind.i64 0), (Go.Value.int Go.IntKind.u64 0), (Go.Value.bool Bool.false)] [(0, 1, (Go.Value.int Go.IntKind.i64 121))]) fun x5 => S.bd (nck a0) fun x6 => S.bd (fld 24 x6) fun x7 => S.bd (stv s 1 x7 (Go.Value.bool Bool.true)) fun s8 => S.bd (nck a0) fun x9 => S.bd (fld 25 x9) fun x10 => S.bd (stv s8 15 x10 x5) fun s11 => some ((Go.Value.bool Bool.false), s11)) (S.bd (nck a0) fun x12 => S.bd (fld 23 x12) fun x13 => S.bd (ldc s x13) fun x14 => S.bd (bin .add x14 (Go.Value.int Go.IntKind.i64 1)) fun x15 => S.bd (nck a0) fun x16 => S.bd (fld 23 x16) fun x17 => S.bd (stv s 1 x17 x15) fun s18 => some ((Go.Value.bool Bool.true), s18))
def seek_Seek_counts.v (a0 : Value) (s : St) : Option (Value × St) := seek_Seek_counts.t std a0 s
def seek_Seek_counts.w : List Value → St → Option (Value × St)
  | [a0], s => seek_Seek_counts.v a0 s
  | _, _ => none
def seek_Seek_counts.an : An := ⟨22, false, [], [], [], []⟩
theorem seek_Seek_counts.ok (S : Sig) (a0 : Value) (s : St) : evF S Try.prog seek_Seek_counts.ctx seek_Seek_counts.an Try.f96 [a0] s = seek_Seek_counts.t S a0 s := by kernel_rfl
theorem seek_Seek_counts.cok : CtxOk Try.prog seek_Seek_counts.ctx := .nil
theorem seek_Seek_counts.draws : fnDraws seek_Seek_counts.an Try.f96 = true := by kernel_rfl
theorem seek_Seek_counts.can : callOk Try.prog 96 = true := by kernel_rfl
theorem seek_Seek_counts.sound : FnOk Try.prog 96 (.st seek_Seek_counts.w) := FnOk.st_of (evF_ok seek_Seek_counts.cok mixed (f := 96) (fn := Try.f96) (by kernel_rfl) seek_Seek_counts.draws) fun args s r h => by
  unfold seek_Seek_counts.w at h; split at h
  · rw [seek_Seek_counts.ok std]; exact h
  · simp at h

/-! ### (*leapfrog/seek.Seek).again: function 97 -/
def seek_Seek_again.ctx : Ctx := [(96, .st seek_Seek_counts.w)]
def seek_Seek_again.t (S : Sig) (a0 : Value) (s : St) : Option (Value × St) :=
  S.bd (seek_Seek_counts.v a0 s) fun r1 => S.cnd r1.1 (S.bd (bld [(Go.Value.int Go.IntKind.i64 0), (Go.Value.int Go.IntKind.u64 0)] [(0, 1, (Go.Value.int Go.IntKind.i64 1))]) fun x2 => S.bd (nck a0) fun x3 => S.bd (fld 0 x3) fun x4 => S.bd (fld 0 x4) fun x5 => S.bd (ldc r1.2 x5) fun x6 => S.bd (bld [(Go.Value.int Go.IntKind.i64 0), (Go.Value.int Go.IntKind.u64 0)] [(0, 1, x6)]) fun x7 => S.bd (bld [(Go.Value.int Go.IntKind.i64 0), (Go.Value.int Go.IntKind.i64 0), (Go.Value.int Go.IntKind.u64 0), (Go.Value.int Go.IntKind.i64 0), (Go.Value.int Go.IntKind.u64 0)] [(1, 2, x2), (3, 2, x7)]) fun x8 => S.bd (nck a0) fun x9 => S.bd (fld 9 x9) fun x10 => S.bd (stv r1.2 5 x10 x8) fun s11 => S.bd (nck a0) fun x12 => S.bd (fld 0 x12) fun x13 => S.bd (fld 0 x13) fun x14 => S.bd (ldc s11 x14) fun x15 => S.bd (bld [(Go.Value.int Go.IntKind.i64 0), (Go.Value.int Go.IntKind.u64 0)] [(0, 1, x15)]) fun x16 => S.bd (nck a0) fun x17 => S.bd (fld 14 x17) fun x18 => S.bd (stv s11 2 x18 x16) fun s19 => S.bd (nck a0) fun x20 => S.bd (fld 16 x20) fun x21 => S.bd (stv s19 1 x21 (Go.Value.bool Bool.false)) fun s22 => some ((Value.tuple ⟨[]⟩), s22)) (some ((Value.tuple ⟨[]⟩), r1.2))
def seek_Seek_again.v (a0 : Value) (s : St) : Option (Value × St) := seek_Seek_again.t std a0 s
def seek_Seek_again.w : List Value → St → Option (Value × St)
  | [a0], s => seek_Seek_again.v a0 s
  | _, _ => none
def seek_Seek_again.an : An := ⟨27, false, [], [], [], []⟩
theorem seek_Seek_again.ok (S : Sig) (a0 : Value) (s : St) : evF S Try.prog seek_Seek_again.ctx seek_Seek_again.an Try.f97 [a0] s = seek_Seek_again.t S a0 s := by kernel_rfl
theorem seek_Seek_again.cok : CtxOk Try.prog seek_Seek_again.ctx := .cons seek_Seek_counts.sound seek_Seek_counts.can <| .nil
theorem seek_Seek_again.draws : fnDraws seek_Seek_again.an Try.f97 = true := by kernel_rfl
theorem seek_Seek_again.can : callOk Try.prog 97 = true := by kernel_rfl
theorem seek_Seek_again.sound : FnOk Try.prog 97 (.st seek_Seek_again.w) := FnOk.st_of (evF_ok seek_Seek_again.cok mixed (f := 97) (fn := Try.f97) (by kernel_rfl) seek_Seek_again.draws) fun args s r h => by
  unfold seek_Seek_again.w at h; split at h
  · rw [seek_Seek_again.ok std]; exact h
  · simp at h

/-! ### leapfrog/vec.low: function 69 -/
def vec_low.ctx : Ctx := []
def vec_low.t (S : Sig) (a0 : Value) (s : St) : Option Value :=
  S.bd (cvi .u64 a0) fun x1 => S.bd (bin .shl (Go.Value.int Go.IntKind.u64 1) x1) fun x2 => S.bd (bin .sub x2 (Go.Value.int Go.IntKind.u64 1)) fun x3 => some (x3)
def vec_low.r (a0 : Value) (s : St) : Option Value := vec_low.t std a0 s
def vec_low.w : List Value → St → Option Value
  | [a0], s => vec_low.r a0 s
  | _, _ => none
def vec_low.an : An := ⟨7, true, [], [], [], []⟩
theorem vec_low.ok (S : Sig) (a0 : Value) (s : St) : evG S Try.prog vec_low.ctx vec_low.an Try.f69 [a0] s = vec_low.t S a0 s := by kernel_rfl
theorem vec_low.cok : CtxOk Try.prog vec_low.ctx := .nil
theorem vec_low.draws : fnDraws vec_low.an Try.f69 = true := by kernel_rfl
theorem vec_low.can : callOk Try.prog 69 = true := by kernel_rfl
theorem vec_low.sound : FnOk Try.prog 69 (.rd vec_low.w) := FnOk.rd_of (evG_ok vec_low.cok mixed (f := 69) (fn := Try.f69) (by kernel_rfl) vec_low.draws) fun args s r h => by
  unfold vec_low.w at h; split at h
  · rw [vec_low.ok std]; exact h
  · simp at h

/-! ### leapfrog/vec.Right: function 57 -/
def vec_Right.ctx : Ctx := [(69, .rd vec_low.w)]
def vec_Right.t (S : Sig) (a0 : Value) (s : St) : Option Value :=
  S.bd (bx a0) fun c1 => S.bd (lcl c1 0) fun x2 => S.bd (bin .lss x2 (Go.Value.int Go.IntKind.i64 0)) fun x3 => S.bd (S.gd x3 false (lcl c1 0)) fun x4 => S.bd (S.gd x3 false (bin .gtr x4 (Go.Value.int Go.IntKind.i64 32))) fun x5 => S.bd (pik x3 (Go.Value.bool Bool.true) x5) fun x6 => S.bd (S.gd x6 false (lcl c1 1)) fun x7 => S.bd (S.gd x6 false (lcl c1 0)) fun x8 => S.bd (S.gd x6 false (vec_low.r x8 s)) fun x9 => S.bd (S.gd x6 false (bin .gtr x7 x9)) fun x10 => S.bd (pik x6 (Go.Value.bool Bool.true) x10) fun x11 => S.cnd x11 (some ((Go.Value.int Go.IntKind.i64 10))) (some ((Go.Value.int Go.IntKind.i64 0)))
def vec_Right.r (a0 : Value) (s : St) : Option Value := vec_Right.t std a0 s
def vec_Right.w : List Value → St → Option Value
  | [a0], s => vec_Right.r a0 s
  | _, _ => none
def vec_Right.an : An := ⟨19, true, [1], [], [], [(1, [(0, 0, [], []), (1, 9, [], []), (2, 0, [], []), (3, 0, [], []), (4, 0, [], []), (5, 9, [], []), (6, 0, [], []), (7, 0, [], []), (8, 0, [], []), (9, 0, [], []), (10, 9, [], []), (11, 0, [], []), (12, 9, [], []), (13, 3, [], []), (14, 0, [], []), (15, 0, [], [])])]⟩
theorem vec_Right.ok (S : Sig) (a0 : Value) (s : St) : evG S Try.prog vec_Right.ctx vec_Right.an Try.f57 [a0] s = vec_Right.t S a0 s := by kernel_rfl
theorem vec_Right.cok : CtxOk Try.prog vec_Right.ctx := .cons vec_low.sound vec_low.can <| .nil
theorem vec_Right.draws : fnDraws vec_Right.an Try.f57 = true := by kernel_rfl
theorem vec_Right.can : callOk Try.prog 57 = true := by kernel_rfl
theorem vec_Right.sound : FnOk Try.prog 57 (.rd vec_Right.w) := FnOk.rd_of (evG_ok vec_Right.cok mixed (f := 57) (fn := Try.f57) (by kernel_rfl) vec_Right.draws) fun args s r h => by
  unfold vec_Right.w at h; split at h
  · rw [vec_Right.ok std]; exact h
  · simp at h

/-! ### leapfrog/vec.upTo: function 59 -/
def vec_upTo.ctx : Ctx := [(57, .rd vec_Right.w)]
def vec_upTo.t (S : Sig) (a0 a1 : Value) (s : St) : Option Value :=
  S.bd (bx a0) fun c1 => S.bd (lal c1 0 2) fun x2 => S.bd (vec_Right.r x2 s) fun x3 => S.bd (eqb [1] false true x3 (Go.Value.int Go.IntKind.i64 0)) fun x4 => S.cnd x4 (some (x3)) (S.bd (bin .lss a1 (Go.Value.int Go.IntKind.i64 0)) fun x5 => S.bd (S.gd x5 false (some a1)) fun x6 => S.bd (S.gd x5 false (lcl c1 0)) fun x7 => S.bd (S.gd x5 false (bin .gtr x6 x7)) fun x8 => S.bd (pik x5 (Go.Value.bool Bool.true) x8) fun x9 => S.cnd x9 (some ((Go.Value.int Go.IntKind.i64 5))) (some ((Go.Value.int Go.IntKind.i64 0))))
def vec_upTo.r (a0 a1 : Value) (s : St) : Option Value := vec_upTo.t std a0 a1 s
def vec_upTo.w : List Value → St → Option Value
  | [a0, a1], s => vec_upTo.r a0 a1 s
  | _, _ => none
def vec_upTo.an : An := ⟨19, true, [2], [], [], []⟩
theorem vec_upTo.ok (S : Sig) (a0 a1 : Value) (s : St) : evG S Try.prog vec_upTo.ctx vec_upTo.an Try.f59 [a0, a1] s = vec_upTo.t S a0 a1 s := by kernel_rfl
theorem vec_upTo.cok : CtxOk Try.prog vec_upTo.ctx := .cons vec_Right.sound vec_Right.can <| .nil
theorem vec_upTo.draws : fnDraws vec_upTo.an Try.f59 = true := by kernel_rfl
theorem vec_upTo.can : callOk Try.prog 59 = true := by kernel_rfl
theorem vec_upTo.sound : FnOk Try.prog 59 (.rd vec_upTo.w) := FnOk.rd_of (evG_ok vec_upTo.cok mixed (f := 59) (fn := Try.f59) (by kernel_rfl) vec_upTo.draws) fun args s r h => by
  unfold vec_upTo.w at h; split at h
  · rw [vec_upTo.ok std]; exact h
  · simp at h

/-! ### leapfrog/vec.prefix: function 60 -/
def vec_prefix.ctx : Ctx := []
def vec_prefix.t (S : Sig) (a0 a1 : Value) (s : St) : Option Value :=
  S.bd (bx a0) fun c1 => S.bd (bx (Go.Value.agg #[(Go.Value.int Go.IntKind.i64 0), (Go.Value.int Go.IntKind.u64 0)])) fun c2 => S.bd (lcl c1 1) fun x3 => S.bd (lcl c1 0) fun x4 => S.bd (bin .sub x4 a1) fun x5 => S.bd (cvi .u64 x5) fun x6 => S.bd (bin .shr x3 x6) fun x7 => S.bd (bld [(Go.Value.int Go.IntKind.i64 0), (Go.Value.int Go.IntKind.u64 0)] [(0, 1, a1), (1, 1, x7)]) fun x8 => S.bd (stl c2 0 2 x8) fun c9 => S.bd (lal c9 0 2) fun x10 => some (x10)
def vec_prefix.r (a0 a1 : Value) (s : St) : Option Value := vec_prefix.t std a0 a1 s
def vec_prefix.w : List Value → St → Option Value
  | [a0, a1], s => vec_prefix.r a0 a1 s
  | _, _ => none
def vec_prefix.an : An := ⟨15, true, [2, 4], [], [], []⟩
theorem vec_prefix.ok (S : Sig) (a0 a1 : Value) (s : St) : evG S Try.prog vec_prefix.ctx vec_prefix.an Try.f60 [a0, a1] s = vec_prefix.t S a0 a1 s := by kernel_rfl
theorem vec_prefix.cok : CtxOk Try.prog vec_prefix.ctx := .nil
theorem vec_prefix.draws : fnDraws vec_prefix.an Try.f60 = true := by kernel_rfl
theorem vec_prefix.can : callOk Try.prog 60 = true := by kernel_rfl
theorem vec_prefix.sound : FnOk Try.prog 60 (.rd vec_prefix.w) := FnOk.rd_of (evG_ok vec_prefix.cok mixed (f := 60) (fn := Try.f60) (by kernel_rfl) vec_prefix.draws) fun args s r h => by
  unfold vec_prefix.w at h; split at h
  · rw [vec_prefix.ok std]; exact h
  · simp at h

/-! ### leapfrog/vec.Prefix: function 45 -/
def vec_Prefix.ctx : Ctx := [(59, .rd vec_upTo.w), (60, .rd vec_prefix.w)]
def vec_Prefix.t (S : Sig) (a0 a1 : Value) (s : St) : Option Value :=
  S.bd (bx a0) fun c1 => S.bd (bx (Go.Value.agg #[(Go.Value.int Go.IntKind.i64 0), (Go.Value.int Go.IntKind.u64 0)])) fun c2 => S.bd (lal c1 0 2) fun x3 => S.bd (vec_upTo.r x3 a1 s) fun x4 => S.bd (eqb [1] false true x4 (Go.Value.int Go.IntKind.i64 0)) fun x5 => S.cnd x5 (S.bd (bld [(Go.Value.int Go.IntKind.i64 0), (Go.Value.int Go.IntKind.u64 0)] []) fun x6 => S.bd (stl c2 0 2 x6) fun c7 => S.bd (lal c7 0 2) fun x8 => some ((Value.tuple ⟨[x8, x4]⟩))) (S.bd (lal c1 0 2) fun x9 => S.bd (vec_prefix.r x9 a1 s) fun x10 => S.bd (stl c2 0 2 x10) fun c11 => S.bd (lal c11 0 2) fun x12 => some ((Value.tuple ⟨[x12, (Go.Value.int Go.IntKind.i64 0)]⟩)))
def vec_Prefix.r (a0 a1 : Value) (s : St) : Option Value := vec_Prefix.t std a0 a1 s
def vec_Prefix.w : List Value → St → Option Value
  | [a0, a1], s => vec_Prefix.r a0 a1 s
  | _, _ => none
def vec_Prefix.an : An := ⟨17, true, [2, 4], [], [], []⟩
theorem vec_Prefix.ok (S : Sig) (a0 a1 : Value) (s : St) : evG S Try.prog vec_Prefix.ctx vec_Prefix.an Try.f45 [a0, a1] s = vec_Prefix.t S a0 a1 s := by kernel_rfl
theorem vec_Prefix.cok : CtxOk Try.prog vec_Prefix.ctx := .cons vec_upTo.sound vec_upTo.can <| .cons vec_prefix.sound vec_prefix.can <| .nil
theorem vec_Prefix.draws : fnDraws vec_Prefix.an Try.f45 = true := by kernel_rfl
theorem vec_Prefix.can : callOk Try.prog 45 = true := by kernel_rfl
theorem vec_Prefix.sound : FnOk Try.prog 45 (.rd vec_Prefix.w) := FnOk.rd_of (evG_ok vec_Prefix.cok mixed (f := 45) (fn := Try.f45) (by kernel_rfl) vec_Prefix.draws) fun args s r h => by
  unfold vec_Prefix.w at h; split at h
  · rw [vec_Prefix.ok std]; exact h
  · simp at h

/-! ### (*leapfrog/seek.Seek).goes: function 94 -/
def seek_Seek_goes.ctx : Ctx := [(41, .rd key_Check.w), (98, .rd key_Less.w), (97, .st seek_Seek_again.w), (45, .rd vec_Prefix.w)]
def seek_Seek_goes.l2 (S : Sig) (rec37 : List Value → St → Option Cut) (xs35 : List Value) (s36 : St) : Option Cut :=
  S.bd (lal (cellsA (xs35.getD 1 undef)) 1 2) fun x38 => S.bd (key_Check.r x38 s36) fun x39 => S.bd (eqb [1] false true x39 (Go.Value.int Go.IntKind.i64 0)) fun x40 => S.bd (S.gd x40 false (lal (cellsA (xs35.getD 2 undef)) 0 2)) fun x41 => S.bd (S.gd x40 false (lal (cellsA (xs35.getD 1 undef)) 1 2)) fun x42 => S.bd (S.gd x40 false (key_Less.r x41 x42 s36)) fun x43 => S.bd (S.gd x40 false (un .not x43)) fun x44 => S.bd (pik x40 (Go.Value.bool Bool.true) x44) fun x45 => S.cnd x45 (S.bd (seek_Seek_again.v (xs35.getD 0 undef) s36) fun r46 => some (1, [], r46.2)) (S.bd (nck (xs35.getD 0 undef)) fun x47 => S.bd (fld 22 x47) fun x48 => S.bd (ldc s36 x48) fun x49 => S.bd (lcl (cellsA (xs35.getD 1 undef)) 0) fun x50 => S.bd (nck (xs35.getD 0 undef)) fun x51 => S.bd (fld 14 x51) fun x52 => S.bd (lda s36 2 x52) fun x53 => S.bd (bld [(Go.Value.int Go.IntKind.i64 0), (Go.Value.int Go.IntKind.i64 0), (Go.Value.int Go.IntKind.u64 0)] [(0, 1, x50), (1, 2, x53)]) fun x54 => S.bd (lkp s36 [1, 1, 1] true (Go.Value.agg #[(Go.Value.int Go.IntKind.i64 0), (Go.Value.int Go.IntKind.i64 0), (Go.Value.int Go.IntKind.u64 0), (Go.Value.int Go.IntKind.i64 0), (Go.Value.int Go.IntKind.u64 0)]) true x49 x54) fun x55 => S.bd (xtr 0 x55) fun x56 => S.bd (xtr 1 x55) fun x57 => S.bd (bx (Go.Value.agg #[(Go.Value.int Go.IntKind.i64 0), (Go.Value.int Go.IntKind.i64 0), (Go.Value.int Go.IntKind.u64 0), (Go.Value.int Go.IntKind.i64 0), (Go.Value.int Go.IntKind.u64 0)])) fun c58 => S.bd (stl c58 0 5 x56) fun c59 => S.bd (un .not x57) fun x60 => S.cnd x60 (some (0, [(xs35.getD 0 undef), (Value.agg ⟨(cellsA (xs35.getD 1 undef))⟩)], s36)) (S.bd (lal (cellsA (xs35.getD 1 undef)) 1 2) fun x61 => S.bd (lal c59 0 5) fun x62 => S.bd (stl (cellsA (xs35.getD 2 undef)) 0 2 x61) fun c63 => S.bd (stl (cellsA (xs35.getD 1 undef)) 0 5 x62) fun c64 => rec37 [(xs35.getD 0 undef), (Value.agg ⟨c64⟩), (Value.agg ⟨c63⟩)] s36))

def seek_Seek_goes.t.p1 (S : Sig) (r65 : Cut) : Option (Value × St) :=
  S.bd (nck (r65.2.1.getD 0 undef)) fun x79 => S.bd (fld 14 x79) fun x80 => S.bd (fld 0 x80) fun x81 => S.bd (ldc r65.2.2 x81) fun x82 => S.bd (bin .gtr x82 (Go.Value.int Go.IntKind.i64 0)) fun x83 => S.cnd x83 (S.bd (nck (r65.2.1.getD 0 undef)) fun x84 => S.bd (fld 14 x84) fun x85 => S.bd (lda r65.2.2 2 x85) fun x86 => S.bd (nck (r65.2.1.getD 0 undef)) fun x87 => S.bd (fld 14 x87) fun x88 => S.bd (fld 0 x88) fun x89 => S.bd (ldc r65.2.2 x89) fun x90 => S.bd (bin .sub x90 (Go.Value.int Go.IntKind.i64 1)) fun x91 => S.bd (vec_Prefix.r x86 x91 r65.2.2) fun x92 => S.bd (xtr 0 x92) fun x93 => S.bd (xtr 1 x92) fun x94 => S.bd (nck (r65.2.1.getD 0 undef)) fun x95 => S.bd (fld 14 x95) fun x96 => S.bd (stv r65.2.2 2 x96 x93) fun s97 => S.bd (nck (r65.2.1.getD 0 undef)) fun x98 => S.bd (fld 16 x98) fun x99 => S.bd (stv s97 1 x99 (Go.Value.bool Bool.false)) fun s100 => some ((Value.tuple ⟨[]⟩), s100)) (S.bd (nck (r65.2.1.getD 0 undef)) fun x101 => S.bd (fld 9 x101) fun x102 => S.bd (lda r65.2.2 5 x102) fun x103 => S.bd (lal (cellsA (r65.2.1.getD 1 undef)) 0 5) fun x104 => S.bd (lal (cellsA (r65.2.1.getD 1 undef)) 1 2) fun x105 => S.bd (nck (r65.2.1.getD 0 undef)) fun x106 => S.bd (fld 0 x106) fun x107 => S.bd (fld 6 x107) fun x108 => S.bd (lda r65.2.2 2 x108) fun x109 => S.bd (eqb [1, 1] true false x105 x109) fun x110 => S.bd (bld [(Go.Value.int Go.IntKind.i64 0), (Go.Value.int Go.IntKind.u64 0), (Go.Value.slice Option.none 0 0), (Go.Value.slice Option.none 0 0), (Go.Value.int Go.IntKind.i64 0), (Go.Value.int Go.IntKind.i64 0), (Go.Value.int Go.IntKind.u64 0), (Go.Value.int Go.IntKind.i64 0), (Go.Value.int Go.IntKind.u64 0), (Go.Value.int Go.IntKind.i64 0), (Go.Value.int Go.IntKind.i64 0), (Go.Value.int Go.IntKind.u64 0), (Go.Value.int Go.IntKind.i64 0), (Go.Value.int Go.IntKind.u64 0), (Go.Value.bool Bool.false)] [(4, 5, x103), (9, 5, x104), (14, 1, x110)]) fun x111 => S.bd (nck (r65.2.1.getD 0 undef)) fun x112 => S.bd (fld 24 x112) fun x113 => S.bd (stv r65.2.2 1 x113 (Go.Value.bool Bool.true)) fun s114 => S.bd (nck (r65.2.1.getD 0 undef)) fun x115 => S.bd (fld 25 x115) fun x116 => S.bd (stv s114 15 x116 x111) fun s117 => some ((Value.tuple ⟨[]⟩), s117))

def seek_Seek_goes.t (S : Sig) (a0 a1 : Value) (s : St) : Option (Value × St) :=
  S.bd (bx a1) fun c1 => S.bd (nck a0) fun x2 => S.bd (fld 9 x2) fun x3 => S.bd (fld 1 x3) fun x4 => S.bd (lda s 2 x4) fun x5 => S.bd (bx (Go.Value.agg #[(Go.Value.int Go.IntKind.i64 0), (Go.Value.int Go.IntKind.u64 0)])) fun c6 => S.bd (stl c6 0 2 x5) fun c7 => S.bd (S.it (seek_Seek_goes.l2 S) [a0, (Value.agg ⟨c1⟩), (Value.agg ⟨c7⟩)] s) fun r65 => if r65.1 = 0 then (S.bd (lal (cellsA (r65.2.1.getD 1 undef)) 1 2) fun x66 => S.bd (nck (r65.2.1.getD 0 undef)) fun x67 => S.bd (fld 0 x67) fun x68 => S.bd (fld 6 x68) fun x69 => S.bd (lda r65.2.2 2 x69) fun x70 => S.bd (key_Less.r x66 x70 r65.2.2) fun x71 => S.cnd x71 (S.bd (lal (cellsA (r65.2.1.getD 1 undef)) 0 5) fun x72 => S.bd (nck (r65.2.1.getD 0 undef)) fun x73 => S.bd (fld 16 x73) fun x74 => S.bd (stv r65.2.2 1 x74 (Go.Value.bool Bool.true)) fun s75 => S.bd (nck (r65.2.1.getD 0 undef)) fun x76 => S.bd (fld 17 x76) fun x77 => S.bd (stv s75 5 x77 x72) fun s78 => some ((Value.tuple ⟨[]⟩), s78)) (seek_Seek_goes.t.p1 S r65)) else (some ((Value.tuple ⟨[]⟩), r65.2.2))
def seek_Seek_goes.v (a0 a1 : Value) (s : St) : Option (Value × St) := seek_Seek_goes.t std a0 a1 s
def seek_Seek_goes.w : List Value → St → Option (Value × St)
  | [a0, a1], s => seek_Seek_goes.v a0 a1 s
  | _, _ => none
def seek_Seek_goes.an : An := ⟨108, false, [3, 4, 5], [(2, ⟨[.v 0, .p 3 3 0, .p 4 4 0, .l 3, .l 4], [(.exit 0, [.v 0, .p 3 3 0, .l 3]), (.ret, [])]⟩)], [], [(4, [(0, 0, [], []), (1, 0, [], []), (2, 0, [], []), (3, 2, [], []), (4, 0, [], []), (5, 25, [], []), (6, 0, [], []), (7, 0, [], []), (8, 0, [], []), (9, 2, [], []), (10, 0, [], []), (11, 2, [], []), (12, 0, [], []), (13, 0, [], []), (14, 0, [], []), (15, 6, [], []), (16, 45, [], []), (17, 0, [], [])]), (6, [(0, 0, [], []), (1, 25, [], []), (2, 41, [], []), (3, 37, [], []), (4, 29, [], [])]), (8, [(0, 0, [], []), (1, 25, [], []), (2, 0, [], []), (3, 0, [], []), (4, 0, [], []), (5, 0, [], []), (6, 2, [], []), (7, 3, [], []), (8, 0, [], [])]), (9, [(0, 0, [], []), (1, 0, [], []), (2, 25, [], []), (3, 0, [], []), (4, 0, [], []), (5, 4, [], []), (6, 0, [], []), (7, 0, [], []), (8, 4, [], [])]), (11, [(0, 0, [], []), (1, 0, [], []), (2, 0, [], []), (3, 0, [], []), (4, 2, [], []), (5, 0, [], []), (6, 0, [], []), (7, 0, [], []), (8, 0, [], []), (9, 2, [], []), (10, 0, [], []), (11, 3, [], []), (12, 0, [], []), (13, 0, [], []), (14, 0, [], []), (15, 0, [], []), (16, 0, [], []), (17, 4, [], [])]), (7, [(0, 0, [], []), (1, 0, [], []), (2, 0, [], []), (3, 0, [], []), (4, 0, [], []), (5, 2, [], []), (6, 25, [], []), (7, 0, [], []), (8, 25, [], []), (9, 0, [], []), (10, 0, [], []), (11, 0, [], []), (12, 0, [], []), (13, 2, [], []), (14, 0, [], []), (15, 0, [], []), (16, 0, [], []), (17, 0, [], []), (18, 4, [], []), (19, 0, [], []), (20, 0, [], []), (21, 4, [], [])])]⟩
theorem seek_Seek_goes.ok (S : Sig) (a0 a1 : Value) (s : St) : evF S Try.prog seek_Seek_goes.ctx seek_Seek_goes.an Try.f94 [a0, a1] s = seek_Seek_goes.t S a0 a1 s := by kernel_rfl
theorem seek_Seek_goes.cok : CtxOk Try.prog seek_Seek_goes.ctx := .cons key_Check.sound key_Check.can <| .cons key_Less.sound key_Less.can <| .cons seek_Seek_again.sound seek_Seek_again.can <| .cons vec_Prefix.sound vec_Prefix.can <| .nil
theorem seek_Seek_goes.draws : fnDraws seek_Seek_goes.an Try.f94 = true := by kernel_rfl
theorem seek_Seek_goes.can : callOk Try.prog 94 = true := by kernel_rfl
theorem seek_Seek_goes.sound : FnOk Try.prog 94 (.st seek_Seek_goes.w) := FnOk.st_of (evF_ok seek_Seek_goes.cok mixed (f := 94) (fn := Try.f94) (by kernel_rfl) seek_Seek_goes.draws) fun args s r h => by
  unfold seek_Seek_goes.w at h; split at h
  · rw [seek_Seek_goes.ok std]; exact h
  · simp at h

/-! ### (*leapfrog/seek.Seek).keep: function 95 -/
def seek_Seek_keep.ctx : Ctx := []
def seek_Seek_keep.t (S : Sig) (a0 a1 a2 : Value) (s : St) : Option (Value × St) :=
  S.bd (bx a1) fun c1 => S.bd (bx a2) fun c2 => S.bd (nck a0) fun x3 => S.bd (fld 22 x3) fun x4 => S.bd (ldc s x4) fun x5 => S.bd (lcl c1 0) fun x6 => S.bd (nck a0) fun x7 => S.bd (fld 14 x7) fun x8 => S.bd (lda s 2 x8) fun x9 => S.bd (bld [(Go.Value.int Go.IntKind.i64 0), (Go.Value.int Go.IntKind.i64 0), (Go.Value.int Go.IntKind.u64 0)] [(0, 1, x6), (1, 2, x9)]) fun x10 => S.bd (lal c2 7 5) fun x11 => S.bd (upm s [1, 1, 1] true x5 x10 x11) fun s12 => some ((Value.tuple ⟨[]⟩), s12)
def seek_Seek_keep.v (a0 a1 a2 : Value) (s : St) : Option (Value × St) := seek_Seek_keep.t std a0 a1 a2 s
def seek_Seek_keep.w : List Value → St → Option (Value × St)
  | [a0, a1, a2], s => seek_Seek_keep.v a0 a1 a2 s
  | _, _ => none
def seek_Seek_keep.an : An := ⟨19, false, [4, 5], [], [], [(1, [(0, 0, [], []), (1, 0, [], []), (2, 0, [], []), (3, 2, [], []), (4, 0, [], []), (5, 33, [], []), (6, 0, [], []), (7, 0, [], []), (8, 0, [], []), (9, 2, [], []), (10, 0, [], []), (11, 0, [], []), (12, 41, [], []), (13, 4, [], [])])]⟩
theorem seek_Seek_keep.ok (S : Sig) (a0 a1 a2 : Value) (s : St) : evF S Try.prog seek_Seek_keep.ctx seek_Seek_keep.an Try.f95 [a0, a1, a2] s = seek_Seek_keep.t S a0 a1 a2 s := by kernel_rfl
theorem seek_Seek_keep.cok : CtxOk Try.prog seek_Seek_keep.ctx := .nil
theorem seek_Seek_keep.draws : fnDraws seek_Seek_keep.an Try.f95 = true := by kernel_rfl
theorem seek_Seek_keep.can : callOk Try.prog 95 = true := by kernel_rfl
theorem seek_Seek_keep.sound : FnOk Try.prog 95 (.st seek_Seek_keep.w) := FnOk.st_of (evF_ok seek_Seek_keep.cok mixed (f := 95) (fn := Try.f95) (by kernel_rfl) seek_Seek_keep.draws) fun args s r h => by
  unfold seek_Seek_keep.w at h; split at h
  · rw [seek_Seek_keep.ok std]; exact h
  · simp at h

/-! ### (*leapfrog/seek.Seek).looked: function 92 -/
def seek_Seek_looked.ctx : Ctx := [(94, .st seek_Seek_goes.w), (95, .st seek_Seek_keep.w), (96, .st seek_Seek_counts.w), (97, .st seek_Seek_again.w)]
def seek_Seek_looked.t (S : Sig) (a0 a1 : Value) (s : St) : Option (Value × St) :=
  S.bd (bx a1) fun c1 => S.bd (lcl c1 0) fun x2 => S.bd (eqb [1] false false x2 (Go.Value.int Go.IntKind.i64 1)) fun x3 => S.cnd x3 (S.bd (nck a0) fun x4 => S.bd (fld 17 x4) fun x5 => S.bd (lda s 5 x5) fun x6 => S.bd (nck a0) fun x7 => S.bd (fld 9 x7) fun x8 => S.bd (stv s 5 x8 x6) fun s9 => S.bd (nck a0) fun x10 => S.bd (fld 16 x10) fun x11 => S.bd (stv s9 1 x11 (Go.Value.bool Bool.false)) fun s12 => S.bd (lal c1 7 5) fun x13 => S.bd (seek_Seek_goes.v a0 x13 s12) fun r14 => some ((Value.tuple ⟨[]⟩), r14.2)) (S.bd (eqb [1] false false x2 (Go.Value.int Go.IntKind.i64 3)) fun x15 => S.cnd x15 (S.bd (nck a0) fun x16 => S.bd (fld 17 x16) fun x17 => S.bd (lda s 5 x17) fun x18 => S.bd (lal c1 0 13) fun x19 => S.bd (seek_Seek_keep.v a0 x18 x19 s) fun r20 => S.bd (seek_Seek_counts.v a0 r20.2) fun r21 => S.cnd r21.1 (S.bd (nck a0) fun x22 => S.bd (fld 16 x22) fun x23 => S.bd (stv r21.2 1 x23 (Go.Value.bool Bool.false)) fun s24 => some ((Value.tuple ⟨[]⟩), s24)) (some ((Value.tuple ⟨[]⟩), r21.2))) (S.bd (seek_Seek_again.v a0 s) fun r25 => some ((Value.tuple ⟨[]⟩), r25.2)))
def seek_Seek_looked.v (a0 a1 : Value) (s : St) : Option (Value × St) := seek_Seek_looked.t std a0 a1 s
def seek_Seek_looked.w : List Value → St → Option (Value × St)
  | [a0, a1], s => seek_Seek_looked.v a0 a1 s
  | _, _ => none
def seek_Seek_looked.an : An := ⟨38, false, [3], [], [], [(7, [(0, 0, [], []), (1, 0, [], []), (2, 0, [], []), (3, 0, [], []), (4, 2, [], []), (5, 25, [], []), (6, 4, [], [])])]⟩
theorem seek_Seek_looked.ok (S : Sig) (a0 a1 : Value) (s : St) : evF S Try.prog seek_Seek_looked.ctx seek_Seek_looked.an Try.f92 [a0, a1] s = seek_Seek_looked.t S a0 a1 s := by kernel_rfl
theorem seek_Seek_looked.cok : CtxOk Try.prog seek_Seek_looked.ctx := .cons seek_Seek_goes.sound seek_Seek_goes.can <| .cons seek_Seek_keep.sound seek_Seek_keep.can <| .cons seek_Seek_counts.sound seek_Seek_counts.can <| .cons seek_Seek_again.sound seek_Seek_again.can <| .nil
theorem seek_Seek_looked.draws : fnDraws seek_Seek_looked.an Try.f92 = true := by kernel_rfl
theorem seek_Seek_looked.can : callOk Try.prog 92 = true := by kernel_rfl
theorem seek_Seek_looked.sound : FnOk Try.prog 92 (.st seek_Seek_looked.w) := FnOk.st_of (evF_ok seek_Seek_looked.cok mixed (f := 92) (fn := Try.f92) (by kernel_rfl) seek_Seek_looked.draws) fun args s r h => by
  unfold seek_Seek_looked.w at h; split at h
  · rw [seek_Seek_looked.ok std]; exact h
  · simp at h

/-! ### (*leapfrog/seek.Seek).stood: function 93 -/
def seek_Seek_stood.ctx : Ctx := [(98, .rd key_Less.w), (94, .st seek_Seek_goes.w), (41, .rd key_Check.w), (97, .st seek_Seek_again.w), (95, .st seek_Seek_keep.w)]
def seek_Seek_stood.t (S : Sig) (a0 a1 : Value) (s : St) : Option (Value × St) :=
  S.bd (bx a1) fun c1 => S.bd (lcl c1 0) fun x2 => S.bd (eqb [1] false false x2 (Go.Value.int Go.IntKind.i64 1)) fun x3 => S.cnd x3 (S.bd (nck a0) fun x4 => S.bd (fld 9 x4) fun x5 => S.bd (fld 1 x5) fun x6 => S.bd (lda s 2 x6) fun x7 => S.bd (nck a0) fun x8 => S.bd (fld 0 x8) fun x9 => S.bd (fld 6 x9) fun x10 => S.bd (lda s 2 x10) fun x11 => S.bd (key_Less.r x7 x11 s) fun x12 => S.cnd x12 (S.bd (lal c1 7 5) fun x13 => S.bd (seek_Seek_goes.v a0 x13 s) fun r14 => some ((Value.tuple ⟨[]⟩), r14.2)) (S.bd (lal c1 3 2) fun x15 => S.bd (key_Check.r x15 s) fun x16 => S.bd (eqb [1] false false x16 (Go.Value.int Go.IntKind.i64 0)) fun x17 => S.bd (S.gd x17 true (lal c1 3 2)) fun x18 => S.bd (S.gd x17 true (some a0)) fun x19 => S.bd (S.gd x17 true (nck x19)) fun x20 => S.bd (S.gd x17 true (fld 9 x20)) fun x21 => S.bd (S.gd x17 true (fld 1 x21)) fun x22 => S.bd (S.gd x17 true (lda s 2 x22)) fun x23 => S.bd (S.gd x17 true (key_Less.r x18 x23 s)) fun x24 => S.bd (pik x17 x24 (Go.Value.bool Bool.false)) fun x25 => S.cnd x25 (S.bd (lal c1 2 5) fun x26 => S.bd (nck a0) fun x27 => S.bd (fld 9 x27) fun x28 => S.bd (stv s 5 x28 x26) fun s29 => some ((Value.tuple ⟨[]⟩), s29)) (S.bd (seek_Seek_again.v a0 s) fun r30 => some ((Value.tuple ⟨[]⟩), r30.2)))) (S.bd (eqb [1] false false x2 (Go.Value.int Go.IntKind.i64 3)) fun x31 => S.cnd x31 (S.bd (nck a0) fun x32 => S.bd (fld 9 x32) fun x33 => S.bd (lda s 5 x33) fun x34 => S.bd (lal c1 0 13) fun x35 => S.bd (seek_Seek_keep.v a0 x34 x35 s) fun r36 => S.bd (seek_Seek_again.v a0 r36.2) fun r37 => some ((Value.tuple ⟨[]⟩), r37.2)) (S.bd (seek_Seek_again.v a0 s) fun r38 => some ((Value.tuple ⟨[]⟩), r38.2)))
def seek_Seek_stood.v (a0 a1 : Value) (s : St) : Option (Value × St) := seek_Seek_stood.t std a0 a1 s
def seek_Seek_stood.w : List Value → St → Option (Value × St)
  | [a0, a1], s => seek_Seek_stood.v a0 a1 s
  | _, _ => none
def seek_Seek_stood.an : An := ⟨55, false, [3], [], [], [(4, [(0, 0, [], []), (1, 0, [], []), (2, 0, [], []), (3, 0, [], []), (4, 2, [], []), (5, 0, [], []), (6, 0, [], []), (7, 0, [], []), (8, 0, [], []), (9, 2, [], []), (10, 3, [], [])]), (6, [(0, 0, [], []), (1, 0, [], []), (2, 25, [], []), (3, 3, [], []), (4, 0, [], []), (5, 0, [], []), (6, 0, [], []), (7, 0, [], []), (8, 25, [], []), (9, 0, [], []), (10, 0, [], []), (11, 0, [], []), (12, 0, [], []), (13, 2, [], []), (14, 3, [], []), (15, 0, [], [])]), (8, [(0, 0, [], []), (1, 0, [], []), (2, 0, [], []), (3, 0, [], []), (4, 2, [], []), (5, 25, [], []), (6, 4, [], [])])]⟩
theorem seek_Seek_stood.ok (S : Sig) (a0 a1 : Value) (s : St) : evF S Try.prog seek_Seek_stood.ctx seek_Seek_stood.an Try.f93 [a0, a1] s = seek_Seek_stood.t S a0 a1 s := by kernel_rfl
theorem seek_Seek_stood.cok : CtxOk Try.prog seek_Seek_stood.ctx := .cons key_Less.sound key_Less.can <| .cons seek_Seek_goes.sound seek_Seek_goes.can <| .cons key_Check.sound key_Check.can <| .cons seek_Seek_again.sound seek_Seek_again.can <| .cons seek_Seek_keep.sound seek_Seek_keep.can <| .nil
theorem seek_Seek_stood.draws : fnDraws seek_Seek_stood.an Try.f93 = true := by kernel_rfl
theorem seek_Seek_stood.can : callOk Try.prog 93 = true := by kernel_rfl
theorem seek_Seek_stood.sound : FnOk Try.prog 93 (.st seek_Seek_stood.w) := FnOk.st_of (evF_ok seek_Seek_stood.cok mixed (f := 93) (fn := Try.f93) (by kernel_rfl) seek_Seek_stood.draws) fun args s r h => by
  unfold seek_Seek_stood.w at h; split at h
  · rw [seek_Seek_stood.ok std]; exact h
  · simp at h

/-! ### (*leapfrog/seek.Seek).Tell: function 89 -/
def seek_Seek_Tell.ctx : Ctx := [(91, .rd seek_Seek_is.w), (92, .st seek_Seek_looked.w), (93, .st seek_Seek_stood.w)]
def seek_Seek_Tell.t (S : Sig) (a0 a1 : Value) (s : St) : Option (Value × St) :=
  S.bd (bx a1) fun c1 => S.bd (seek_Seek_is.r a0 s) fun x2 => S.bd (un .not x2) fun x3 => S.bd (S.gd x3 false (some a0)) fun x4 => S.bd (S.gd x3 false (nck x4)) fun x5 => S.bd (S.gd x3 false (fld 24 x5)) fun x6 => S.bd (S.gd x3 false (ldc s x6)) fun x7 => S.bd (pik x3 (Go.Value.bool Bool.true) x7) fun x8 => S.cnd x8 (some ((Value.tuple ⟨[]⟩), s)) (S.bd (nck a0) fun x9 => S.bd (fld 16 x9) fun x10 => S.bd (ldc s x10) fun x11 => S.cnd x11 (S.bd (lal c1 0 13) fun x12 => S.bd (seek_Seek_looked.v a0 x12 s) fun r13 => some ((Value.tuple ⟨[]⟩), r13.2)) (S.bd (lal c1 0 13) fun x14 => S.bd (seek_Seek_stood.v a0 x14 s) fun r15 => some ((Value.tuple ⟨[]⟩), r15.2)))
def seek_Seek_Tell.v (a0 a1 : Value) (s : St) : Option (Value × St) := seek_Seek_Tell.t std a0 a1 s
def seek_Seek_Tell.w : List Value → St → Option (Value × St)
  | [a0, a1], s => seek_Seek_Tell.v a0 a1 s
  | _, _ => none
def seek_Seek_Tell.an : An := ⟨25, false, [3], [], [], []⟩
theorem seek_Seek_Tell.ok (S : Sig) (a0 a1 : Value) (s : St) : evF S Try.prog seek_Seek_Tell.ctx seek_Seek_Tell.an Try.f89 [a0, a1] s = seek_Seek_Tell.t S a0 a1 s := by kernel_rfl
theorem seek_Seek_Tell.cok : CtxOk Try.prog seek_Seek_Tell.ctx := .cons seek_Seek_is.sound seek_Seek_is.can <| .cons seek_Seek_looked.sound seek_Seek_looked.can <| .cons seek_Seek_stood.sound seek_Seek_stood.can <| .nil
theorem seek_Seek_Tell.draws : fnDraws seek_Seek_Tell.an Try.f89 = true := by kernel_rfl
theorem seek_Seek_Tell.can : callOk Try.prog 89 = true := by kernel_rfl
theorem seek_Seek_Tell.sound : FnOk Try.prog 89 (.st seek_Seek_Tell.w) := FnOk.st_of (evF_ok seek_Seek_Tell.cok mixed (f := 89) (fn := Try.f89) (by kernel_rfl) seek_Seek_Tell.draws) fun args s r h => by
  unfold seek_Seek_Tell.w at h; split at h
  · rw [seek_Seek_Tell.ok std]; exact h
  · simp at h

/-! ### (*leapfrog/seek.Seek).Wake: function 90 -/
def seek_Seek_Wake.ctx : Ctx := []
def seek_Seek_Wake.t (S : Sig) (a0 : Value) (s : St) : Option Value :=
  some ((Value.tuple ⟨[]⟩))
def seek_Seek_Wake.r (a0 : Value) (s : St) : Option Value := seek_Seek_Wake.t std a0 s
def seek_Seek_Wake.w : List Value → St → Option Value
  | [a0], s => seek_Seek_Wake.r a0 s
  | _, _ => none
def seek_Seek_Wake.an : An := ⟨2, true, [], [], [], []⟩
theorem seek_Seek_Wake.ok (S : Sig) (a0 : Value) (s : St) : evG S Try.prog seek_Seek_Wake.ctx seek_Seek_Wake.an Try.f90 [a0] s = seek_Seek_Wake.t S a0 s := by kernel_rfl
theorem seek_Seek_Wake.cok : CtxOk Try.prog seek_Seek_Wake.ctx := .nil
theorem seek_Seek_Wake.draws : fnDraws seek_Seek_Wake.an Try.f90 = true := by kernel_rfl
theorem seek_Seek_Wake.can : callOk Try.prog 90 = true := by kernel_rfl
theorem seek_Seek_Wake.sound : FnOk Try.prog 90 (.rd seek_Seek_Wake.w) := FnOk.rd_of (evG_ok seek_Seek_Wake.cok mixed (f := 90) (fn := Try.f90) (by kernel_rfl) seek_Seek_Wake.draws) fun args s r h => by
  unfold seek_Seek_Wake.w at h; split at h
  · rw [seek_Seek_Wake.ok std]; exact h
  · simp at h

/-! ### (*leapfrog/unsplice.Unsplice).is: function 108 -/
def unsplice_Unsplice_is.ctx : Ctx := []
def unsplice_Unsplice_is.t (S : Sig) (a0 : Value) (s : St) : Option Value :=
  S.bd (eqb [3] false true a0 (Go.Value.pointer Option.none)) fun x1 => S.bd (S.gd x1 true (some a0)) fun x2 => S.bd (S.gd x1 true (nck x2)) fun x3 => S.bd (S.gd x1 true (fld 9 x3)) fun x4 => S.bd (S.gd x1 true (ldc s x4)) fun x5 => S.bd (S.gd x1 true (bin .gtr x5 (Go.Value.int Go.IntKind.i64 0))) fun x6 => S.bd (pik x1 x6 (Go.Value.bool Bool.false)) fun x7 => some (x7)
def unsplice_Unsplice_is.r (a0 : Value) (s : St) : Option Value := unsplice_Unsplice_is.t std a0 s
def unsplice_Unsplice_is.w : List Value → St → Option Value
  | [a0], s => unsplice_Unsplice_is.r a0 s
  | _, _ => none
def unsplice_Unsplice_is.an : An := ⟨12, true, [], [], [], []⟩
theorem unsplice_Unsplice_is.ok (S : Sig) (a0 : Value) (s : St) : evG S Try.prog unsplice_Unsplice_is.ctx unsplice_Unsplice_is.an Try.f108 [a0] s = unsplice_Unsplice_is.t S a0 s := by kernel_rfl
theorem unsplice_Unsplice_is.cok : CtxOk Try.prog unsplice_Unsplice_is.ctx := .nil
theorem unsplice_Unsplice_is.draws : fnDraws unsplice_Unsplice_is.an Try.f108 = true := by kernel_rfl
theorem unsplice_Unsplice_is.can : callOk Try.prog 108 = true := by kernel_rfl
theorem unsplice_Unsplice_is.sound : FnOk Try.prog 108 (.rd unsplice_Unsplice_is.w) := FnOk.rd_of (evG_ok unsplice_Unsplice_is.cok mixed (f := 108) (fn := Try.f108) (by kernel_rfl) unsplice_Unsplice_is.draws) fun args s r h => by
  unfold unsplice_Unsplice_is.w at h; split at h
  · rw [unsplice_Unsplice_is.ok std]; exact h
  · simp at h

/-! ### (*leapfrog/unsplice.Unsplice).asks: function 109 -/
def unsplice_Unsplice_asks.ctx : Ctx := []
def unsplice_Unsplice_asks.t.p1 (S : Sig) (x9 : Value) (s : St) (a1 : Value) (x7 : Value) (x8 : Value) (c1 : List Value) (c3 : List Value) : Option Value :=
  S.bd (fld 0 x9) fun x10 => S.bd (fld 7 x10) fun x11 => S.bd (lda s 2 x11) fun x12 => S.bd (bld [(Go.Value.int Go.IntKind.i64 0), (Go.Value.int Go.IntKind.i64 0), (Go.Value.int Go.IntKind.u64 0), (Go.Value.int Go.IntKind.i64 0), (Go.Value.int Go.IntKind.i64 0), (Go.Value.int Go.IntKind.u64 0), (Go.Value.int Go.IntKind.i64 0), (Go.Value.int Go.IntKind.u64 0), (Go.Value.int Go.IntKind.i64 0), (Go.Value.int Go.IntKind.i64 0), (Go.Value.int Go.IntKind.u64 0), (Go.Value.int Go.IntKind.i64 0), (Go.Value.int Go.IntKind.u64 0), (Go.Value.int Go.IntKind.i64 0), (Go.Value.int Go.IntKind.i64 0)] [(0, 1, a1), (1, 2, x7), (3, 5, x8), (13, 2, x12)]) fun x13 => S.bd (bx (Go.Value.agg #[(Go.Value.int Go.IntKind.i64 0), (Go.Value.int Go.IntKind.i64 0), (Go.Value.int Go.IntKind.u64 0), (Go.Value.int Go.IntKind.i64 0), (Go.Value.int Go.IntKind.i64 0), (Go.Value.int Go.IntKind.u64 0), (Go.Value.int Go.IntKind.i64 0), (Go.Value.int Go.IntKind.u64 0), (Go.Value.int Go.IntKind.i64 0), (Go.Value.int Go.IntKind.i64 0), (Go.Value.int Go.IntKind.u64 0), (Go.Value.int Go.IntKind.i64 0), (Go.Value.int Go.IntKind.u64 0), (Go.Value.int Go.IntKind.i64 0), (Go.Value.int Go.IntKind.i64 0)])) fun c14 => S.bd (stl c14 0 15 x13) fun c15 => S.bd (show Option Cut from S.bd (eqb [1] false false a1 (Go.Value.int Go.IntKind.i64 1)) fun x22 => S.bd (S.gd x22 false (some a1)) fun x23 => S.bd (S.gd x22 false (eqb [1] false false x23 (Go.Value.int Go.IntKind.i64 6))) fun x24 => S.bd (pik x22 (Go.Value.bool Bool.true) x24) fun x25 => S.cnd x25 (S.bd (bld [(Go.Value.int Go.IntKind.i64 0), (Go.Value.int Go.IntKind.i64 0)] []) fun x26 => S.bd (stl c15 13 2 x26) fun c27 => some (0, [(Value.agg ⟨c1⟩), (Value.agg ⟨c3⟩), (Value.agg ⟨c27⟩)], s)) (some (0, [(Value.agg ⟨c1⟩), (Value.agg ⟨c3⟩), (Value.agg ⟨c15⟩)], s))) fun r28 => S.bd (lal (cellsA (r28.2.1.getD 0 undef)) 0 5) fun x29 => S.bd (lal (cellsA (r28.2.1.getD 2 undef)) 0 15) fun x30 => S.bd (bld [(Go.Value.int Go.IntKind.i64 0), (Go.Value.int Go.IntKind.i64 0), (Go.Value.int Go.IntKind.i64 0), (Go.Value.int Go.IntKind.u64 0), (Go.Value.int Go.IntKind.i64 0), (Go.Value.int Go.IntKind.u64 0), (Go.Value.int Go.IntKind.i64 0), (Go.Value.int Go.IntKind.i64 0), (Go.Value.int Go.IntKind.u64 0), (Go.Value.int Go.IntKind.i64 0), (Go.Value.int Go.IntKind.i64 0), (Go.Value.int Go.IntKind.u64 0), (Go.Value.int Go.IntKind.i64 0), (Go.Value.int Go.IntKind.u64 0), (Go.Value.int Go.IntKind.i64 0), (Go.Value.int Go.IntKind.i64 0), (Go.Value.int Go.IntKind.u64 0), (Go.Value.int Go.IntKind.i64 0), (Go.Value.int Go.IntKind.u64 0), (Go.Value.int Go.IntKind.i64 0), (Go.Value.int Go.IntKind.i64 0), (Go.Value.int Go.IntKind.i64 0), (Go.Value.int Go.IntKind.u64 0), (Go.Value.slice Option.none 0 0), (Go.Value.slice Option.none 0 0), (Go.Value.int Go.IntKind.i64 0), (Go.Value.int Go.IntKind.i64 0), (Go.Value.int Go.IntKind.u64 0), (Go.Value.int Go.IntKind.i64 0), (Go.Value.int Go.IntKind.u64 0), (Go.Value.int Go.IntKind.i64 0), (Go.Value.int Go.IntKind.i64 0), (Go.Value.int Go.IntKind.u64 0), (Go.Value.int Go.IntKind.i64 0), (Go.Value.int Go.IntKind.u64 0), (Go.Value.bool Bool.false)] [(0, 1, (Go.Value.int Go.IntKind.i64 1)), (1, 5, x29), (6, 15, x30)]) fun x31 => S.bd (stl (cellsA (r28.2.1.getD 1 undef)) 0 36 x31) fun c32 => S.bd (lal c32 0 36) fun x33 => some (x33)

def unsplice_Unsplice_asks.t (S : Sig) (a0 a1 a2 a3 : Value) (s : St) : Option Value :=
  S.bd (bx a2) fun c1 => S.bd (bx a3) fun c2 => S.bd (bx (Go.Value.agg #[(Go.Value.int Go.IntKind.i64 0), (Go.Value.int Go.IntKind.i64 0), (Go.Value.int Go.IntKind.i64 0), (Go.Value.int Go.IntKind.u64 0), (Go.Value.int Go.IntKind.i64 0), (Go.Value.int Go.IntKind.u64 0), (Go.Value.int Go.IntKind.i64 0), (Go.Value.int Go.IntKind.i64 0), (Go.Value.int Go.IntKind.u64 0), (Go.Value.int Go.IntKind.i64 0), (Go.Value.int Go.IntKind.i64 0), (Go.Value.int Go.IntKind.u64 0), (Go.Value.int Go.IntKind.i64 0), (Go.Value.int Go.IntKind.u64 0), (Go.Value.int Go.IntKind.i64 0), (Go.Value.int Go.IntKind.i64 0), (Go.Value.int Go.IntKind.u64 0), (Go.Value.int Go.IntKind.i64 0), (Go.Value.int Go.IntKind.u64 0), (Go.Value.int Go.IntKind.i64 0), (Go.Value.int Go.IntKind.i64 0), (Go.Value.int Go.IntKind.i64 0), (Go.Value.int Go.IntKind.u64 0), (Go.Value.slice Option.none 0 0), (Go.Value.slice Option.none 0 0), (Go.Value.int Go.IntKind.i64 0), (Go.Value.int Go.IntKind.i64 0), (Go.Value.int Go.IntKind.u64 0), (Go.Value.int Go.IntKind.i64 0), (Go.Value.int Go.IntKind.u64 0), (Go.Value.int Go.IntKind.i64 0), (Go.Value.int Go.IntKind.i64 0), (Go.Value.int Go.IntKind.u64 0), (Go.Value.int Go.IntKind.i64 0), (Go.Value.int Go.IntKind.u64 0), (Go.Value.bool Bool.false)])) fun c3 => S.bd (nck a0) fun x4 => S.bd (fld 0 x4) fun x5 => S.bd (fld 0 x5) fun x6 => S.bd (lda s 2 x6) fun x7 => S.bd (lal c2 0 5) fun x8 => S.bd (nck a0) fun x9 => unsplice_Unsplice_asks.t.p1 S x9 s a1 x7 x8 c1 c3
def unsplice_Unsplice_asks.r (a0 a1 a2 a3 : Value) (s : St) : Option Value := unsplice_Unsplice_asks.t std a0 a1 a2 a3 s
def unsplice_Unsplice_asks.w : List Value → St → Option Value
  | [a0, a1, a2, a3], s => unsplice_Unsplice_asks.r a0 a1 a2 a3 s
  | _, _ => none
def unsplice_Unsplice_asks.an : An := ⟨34, true, [6, 7, 8, 9], [], [(4, ⟨[], [(.normal, [.p 6 6 0, .p 8 8 0, .p 9 9 0, .l 6, .l 8, .l 9])]⟩)], [(1, [(0, 0, [], []), (1, 0, [], []), (2, 0, [], []), (3, 0, [], []), (4, 0, [], []), (5, 2, [], []), (6, 57, [], []), (7, 0, [], []), (8, 0, [], []), (9, 0, [], []), (10, 0, [], []), (11, 2, [], []), (12, 0, [], []), (13, 6, [], []), (14, 77, [], [])])]⟩
theorem unsplice_Unsplice_asks.ok (S : Sig) (a0 a1 a2 a3 : Value) (s : St) : evG S Try.prog unsplice_Unsplice_asks.ctx unsplice_Unsplice_asks.an Try.f109 [a0, a1, a2, a3] s = unsplice_Unsplice_asks.t S a0 a1 a2 a3 s := by kernel_rfl
theorem unsplice_Unsplice_asks.cok : CtxOk Try.prog unsplice_Unsplice_asks.ctx := .nil
theorem unsplice_Unsplice_asks.draws : fnDraws unsplice_Unsplice_asks.an Try.f109 = true := by kernel_rfl
theorem unsplice_Unsplice_asks.can : callOk Try.prog 109 = true := by kernel_rfl
theorem unsplice_Unsplice_asks.sound : FnOk Try.prog 109 (.rd unsplice_Unsplice_asks.w) := FnOk.rd_of (evG_ok unsplice_Unsplice_asks.cok mixed (f := 109) (fn := Try.f109) (by kernel_rfl) unsplice_Unsplice_asks.draws) fun args s r h => by
  unfold unsplice_Unsplice_asks.w at h; split at h
  · rw [unsplice_Unsplice_asks.ok std]; exact h
  · simp at h

/-! ### (*leapfrog/unsplice.Unsplice).Next: function 105 -/
def unsplice_Unsplice_Next.ctx : Ctx := [(108, .rd unsplice_Unsplice_is.w), (109, .rd unsplice_Unsplice_asks.w)]
def unsplice_Unsplice_Next.t.p1 (S : Sig) (a0 : Value) (s : St) (c1 : List Value) : Option Value :=
  S.bd (nck a0) fun x86 => S.bd (fld 21 x86) fun x87 => S.bd (ldc s x87) fun x88 => S.bd (bld [(Go.Value.int Go.IntKind.i64 0), (Go.Value.int Go.IntKind.u64 0), (Go.Value.slice Option.none 0 0), (Go.Value.slice Option.none 0 0), (Go.Value.int Go.IntKind.i64 0), (Go.Value.int Go.IntKind.i64 0), (Go.Value.int Go.IntKind.u64 0), (Go.Value.int Go.IntKind.i64 0), (Go.Value.int Go.IntKind.u64 0), (Go.Value.int Go.IntKind.i64 0), (Go.Value.int Go.IntKind.i64 0), (Go.Value.int Go.IntKind.u64 0), (Go.Value.int Go.IntKind.i64 0), (Go.Value.int Go.IntKind.u64 0), (Go.Value.bool Bool.false)] [(0, 1, x88)]) fun x89 => S.bd (bld [(Go.Value.int Go.IntKind.i64 0), (Go.Value.int Go.IntKind.i64 0), (Go.Value.int Go.IntKind.i64 0), (Go.Value.int Go.IntKind.u64 0), (Go.Value.int Go.IntKind.i64 0), (Go.Value.int Go.IntKind.u64 0), (Go.Value.int Go.IntKind.i64 0), (Go.Value.int Go.IntKind.i64 0), (Go.Value.int Go.IntKind.u64 0), (Go.Value.int Go.IntKind.i64 0), (Go.Value.int Go.IntKind.i64 0), (Go.Value.int Go.IntKind.u64 0), (Go.Value.int Go.IntKind.i64 0), (Go.Value.int Go.IntKind.u64 0), (Go.Value.int Go.IntKind.i64 0), (Go.Value.int Go.IntKind.i64 0), (Go.Value.int Go.IntKind.u64 0), (Go.Value.int Go.IntKind.i64 0), (Go.Value.int Go.IntKind.u64 0), (Go.Value.int Go.IntKind.i64 0), (Go.Value.int Go.IntKind.i64 0), (Go.Value.int Go.IntKind.i64 0), (Go.Value.int Go.IntKind.u64 0), (Go.Value.slice Option.none 0 0), (Go.Value.slice Option.none 0 0), (Go.Value.int Go.IntKind.i64 0), (Go.Value.int Go.IntKind.i64 0), (Go.Value.int Go.IntKind.u64 0), (Go.Value.int Go.IntKind.i64 0), (Go.Value.int Go.IntKind.u64 0), (Go.Value.int Go.IntKind.i64 0), (Go.Value.int Go.IntKind.i64 0), (Go.Value.int Go.IntKind.u64 0), (Go.Value.int Go.IntKind.i64 0), (Go.Value.int Go.IntKind.u64 0), (Go.Value.bool Bool.false)] [(0, 1, (Go.Value.int Go.IntKind.i64 3)), (21, 15, x89)]) fun x90 => S.bd (stl c1 0 36 x90) fun c91 => S.bd (lal c91 0 36) fun x92 => some (x92)

def unsplice_Unsplice_Next.t.p2 (S : Sig) (x9 : Value) (a0 : Value) (s : St) (c1 : List Value) : Option Value :=
  S.bd (eqb [1] false false x9 (Go.Value.int Go.IntKind.i64 8)) fun x74 => S.cnd x74 (S.bd (nck a0) fun x75 => S.bd (fld 11 x75) fun x76 => S.bd (lda s 5 x76) fun x77 => S.bd (bld [(Go.Value.int Go.IntKind.i64 0), (Go.Value.int Go.IntKind.i64 0), (Go.Value.int Go.IntKind.u64 0), (Go.Value.int Go.IntKind.i64 0), (Go.Value.int Go.IntKind.u64 0)] []) fun x78 => S.bd (unsplice_Unsplice_asks.r a0 (Go.Value.int Go.IntKind.i64 4) x77 x78 s) fun x79 => S.bd (stl c1 0 36 x79) fun c80 => S.bd (lal c80 0 36) fun x81 => some (x81)) (S.bd (eqb [1] false false x9 (Go.Value.int Go.IntKind.i64 9)) fun x82 => S.cnd x82 (S.bd (bld [(Go.Value.int Go.IntKind.i64 0), (Go.Value.int Go.IntKind.i64 0), (Go.Value.int Go.IntKind.i64 0), (Go.Value.int Go.IntKind.u64 0), (Go.Value.int Go.IntKind.i64 0), (Go.Value.int Go.IntKind.u64 0), (Go.Value.int Go.IntKind.i64 0), (Go.Value.int Go.IntKind.i64 0), (Go.Value.int Go.IntKind.u64 0), (Go.Value.int Go.IntKind.i64 0), (Go.Value.int Go.IntKind.i64 0), (Go.Value.int Go.IntKind.u64 0), (Go.Value.int Go.IntKind.i64 0), (Go.Value.int Go.IntKind.u64 0), (Go.Value.int Go.IntKind.i64 0), (Go.Value.int Go.IntKind.i64 0), (Go.Value.int Go.IntKind.u64 0), (Go.Value.int Go.IntKind.i64 0), (Go.Value.int Go.IntKind.u64 0), (Go.Value.int Go.IntKind.i64 0), (Go.Value.int Go.IntKind.i64 0), (Go.Value.int Go.IntKind.i64 0), (Go.Value.int Go.IntKind.u64 0), (Go.Value.slice Option.none 0 0), (Go.Value.slice Option.none 0 0), (Go.Value.int Go.IntKind.i64 0), (Go.Value.int Go.IntKind.i64 0), (Go.Value.int Go.IntKind.u64 0), (Go.Value.int Go.IntKind.i64 0), (Go.Value.int Go.IntKind.u64 0), (Go.Value.int Go.IntKind.i64 0), (Go.Value.int Go.IntKind.i64 0), (Go.Value.int Go.IntKind.u64 0), (Go.Value.int Go.IntKind.i64 0), (Go.Value.int Go.IntKind.u64 0), (Go.Value.bool Bool.false)] [(0, 1, (Go.Value.int Go.IntKind.i64 2))]) fun x83 => S.bd (stl c1 0 36 x83) fun c84 => S.bd (lal c84 0 36) fun x85 => some (x85)) (unsplice_Unsplice_Next.t.p1 S a0 s c1))

def unsplice_Unsplice_Next.t.p3 (S : Sig) (x9 : Value) (a0 : Value) (s : St) (c1 : List Value) : Option Value :=
  S.bd (eqb [1] false false x9 (Go.Value.int Go.IntKind.i64 4)) fun x36 => S.cnd x36 (S.bd (nck a0) fun x37 => S.bd (fld 11 x37) fun x38 => S.bd (lda s 5 x38) fun x39 => S.bd (nck a0) fun x40 => S.bd (fld 16 x40) fun x41 => S.bd (lda s 5 x41) fun x42 => S.bd (unsplice_Unsplice_asks.r a0 (Go.Value.int Go.IntKind.i64 5) x39 x42 s) fun x43 => S.bd (stl c1 0 36 x43) fun c44 => S.bd (lal c44 0 36) fun x45 => some (x45)) (S.bd (eqb [1] false false x9 (Go.Value.int Go.IntKind.i64 5)) fun x46 => S.cnd x46 (S.bd (nck a0) fun x47 => S.bd (fld 16 x47) fun x48 => S.bd (lda s 5 x48) fun x49 => S.bd (nck a0) fun x50 => S.bd (fld 11 x50) fun x51 => S.bd (lda s 5 x51) fun x52 => S.bd (unsplice_Unsplice_asks.r a0 (Go.Value.int Go.IntKind.i64 6) x49 x52 s) fun x53 => S.bd (stl c1 0 36 x53) fun c54 => S.bd (lal c54 0 36) fun x55 => some (x55)) (S.bd (eqb [1] false false x9 (Go.Value.int Go.IntKind.i64 6)) fun x56 => S.cnd x56 (S.bd (nck a0) fun x57 => S.bd (fld 0 x57) fun x58 => S.bd (fld 2 x58) fun x59 => S.bd (lda s 5 x59) fun x60 => S.bd (bld [(Go.Value.int Go.IntKind.i64 0), (Go.Value.int Go.IntKind.i64 0), (Go.Value.int Go.IntKind.u64 0), (Go.Value.int Go.IntKind.i64 0), (Go.Value.int Go.IntKind.u64 0)] []) fun x61 => S.bd (unsplice_Unsplice_asks.r a0 (Go.Value.int Go.IntKind.i64 8) x60 x61 s) fun x62 => S.bd (stl c1 0 36 x62) fun c63 => S.bd (lal c63 0 36) fun x64 => some (x64)) (S.bd (eqb [1] false false x9 (Go.Value.int Go.IntKind.i64 7)) fun x65 => S.cnd x65 (S.bd (nck a0) fun x66 => S.bd (fld 0 x66) fun x67 => S.bd (fld 2 x67) fun x68 => S.bd (lda s 5 x68) fun x69 => S.bd (bld [(Go.Value.int Go.IntKind.i64 0), (Go.Value.int Go.IntKind.i64 0), (Go.Value.int Go.IntKind.u64 0), (Go.Value.int Go.IntKind.i64 0), (Go.Value.int Go.IntKind.u64 0)] []) fun x70 => S.bd (unsplice_Unsplice_asks.r a0 (Go.Value.int Go.IntKind.i64 4) x69 x70 s) fun x71 => S.bd (stl c1 0 36 x71) fun c72 => S.bd (lal c72 0 36) fun x73 => some (x73)) (unsplice_Unsplice_Next.t.p2 S x9 a0 s c1))))

def unsplice_Unsplice_Next.t (S : Sig) (a0 : Value) (s : St) : Option Value :=
  S.bd (bx (Go.Value.agg #[(Go.Value.int Go.IntKind.i64 0), (Go.Value.int Go.IntKind.i64 0), (Go.Value.int Go.IntKind.i64 0), (Go.Value.int Go.IntKind.u64 0), (Go.Value.int Go.IntKind.i64 0), (Go.Value.int Go.IntKind.u64 0), (Go.Value.int Go.IntKind.i64 0), (Go.Value.int Go.IntKind.i64 0), (Go.Value.int Go.IntKind.u64 0), (Go.Value.int Go.IntKind.i64 0), (Go.Value.int Go.IntKind.i64 0), (Go.Value.int Go.IntKind.u64 0), (Go.Value.int Go.IntKind.i64 0), (Go.Value.int Go.IntKind.u64 0), (Go.Value.int Go.IntKind.i64 0), (Go.Value.int Go.IntKind.i64 0), (Go.Value.int Go.IntKind.u64 0), (Go.Value.int Go.IntKind.i64 0), (Go.Value.int Go.IntKind.u64 0), (Go.Value.int Go.IntKind.i64 0), (Go.Value.int Go.IntKind.i64 0), (Go.Value.int Go.IntKind.i64 0), (Go.Value.int Go.IntKind.u64 0), (Go.Value.slice Option.none 0 0), (Go.Value.slice Option.none 0 0), (Go.Value.int Go.IntKind.i64 0), (Go.Value.int Go.IntKind.i64 0), (Go.Value.int Go.IntKind.u64 0), (Go.Value.int Go.IntKind.i64 0), (Go.Value.int Go.IntKind.u64 0), (Go.Value.int Go.IntKind.i64 0), (Go.Value.int Go.IntKind.i64 0), (Go.Value.int Go.IntKind.u64 0), (Go.Value.int Go.IntKind.i64 0), (Go.Value.int Go.IntKind.u64 0), (Go.Value.bool Bool.false)])) fun c1 => S.bd (unsplice_Unsplice_is.r a0 s) fun x2 => S.bd (un .not x2) fun x3 => S.cnd x3 (S.bd (bld [(Go.Value.int Go.IntKind.i64 0), (Go.Value.int Go.IntKind.i64 0), (Go.Value.int Go.IntKind.i64 0), (Go.Value.int Go.IntKind.u64 0), (Go.Value.int Go.IntKind.i64 0), (Go.Value.int Go.IntKind.u64 0), (Go.Value.int Go.IntKind.i64 0), (Go.Value.int Go.IntKind.i64 0), (Go.Value.int Go.IntKind.u64 0), (Go.Value.int Go.IntKind.i64 0), (Go.Value.int Go.IntKind.i64 0), (Go.Value.int Go.IntKind.u64 0), (Go.Value.int Go.IntKind.i64 0), (Go.Value.int Go.IntKind.u64 0), (Go.Value.int Go.IntKind.i64 0), (Go.Value.int Go.IntKind.i64 0), (Go.Value.int Go.IntKind.u64 0), (Go.Value.int Go.IntKind.i64 0), (Go.Value.int Go.IntKind.u64 0), (Go.Value.int Go.IntKind.i64 0), (Go.Value.int Go.IntKind.i64 0), (Go.Value.int Go.IntKind.i64 0), (Go.Value.int Go.IntKind.u64 0), (Go.Value.slice Option.none 0 0), (Go.Value.slice Option.none 0 0), (Go.Value.int Go.IntKind.i64 0), (Go.Value.int Go.IntKind.i64 0), (Go.Value.int Go.IntKind.u64 0), (Go.Value.int Go.IntKind.i64 0), (Go.Value.int Go.IntKind.u64 0), (Go.Value.int Go.IntKind.i64 0), (Go.Value.int Go.IntKind.i64 0), (Go.Value.int Go.IntKind.u64 0), (Go.Value.int Go.IntKind.i64 0), (Go.Value.int Go.IntKind.u64 0), (Go.Value.bool Bool.false)] []) fun x4 => S.bd (stl c1 0 36 x4) fun c5 => S.bd (lal c5 0 36) fun x6 => some (x6)) (S.bd (nck a0) fun x7 => S.bd (fld 9 x7) fun x8 => S.bd (ldc s x8) fun x9 => S.bd (eqb [1] false false x9 (Go.Value.int Go.IntKind.i64 1)) fun x10 => S.cnd x10 (S.bd (nck a0) fun x11 => S.bd (fld 0 x11) fun x12 => S.bd (fld 2 x12) fun x13 => S.bd (lda s 5 x13) fun x14 => S.bd (bld [(Go.Value.int Go.IntKind.i64 0), (Go.Value.int Go.IntKind.i64 0), (Go.Value.int Go.IntKind.u64 0), (Go.Value.int Go.IntKind.i64 0), (Go.Value.int Go.IntKind.u64 0)] []) fun x15 => S.bd (unsplice_Unsplice_asks.r a0 (Go.Value.int Go.IntKind.i64 1) x14 x15 s) fun x16 => S.bd (stl c1 0 36 x16) fun c17 => S.bd (lal c17 0 36) fun x18 => some (x18)) (S.bd (eqb [1] false false x9 (Go.Value.int Go.IntKind.i64 2)) fun x19 => S.cnd x19 (S.bd (nck a0) fun x20 => S.bd (fld 11 x20) fun x21 => S.bd (lda s 5 x21) fun x22 => S.bd (bld [(Go.Value.int Go.IntKind.i64 0), (Go.Value.int Go.IntKind.i64 0), (Go.Value.int Go.IntKind.u64 0), (Go.Value.int Go.IntKind.i64 0), (Go.Value.int Go.IntKind.u64 0)] []) fun x23 => S.bd (unsplice_Unsplice_asks.r a0 (Go.Value.int Go.IntKind.i64 3) x22 x23 s) fun x24 => S.bd (stl c1 0 36 x24) fun c25 => S.bd (lal c25 0 36) fun x26 => some (x26)) (S.bd (eqb [1] false false x9 (Go.Value.int Go.IntKind.i64 3)) fun x27 => S.cnd x27 (S.bd (nck a0) fun x28 => S.bd (fld 0 x28) fun x29 => S.bd (fld 2 x29) fun x30 => S.bd (lda s 5 x30) fun x31 => S.bd (bld [(Go.Value.int Go.IntKind.i64 0), (Go.Value.int Go.IntKind.i64 0), (Go.Value.int Go.IntKind.u64 0), (Go.Value.int Go.IntKind.i64 0), (Go.Value.int Go.IntKind.u64 0)] []) fun x32 => S.bd (unsplice_Unsplice_asks.r a0 (Go.Value.int Go.IntKind.i64 3) x31 x32 s) fun x33 => S.bd (stl c1 0 36 x33) fun c34 => S.bd (lal c34 0 36) fun x35 => some (x35)) (unsplice_Unsplice_Next.t.p3 S x9 a0 s c1))))
def unsplice_Unsplice_Next.r (a0 : Value) (s : St) : Option Value := unsplice_Unsplice_Next.t std a0 s
def unsplice_Unsplice_Next.w : List Value → St → Option Value
  | [a0], s => unsplice_Unsplice_Next.r a0 s
  | _, _ => none
def unsplice_Unsplice_Next.an : An := ⟨102, true, [2], [], [], [(11, [(0, 0, [], []), (1, 0, [], []), (2, 0, [], []), (3, 0, [], []), (4, 2, [], []), (5, 0, [], []), (6, 0, [], []), (7, 0, [], []), (8, 2, [], []), (9, 3, [], []), (10, 21, [], [])]), (13, [(0, 0, [], []), (1, 0, [], []), (2, 0, [], []), (3, 0, [], []), (4, 2, [], []), (5, 0, [], []), (6, 0, [], []), (7, 0, [], []), (8, 2, [], []), (9, 3, [], []), (10, 21, [], [])])]⟩
theorem unsplice_Unsplice_Next.ok (S : Sig) (a0 : Value) (s : St) : evG S Try.prog unsplice_Unsplice_Next.ctx unsplice_Unsplice_Next.an Try.f105 [a0] s = unsplice_Unsplice_Next.t S a0 s := by kernel_rfl
theorem unsplice_Unsplice_Next.cok : CtxOk Try.prog unsplice_Unsplice_Next.ctx := .cons unsplice_Unsplice_is.sound unsplice_Unsplice_is.can <| .cons unsplice_Unsplice_asks.sound unsplice_Unsplice_asks.can <| .nil
theorem unsplice_Unsplice_Next.draws : fnDraws unsplice_Unsplice_Next.an Try.f105 = true := by kernel_rfl
theorem unsplice_Unsplice_Next.can : callOk Try.prog 105 = true := by kernel_rfl
theorem unsplice_Unsplice_Next.sound : FnOk Try.prog 105 (.rd unsplice_Unsplice_Next.w) := FnOk.rd_of (evG_ok unsplice_Unsplice_Next.cok mixed (f := 105) (fn := Try.f105) (by kernel_rfl) unsplice_Unsplice_Next.draws) fun args s r h => by
  unfold unsplice_Unsplice_Next.w at h; split at h
  · rw [unsplice_Unsplice_Next.ok std]; exact h
  · simp at h

/-! ### (*leapfrog/unsplice.Unsplice).ends: function 113 -/
def unsplice_Unsplice_ends.ctx : Ctx := []
def unsplice_Unsplice_ends.t (S : Sig) (a0 a1 : Value) (s : St) : Option (Value × St) :=
  S.bd (nck a0) fun x1 => S.bd (fld 9 x1) fun x2 => S.bd (stv s 1 x2 (Go.Value.int Go.IntKind.i64 10)) fun s3 => S.bd (nck a0) fun x4 => S.bd (fld 21 x4) fun x5 => S.bd (stv s3 1 x5 a1) fun s6 => some ((Value.tuple ⟨[]⟩), s6)
def unsplice_Unsplice_ends.v (a0 a1 : Value) (s : St) : Option (Value × St) := unsplice_Unsplice_ends.t std a0 a1 s
def unsplice_Unsplice_ends.w : List Value → St → Option (Value × St)
  | [a0, a1], s => unsplice_Unsplice_ends.v a0 a1 s
  | _, _ => none
def unsplice_Unsplice_ends.an : An := ⟨11, false, [], [], [], []⟩
theorem unsplice_Unsplice_ends.ok (S : Sig) (a0 a1 : Value) (s : St) : evF S Try.prog unsplice_Unsplice_ends.ctx unsplice_Unsplice_ends.an Try.f113 [a0, a1] s = unsplice_Unsplice_ends.t S a0 a1 s := by kernel_rfl
theorem unsplice_Unsplice_ends.cok : CtxOk Try.prog unsplice_Unsplice_ends.ctx := .nil
theorem unsplice_Unsplice_ends.draws : fnDraws unsplice_Unsplice_ends.an Try.f113 = true := by kernel_rfl
theorem unsplice_Unsplice_ends.can : callOk Try.prog 113 = true := by kernel_rfl
theorem unsplice_Unsplice_ends.sound : FnOk Try.prog 113 (.st unsplice_Unsplice_ends.w) := FnOk.st_of (evF_ok unsplice_Unsplice_ends.cok mixed (f := 113) (fn := Try.f113) (by kernel_rfl) unsplice_Unsplice_ends.draws) fun args s r h => by
  unfold unsplice_Unsplice_ends.w at h; split at h
  · rw [unsplice_Unsplice_ends.ok std]; exact h
  · simp at h

/-! ### (*leapfrog/unsplice.Unsplice).read: function 110 -/
def unsplice_Unsplice_read.ctx : Ctx := [(98, .rd key_Less.w), (113, .st unsplice_Unsplice_ends.w)]
def unsplice_Unsplice_read.t (S : Sig) (a0 a1 : Value) (s : St) : Option (Value × St) :=
  S.bd (bx a1) fun c1 => S.bd (nck a0) fun x2 => S.bd (fld 9 x2) fun x3 => S.bd (stv s 1 x3 (Go.Value.int Go.IntKind.i64 9)) fun s4 => S.bd (lcl c1 0) fun x5 => S.bd (eqb [1] false false x5 (Go.Value.int Go.IntKind.i64 1)) fun x6 => S.cnd x6 (S.bd (lal c1 3 2) fun x7 => S.bd (nck a0) fun x8 => S.bd (fld 0 x8) fun x9 => S.bd (fld 2 x9) fun x10 => S.bd (fld 1 x10) fun x11 => S.bd (lda s4 2 x11) fun x12 => S.bd (key_Less.r x7 x12 s4) fun x13 => S.cnd x13 (S.bd (lal c1 2 5) fun x14 => S.bd (nck a0) fun x15 => S.bd (fld 11 x15) fun x16 => S.bd (stv s4 5 x16 x14) fun s17 => S.bd (nck a0) fun x18 => S.bd (fld 9 x18) fun x19 => S.bd (stv s17 1 x19 (Go.Value.int Go.IntKind.i64 2)) fun s20 => some ((Value.tuple ⟨[]⟩), s20)) (some ((Value.tuple ⟨[]⟩), s4))) (S.bd (eqb [1] false false x5 (Go.Value.int Go.IntKind.i64 2)) fun x21 => S.cnd x21 (S.bd (unsplice_Unsplice_ends.v a0 (Go.Value.int Go.IntKind.i64 0) s4) fun r22 => some ((Value.tuple ⟨[]⟩), r22.2)) (S.bd (eqb [1] false false x5 (Go.Value.int Go.IntKind.i64 3)) fun x23 => S.cnd x23 (S.bd (unsplice_Unsplice_ends.v a0 (Go.Value.int Go.IntKind.i64 132) s4) fun r24 => some ((Value.tuple ⟨[]⟩), r24.2)) (some ((Value.tuple ⟨[]⟩), s4))))
def unsplice_Unsplice_read.v (a0 a1 : Value) (s : St) : Option (Value × St) := unsplice_Unsplice_read.t std a0 a1 s
def unsplice_Unsplice_read.w : List Value → St → Option (Value × St)
  | [a0, a1], s => unsplice_Unsplice_read.v a0 a1 s
  | _, _ => none
def unsplice_Unsplice_read.an : An := ⟨37, false, [3], [], [], [(4, [(0, 0, [], []), (1, 0, [], []), (2, 25, [], []), (3, 0, [], []), (4, 0, [], []), (5, 0, [], []), (6, 0, [], []), (7, 0, [], []), (8, 2, [], []), (9, 3, [], [])])]⟩
theorem unsplice_Unsplice_read.ok (S : Sig) (a0 a1 : Value) (s : St) : evF S Try.prog unsplice_Unsplice_read.ctx unsplice_Unsplice_read.an Try.f110 [a0, a1] s = unsplice_Unsplice_read.t S a0 a1 s := by kernel_rfl
theorem unsplice_Unsplice_read.cok : CtxOk Try.prog unsplice_Unsplice_read.ctx := .cons key_Less.sound key_Less.can <| .cons unsplice_Unsplice_ends.sound unsplice_Unsplice_ends.can <| .nil
theorem unsplice_Unsplice_read.draws : fnDraws unsplice_Unsplice_read.an Try.f110 = true := by kernel_rfl
theorem unsplice_Unsplice_read.can : callOk Try.prog 110 = true := by kernel_rfl
theorem unsplice_Unsplice_read.sound : FnOk Try.prog 110 (.st unsplice_Unsplice_read.w) := FnOk.st_of (evF_ok unsplice_Unsplice_read.cok mixed (f := 110) (fn := Try.f110) (by kernel_rfl) unsplice_Unsplice_read.draws) fun args s r h => by
  unfold unsplice_Unsplice_read.w at h; split at h
  · rw [unsplice_Unsplice_read.ok std]; exact h
  · simp at h

/-! ### (*leapfrog/unsplice.Unsplice).free: function 111 -/
def unsplice_Unsplice_free.ctx : Ctx := []
def unsplice_Unsplice_free.t (S : Sig) (a0 a1 a2 : Value) (s : St) : Option (Value × St) :=
  S.bd (nck a0) fun x1 => S.bd (fld 9 x1) fun x2 => S.bd (stv s 1 x2 (Go.Value.int Go.IntKind.i64 8)) fun s3 => S.bd (nck a0) fun x4 => S.bd (fld 10 x4) fun x5 => S.bd (stv s3 1 x5 a1) fun s6 => S.bd (nck a0) fun x7 => S.bd (fld 21 x7) fun x8 => S.bd (stv s6 1 x8 a2) fun s9 => some ((Value.tuple ⟨[]⟩), s9)
def unsplice_Unsplice_free.v (a0 a1 a2 : Value) (s : St) : Option (Value × St) := unsplice_Unsplice_free.t std a0 a1 a2 s
def unsplice_Unsplice_free.w : List Value → St → Option (Value × St)
  | [a0, a1, a2], s => unsplice_Unsplice_free.v a0 a1 a2 s
  | _, _ => none
def unsplice_Unsplice_free.an : An := ⟨17, false, [], [], [], []⟩
theorem unsplice_Unsplice_free.ok (S : Sig) (a0 a1 a2 : Value) (s : St) : evF S Try.prog unsplice_Unsplice_free.ctx unsplice_Unsplice_free.an Try.f111 [a0, a1, a2] s = unsplice_Unsplice_free.t S a0 a1 a2 s := by kernel_rfl
theorem unsplice_Unsplice_free.cok : CtxOk Try.prog unsplice_Unsplice_free.ctx := .nil
theorem unsplice_Unsplice_free.draws : fnDraws unsplice_Unsplice_free.an Try.f111 = true := by kernel_rfl
theorem unsplice_Unsplice_free.can : callOk Try.prog 111 = true := by kernel_rfl
theorem unsplice_Unsplice_free.sound : FnOk Try.prog 111 (.st unsplice_Unsplice_free.w) := FnOk.st_of (evF_ok unsplice_Unsplice_free.cok mixed (f := 111) (fn := Try.f111) (by kernel_rfl) unsplice_Unsplice_free.draws) fun args s r h => by
  unfold unsplice_Unsplice_free.w at h; split at h
  · rw [unsplice_Unsplice_free.ok std]; exact h
  · simp at h

/-! ### (*leapfrog/unsplice.Unsplice).own: function 112 -/
def unsplice_Unsplice_own.ctx : Ctx := [(98, .rd key_Less.w), (111, .st unsplice_Unsplice_free.w)]
def unsplice_Unsplice_own.t (S : Sig) (a0 a1 : Value) (s : St) : Option (Value × St) :=
  S.bd (bx a1) fun c1 => S.bd (lcl c1 0) fun x2 => S.bd (eqb [1] false false x2 (Go.Value.int Go.IntKind.i64 1)) fun x3 => S.cnd x3 (S.bd (lal c1 7 5) fun x4 => S.bd (nck a0) fun x5 => S.bd (fld 16 x5) fun x6 => S.bd (stv s 5 x6 x4) fun s7 => S.bd (nck a0) fun x8 => S.bd (fld 9 x8) fun x9 => S.bd (stv s7 1 x9 (Go.Value.int Go.IntKind.i64 4)) fun s10 => S.bd (nck a0) fun x11 => S.bd (fld 0 x11) fun x12 => S.bd (fld 2 x12) fun x13 => S.bd (fld 1 x13) fun x14 => S.bd (lda s10 2 x14) fun x15 => S.bd (nck a0) fun x16 => S.bd (fld 16 x16) fun x17 => S.bd (fld 1 x17) fun x18 => S.bd (lda s10 2 x18) fun x19 => S.bd (key_Less.r x15 x19 s10) fun x20 => S.bd (un .not x20) fun x21 => S.cnd x21 (S.bd (nck a0) fun x22 => S.bd (fld 9 x22) fun x23 => S.bd (stv s10 1 x23 (Go.Value.int Go.IntKind.i64 7)) fun s24 => some ((Value.tuple ⟨[]⟩), s24)) (some ((Value.tuple ⟨[]⟩), s10))) (S.bd (eqb [1] false false x2 (Go.Value.int Go.IntKind.i64 2)) fun x25 => S.cnd x25 (S.bd (unsplice_Unsplice_free.v a0 (Go.Value.int Go.IntKind.i64 10) (Go.Value.int Go.IntKind.i64 0) s) fun r26 => some ((Value.tuple ⟨[]⟩), r26.2)) (S.bd (eqb [1] false false x2 (Go.Value.int Go.IntKind.i64 3)) fun x27 => S.cnd x27 (S.bd (unsplice_Unsplice_free.v a0 (Go.Value.int Go.IntKind.i64 10) (Go.Value.int Go.IntKind.i64 132) s) fun r28 => some ((Value.tuple ⟨[]⟩), r28.2)) (S.bd (unsplice_Unsplice_free.v a0 (Go.Value.int Go.IntKind.i64 9) (Go.Value.int Go.IntKind.i64 0) s) fun r29 => some ((Value.tuple ⟨[]⟩), r29.2))))
def unsplice_Unsplice_own.v (a0 a1 : Value) (s : St) : Option (Value × St) := unsplice_Unsplice_own.t std a0 a1 s
def unsplice_Unsplice_own.w : List Value → St → Option (Value × St)
  | [a0, a1], s => unsplice_Unsplice_own.v a0 a1 s
  | _, _ => none
def unsplice_Unsplice_own.an : An := ⟨42, false, [3], [], [], [(5, [(0, 0, [], []), (1, 0, [], []), (2, 0, [], []), (3, 0, [], []), (4, 0, [], []), (5, 2, [], []), (6, 0, [], []), (7, 0, [], []), (8, 0, [], []), (9, 0, [], []), (10, 2, [], []), (11, 3, [], []), (12, 0, [], [])])]⟩
theorem unsplice_Unsplice_own.ok (S : Sig) (a0 a1 : Value) (s : St) : evF S Try.prog unsplice_Unsplice_own.ctx unsplice_Unsplice_own.an Try.f112 [a0, a1] s = unsplice_Unsplice_own.t S a0 a1 s := by kernel_rfl
theorem unsplice_Unsplice_own.cok : CtxOk Try.prog unsplice_Unsplice_own.ctx := .cons key_Less.sound key_Less.can <| .cons unsplice_Unsplice_free.sound unsplice_Unsplice_free.can <| .nil
theorem unsplice_Unsplice_own.draws : fnDraws unsplice_Unsplice_own.an Try.f112 = true := by kernel_rfl
theorem unsplice_Unsplice_own.can : callOk Try.prog 112 = true := by kernel_rfl
theorem unsplice_Unsplice_own.sound : FnOk Try.prog 112 (.st unsplice_Unsplice_own.w) := FnOk.st_of (evF_ok unsplice_Unsplice_own.cok mixed (f := 112) (fn := Try.f112) (by kernel_rfl) unsplice_Unsplice_own.draws) fun args s r h => by
  unfold unsplice_Unsplice_own.w at h; split at h
  · rw [unsplice_Unsplice_own.ok std]; exact h
  · simp at h

/-! ### (*leapfrog/unsplice.Unsplice).Tell: function 106 -/
def unsplice_Unsplice_Tell.ctx : Ctx := [(108, .rd unsplice_Unsplice_is.w), (110, .st unsplice_Unsplice_read.w), (111, .st unsplice_Unsplice_free.w), (112, .st unsplice_Unsplice_own.w)]
def unsplice_Unsplice_Tell.t.p1 (S : Sig) (x6 : Value) (c1 : List Value) (a0 : Value) (s : St) : Option (Value × St) :=
  S.bd (eqb [1] false false x6 (Go.Value.int Go.IntKind.i64 4)) fun x29 => S.cnd x29 (S.bd (show Option Cut from S.bd (show Option Cut from S.bd (lcl c1 0) fun x56 => S.bd (eqb [1] false false x56 (Go.Value.int Go.IntKind.i64 1)) fun x57 => S.cnd x57 (some (1, [a0], s)) (S.bd (lcl c1 0) fun x58 => S.bd (eqb [1] false false x58 (Go.Value.int Go.IntKind.i64 3)) fun x59 => S.bd (S.gd x59 true (lal c1 7 5)) fun x60 => S.bd (S.gd x59 true (some a0)) fun x61 => S.bd (S.gd x59 true (nck x61)) fun x62 => S.bd (S.gd x59 true (fld 16 x62)) fun x63 => S.bd (S.gd x59 true (lda s 5 x63)) fun x64 => S.bd (S.gd x59 true (eqb [1, 1, 1, 1, 1] true false x60 x64)) fun x65 => S.bd (pik x59 x65 (Go.Value.bool Bool.false)) fun x66 => S.cnd x66 (some (1, [a0], s)) (some (0, [a0], s)))) fun r67 => if r67.1 = 0 then (some (1, [(r67.2.1.getD 0 undef)], r67.2.2)) else (S.bd (nck (r67.2.1.getD 0 undef)) fun x68 => S.bd (fld 9 x68) fun x69 => S.bd (stv r67.2.2 1 x69 (Go.Value.int Go.IntKind.i64 5)) fun s70 => some (0, [], s70))) fun r71 => if r71.1 = 0 then (some ((Value.tuple ⟨[]⟩), r71.2.2)) else (S.bd (nck (r71.2.1.getD 0 undef)) fun x72 => S.bd (fld 9 x72) fun x73 => S.bd (stv r71.2.2 1 x73 (Go.Value.int Go.IntKind.i64 7)) fun s74 => some ((Value.tuple ⟨[]⟩), s74))) (S.bd (eqb [1] false false x6 (Go.Value.int Go.IntKind.i64 5)) fun x75 => S.cnd x75 (S.bd (nck a0) fun x76 => S.bd (fld 9 x76) fun x77 => S.bd (stv s 1 x77 (Go.Value.int Go.IntKind.i64 6)) fun s78 => some ((Value.tuple ⟨[]⟩), s78)) (S.bd (eqb [1] false false x6 (Go.Value.int Go.IntKind.i64 6)) fun x79 => S.cnd x79 (S.bd (unsplice_Unsplice_free.v a0 (Go.Value.int Go.IntKind.i64 10) (Go.Value.int Go.IntKind.i64 0) s) fun r80 => S.bd (lcl c1 0) fun x81 => S.bd (eqb [1] false false x81 (Go.Value.int Go.IntKind.i64 3)) fun x82 => S.cnd x82 (S.bd (nck a0) fun x83 => S.bd (fld 21 x83) fun x84 => S.bd (stv r80.2 1 x84 (Go.Value.int Go.IntKind.i64 132)) fun s85 => some ((Value.tuple ⟨[]⟩), s85)) (some ((Value.tuple ⟨[]⟩), r80.2))) (S.bd (eqb [1] false false x6 (Go.Value.int Go.IntKind.i64 7)) fun x86 => S.cnd x86 (S.bd (unsplice_Unsplice_free.v a0 (Go.Value.int Go.IntKind.i64 9) (Go.Value.int Go.IntKind.i64 0) s) fun r87 => some ((Value.tuple ⟨[]⟩), r87.2)) (S.bd (eqb [1] false false x6 (Go.Value.int Go.IntKind.i64 8)) fun x88 => S.cnd x88 (S.bd (nck a0) fun x89 => S.bd (fld 10 x89) fun x90 => S.bd (ldc s x90) fun x91 => S.bd (nck a0) fun x92 => S.bd (fld 9 x92) fun x93 => S.bd (stv s 1 x93 x91) fun s94 => some ((Value.tuple ⟨[]⟩), s94)) (some ((Value.tuple ⟨[]⟩), s))))))

def unsplice_Unsplice_Tell.t (S : Sig) (a0 a1 : Value) (s : St) : Option (Value × St) :=
  S.bd (bx a1) fun c1 => S.bd (unsplice_Unsplice_is.r a0 s) fun x2 => S.bd (un .not x2) fun x3 => S.cnd x3 (some ((Value.tuple ⟨[]⟩), s)) (S.bd (nck a0) fun x4 => S.bd (fld 9 x4) fun x5 => S.bd (ldc s x5) fun x6 => S.bd (eqb [1] false false x6 (Go.Value.int Go.IntKind.i64 1)) fun x7 => S.cnd x7 (S.bd (lal c1 0 13) fun x8 => S.bd (unsplice_Unsplice_read.v a0 x8 s) fun r9 => some ((Value.tuple ⟨[]⟩), r9.2)) (S.bd (eqb [1] false false x6 (Go.Value.int Go.IntKind.i64 2)) fun x10 => S.cnd x10 (S.bd (lcl c1 0) fun x11 => S.bd (eqb [1] false true x11 (Go.Value.int Go.IntKind.i64 1)) fun x12 => S.cnd x12 (S.bd (nck a0) fun x13 => S.bd (fld 9 x13) fun x14 => S.bd (stv s 1 x14 (Go.Value.int Go.IntKind.i64 9)) fun s15 => some ((Value.tuple ⟨[]⟩), s15)) (S.bd (lal c1 7 5) fun x16 => S.bd (nck a0) fun x17 => S.bd (fld 0 x17) fun x18 => S.bd (fld 2 x18) fun x19 => S.bd (lda s 5 x19) fun x20 => S.bd (eqb [1, 1, 1, 1, 1] true false x16 x20) fun x21 => S.cnd x21 (S.bd (nck a0) fun x22 => S.bd (fld 9 x22) fun x23 => S.bd (stv s 1 x23 (Go.Value.int Go.IntKind.i64 3)) fun s24 => some ((Value.tuple ⟨[]⟩), s24)) (S.bd (unsplice_Unsplice_free.v a0 (Go.Value.int Go.IntKind.i64 9) (Go.Value.int Go.IntKind.i64 0) s) fun r25 => some ((Value.tuple ⟨[]⟩), r25.2)))) (S.bd (eqb [1] false false x6 (Go.Value.int Go.IntKind.i64 3)) fun x26 => S.cnd x26 (S.bd (lal c1 0 13) fun x27 => S.bd (unsplice_Unsplice_own.v a0 x27 s) fun r28 => some ((Value.tuple ⟨[]⟩), r28.2)) (unsplice_Unsplice_Tell.t.p1 S x6 c1 a0 s))))
def unsplice_Unsplice_Tell.v (a0 a1 : Value) (s : St) : Option (Value × St) := unsplice_Unsplice_Tell.t std a0 a1 s
def unsplice_Unsplice_Tell.w : List Value → St → Option (Value × St)
  | [a0, a1], s => unsplice_Unsplice_Tell.v a0 a1 s
  | _, _ => none
def unsplice_Unsplice_Tell.an : An := ⟨97, false, [3], [], [(16, ⟨[], [(.exit 5, [.v 0]), (.normal, [.v 0])]⟩), (17, ⟨[], [(.exit 2, []), (.normal, [.v 0])]⟩)], [(9, [(0, 0, [], []), (1, 25, [], []), (2, 0, [], []), (3, 0, [], []), (4, 0, [], []), (5, 0, [], []), (6, 2, [], []), (7, 0, [], []), (8, 0, [], [])]), (15, [(0, 0, [], []), (1, 25, [], []), (2, 0, [], []), (3, 0, [], []), (4, 0, [], []), (5, 25, [], []), (6, 0, [], []), (7, 0, [], []), (8, 0, [], []), (9, 2, [], []), (10, 0, [], []), (11, 0, [], []), (12, 0, [], [])])]⟩
theorem unsplice_Unsplice_Tell.ok (S : Sig) (a0 a1 : Value) (s : St) : evF S Try.prog unsplice_Unsplice_Tell.ctx unsplice_Unsplice_Tell.an Try.f106 [a0, a1] s = unsplice_Unsplice_Tell.t S a0 a1 s := by kernel_rfl
theorem unsplice_Unsplice_Tell.cok : CtxOk Try.prog unsplice_Unsplice_Tell.ctx := .cons unsplice_Unsplice_is.sound unsplice_Unsplice_is.can <| .cons unsplice_Unsplice_read.sound unsplice_Unsplice_read.can <| .cons unsplice_Unsplice_free.sound unsplice_Unsplice_free.can <| .cons unsplice_Unsplice_own.sound unsplice_Unsplice_own.can <| .nil
theorem unsplice_Unsplice_Tell.draws : fnDraws unsplice_Unsplice_Tell.an Try.f106 = true := by kernel_rfl
theorem unsplice_Unsplice_Tell.can : callOk Try.prog 106 = true := by kernel_rfl
theorem unsplice_Unsplice_Tell.sound : FnOk Try.prog 106 (.st unsplice_Unsplice_Tell.w) := FnOk.st_of (evF_ok unsplice_Unsplice_Tell.cok mixed (f := 106) (fn := Try.f106) (by kernel_rfl) unsplice_Unsplice_Tell.draws) fun args s r h => by
  unfold unsplice_Unsplice_Tell.w at h; split at h
  · rw [unsplice_Unsplice_Tell.ok std]; exact h
  · simp at h

/-! ### (*leapfrog/unsplice.Unsplice).Wake: function 107 -/
def unsplice_Unsplice_Wake.ctx : Ctx := [(108, .rd unsplice_Unsplice_is.w)]
def unsplice_Unsplice_Wake.t (S : Sig) (a0 : Value) (s : St) : Option (Value × St) :=
  S.bd (unsplice_Unsplice_is.r a0 s) fun x1 => S.bd (S.gd x1 true (some a0)) fun x2 => S.bd (S.gd x1 true (nck x2)) fun x3 => S.bd (S.gd x1 true (fld 9 x3)) fun x4 => S.bd (S.gd x1 true (ldc s x4)) fun x5 => S.bd (S.gd x1 true (eqb [1] false false x5 (Go.Value.int Go.IntKind.i64 9))) fun x6 => S.bd (pik x1 x6 (Go.Value.bool Bool.false)) fun x7 => S.cnd x7 (S.bd (nck a0) fun x8 => S.bd (fld 9 x8) fun x9 => S.bd (stv s 1 x9 (Go.Value.int Go.IntKind.i64 1)) fun s10 => some ((Value.tuple ⟨[]⟩), s10)) (some ((Value.tuple ⟨[]⟩), s))
def unsplice_Unsplice_Wake.v (a0 : Value) (s : St) : Option (Value × St) := unsplice_Unsplice_Wake.t std a0 s
def unsplice_Unsplice_Wake.w : List Value → St → Option (Value × St)
  | [a0], s => unsplice_Unsplice_Wake.v a0 s
  | _, _ => none
def unsplice_Unsplice_Wake.an : An := ⟨14, false, [], [], [], []⟩
theorem unsplice_Unsplice_Wake.ok (S : Sig) (a0 : Value) (s : St) : evF S Try.prog unsplice_Unsplice_Wake.ctx unsplice_Unsplice_Wake.an Try.f107 [a0] s = unsplice_Unsplice_Wake.t S a0 s := by kernel_rfl
theorem unsplice_Unsplice_Wake.cok : CtxOk Try.prog unsplice_Unsplice_Wake.ctx := .cons unsplice_Unsplice_is.sound unsplice_Unsplice_is.can <| .nil
theorem unsplice_Unsplice_Wake.draws : fnDraws unsplice_Unsplice_Wake.an Try.f107 = true := by kernel_rfl
theorem unsplice_Unsplice_Wake.can : callOk Try.prog 107 = true := by kernel_rfl
theorem unsplice_Unsplice_Wake.sound : FnOk Try.prog 107 (.st unsplice_Unsplice_Wake.w) := FnOk.st_of (evF_ok unsplice_Unsplice_Wake.cok mixed (f := 107) (fn := Try.f107) (by kernel_rfl) unsplice_Unsplice_Wake.draws) fun args s r h => by
  unfold unsplice_Unsplice_Wake.w at h; split at h
  · rw [unsplice_Unsplice_Wake.ok std]; exact h
  · simp at h

/-! ### (*leapfrog/remove.Remove).is: function 27 -/
def remove_Remove_is.ctx : Ctx := []
def remove_Remove_is.t (S : Sig) (a0 : Value) (s : St) : Option Value :=
  S.bd (eqb [3] false true a0 (Go.Value.pointer Option.none)) fun x1 => S.bd (S.gd x1 true (some a0)) fun x2 => S.bd (S.gd x1 true (nck x2)) fun x3 => S.bd (S.gd x1 true (fld 19 x3)) fun x4 => S.bd (S.gd x1 true (ldc s x4)) fun x5 => S.bd (pik x1 x5 (Go.Value.bool Bool.false)) fun x6 => some (x6)
def remove_Remove_is.r (a0 : Value) (s : St) : Option Value := remove_Remove_is.t std a0 s
def remove_Remove_is.w : List Value → St → Option Value
  | [a0], s => remove_Remove_is.r a0 s
  | _, _ => none
def remove_Remove_is.an : An := ⟨11, true, [], [], [], []⟩
theorem remove_Remove_is.ok (S : Sig) (a0 : Value) (s : St) : evG S Try.prog remove_Remove_is.ctx remove_Remove_is.an Try.f27 [a0] s = remove_Remove_is.t S a0 s := by kernel_rfl
theorem remove_Remove_is.cok : CtxOk Try.prog remove_Remove_is.ctx := .nil
theorem remove_Remove_is.draws : fnDraws remove_Remove_is.an Try.f27 = true := by kernel_rfl
theorem remove_Remove_is.can : callOk Try.prog 27 = true := by kernel_rfl
theorem remove_Remove_is.sound : FnOk Try.prog 27 (.rd remove_Remove_is.w) := FnOk.rd_of (evG_ok remove_Remove_is.cok mixed (f := 27) (fn := Try.f27) (by kernel_rfl) remove_Remove_is.draws) fun args s r h => by
  unfold remove_Remove_is.w at h; split at h
  · rw [remove_Remove_is.ok std]; exact h
  · simp at h

/-! ### (*leapfrog/remove.Remove).Next: function 10 -/
def remove_Remove_Next.ctx : Ctx := [(27, .rd remove_Remove_is.w), (11, .rd leapfrogref16x_Remove_Next.w), (29, .rd leapfrogref12x_Seek_Next.w), (28, .rd leapfrogref14x_Unsplice_Next.w), (88, .rd seek_Seek_Next.w), (105, .rd unsplice_Unsplice_Next.w)]
def remove_Remove_Next.t.p1 (S : Sig) (a0 : Value) (s : St) (c1 : List Value) : Option (Value × St) :=
  S.bd (nck a0) fun x10 => S.bd (fld 18 x10) fun x11 => S.bd (ldc s x11) fun x12 => S.bd (bld [(Go.Value.int Go.IntKind.i64 0), (Go.Value.int Go.IntKind.u64 0), (Go.Value.slice Option.none 0 0), (Go.Value.slice Option.none 0 0), (Go.Value.int Go.IntKind.i64 0), (Go.Value.int Go.IntKind.i64 0), (Go.Value.int Go.IntKind.u64 0), (Go.Value.int Go.IntKind.i64 0), (Go.Value.int Go.IntKind.u64 0), (Go.Value.int Go.IntKind.i64 0), (Go.Value.int Go.IntKind.i64 0), (Go.Value.int Go.IntKind.u64 0), (Go.Value.int Go.IntKind.i64 0), (Go.Value.int Go.IntKind.u64 0), (Go.Value.bool Bool.false)] [(0, 1, x12)]) fun x13 => S.bd (bld [(Go.Value.int Go.IntKind.i64 0), (Go.Value.int Go.IntKind.i64 0), (Go.Value.int Go.IntKind.i64 0), (Go.Value.int Go.IntKind.u64 0), (Go.Value.int Go.IntKind.i64 0), (Go.Value.int Go.IntKind.u64 0), (Go.Value.int Go.IntKind.i64 0), (Go.Value.int Go.IntKind.i64 0), (Go.Value.int Go.IntKind.u64 0), (Go.Value.int Go.IntKind.i64 0), (Go.Value.int Go.IntKind.i64 0), (Go.Value.int Go.IntKind.u64 0), (Go.Value.int Go.IntKind.i64 0), (Go.Value.int Go.IntKind.u64 0), (Go.Value.int Go.IntKind.i64 0), (Go.Value.int Go.IntKind.i64 0), (Go.Value.int Go.IntKind.u64 0), (Go.Value.int Go.IntKind.i64 0), (Go.Value.int Go.IntKind.u64 0), (Go.Value.int Go.IntKind.i64 0), (Go.Value.int Go.IntKind.i64 0), (Go.Value.int Go.IntKind.i64 0), (Go.Value.int Go.IntKind.u64 0), (Go.Value.slice Option.none 0 0), (Go.Value.slice Option.none 0 0), (Go.Value.int Go.IntKind.i64 0), (Go.Value.int Go.IntKind.i64 0), (Go.Value.int Go.IntKind.u64 0), (Go.Value.int Go.IntKind.i64 0), (Go.Value.int Go.IntKind.u64 0), (Go.Value.int Go.IntKind.i64 0), (Go.Value.int Go.IntKind.i64 0), (Go.Value.int Go.IntKind.u64 0), (Go.Value.int Go.IntKind.i64 0), (Go.Value.int Go.IntKind.u64 0), (Go.Value.bool Bool.false)] [(0, 1, (Go.Value.int Go.IntKind.i64 3)), (21, 15, x13)]) fun x14 => S.bd (stl c1 0 36 x14) fun c15 => S.bd (lal c15 0 36) fun x16 => some (x16, s)

def remove_Remove_Next.t.p2 (S : Sig) (a0 : Value) (s : St) (c1 : List Value) : Option (Value × St) :=
  S.bd (nck a0) fun x27 => S.bd (fld 10 x27) fun x28 => S.bd (lda s 5 x28) fun x29 => S.bd (bld [(Go.Value.int Go.IntKind.i64 0), (Go.Value.int Go.IntKind.i64 0), (Go.Value.int Go.IntKind.u64 0), (Go.Value.int Go.IntKind.i64 0), (Go.Value.int Go.IntKind.i64 0), (Go.Value.int Go.IntKind.u64 0), (Go.Value.int Go.IntKind.i64 0), (Go.Value.int Go.IntKind.u64 0), (Go.Value.int Go.IntKind.i64 0), (Go.Value.int Go.IntKind.i64 0), (Go.Value.int Go.IntKind.u64 0), (Go.Value.int Go.IntKind.i64 0), (Go.Value.int Go.IntKind.u64 0), (Go.Value.int Go.IntKind.i64 0), (Go.Value.int Go.IntKind.i64 0)] [(0, 1, (Go.Value.int Go.IntKind.i64 9))]) fun x30 => S.bd (bld [(Go.Value.int Go.IntKind.i64 0), (Go.Value.int Go.IntKind.i64 0), (Go.Value.int Go.IntKind.i64 0), (Go.Value.int Go.IntKind.u64 0), (Go.Value.int Go.IntKind.i64 0), (Go.Value.int Go.IntKind.u64 0), (Go.Value.int Go.IntKind.i64 0), (Go.Value.int Go.IntKind.i64 0), (Go.Value.int Go.IntKind.u64 0), (Go.Value.int Go.IntKind.i64 0), (Go.Value.int Go.IntKind.i64 0), (Go.Value.int Go.IntKind.u64 0), (Go.Value.int Go.IntKind.i64 0), (Go.Value.int Go.IntKind.u64 0), (Go.Value.int Go.IntKind.i64 0), (Go.Value.int Go.IntKind.i64 0), (Go.Value.int Go.IntKind.u64 0), (Go.Value.int Go.IntKind.i64 0), (Go.Value.int Go.IntKind.u64 0), (Go.Value.int Go.IntKind.i64 0), (Go.Value.int Go.IntKind.i64 0), (Go.Value.int Go.IntKind.i64 0), (Go.Value.int Go.IntKind.u64 0), (Go.Value.slice Option.none 0 0), (Go.Value.slice Option.none 0 0), (Go.Value.int Go.IntKind.i64 0), (Go.Value.int Go.IntKind.i64 0), (Go.Value.int Go.IntKind.u64 0), (Go.Value.int Go.IntKind.i64 0), (Go.Value.int Go.IntKind.u64 0), (Go.Value.int Go.IntKind.i64 0), (Go.Value.int Go.IntKind.i64 0), (Go.Value.int Go.IntKind.u64 0), (Go.Value.int Go.IntKind.i64 0), (Go.Value.int Go.IntKind.u64 0), (Go.Value.bool Bool.false)] [(0, 1, (Go.Value.int Go.IntKind.i64 1)), (1, 5, x29), (6, 15, x30)]) fun x31 => S.bd (stl c1 0 36 x31) fun c32 => S.bd (lal c32 0 36) fun x33 => some (x33, s)

def remove_Remove_Next.t (S : Sig) (a0 : Value) (s : St) : Option (Value × St) :=
  S.bd (bx (Go.Value.agg #[(Go.Value.int Go.IntKind.i64 0), (Go.Value.int Go.IntKind.i64 0), (Go.Value.int Go.IntKind.i64 0), (Go.Value.int Go.IntKind.u64 0), (Go.Value.int Go.IntKind.i64 0), (Go.Value.int Go.IntKind.u64 0), (Go.Value.int Go.IntKind.i64 0), (Go.Value.int Go.IntKind.i64 0), (Go.Value.int Go.IntKind.u64 0), (Go.Value.int Go.IntKind.i64 0), (Go.Value.int Go.IntKind.i64 0), (Go.Value.int Go.IntKind.u64 0), (Go.Value.int Go.IntKind.i64 0), (Go.Value.int Go.IntKind.u64 0), (Go.Value.int Go.IntKind.i64 0), (Go.Value.int Go.IntKind.i64 0), (Go.Value.int Go.IntKind.u64 0), (Go.Value.int Go.IntKind.i64 0), (Go.Value.int Go.IntKind.u64 0), (Go.Value.int Go.IntKind.i64 0), (Go.Value.int Go.IntKind.i64 0), (Go.Value.int Go.IntKind.i64 0), (Go.Value.int Go.IntKind.u64 0), (Go.Value.slice Option.none 0 0), (Go.Value.slice Option.none 0 0), (Go.Value.int Go.IntKind.i64 0), (Go.Value.int Go.IntKind.i64 0), (Go.Value.int Go.IntKind.u64 0), (Go.Value.int Go.IntKind.i64 0), (Go.Value.int Go.IntKind.u64 0), (Go.Value.int Go.IntKind.i64 0), (Go.Value.int Go.IntKind.i64 0), (Go.Value.int Go.IntKind.u64 0), (Go.Value.int Go.IntKind.i64 0), (Go.Value.int Go.IntKind.u64 0), (Go.Value.bool Bool.false)])) fun c1 => S.bd (remove_Remove_is.r a0 s) fun x2 => S.bd (un .not x2) fun x3 => S.cnd x3 (S.bd (bld [(Go.Value.int Go.IntKind.i64 0), (Go.Value.int Go.IntKind.i64 0), (Go.Value.int Go.IntKind.i64 0), (Go.Value.int Go.IntKind.u64 0), (Go.Value.int Go.IntKind.i64 0), (Go.Value.int Go.IntKind.u64 0), (Go.Value.int Go.IntKind.i64 0), (Go.Value.int Go.IntKind.i64 0), (Go.Value.int Go.IntKind.u64 0), (Go.Value.int Go.IntKind.i64 0), (Go.Value.int Go.IntKind.i64 0), (Go.Value.int Go.IntKind.u64 0), (Go.Value.int Go.IntKind.i64 0), (Go.Value.int Go.IntKind.u64 0), (Go.Value.int Go.IntKind.i64 0), (Go.Value.int Go.IntKind.i64 0), (Go.Value.int Go.IntKind.u64 0), (Go.Value.int Go.IntKind.i64 0), (Go.Value.int Go.IntKind.u64 0), (Go.Value.int Go.IntKind.i64 0), (Go.Value.int Go.IntKind.i64 0), (Go.Value.int Go.IntKind.i64 0), (Go.Value.int Go.IntKind.u64 0), (Go.Value.slice Option.none 0 0), (Go.Value.slice Option.none 0 0), (Go.Value.int Go.IntKind.i64 0), (Go.Value.int Go.IntKind.i64 0), (Go.Value.int Go.IntKind.u64 0), (Go.Value.int Go.IntKind.i64 0), (Go.Value.int Go.IntKind.u64 0), (Go.Value.int Go.IntKind.i64 0), (Go.Value.int Go.IntKind.i64 0), (Go.Value.int Go.IntKind.u64 0), (Go.Value.int Go.IntKind.i64 0), (Go.Value.int Go.IntKind.u64 0), (Go.Value.bool Bool.false)] []) fun x4 => S.bd (stl c1 0 36 x4) fun c5 => S.bd (lal c5 0 36) fun x6 => some (x6, s)) (S.bd (nck a0) fun x7 => S.bd (fld 17 x7) fun x8 => S.bd (ldc s x8) fun x9 => S.cnd x9 (remove_Remove_Next.t.p1 S a0 s c1) (S.bd (nck a0) fun x17 => S.bd (fld 9 x17) fun x18 => S.bd (ldc s x18) fun x19 => S.bd (eqI true x19 Go.Value.nilIface) fun x20 => S.cnd x20 (S.bd (nck a0) fun x21 => S.bd (fld 9 x21) fun x22 => S.bd (ldc s x22) fun x23 => S.bd (callI Try.prog (remove_Remove_Next.ctx) "Next" x23 [] s) fun r24 => S.bd (stl c1 0 36 r24.1) fun c25 => S.bd (lal c25 0 36) fun x26 => some (x26, r24.2)) (remove_Remove_Next.t.p2 S a0 s c1)))
def remove_Remove_Next.v (a0 : Value) (s : St) : Option (Value × St) := remove_Remove_Next.t std a0 s
def remove_Remove_Next.w : List Value → St → Option (Value × St)
  | [a0], s => remove_Remove_Next.v a0 s
  | _, _ => none
def remove_Remove_Next.an : An := ⟨36, false, [2], [], [], []⟩
theorem remove_Remove_Next.ok (S : Sig) (a0 : Value) (s : St) : evF S Try.prog remove_Remove_Next.ctx remove_Remove_Next.an Try.f10 [a0] s = remove_Remove_Next.t S a0 s := by kernel_rfl
theorem remove_Remove_Next.cok : CtxOk Try.prog remove_Remove_Next.ctx := .cons remove_Remove_is.sound remove_Remove_is.can <| .cons leapfrogref16x_Remove_Next.sound leapfrogref16x_Remove_Next.can <| .cons leapfrogref12x_Seek_Next.sound leapfrogref12x_Seek_Next.can <| .cons leapfrogref14x_Unsplice_Next.sound leapfrogref14x_Unsplice_Next.can <| .cons seek_Seek_Next.sound seek_Seek_Next.can <| .cons unsplice_Unsplice_Next.sound unsplice_Unsplice_Next.can <| .nil
theorem remove_Remove_Next.draws : fnDraws remove_Remove_Next.an Try.f10 = true := by kernel_rfl
theorem remove_Remove_Next.can : callOk Try.prog 10 = true := by kernel_rfl
theorem remove_Remove_Next.sound : FnOk Try.prog 10 (.st remove_Remove_Next.w) := FnOk.st_of (evF_ok remove_Remove_Next.cok mixed (f := 10) (fn := Try.f10) (by kernel_rfl) remove_Remove_Next.draws) fun args s r h => by
  unfold remove_Remove_Next.w at h; split at h
  · rw [remove_Remove_Next.ok std]; exact h
  · simp at h

/-! ### (*leapfrog/remove.Remove).ends: function 32 -/
def remove_Remove_ends.ctx : Ctx := []
def remove_Remove_ends.t (S : Sig) (a0 a1 : Value) (s : St) : Option (Value × St) :=
  S.bd (nck a0) fun x1 => S.bd (fld 17 x1) fun x2 => S.bd (stv s 1 x2 (Go.Value.bool Bool.true)) fun s3 => S.bd (nck a0) fun x4 => S.bd (fld 18 x4) fun x5 => S.bd (stv s3 1 x5 a1) fun s6 => some ((Value.tuple ⟨[]⟩), s6)
def remove_Remove_ends.v (a0 a1 : Value) (s : St) : Option (Value × St) := remove_Remove_ends.t std a0 a1 s
def remove_Remove_ends.w : List Value → St → Option (Value × St)
  | [a0, a1], s => remove_Remove_ends.v a0 a1 s
  | _, _ => none
def remove_Remove_ends.an : An := ⟨11, false, [], [], [], []⟩
theorem remove_Remove_ends.ok (S : Sig) (a0 a1 : Value) (s : St) : evF S Try.prog remove_Remove_ends.ctx remove_Remove_ends.an Try.f32 [a0, a1] s = remove_Remove_ends.t S a0 a1 s := by kernel_rfl
theorem remove_Remove_ends.cok : CtxOk Try.prog remove_Remove_ends.ctx := .nil
theorem remove_Remove_ends.draws : fnDraws remove_Remove_ends.an Try.f32 = true := by kernel_rfl
theorem remove_Remove_ends.can : callOk Try.prog 32 = true := by kernel_rfl
theorem remove_Remove_ends.sound : FnOk Try.prog 32 (.st remove_Remove_ends.w) := FnOk.st_of (evF_ok remove_Remove_ends.cok mixed (f := 32) (fn := Try.f32) (by kernel_rfl) remove_Remove_ends.draws) fun args s r h => by
  unfold remove_Remove_ends.w at h; split at h
  · rw [remove_Remove_ends.ok std]; exact h
  · simp at h

/-! ### leapfrog/vec.Begins: function 61 -/
def vec_Begins.ctx : Ctx := [(57, .rd vec_Right.w), (60, .rd vec_prefix.w)]
def vec_Begins.t (S : Sig) (a0 a1 : Value) (s : St) : Option Value :=
  S.bd (bx a0) fun c1 => S.bd (bx a1) fun c2 => S.bd (lal c1 0 2) fun x3 => S.bd (vec_Right.r x3 s) fun x4 => S.bd (eqb [1] false false x4 (Go.Value.int Go.IntKind.i64 0)) fun x5 => S.bd (S.gd x5 true (lal c2 0 2)) fun x6 => S.bd (S.gd x5 true (vec_Right.r x6 s)) fun x7 => S.bd (S.gd x5 true (eqb [1] false false x7 (Go.Value.int Go.IntKind.i64 0))) fun x8 => S.bd (pik x5 x8 (Go.Value.bool Bool.false)) fun x9 => S.bd (S.gd x9 true (lcl c2 0)) fun x10 => S.bd (S.gd x9 true (lcl c1 0)) fun x11 => S.bd (S.gd x9 true (bin .leq x10 x11)) fun x12 => S.bd (pik x9 x12 (Go.Value.bool Bool.false)) fun x13 => S.bd (S.gd x13 true (lal c1 0 2)) fun x14 => S.bd (S.gd x13 true (lcl c2 0)) fun x15 => S.bd (S.gd x13 true (lal c2 0 2)) fun x16 => S.bd (S.gd x13 true (vec_prefix.r x14 x15 s)) fun x17 => S.bd (S.gd x13 true (eqb [1, 1] true false x17 x16)) fun x18 => S.bd (pik x13 x18 (Go.Value.bool Bool.false)) fun x19 => some (x19)
def vec_Begins.r (a0 a1 : Value) (s : St) : Option Value := vec_Begins.t std a0 a1 s
def vec_Begins.w : List Value → St → Option Value
  | [a0, a1], s => vec_Begins.r a0 a1 s
  | _, _ => none
def vec_Begins.an : An := ⟨28, true, [2, 3], [], [], [(1, [(0, 17, [], []), (1, 3, [], []), (2, 0, [], []), (3, 0, [], []), (4, 25, [], []), (5, 3, [], []), (6, 0, [], []), (7, 0, [], []), (8, 0, [], []), (9, 0, [], []), (10, 25, [], []), (11, 0, [], []), (12, 17, [], []), (13, 0, [], []), (14, 0, [], []), (15, 0, [], []), (16, 17, [], []), (17, 0, [], []), (18, 25, [], []), (20, 25, [], []), (19, 3, [], []), (21, 0, [], []), (22, 0, [], []), (23, 0, [], [])])]⟩
theorem vec_Begins.ok (S : Sig) (a0 a1 : Value) (s : St) : evG S Try.prog vec_Begins.ctx vec_Begins.an Try.f61 [a0, a1] s = vec_Begins.t S a0 a1 s := by kernel_rfl
theorem vec_Begins.cok : CtxOk Try.prog vec_Begins.ctx := .cons vec_Right.sound vec_Right.can <| .cons vec_prefix.sound vec_prefix.can <| .nil
theorem vec_Begins.draws : fnDraws vec_Begins.an Try.f61 = true := by kernel_rfl
theorem vec_Begins.can : callOk Try.prog 61 = true := by kernel_rfl
theorem vec_Begins.sound : FnOk Try.prog 61 (.rd vec_Begins.w) := FnOk.rd_of (evG_ok vec_Begins.cok mixed (f := 61) (fn := Try.f61) (by kernel_rfl) vec_Begins.draws) fun args s r h => by
  unfold vec_Begins.w at h; split at h
  · rw [vec_Begins.ok std]; exact h
  · simp at h

/-! ### leapfrog/lock.Check: function 23 -/
def lock_Check.ctx : Ctx := []
def lock_Check.t (S : Sig) (a0 : Value) (s : St) : Option Value :=
  S.bd (bx a0) fun c1 => S.bd (lcl c1 0) fun x2 => S.bd (bin .lss x2 (Go.Value.int Go.IntKind.i64 0)) fun x3 => S.bd (S.gd x3 false (lcl c1 0)) fun x4 => S.bd (S.gd x3 false (bin .geq x4 (Go.Value.int Go.IntKind.i64 1024))) fun x5 => S.bd (pik x3 (Go.Value.bool Bool.true) x5) fun x6 => S.bd (S.gd x6 false (lcl c1 1)) fun x7 => S.bd (S.gd x6 false (bin .lss x7 (Go.Value.int Go.IntKind.i64 1))) fun x8 => S.bd (pik x6 (Go.Value.bool Bool.true) x8) fun x9 => S.bd (S.gd x9 false (lcl c1 1)) fun x10 => S.bd (S.gd x9 false (bin .gtr x10 (Go.Value.int Go.IntKind.i64 1073741824))) fun x11 => S.bd (pik x9 (Go.Value.bool Bool.true) x11) fun x12 => S.cnd x12 (some ((Go.Value.int Go.IntKind.i64 70))) (some ((Go.Value.int Go.IntKind.i64 0)))
def lock_Check.r (a0 : Value) (s : St) : Option Value := lock_Check.t std a0 s
def lock_Check.w : List Value → St → Option Value
  | [a0], s => lock_Check.r a0 s
  | _, _ => none
def lock_Check.an : An := ⟨21, true, [1], [], [], []⟩
theorem lock_Check.ok (S : Sig) (a0 : Value) (s : St) : evG S Try.prog lock_Check.ctx lock_Check.an Try.f23 [a0] s = lock_Check.t S a0 s := by kernel_rfl
theorem lock_Check.cok : CtxOk Try.prog lock_Check.ctx := .nil
theorem lock_Check.draws : fnDraws lock_Check.an Try.f23 = true := by kernel_rfl
theorem lock_Check.can : callOk Try.prog 23 = true := by kernel_rfl
theorem lock_Check.sound : FnOk Try.prog 23 (.rd lock_Check.w) := FnOk.rd_of (evG_ok lock_Check.cok mixed (f := 23) (fn := Try.f23) (by kernel_rfl) lock_Check.draws) fun args s r h => by
  unfold lock_Check.w at h; split at h
  · rw [lock_Check.ok std]; exact h
  · simp at h

/-! ### leapfrog/unsplice.New: function 46 -/
def unsplice_New.ctx : Ctx := [(57, .rd vec_Right.w), (61, .rd vec_Begins.w), (23, .rd lock_Check.w)]
def unsplice_New.t (S : Sig) (a0 : Value) (s : St) : Option (Value × St) :=
  S.bd (bx a0) fun c1 => S.bd (lcl c1 3) fun x2 => S.bd (eqb [1] false true x2 (Go.Value.int Go.IntKind.i64 2)) fun x3 => S.bd (S.gd x3 false (lal c1 5 2)) fun x4 => S.bd (S.gd x3 false (vec_Right.r x4 s)) fun x5 => S.bd (S.gd x3 false (eqb [1] false true x5 (Go.Value.int Go.IntKind.i64 0))) fun x6 => S.bd (pik x3 (Go.Value.bool Bool.true) x6) fun x7 => S.bd (S.gd x7 false (lal c1 5 2)) fun x8 => S.bd (S.gd x7 false (lal c1 0 2)) fun x9 => S.bd (S.gd x7 false (vec_Begins.r x8 x9 s)) fun x10 => S.bd (S.gd x7 false (un .not x10)) fun x11 => S.bd (pik x7 (Go.Value.bool Bool.true) x11) fun x12 => S.bd (S.gd x12 false (lal c1 7 2)) fun x13 => S.bd (S.gd x12 false (lock_Check.r x13 s)) fun x14 => S.bd (S.gd x12 false (eqb [1] false true x14 (Go.Value.int Go.IntKind.i64 0))) fun x15 => S.bd (pik x12 (Go.Value.bool Bool.true) x15) fun x16 => S.cnd x16 (some ((Value.tuple ⟨[(Go.Value.pointer Option.none), (Go.Value.int Go.IntKind.i64 140)]⟩), s)) (S.bd (lal c1 0 9) fun x17 => S.bd (bld [(Go.Value.int Go.IntKind.i64 0), (Go.Value.int Go.IntKind.u64 0), (Go.Value.int Go.IntKind.i64 0), (Go.Value.int Go.IntKind.i64 0), (Go.Value.int Go.IntKind.u64 0), (Go.Value.int Go.IntKind.i64 0), (Go.Value.int Go.IntKind.u64 0), (Go.Value.int Go.IntKind.i64 0), (Go.Value.int Go.IntKind.i64 0), (Go.Value.int Go.IntKind.i64 0), (Go.Value.int Go.IntKind.i64 0), (Go.Value.int Go.IntKind.i64 0), (Go.Value.int Go.IntKind.i64 0), (Go.Value.int Go.IntKind.u64 0), (Go.Value.int Go.IntKind.i64 0), (Go.Value.int Go.IntKind.u64 0), (Go.Value.int Go.IntKind.i64 0), (Go.Value.int Go.IntKind.i64 0), (Go.Value.int Go.IntKind.u64 0), (Go.Value.int Go.IntKind.i64 0), (Go.Value.int Go.IntKind.u64 0), (Go.Value.int Go.IntKind.i64 0)] [(0, 9, x17), (9, 1, (Go.Value.int Go.IntKind.i64 1))]) fun x18 => S.bd (alv s x18) fun r19 => some ((Value.tuple ⟨[r19.1, (Go.Value.int Go.IntKind.i64 0)]⟩), r19.2))
def unsplice_New.v (a0 : Value) (s : St) : Option (Value × St) := unsplice_New.t std a0 s
def unsplice_New.w : List Value → St → Option (Value × St)
  | [a0], s => unsplice_New.v a0 s
  | _, _ => none
def unsplice_New.an : An := ⟨34, false, [1], [], [], []⟩
theorem unsplice_New.ok (S : Sig) (a0 : Value) (s : St) : evF S Try.prog unsplice_New.ctx unsplice_New.an Try.f46 [a0] s = unsplice_New.t S a0 s := by kernel_rfl
theorem unsplice_New.cok : CtxOk Try.prog unsplice_New.ctx := .cons vec_Right.sound vec_Right.can <| .cons vec_Begins.sound vec_Begins.can <| .cons lock_Check.sound lock_Check.can <| .nil
theorem unsplice_New.draws : fnDraws unsplice_New.an Try.f46 = true := by kernel_rfl
theorem unsplice_New.can : callOk Try.prog 46 = true := by kernel_rfl
theorem unsplice_New.sound : FnOk Try.prog 46 (.st unsplice_New.w) := FnOk.st_of (evF_ok unsplice_New.cok mixed (f := 46) (fn := Try.f46) (by kernel_rfl) unsplice_New.draws) fun args s r h => by
  unfold unsplice_New.w at h; split at h
  · rw [unsplice_New.ok std]; exact h
  · simp at h


end
end Go.Proofs.Ytdppefkjoeefnaa
