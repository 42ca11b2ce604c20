/-
  What the functions answer that InsertRuns, InsertFrees, InsertEnds reaches (part 1): for each function of the program a plain function over abstract values, and that the model answers as it does.
-/
import Derived.Test.YteafgjpbfhjbjaaGreatGW0
set_option linter.unusedVariables false
set_option maxRecDepth 100000
namespace Go.Proofs.YteafgjpbfhjbjaaGreat
open Go.Sim
noncomputable section
def pS_Next.ctx : Ctx := [(169, .rd pS_ask.w)]
def pS_Next.t.p1 (S : Sig) (x8 : Value) (a0 : Value) (s : St) (c1 : List Value) : Option Value :=
  S.bd (eqb [1] false false x8 (.int .i64 10)) fun x118 => S.cnd x118 (S.bd (nck a0) fun x119 => S.bd (fld 29 x119) fun x120 => S.bd (lda s 15 x120) fun x121 => S.bd (bld [(.int .i64 0), (.int .i64 0), (.int .i64 0), (.int .u64 0), (.int .i64 0), (.int .u64 0), (.int .i64 0), (.int .i64 0), (.int .u64 0), (.int .i64 0), (.int .i64 0), (.int .u64 0), (.int .i64 0), (.int .u64 0), (.int .i64 0), (.int .i64 0), (.int .u64 0), (.int .i64 0), (.int .u64 0), (.int .i64 0), (.int .i64 0), (.int .i64 0), (.int .u64 0), (.slice none 0 0), (.slice none 0 0), (.int .i64 0), (.int .i64 0), (.int .u64 0), (.int .i64 0), (.int .u64 0), (.int .i64 0), (.int .i64 0), (.int .u64 0), (.int .i64 0), (.int .u64 0), (.bool Bool.false)] [(0, 1, (.int .i64 3)), (21, 15, x121)]) fun x122 => S.bd (stl c1 0 36 x122) fun c123 => S.bd (lal c123 0 36) fun x124 => some (x124)) (S.bd (bld [(.int .i64 0), (.int .i64 0), (.int .i64 0), (.int .u64 0), (.int .i64 0), (.int .u64 0), (.int .i64 0), (.int .i64 0), (.int .u64 0), (.int .i64 0), (.int .i64 0), (.int .u64 0), (.int .i64 0), (.int .u64 0), (.int .i64 0), (.int .i64 0), (.int .u64 0), (.int .i64 0), (.int .u64 0), (.int .i64 0), (.int .i64 0), (.int .i64 0), (.int .u64 0), (.slice none 0 0), (.slice none 0 0), (.int .i64 0), (.int .i64 0), (.int .u64 0), (.int .i64 0), (.int .u64 0), (.int .i64 0), (.int .i64 0), (.int .u64 0), (.int .i64 0), (.int .u64 0), (.bool Bool.false)] []) fun x125 => S.bd (stl c1 0 36 x125) fun c126 => S.bd (lal c126 0 36) fun x127 => some (x127))
def pS_Next.t.p2 (S : Sig) (x8 : Value) (a0 : Value) (s : St) (c1 : List Value) : Option Value :=
  S.bd (eqb [1] false false x8 (.int .i64 8)) fun x102 => S.cnd x102 (S.bd (nck a0) fun x103 => S.bd (fld 15 x103) fun x104 => S.bd (lda s 5 x104) fun x105 => S.bd (nck a0) fun x106 => S.bd (fld 0 x106) fun x107 => S.bd (fld 12 x107) fun x108 => S.bd (lda s 2 x108) fun x109 => S.bd (bld [(.int .i64 0), (.int .i64 0), (.int .u64 0), (.int .i64 0), (.int .i64 0), (.int .u64 0), (.int .i64 0), (.int .u64 0), (.int .i64 0), (.int .i64 0), (.int .u64 0), (.int .i64 0), (.int .u64 0), (.int .i64 0), (.int .i64 0)] [(0, 1, (.int .i64 4)), (13, 2, x109)]) fun x110 => S.bd (pS_ask.r a0 x105 x110 s) fun x111 => S.bd (stl c1 0 36 x111) fun c112 => S.bd (lal c112 0 36) fun x113 => some (x113)) (S.bd (eqb [1] false false x8 (.int .i64 9)) fun x114 => S.cnd x114 (S.bd (bld [(.int .i64 0), (.int .i64 0), (.int .i64 0), (.int .u64 0), (.int .i64 0), (.int .u64 0), (.int .i64 0), (.int .i64 0), (.int .u64 0), (.int .i64 0), (.int .i64 0), (.int .u64 0), (.int .i64 0), (.int .u64 0), (.int .i64 0), (.int .i64 0), (.int .u64 0), (.int .i64 0), (.int .u64 0), (.int .i64 0), (.int .i64 0), (.int .i64 0), (.int .u64 0), (.slice none 0 0), (.slice none 0 0), (.int .i64 0), (.int .i64 0), (.int .u64 0), (.int .i64 0), (.int .u64 0), (.int .i64 0), (.int .i64 0), (.int .u64 0), (.int .i64 0), (.int .u64 0), (.bool Bool.false)] [(0, 1, (.int .i64 2))]) fun x115 => S.bd (stl c1 0 36 x115) fun c116 => S.bd (lal c116 0 36) fun x117 => some (x117)) (pS_Next.t.p1 S x8 a0 s c1))
def pS_Next.t.p3 (S : Sig) (x8 : Value) (a0 : Value) (s : St) (c1 : List Value) : Option Value :=
  S.bd (eqb [1] false false x8 (.int .i64 6)) fun x76 => S.cnd x76 (S.bd (nck a0) fun x77 => S.bd (fld 0 x77) fun x78 => S.bd (fld 2 x78) fun x79 => S.bd (lda s 5 x79) fun x80 => S.bd (nck a0) fun x81 => S.bd (fld 0 x81) fun x82 => S.bd (fld 12 x82) fun x83 => S.bd (lda s 2 x83) fun x84 => S.bd (bld [(.int .i64 0), (.int .i64 0), (.int .u64 0), (.int .i64 0), (.int .i64 0), (.int .u64 0), (.int .i64 0), (.int .u64 0), (.int .i64 0), (.int .i64 0), (.int .u64 0), (.int .i64 0), (.int .u64 0), (.int .i64 0), (.int .i64 0)] [(0, 1, (.int .i64 4)), (13, 2, x84)]) fun x85 => S.bd (pS_ask.r a0 x80 x85 s) fun x86 => S.bd (stl c1 0 36 x86) fun c87 => S.bd (lal c87 0 36) fun x88 => some (x88)) (S.bd (eqb [1] false false x8 (.int .i64 7)) fun x89 => S.cnd x89 (S.bd (nck a0) fun x90 => S.bd (fld 0 x90) fun x91 => S.bd (fld 2 x91) fun x92 => S.bd (lda s 5 x92) fun x93 => S.bd (nck a0) fun x94 => S.bd (fld 0 x94) fun x95 => S.bd (fld 12 x95) fun x96 => S.bd (lda s 2 x96) fun x97 => S.bd (bld [(.int .i64 0), (.int .i64 0), (.int .u64 0), (.int .i64 0), (.int .i64 0), (.int .u64 0), (.int .i64 0), (.int .u64 0), (.int .i64 0), (.int .i64 0), (.int .u64 0), (.int .i64 0), (.int .u64 0), (.int .i64 0), (.int .i64 0)] [(0, 1, (.int .i64 8)), (13, 2, x97)]) fun x98 => S.bd (pS_ask.r a0 x93 x98 s) fun x99 => S.bd (stl c1 0 36 x99) fun c100 => S.bd (lal c100 0 36) fun x101 => some (x101)) (pS_Next.t.p2 S x8 a0 s c1))
def pS_Next.t.p4 (S : Sig) (x8 : Value) (a0 : Value) (s : St) (c1 : List Value) : Option Value :=
  S.bd (eqb [1] false false x8 (.int .i64 4)) fun x48 => S.cnd x48 (S.bd (nck a0) fun x49 => S.bd (fld 15 x49) fun x50 => S.bd (lda s 5 x50) fun x51 => S.bd (nck a0) fun x52 => S.bd (fld 0 x52) fun x53 => S.bd (fld 2 x53) fun x54 => S.bd (lda s 5 x54) fun x55 => S.bd (nck a0) fun x56 => S.bd (fld 0 x56) fun x57 => S.bd (fld 12 x57) fun x58 => S.bd (lda s 2 x58) fun x59 => S.bd (bld [(.int .i64 0), (.int .i64 0), (.int .u64 0), (.int .i64 0), (.int .i64 0), (.int .u64 0), (.int .i64 0), (.int .u64 0), (.int .i64 0), (.int .i64 0), (.int .u64 0), (.int .i64 0), (.int .u64 0), (.int .i64 0), (.int .i64 0)] [(0, 1, (.int .i64 5)), (3, 5, x55), (13, 2, x59)]) fun x60 => S.bd (pS_ask.r a0 x51 x60 s) fun x61 => S.bd (stl c1 0 36 x61) fun c62 => S.bd (lal c62 0 36) fun x63 => some (x63)) (S.bd (eqb [1] false false x8 (.int .i64 5)) fun x64 => S.cnd x64 (S.bd (nck a0) fun x65 => S.bd (fld 21 x65) fun x66 => S.bd (lda s 5 x66) fun x67 => S.bd (nck a0) fun x68 => S.bd (fld 0 x68) fun x69 => S.bd (fld 2 x69) fun x70 => S.bd (lda s 5 x70) fun x71 => S.bd (bld [(.int .i64 0), (.int .i64 0), (.int .u64 0), (.int .i64 0), (.int .i64 0), (.int .u64 0), (.int .i64 0), (.int .u64 0), (.int .i64 0), (.int .i64 0), (.int .u64 0), (.int .i64 0), (.int .u64 0), (.int .i64 0), (.int .i64 0)] [(0, 1, (.int .i64 6)), (3, 5, x71)]) fun x72 => S.bd (pS_ask.r a0 x67 x72 s) fun x73 => S.bd (stl c1 0 36 x73) fun c74 => S.bd (lal c74 0 36) fun x75 => some (x75)) (pS_Next.t.p3 S x8 a0 s c1))
def pS_Next.t.p5 (S : Sig) (x8 : Value) (a0 : Value) (s : St) (c1 : List Value) : Option Value :=
  S.bd (eqb [1] false false x8 (.int .i64 2)) fun x21 => S.cnd x21 (S.bd (nck a0) fun x22 => S.bd (fld 21 x22) fun x23 => S.bd (lda s 5 x23) fun x24 => S.bd (bld [(.int .i64 0), (.int .i64 0), (.int .u64 0), (.int .i64 0), (.int .i64 0), (.int .u64 0), (.int .i64 0), (.int .u64 0), (.int .i64 0), (.int .i64 0), (.int .u64 0), (.int .i64 0), (.int .u64 0), (.int .i64 0), (.int .i64 0)] [(0, 1, (.int .i64 1))]) fun x25 => S.bd (pS_ask.r a0 x24 x25 s) fun x26 => S.bd (stl c1 0 36 x26) fun c27 => S.bd (lal c27 0 36) fun x28 => some (x28)) (S.bd (eqb [1] false false x8 (.int .i64 3)) fun x29 => S.cnd x29 (S.bd (nck a0) fun x30 => S.bd (fld 0 x30) fun x31 => S.bd (fld 2 x31) fun x32 => S.bd (lda s 5 x32) fun x33 => S.bd (nck a0) fun x34 => S.bd (fld 15 x34) fun x35 => S.bd (lda s 5 x35) fun x36 => S.bd (nck a0) fun x37 => S.bd (fld 21 x37) fun x38 => S.bd (lda s 5 x38) fun x39 => S.bd (nck a0) fun x40 => S.bd (fld 0 x40) fun x41 => S.bd (fld 12 x41) fun x42 => S.bd (lda s 2 x42) fun x43 => S.bd (bld [(.int .i64 0), (.int .i64 0), (.int .u64 0), (.int .i64 0), (.int .i64 0), (.int .u64 0), (.int .i64 0), (.int .u64 0), (.int .i64 0), (.int .i64 0), (.int .u64 0), (.int .i64 0), (.int .u64 0), (.int .i64 0), (.int .i64 0)] [(0, 1, (.int .i64 7)), (3, 5, x36), (8, 5, x39), (13, 2, x43)]) fun x44 => S.bd (pS_ask.r a0 x33 x44 s) fun x45 => S.bd (stl c1 0 36 x45) fun c46 => S.bd (lal c46 0 36) fun x47 => some (x47)) (pS_Next.t.p4 S x8 a0 s c1))
def pS_Next.t (S : Sig) (a0 : Value) (s : St) : Option Value :=
  S.bd (bx (Go.Value.agg #[(.int .i64 0), (.int .i64 0), (.int .i64 0), (.int .u64 0), (.int .i64 0), (.int .u64 0), (.int .i64 0), (.int .i64 0), (.int .u64 0), (.int .i64 0), (.int .i64 0), (.int .u64 0), (.int .i64 0), (.int .u64 0), (.int .i64 0), (.int .i64 0), (.int .u64 0), (.int .i64 0), (.int .u64 0), (.int .i64 0), (.int .i64 0), (.int .i64 0), (.int .u64 0), (.slice none 0 0), (.slice none 0 0), (.int .i64 0), (.int .i64 0), (.int .u64 0), (.int .i64 0), (.int .u64 0), (.int .i64 0), (.int .i64 0), (.int .u64 0), (.int .i64 0), (.int .u64 0), (.bool Bool.false)])) fun c1 => S.bd (eqb [3] false false a0 (.pointer none)) fun x2 => S.cnd x2 (S.bd (bld [(.int .i64 0), (.int .i64 0), (.int .i64 0), (.int .u64 0), (.int .i64 0), (.int .u64 0), (.int .i64 0), (.int .i64 0), (.int .u64 0), (.int .i64 0), (.int .i64 0), (.int .u64 0), (.int .i64 0), (.int .u64 0), (.int .i64 0), (.int .i64 0), (.int .u64 0), (.int .i64 0), (.int .u64 0), (.int .i64 0), (.int .i64 0), (.int .i64 0), (.int .u64 0), (.slice none 0 0), (.slice none 0 0), (.int .i64 0), (.int .i64 0), (.int .u64 0), (.int .i64 0), (.int .u64 0), (.int .i64 0), (.int .i64 0), (.int .u64 0), (.int .i64 0), (.int .u64 0), (.bool Bool.false)] []) fun x3 => S.bd (stl c1 0 36 x3) fun c4 => S.bd (lal c4 0 36) fun x5 => some (x5)) (S.bd (nck a0) fun x6 => S.bd (fld 14 x6) fun x7 => S.bd (ldc s x7) fun x8 => S.bd (eqb [1] false false x8 (.int .i64 1)) fun x9 => S.cnd x9 (S.bd (nck a0) fun x10 => S.bd (fld 15 x10) fun x11 => S.bd (lda s 5 x11) fun x12 => S.bd (nck a0) fun x13 => S.bd (fld 0 x13) fun x14 => S.bd (fld 12 x14) fun x15 => S.bd (lda s 2 x15) fun x16 => S.bd (bld [(.int .i64 0), (.int .i64 0), (.int .u64 0), (.int .i64 0), (.int .i64 0), (.int .u64 0), (.int .i64 0), (.int .u64 0), (.int .i64 0), (.int .i64 0), (.int .u64 0), (.int .i64 0), (.int .u64 0), (.int .i64 0), (.int .i64 0)] [(0, 1, (.int .i64 3)), (13, 2, x16)]) fun x17 => S.bd (pS_ask.r a0 x12 x17 s) fun x18 => S.bd (stl c1 0 36 x18) fun c19 => S.bd (lal c19 0 36) fun x20 => some (x20)) (pS_Next.t.p5 S x8 a0 s c1))
def pS_Next.r (a0 : Value) (s : St) : Option Value := pS_Next.t std a0 s
def pS_Next.w : List Value → St → Option Value
  | [a0], s => pS_Next.r a0 s
  | _, _ => none
def pS_Next.an : An := ⟨144, true, [2], [], [], [(5, [(z4 0 0), (z4 1 0), (z4 2 0), (z4 3 0), (z4 4 2), (z4 5 0), (z4 6 0), (z4 7 0), (z4 8 0), (z4 9 2), (z4 10 0), (z4 11 3), (z4 12 21)]), (9, [(z4 0 0), (z4 1 0), (z4 2 0), (z4 3 0), (z4 4 0), (z4 5 2), (z4 6 0), (z4 7 0), (z4 8 0), (z4 9 2), (z4 10 0), (z4 11 0), (z4 12 0), (z4 13 2), (z4 14 0), (z4 15 0), (z4 16 0), (z4 17 0), (z4 18 2), (z4 19 0), (z4 20 3), (z4 21 21)]), (11, [(z4 0 0), (z4 1 0), (z4 2 0), (z4 3 0), (z4 4 2), (z4 5 0), (z4 6 0), (z4 7 0), (z4 8 0), (z4 9 2), (z4 10 0), (z4 11 0), (z4 12 0), (z4 13 0), (z4 14 2), (z4 15 0), (z4 16 3), (z4 17 21)]), (13, [(z4 0 0), (z4 1 0), (z4 2 0), (z4 3 0), (z4 4 2), (z4 5 0), (z4 6 0), (z4 7 0), (z4 8 0), (z4 9 2), (z4 10 0), (z4 11 3), (z4 12 21)]), (15, [(z4 0 0), (z4 1 0), (z4 2 0), (z4 3 0), (z4 4 0), (z4 5 2), (z4 6 0), (z4 7 0), (z4 8 0), (z4 9 0), (z4 10 2), (z4 11 0), (z4 12 3), (z4 13 21)]), (17, [(z4 0 0), (z4 1 0), (z4 2 0), (z4 3 0), (z4 4 0), (z4 5 2), (z4 6 0), (z4 7 0), (z4 8 0), (z4 9 0), (z4 10 2), (z4 11 0), (z4 12 3), (z4 13 21)]), (19, [(z4 0 0), (z4 1 0), (z4 2 0), (z4 3 0), (z4 4 2), (z4 5 0), (z4 6 0), (z4 7 0), (z4 8 0), (z4 9 2), (z4 10 0), (z4 11 3), (z4 12 21)])]⟩
theorem pS_Next.ok (S : Sig) (a0 : Value) (s : St) : evG S Tryz.prog pS_Next.ctx pS_Next.an Tryz.f166 [a0] s = pS_Next.t S a0 s := by kernel_rfl
theorem pS_Next.cok : CtxOk Tryz.prog pS_Next.ctx := .cons pS_ask.sound pS_ask.can <| .nil
theorem pS_Next.draws : fnDraws pS_Next.an Tryz.f166 = true := by kernel_rfl
theorem pS_Next.can : callOk Tryz.prog 166 = true := by kernel_rfl
theorem pS_Next.sound : FnOk Tryz.prog 166 (.rd pS_Next.w) := FnOk.rd_of (evG_ok pS_Next.cok mixed (f := 166) (fn := Tryz.f166) (by kernel_rfl) pS_Next.draws) fun args s r h => by
  unfold pS_Next.w at h; split at h
  · rw [pS_Next.ok std]; exact h
  · simp at h
def pS_free.ctx : Ctx := [(172, .st pS_Tell_fn1.w), (180, .st pS_wait_fn1.w), (181, .st pS_done_fn1.w), (182, .st pS_fail_fn1.w), (183, .st pS_look_fn1.w)]
def pS_free.t (S : Sig) (a0 a1 : Value) (s : St) : Option (Value × St) :=
  S.bd (nck a0) fun x1 => S.bd (fld 26 x1) fun x2 => S.bd (ldc s x2) fun x3 => S.cnd x3 (S.bd (callV (pS_free.ctx) a1 [] s) fun r4 => some ((Value.tuple ⟨[]⟩), r4.2)) (S.bd (nck a0) fun x5 => S.bd (fld 14 x5) fun x6 => S.bd (stv s 1 x6 (.int .i64 8)) fun s7 => S.bd (nck a0) fun x8 => S.bd (fld 28 x8) fun x9 => S.bd (stv s7 1 x9 a1) fun s10 => some ((Value.tuple ⟨[]⟩), s10))
def pS_free.v (a0 a1 : Value) (s : St) : Option (Value × St) := pS_free.t std a0 a1 s
def pS_free.w : List Value → St → Option (Value × St)
  | [a0, a1], s => pS_free.v a0 a1 s
  | _, _ => none
def pS_free.an : An := ⟨17, false, [], [], [], []⟩
theorem pS_free.ok (S : Sig) (a0 a1 : Value) (s : St) : evF S Tryz.prog pS_free.ctx pS_free.an Tryz.f171 [a0, a1] s = pS_free.t S a0 a1 s := by kernel_rfl
theorem pS_free.cok : CtxOk Tryz.prog pS_free.ctx := .cons pS_Tell_fn1.sound pS_Tell_fn1.can <| .cons pS_wait_fn1.sound pS_wait_fn1.can <| .cons pS_done_fn1.sound pS_done_fn1.can <| .cons pS_fail_fn1.sound pS_fail_fn1.can <| .cons pS_look_fn1.sound pS_look_fn1.can <| .nil
theorem pS_free.draws : fnDraws pS_free.an Tryz.f171 = true := by kernel_rfl
theorem pS_free.can : callOk Tryz.prog 171 = true := by kernel_rfl
theorem pS_free.sound : FnOk Tryz.prog 171 (.st pS_free.w) := FnOk.st_of (evF_ok pS_free.cok mixed (f := 171) (fn := Tryz.f171) (by kernel_rfl) pS_free.draws) fun args s r h => by
  unfold pS_free.w at h; split at h
  · rw [pS_free.ok std]; exact h
  · simp at h
def pS_fail.ctx : Ctx := [(171, .st pS_free.w)]
def pS_fail.t (S : Sig) (a0 a1 : Value) (s : St) : Option (Value × St) :=
  S.bd (alv s a0) fun r1 => S.bd (alv r1.2 a1) fun r2 => S.bd (ldc r2.2 r1.1) fun x3 => S.bd (pS_free.v x3 (Value.func (.func 182) ⟨[]⟩ ⟨[r1.1, r2.1]⟩) r2.2) fun r4 => some ((Value.tuple ⟨[]⟩), r4.2)
def pS_fail.v (a0 a1 : Value) (s : St) : Option (Value × St) := pS_fail.t std a0 a1 s
def pS_fail.w : List Value → St → Option (Value × St)
  | [a0, a1], s => pS_fail.v a0 a1 s
  | _, _ => none
def pS_fail.an : An := ⟨7, false, [], [], [], []⟩
theorem pS_fail.ok (S : Sig) (a0 a1 : Value) (s : St) : evF S Tryz.prog pS_fail.ctx pS_fail.an Tryz.f178 [a0, a1] s = pS_fail.t S a0 a1 s := by kernel_rfl
theorem pS_fail.cok : CtxOk Tryz.prog pS_fail.ctx := .cons pS_free.sound pS_free.can <| .nil
theorem pS_fail.draws : fnDraws pS_fail.an Tryz.f178 = true := by kernel_rfl
theorem pS_fail.can : callOk Tryz.prog 178 = true := by kernel_rfl
theorem pS_fail.sound : FnOk Tryz.prog 178 (.st pS_fail.w) := FnOk.st_of (evF_ok pS_fail.cok mixed (f := 178) (fn := Tryz.f178) (by kernel_rfl) pS_fail.draws) fun args s r h => by
  unfold pS_fail.w at h; split at h
  · rw [pS_fail.ok std]; exact h
  · simp at h
def pS_wait.ctx : Ctx := [(171, .st pS_free.w)]
def pS_wait.t (S : Sig) (a0 : Value) (s : St) : Option (Value × St) :=
  S.bd (alv s a0) fun r1 => S.bd (ldc r1.2 r1.1) fun x2 => S.bd (pS_free.v x2 (Value.func (.func 180) ⟨[]⟩ ⟨[r1.1]⟩) r1.2) fun r3 => some ((Value.tuple ⟨[]⟩), r3.2)
def pS_wait.v (a0 : Value) (s : St) : Option (Value × St) := pS_wait.t std a0 s
def pS_wait.w : List Value → St → Option (Value × St)
  | [a0], s => pS_wait.v a0 s
  | _, _ => none
def pS_wait.an : An := ⟨5, false, [], [], [], []⟩
theorem pS_wait.ok (S : Sig) (a0 : Value) (s : St) : evF S Tryz.prog pS_wait.ctx pS_wait.an Tryz.f174 [a0] s = pS_wait.t S a0 s := by kernel_rfl
theorem pS_wait.cok : CtxOk Tryz.prog pS_wait.ctx := .cons pS_free.sound pS_free.can <| .nil
theorem pS_wait.draws : fnDraws pS_wait.an Tryz.f174 = true := by kernel_rfl
theorem pS_wait.can : callOk Tryz.prog 174 = true := by kernel_rfl
theorem pS_wait.sound : FnOk Tryz.prog 174 (.st pS_wait.w) := FnOk.st_of (evF_ok pS_wait.cok mixed (f := 174) (fn := Tryz.f174) (by kernel_rfl) pS_wait.draws) fun args s r h => by
  unfold pS_wait.w at h; split at h
  · rw [pS_wait.ok std]; exact h
  · simp at h
def pS_look.ctx : Ctx := [(59, .rd key_Less.w), (178, .st pS_fail.w), (171, .st pS_free.w), (174, .st pS_wait.w)]
def pS_look.t.p1 (S : Sig) (x9 : Value) (r1 : Value × St) (x6 : Value) : Option (Value × St) :=
  S.bd (fld 1 x9) fun x10 => S.bd (lda r1.2 2 x10) fun x11 => S.bd (key_Less.r x6 x11 r1.2) fun x12 => S.bd (un .not x12) fun x13 => S.cnd x13 (S.bd (ldc r1.2 r1.1) fun x14 => S.bd (pS_fail.v x14 (.int .i64 131) r1.2) fun r15 => some ((Value.tuple ⟨[]⟩), r15.2)) (S.bd (ldc r1.2 r1.1) fun x16 => S.bd (nck x16) fun x17 => S.bd (fld 21 x17) fun x18 => S.bd (fld 1 x18) fun x19 => S.bd (lda r1.2 2 x19) fun x20 => S.bd (ldc r1.2 r1.1) fun x21 => S.bd (nck x21) fun x22 => S.bd (fld 0 x22) fun x23 => S.bd (fld 2 x23) fun x24 => S.bd (fld 1 x24) fun x25 => S.bd (lda r1.2 2 x25) fun x26 => S.bd (key_Less.r x20 x26 r1.2) fun x27 => S.cnd x27 (S.bd (ldc r1.2 r1.1) fun x28 => S.bd (pS_free.v x28 (Value.func (.func 183) ⟨[]⟩ ⟨[r1.1]⟩) r1.2) fun r29 => some ((Value.tuple ⟨[]⟩), r29.2)) (S.bd (ldc r1.2 r1.1) fun x30 => S.bd (nck x30) fun x31 => S.bd (fld 21 x31) fun x32 => S.bd (fld 1 x32) fun x33 => S.bd (lda r1.2 2 x33) fun x34 => S.bd (ldc r1.2 r1.1) fun x35 => S.bd (nck x35) fun x36 => S.bd (fld 0 x36) fun x37 => S.bd (fld 2 x37) fun x38 => S.bd (fld 1 x38) fun x39 => S.bd (lda r1.2 2 x39) fun x40 => S.bd (eqb [1, 1] true true x34 x40) fun x41 => S.cnd x41 (S.bd (ldc r1.2 r1.1) fun x42 => S.bd (nck x42) fun x43 => S.bd (fld 14 x43) fun x44 => S.bd (stv r1.2 1 x44 (.int .i64 3)) fun s45 => some ((Value.tuple ⟨[]⟩), s45)) (S.bd (ldc r1.2 r1.1) fun x46 => S.bd (nck x46) fun x47 => S.bd (fld 0 x47) fun x48 => S.bd (fld 0 x48) fun x49 => S.bd (fld 0 x49) fun x50 => S.bd (ldc r1.2 x50) fun x51 => S.bd (bin .gtr x51 (.int .i64 0)) fun x52 => S.cnd x52 (S.bd (ldc r1.2 r1.1) fun x53 => S.bd (pS_wait.v x53 r1.2) fun r54 => some ((Value.tuple ⟨[]⟩), r54.2)) (S.bd (ldc r1.2 r1.1) fun x55 => S.bd (nck x55) fun x56 => S.bd (fld 14 x56) fun x57 => S.bd (stv r1.2 1 x57 (.int .i64 2)) fun s58 => some ((Value.tuple ⟨[]⟩), s58)))))
def pS_look.t (S : Sig) (a0 : Value) (s : St) : Option (Value × St) :=
  S.bd (alv s a0) fun r1 => S.bd (ldc r1.2 r1.1) fun x2 => S.bd (nck x2) fun x3 => S.bd (fld 15 x3) fun x4 => S.bd (fld 1 x4) fun x5 => S.bd (lda r1.2 2 x5) fun x6 => S.bd (ldc r1.2 r1.1) fun x7 => S.bd (nck x7) fun x8 => S.bd (fld 21 x8) fun x9 => pS_look.t.p1 S x9 r1 x6
def pS_look.v (a0 : Value) (s : St) : Option (Value × St) := pS_look.t std a0 s
def pS_look.w : List Value → St → Option (Value × St)
  | [a0], s => pS_look.v a0 s
  | _, _ => none
def pS_look.an : An := ⟨62, false, [], [], [], [(2, [(z4 0 2), (z4 1 0), (z4 2 0), (z4 3 0), (z4 4 2), (z4 5 2), (z4 6 0), (z4 7 0), (z4 8 0), (z4 9 2), (z4 10 3), (z4 11 0), (z4 12 0)]), (4, [(z4 0 2), (z4 1 0), (z4 2 0), (z4 3 0), (z4 4 2), (z4 5 2), (z4 6 0), (z4 7 0), (z4 8 0), (z4 9 0), (z4 10 2), (z4 11 3), (z4 12 0)]), (6, [(z4 0 2), (z4 1 0), (z4 2 0), (z4 3 0), (z4 4 2), (z4 5 2), (z4 6 0), (z4 7 0), (z4 8 0), (z4 9 0), (z4 10 2), (z4 11 0), (z4 12 0)])]⟩
theorem pS_look.ok (S : Sig) (a0 : Value) (s : St) : evF S Tryz.prog pS_look.ctx pS_look.an Tryz.f179 [a0] s = pS_look.t S a0 s := by kernel_rfl
theorem pS_look.cok : CtxOk Tryz.prog pS_look.ctx := .cons key_Less.sound key_Less.can <| .cons pS_fail.sound pS_fail.can <| .cons pS_free.sound pS_free.can <| .cons pS_wait.sound pS_wait.can <| .nil
theorem pS_look.draws : fnDraws pS_look.an Tryz.f179 = true := by kernel_rfl
theorem pS_look.can : callOk Tryz.prog 179 = true := by kernel_rfl
theorem pS_look.sound : FnOk Tryz.prog 179 (.st pS_look.w) := FnOk.st_of (evF_ok pS_look.cok mixed (f := 179) (fn := Tryz.f179) (by kernel_rfl) pS_look.draws) fun args s r h => by
  unfold pS_look.w at h; split at h
  · rw [pS_look.ok std]; exact h
  · simp at h
def pS_locked.ctx : Ctx := [(179, .st pS_look.w), (173, .st pS_end.w)]
def pS_locked.t (S : Sig) (a0 a1 : Value) (s : St) : Option (Value × St) :=
  S.bd (bx a1) fun c1 => S.bd (lcl c1 0) fun x2 => S.bd (show Option Cut from S.bd (show Option Cut from S.bd (eqb [1] false false x2 (.int .i64 1)) fun x40 => S.cnd x40 (S.bd (lal c1 7 5) fun x41 => S.bd (nck a0) fun x42 => S.bd (fld 21 x42) fun x43 => S.bd (stv s 5 x43 x41) fun s44 => S.bd (pS_look.v a0 s44) fun r45 => some (0, [], r45.2)) (S.bd (eqb [1] false false x2 (.int .i64 2)) fun x46 => S.cnd x46 (some (2, [a0], s)) (S.bd (eqb [1] false false x2 (.int .i64 3)) fun x47 => S.cnd x47 (some (2, [a0], s)) (some (1, [a0], s))))) fun r48 => if r48.1 = 0 then (some (0, [], r48.2.2)) else (if r48.1 = 1 then (some (1, [(r48.2.1.getD 0 undef)], r48.2.2)) else (S.bd (nck (r48.2.1.getD 0 undef)) fun x49 => S.bd (fld 20 x49) fun x50 => S.bd (ldc r48.2.2 x50) fun x51 => S.bd (eqb [3] false false x51 (.pointer none)) fun x52 => S.cnd x52 (S.bd (bld [(.int .i64 0), (.int .u64 0), (.slice none 0 0), (.slice none 0 0), (.int .i64 0), (.int .i64 0), (.int .u64 0), (.int .i64 0), (.int .u64 0), (.int .i64 0), (.int .i64 0), (.int .u64 0), (.int .i64 0), (.int .u64 0), (.bool Bool.false)] [(0, 1, (.int .i64 131))]) fun x53 => S.bd (pS_end.v (r48.2.1.getD 0 undef) x53 r48.2.2) fun r54 => some (2, [], r54.2)) (S.bd (nck (r48.2.1.getD 0 undef)) fun x55 => S.bd (fld 20 x55) fun x56 => S.bd (ldc r48.2.2 x56) fun x57 => S.bd (nck x57) fun x58 => S.bd (lda r48.2.2 5 x58) fun x59 => S.bd (nck (r48.2.1.getD 0 undef)) fun x60 => S.bd (fld 15 x60) fun x61 => S.bd (stv r48.2.2 5 x61 x59) fun s62 => S.bd (nck (r48.2.1.getD 0 undef)) fun x63 => S.bd (fld 20 x63) fun x64 => S.bd (stv s62 1 x64 (.pointer none)) fun s65 => S.bd (nck (r48.2.1.getD 0 undef)) fun x66 => S.bd (fld 14 x66) fun x67 => S.bd (stv s65 1 x67 (.int .i64 9)) fun s68 => some (0, [], s68))))) fun r69 => if r69.1 = 0 then (some ((Value.tuple ⟨[]⟩), r69.2.2)) else (if r69.1 = 1 then (S.bd (nck (r69.2.1.getD 0 undef)) fun x70 => S.bd (fld 14 x70) fun x71 => S.bd (stv r69.2.2 1 x71 (.int .i64 9)) fun s72 => some ((Value.tuple ⟨[]⟩), s72)) else (some ((Value.tuple ⟨[]⟩), r69.2.2)))
def pS_locked.v (a0 a1 : Value) (s : St) : Option (Value × St) := pS_locked.t std a0 a1 s
def pS_locked.w : List Value → St → Option (Value × St)
  | [a0, a1], s => pS_locked.v a0 a1 s
  | _, _ => none
def pS_locked.an : An := ⟨45, false, [3], [], [(7, ⟨[], [(.exit 0, []), (.exit 4, [.v 0]), (.normal, [.v 0])]⟩), (10, ⟨[], [(.exit 0, []), (.normal, [.v 0]), (.ret, [])]⟩)], []⟩
theorem pS_locked.ok (S : Sig) (a0 a1 : Value) (s : St) : evF S Tryz.prog pS_locked.ctx pS_locked.an Tryz.f170 [a0, a1] s = pS_locked.t S a0 a1 s := by kernel_rfl
theorem pS_locked.cok : CtxOk Tryz.prog pS_locked.ctx := .cons pS_look.sound pS_look.can <| .cons pS_end.sound pS_end.can <| .nil
theorem pS_locked.draws : fnDraws pS_locked.an Tryz.f170 = true := by kernel_rfl
theorem pS_locked.can : callOk Tryz.prog 170 = true := by kernel_rfl
theorem pS_locked.sound : FnOk Tryz.prog 170 (.st pS_locked.w) := FnOk.st_of (evF_ok pS_locked.cok mixed (f := 170) (fn := Tryz.f170) (by kernel_rfl) pS_locked.draws) fun args s r h => by
  unfold pS_locked.w at h; split at h
  · rw [pS_locked.ok std]; exact h
  · simp at h
def pS_entered.ctx : Ctx := [(178, .st pS_fail.w)]
def pS_entered.t (S : Sig) (a0 a1 : Value) (s : St) : Option (Value × St) :=
  S.bd (bx a1) fun c1 => S.bd (lcl c1 0) fun x2 => S.bd (eqb [1] false false x2 (.int .i64 1)) fun x3 => S.cnd x3 (S.bd (nck a0) fun x4 => S.bd (fld 14 x4) fun x5 => S.bd (stv s 1 x5 (.int .i64 4)) fun s6 => some ((Value.tuple ⟨[]⟩), s6)) (S.bd (eqb [1] false false x2 (.int .i64 3)) fun x7 => S.cnd x7 (S.bd (pS_fail.v a0 (.int .i64 132) s) fun r8 => some ((Value.tuple ⟨[]⟩), r8.2)) (S.bd (pS_fail.v a0 (.int .i64 133) s) fun r9 => some ((Value.tuple ⟨[]⟩), r9.2)))
def pS_entered.v (a0 a1 : Value) (s : St) : Option (Value × St) := pS_entered.t std a0 a1 s
def pS_entered.w : List Value → St → Option (Value × St)
  | [a0, a1], s => pS_entered.v a0 a1 s
  | _, _ => none
def pS_entered.an : An := ⟨17, false, [3], [], [], []⟩
theorem pS_entered.ok (S : Sig) (a0 a1 : Value) (s : St) : evF S Tryz.prog pS_entered.ctx pS_entered.an Tryz.f175 [a0, a1] s = pS_entered.t S a0 a1 s := by kernel_rfl
theorem pS_entered.cok : CtxOk Tryz.prog pS_entered.ctx := .cons pS_fail.sound pS_fail.can <| .nil
theorem pS_entered.draws : fnDraws pS_entered.an Tryz.f175 = true := by kernel_rfl
theorem pS_entered.can : callOk Tryz.prog 175 = true := by kernel_rfl
theorem pS_entered.sound : FnOk Tryz.prog 175 (.st pS_entered.w) := FnOk.st_of (evF_ok pS_entered.cok mixed (f := 175) (fn := Tryz.f175) (by kernel_rfl) pS_entered.draws) fun args s r h => by
  unfold pS_entered.w at h; split at h
  · rw [pS_entered.ok std]; exact h
  · simp at h
def pS_righted.ctx : Ctx := []
def pS_righted.t (S : Sig) (a0 a1 : Value) (s : St) : Option (Value × St) :=
  S.bd (bx a1) fun c1 => S.bd (lcl c1 0) fun x2 => S.bd (eqb [1] false false x2 (.int .i64 3)) fun x3 => S.bd (nck a0) fun x4 => S.bd (fld 26 x4) fun x5 => S.bd (stv s 1 x5 x3) fun s6 => S.bd (lcl c1 0) fun x7 => S.bd (eqb [1] false false x7 (.int .i64 1)) fun x8 => S.bd (S.gd x8 false (some a0)) fun x9 => S.bd (S.gd x8 false (nck x9)) fun x10 => S.bd (S.gd x8 false (fld 26 x10)) fun x11 => S.bd (S.gd x8 false (ldc s6 x11)) fun x12 => S.bd (S.gd x8 false (some x12)) fun x13 => S.bd (S.gd x13 true (lcl c1 7)) fun x14 => S.bd (S.gd x13 true (some a0)) fun x15 => S.bd (S.gd x13 true (nck x15)) fun x16 => S.bd (S.gd x13 true (fld 0 x16)) fun x17 => S.bd (S.gd x13 true (fld 2 x17)) fun x18 => S.bd (S.gd x13 true (fld 0 x18)) fun x19 => S.bd (S.gd x13 true (ldc s6 x19)) fun x20 => S.bd (S.gd x13 true (eqb [1] false false x14 x20)) fun x21 => S.bd (S.gd x8 false (pik x13 x21 (.bool Bool.false))) fun x22 => S.bd (pik x8 (.bool Bool.true) x22) fun x23 => S.cnd x23 (S.bd (nck a0) fun x24 => S.bd (fld 14 x24) fun x25 => S.bd (stv s6 1 x25 (.int .i64 5)) fun s26 => some ((Value.tuple ⟨[]⟩), s26)) (S.bd (nck a0) fun x27 => S.bd (fld 14 x27) fun x28 => S.bd (stv s6 1 x28 (.int .i64 7)) fun s29 => some ((Value.tuple ⟨[]⟩), s29))
def pS_righted.v (a0 a1 : Value) (s : St) : Option (Value × St) := pS_righted.t std a0 a1 s
def pS_righted.w : List Value → St → Option (Value × St)
  | [a0, a1], s => pS_righted.v a0 a1 s
  | _, _ => none
def pS_righted.an : An := ⟨37, false, [3], [], [], [(2, [(z4 0 0), (z4 1 25), (z4 2 0), (z4 3 0), (z4 4 0), (z4 5 0), (z4 6 0), (z4 7 2), (z4 8 0), (z4 9 0), (z4 10 0), (z4 11 25), (z4 12 0), (z4 13 0), (z4 14 0), (z4 15 0), (z4 16 0), (z4 17 2), (z4 18 0), (z4 19 0), (z4 20 0)])]⟩
theorem pS_righted.ok (S : Sig) (a0 a1 : Value) (s : St) : evF S Tryz.prog pS_righted.ctx pS_righted.an Tryz.f176 [a0, a1] s = pS_righted.t S a0 a1 s := by kernel_rfl
theorem pS_righted.cok : CtxOk Tryz.prog pS_righted.ctx := .nil
theorem pS_righted.draws : fnDraws pS_righted.an Tryz.f176 = true := by kernel_rfl
theorem pS_righted.can : callOk Tryz.prog 176 = true := by kernel_rfl
theorem pS_righted.sound : FnOk Tryz.prog 176 (.st pS_righted.w) := FnOk.st_of (evF_ok pS_righted.cok mixed (f := 176) (fn := Tryz.f176) (by kernel_rfl) pS_righted.draws) fun args s r h => by
  unfold pS_righted.w at h; split at h
  · rw [pS_righted.ok std]; exact h
  · simp at h
def pS_done.ctx : Ctx := [(171, .st pS_free.w)]
def pS_done.t.p1 (S : Sig) (x5 : Value) (x9 : Value) (r1 : Value × St) : Option (Value × St) :=
  S.bd (bld [(.int .i64 0), (.int .u64 0), (.slice none 0 0), (.slice none 0 0), (.int .i64 0), (.int .i64 0), (.int .u64 0), (.int .i64 0), (.int .u64 0), (.int .i64 0), (.int .i64 0), (.int .u64 0), (.int .i64 0), (.int .u64 0), (.bool Bool.false)] [(4, 5, x5), (9, 5, x9)]) fun x10 => S.bd (alv r1.2 (Go.Value.agg #[(.int .i64 0), (.int .u64 0), (.slice none 0 0), (.slice none 0 0), (.int .i64 0), (.int .i64 0), (.int .u64 0), (.int .i64 0), (.int .u64 0), (.int .i64 0), (.int .i64 0), (.int .u64 0), (.int .i64 0), (.int .u64 0), (.bool Bool.false)])) fun r11 => S.bd (stv r11.2 15 r11.1 x10) fun s12 => S.bd (ldc s12 r1.1) fun x13 => S.bd (nck x13) fun x14 => S.bd (fld 27 x14) fun x15 => S.bd (ldc s12 x15) fun x16 => S.cnd x16 (S.bd (bld [(.int .i64 0), (.int .u64 0), (.slice none 0 0), (.slice none 0 0), (.int .i64 0), (.int .i64 0), (.int .u64 0), (.int .i64 0), (.int .u64 0), (.int .i64 0), (.int .i64 0), (.int .u64 0), (.int .i64 0), (.int .u64 0), (.bool Bool.false)] [(0, 1, (.int .i64 132))]) fun x17 => S.bd (stv s12 15 r11.1 x17) fun s18 => S.bd (ldc s18 r1.1) fun x19 => S.bd (pS_free.v x19 (Value.func (.func 181) ⟨[]⟩ ⟨[r1.1, r11.1]⟩) s18) fun r20 => some ((Value.tuple ⟨[]⟩), r20.2)) (S.bd (ldc s12 r1.1) fun x21 => S.bd (pS_free.v x21 (Value.func (.func 181) ⟨[]⟩ ⟨[r1.1, r11.1]⟩) s12) fun r22 => some ((Value.tuple ⟨[]⟩), r22.2))
def pS_done.t (S : Sig) (a0 : Value) (s : St) : Option (Value × St) :=
  S.bd (alv s a0) fun r1 => S.bd (ldc r1.2 r1.1) fun x2 => S.bd (nck x2) fun x3 => S.bd (fld 15 x3) fun x4 => S.bd (lda r1.2 5 x4) fun x5 => S.bd (ldc r1.2 r1.1) fun x6 => S.bd (nck x6) fun x7 => S.bd (fld 21 x7) fun x8 => S.bd (lda r1.2 5 x8) fun x9 => pS_done.t.p1 S x5 x9 r1
def pS_done.v (a0 : Value) (s : St) : Option (Value × St) := pS_done.t std a0 s
def pS_done.w : List Value → St → Option (Value × St)
  | [a0], s => pS_done.v a0 s
  | _, _ => none
def pS_done.an : An := ⟨20, false, [], [], [], [(1, [(z4 0 2), (z4 1 0), (z4 2 0), (z4 3 2), (z4 4 2), (z4 5 0), (z4 6 0), (z4 7 2), (z4 8 0), (z4 9 3), (z4 10 4)])]⟩
theorem pS_done.ok (S : Sig) (a0 : Value) (s : St) : evF S Tryz.prog pS_done.ctx pS_done.an Tryz.f177 [a0] s = pS_done.t S a0 s := by kernel_rfl
theorem pS_done.cok : CtxOk Tryz.prog pS_done.ctx := .cons pS_free.sound pS_free.can <| .nil
theorem pS_done.draws : fnDraws pS_done.an Tryz.f177 = true := by kernel_rfl
theorem pS_done.can : callOk Tryz.prog 177 = true := by kernel_rfl
theorem pS_done.sound : FnOk Tryz.prog 177 (.st pS_done.w) := FnOk.st_of (evF_ok pS_done.cok mixed (f := 177) (fn := Tryz.f177) (by kernel_rfl) pS_done.draws) fun args s r h => by
  unfold pS_done.w at h; split at h
  · rw [pS_done.ok std]; exact h
  · simp at h
def pS_Tell.ctx : Ctx := [(170, .st pS_locked.w), (171, .st pS_free.w), (174, .st pS_wait.w), (175, .st pS_entered.w), (176, .st pS_righted.w), (177, .st pS_done.w), (178, .st pS_fail.w), (172, .st pS_Tell_fn1.w), (180, .st pS_wait_fn1.w), (181, .st pS_done_fn1.w), (182, .st pS_fail_fn1.w), (183, .st pS_look_fn1.w)]
def pS_Tell.t.p1 (S : Sig) (x8 : Value) (r1 : Value × St) (c2 : List Value) : Option (Value × St) :=
  S.bd (eqb [1] false false x8 (.int .i64 3)) fun x23 => S.cnd x23 (S.bd (ldc r1.2 r1.1) fun x24 => S.bd (lal c2 0 13) fun x25 => S.bd (pS_entered.v x24 x25 r1.2) fun r26 => some ((Value.tuple ⟨[]⟩), r26.2)) (S.bd (eqb [1] false false x8 (.int .i64 4)) fun x27 => S.cnd x27 (S.bd (ldc r1.2 r1.1) fun x28 => S.bd (lal c2 0 13) fun x29 => S.bd (pS_righted.v x28 x29 r1.2) fun r30 => some ((Value.tuple ⟨[]⟩), r30.2)) (S.bd (eqb [1] false false x8 (.int .i64 5)) fun x31 => S.cnd x31 (S.bd (ldc r1.2 r1.1) fun x32 => S.bd (nck x32) fun x33 => S.bd (fld 14 x33) fun x34 => S.bd (stv r1.2 1 x34 (.int .i64 6)) fun s35 => some ((Value.tuple ⟨[]⟩), s35)) (S.bd (eqb [1] false false x8 (.int .i64 6)) fun x36 => S.cnd x36 (S.bd (ldc r1.2 r1.1) fun x37 => S.bd (lcl c2 0) fun x38 => S.bd (eqb [1] false false x38 (.int .i64 3)) fun x39 => S.bd (nck x37) fun x40 => S.bd (fld 27 x40) fun x41 => S.bd (stv r1.2 1 x41 x39) fun s42 => S.bd (ldc s42 r1.1) fun x43 => S.bd (pS_done.v x43 s42) fun r44 => some ((Value.tuple ⟨[]⟩), r44.2)) (S.bd (eqb [1] false false x8 (.int .i64 7)) fun x45 => S.cnd x45 (S.bd (lcl c2 0) fun x46 => S.bd (eqb [1] false false x46 (.int .i64 3)) fun x47 => S.cnd x47 (S.bd (ldc r1.2 r1.1) fun x48 => S.bd (pS_fail.v x48 (.int .i64 132) r1.2) fun r49 => some ((Value.tuple ⟨[]⟩), r49.2)) (S.bd (ldc r1.2 r1.1) fun x50 => S.bd (pS_fail.v x50 (.int .i64 131) r1.2) fun r51 => some ((Value.tuple ⟨[]⟩), r51.2))) (S.bd (eqb [1] false false x8 (.int .i64 8)) fun x52 => S.cnd x52 (S.bd (ldc r1.2 r1.1) fun x53 => S.bd (nck x53) fun x54 => S.bd (fld 28 x54) fun x55 => S.bd (ldc r1.2 x55) fun x56 => S.bd (callV (pS_Tell.ctx) x56 [] r1.2) fun r57 => some ((Value.tuple ⟨[]⟩), r57.2)) (some ((Value.tuple ⟨[]⟩), r1.2)))))))
def pS_Tell.t (S : Sig) (a0 a1 : Value) (s : St) : Option (Value × St) :=
  S.bd (alv s a0) fun r1 => S.bd (bx a1) fun c2 => S.bd (ldc r1.2 r1.1) fun x3 => S.bd (eqb [3] false false x3 (.pointer none)) fun x4 => S.cnd x4 (some ((Value.tuple ⟨[]⟩), r1.2)) (S.bd (ldc r1.2 r1.1) fun x5 => S.bd (nck x5) fun x6 => S.bd (fld 14 x6) fun x7 => S.bd (ldc r1.2 x7) fun x8 => S.bd (eqb [1] false false x8 (.int .i64 1)) fun x9 => S.cnd x9 (S.bd (ldc r1.2 r1.1) fun x10 => S.bd (lal c2 0 13) fun x11 => S.bd (pS_locked.v x10 x11 r1.2) fun r12 => some ((Value.tuple ⟨[]⟩), r12.2)) (S.bd (eqb [1] false false x8 (.int .i64 2)) fun x13 => S.cnd x13 (S.bd (lcl c2 0) fun x14 => S.bd (eqb [1] false false x14 (.int .i64 1)) fun x15 => S.bd (S.gd x15 true (lcl c2 1)) fun x16 => S.bd (S.gd x15 true (un .not x16)) fun x17 => S.bd (pik x15 x17 (.bool Bool.false)) fun x18 => S.cnd x18 (S.bd (ldc r1.2 r1.1) fun x19 => S.bd (pS_free.v x19 (Value.func (.func 172) ⟨[]⟩ ⟨[r1.1]⟩) r1.2) fun r20 => some ((Value.tuple ⟨[]⟩), r20.2)) (S.bd (ldc r1.2 r1.1) fun x21 => S.bd (pS_wait.v x21 r1.2) fun r22 => some ((Value.tuple ⟨[]⟩), r22.2))) (pS_Tell.t.p1 S x8 r1 c2)))
def pS_Tell.v (a0 a1 : Value) (s : St) : Option (Value × St) := pS_Tell.t std a0 a1 s
def pS_Tell.w : List Value → St → Option (Value × St)
  | [a0, a1], s => pS_Tell.v a0 a1 s
  | _, _ => none
def pS_Tell.an : An := ⟨71, false, [3], [], [], []⟩
theorem pS_Tell.ok (S : Sig) (a0 a1 : Value) (s : St) : evF S Tryz.prog pS_Tell.ctx pS_Tell.an Tryz.f167 [a0, a1] s = pS_Tell.t S a0 a1 s := by kernel_rfl
theorem pS_Tell.cok : CtxOk Tryz.prog pS_Tell.ctx := .cons pS_locked.sound pS_locked.can <| .cons pS_free.sound pS_free.can <| .cons pS_wait.sound pS_wait.can <| .cons pS_entered.sound pS_entered.can <| .cons pS_righted.sound pS_righted.can <| .cons pS_done.sound pS_done.can <| .cons pS_fail.sound pS_fail.can <| .cons pS_Tell_fn1.sound pS_Tell_fn1.can <| .cons pS_wait_fn1.sound pS_wait_fn1.can <| .cons pS_done_fn1.sound pS_done_fn1.can <| .cons pS_fail_fn1.sound pS_fail_fn1.can <| .cons pS_look_fn1.sound pS_look_fn1.can <| .nil
theorem pS_Tell.draws : fnDraws pS_Tell.an Tryz.f167 = true := by kernel_rfl
theorem pS_Tell.can : callOk Tryz.prog 167 = true := by kernel_rfl
theorem pS_Tell.sound : FnOk Tryz.prog 167 (.st pS_Tell.w) := FnOk.st_of (evF_ok pS_Tell.cok mixed (f := 167) (fn := Tryz.f167) (by kernel_rfl) pS_Tell.draws) fun args s r h => by
  unfold pS_Tell.w at h; split at h
  · rw [pS_Tell.ok std]; exact h
  · simp at h
def pS_Wake.ctx : Ctx := []
def pS_Wake.t (S : Sig) (a0 : Value) (s : St) : Option (Value × St) :=
  S.bd (eqb [3] false true a0 (.pointer none)) fun x1 => S.bd (S.gd x1 true (some a0)) fun x2 => S.bd (S.gd x1 true (nck x2)) fun x3 => S.bd (S.gd x1 true (fld 14 x3)) fun x4 => S.bd (S.gd x1 true (ldc s x4)) fun x5 => S.bd (S.gd x1 true (eqb [1] false false x5 (.int .i64 9))) fun x6 => S.bd (pik x1 x6 (.bool Bool.false)) fun x7 => S.cnd x7 (S.bd (nck a0) fun x8 => S.bd (fld 14 x8) fun x9 => S.bd (stv s 1 x9 (.int .i64 1)) fun s10 => some ((Value.tuple ⟨[]⟩), s10)) (some ((Value.tuple ⟨[]⟩), s))
def pS_Wake.v (a0 : Value) (s : St) : Option (Value × St) := pS_Wake.t std a0 s
def pS_Wake.w : List Value → St → Option (Value × St)
  | [a0], s => pS_Wake.v a0 s
  | _, _ => none
def pS_Wake.an : An := ⟨14, false, [], [], [], []⟩
theorem pS_Wake.ok (S : Sig) (a0 : Value) (s : St) : evF S Tryz.prog pS_Wake.ctx pS_Wake.an Tryz.f168 [a0] s = pS_Wake.t S a0 s := by kernel_rfl
theorem pS_Wake.cok : CtxOk Tryz.prog pS_Wake.ctx := .nil
theorem pS_Wake.draws : fnDraws pS_Wake.an Tryz.f168 = true := by kernel_rfl
theorem pS_Wake.can : callOk Tryz.prog 168 = true := by kernel_rfl
theorem pS_Wake.sound : FnOk Tryz.prog 168 (.st pS_Wake.w) := FnOk.st_of (evF_ok pS_Wake.cok mixed (f := 168) (fn := Tryz.f168) (by kernel_rfl) pS_Wake.draws) fun args s r h => by
  unfold pS_Wake.w at h; split at h
  · rw [pS_Wake.ok std]; exact h
  · simp at h
def iI_list.ctx : Ctx := [(61, .rd vec_Prefix.w)]
def iI_list.t (S : Sig) (a0 a1 : Value) (s : St) : Option Value :=
  S.bd (bx (Go.Value.agg #[(.int .i64 0), (.int .u64 0)])) fun c1 => S.bd (nck a0) fun x2 => S.bd (fld 0 x2) fun x3 => S.bd (fld 1 x3) fun x4 => S.bd (fld 3 x4) fun x5 => S.bd (lda s 2 x5) fun x6 => S.bd (vec_Prefix.r x6 a1 s) fun x7 => S.bd (xtr 0 x7) fun x8 => S.bd (xtr 1 x7) fun x9 => S.bd (bx (Go.Value.agg #[(.int .i64 0), (.int .u64 0)])) fun c10 => S.bd (stl c10 0 2 x8) fun c11 => S.bd (lal c11 0 2) fun x12 => S.bd (stl c1 0 2 x12) fun c13 => S.bd (lal c13 0 2) fun x14 => some (x14)
def iI_list.r (a0 a1 : Value) (s : St) : Option Value := iI_list.t std a0 a1 s
def iI_list.w : List Value → St → Option Value
  | [a0, a1], s => iI_list.r a0 a1 s
  | _, _ => none
def iI_list.an : An := ⟨19, true, [4, 5], [], [], []⟩
theorem iI_list.ok (S : Sig) (a0 a1 : Value) (s : St) : evG S Tryz.prog iI_list.ctx iI_list.an Tryz.f33 [a0, a1] s = iI_list.t S a0 a1 s := by kernel_rfl
theorem iI_list.cok : CtxOk Tryz.prog iI_list.ctx := .cons vec_Prefix.sound vec_Prefix.can <| .nil
theorem iI_list.draws : fnDraws iI_list.an Tryz.f33 = true := by kernel_rfl
theorem iI_list.can : callOk Tryz.prog 33 = true := by kernel_rfl
theorem iI_list.sound : FnOk Tryz.prog 33 (.rd iI_list.w) := FnOk.rd_of (evG_ok iI_list.cok mixed (f := 33) (fn := Tryz.f33) (by kernel_rfl) iI_list.draws) fun args s r h => by
  unfold iI_list.w at h; split at h
  · rw [iI_list.ok std]; exact h
  · simp at h
def iI_Next.ctx : Ctx := [(21, .rd r15Insert_Next.w), (156, .rd kS_Next.w), (166, .rd pS_Next.w), (43, .rd r12Seek_Next.w), (44, .rd r13Splice_Next.w), (33, .rd iI_list.w)]
def iI_Next.t.p1 (S : Sig) (a0 : Value) (s : St) (c1 : List Value) : Option (Value × St) :=
  S.bd (nck a0) fun x17 => S.bd (fld 16 x17) fun x18 => S.bd (lda s 5 x18) fun x19 => S.bd (nck a0) fun x20 => S.bd (fld 15 x20) fun x21 => S.bd (ldc s x21) fun x22 => S.bd (bin .sub x22 (.int .i64 1)) fun x23 => S.bd (iI_list.r a0 x23 s) fun x24 => S.bd (bld [(.int .i64 0), (.int .i64 0), (.int .u64 0), (.int .i64 0), (.int .i64 0), (.int .u64 0), (.int .i64 0), (.int .u64 0), (.int .i64 0), (.int .i64 0), (.int .u64 0), (.int .i64 0), (.int .u64 0), (.int .i64 0), (.int .i64 0)] [(0, 1, (.int .i64 1)), (1, 2, x24)]) fun x25 => S.bd (bld [(.int .i64 0), (.int .i64 0), (.int .i64 0), (.int .u64 0), (.int .i64 0), (.int .u64 0), (.int .i64 0), (.int .i64 0), (.int .u64 0), (.int .i64 0), (.int .i64 0), (.int .u64 0), (.int .i64 0), (.int .u64 0), (.int .i64 0), (.int .i64 0), (.int .u64 0), (.int .i64 0), (.int .u64 0), (.int .i64 0), (.int .i64 0), (.int .i64 0), (.int .u64 0), (.slice none 0 0), (.slice none 0 0), (.int .i64 0), (.int .i64 0), (.int .u64 0), (.int .i64 0), (.int .u64 0), (.int .i64 0), (.int .i64 0), (.int .u64 0), (.int .i64 0), (.int .u64 0), (.bool Bool.false)] [(0, 1, (.int .i64 1)), (1, 5, x19), (6, 15, x25)]) fun x26 => S.bd (stl c1 0 36 x26) fun c27 => S.bd (lal c27 0 36) fun x28 => some (x28, s)
def iI_Next.t.p2 (S : Sig) (a0 : Value) (s : St) (c1 : List Value) : Option (Value × St) :=
  S.bd (nck a0) fun x30 => S.bd (fld 0 x30) fun x31 => S.bd (fld 1 x31) fun x32 => S.bd (lda s 5 x32) fun x33 => S.bd (bld [(.int .i64 0), (.int .i64 0), (.int .u64 0), (.int .i64 0), (.int .i64 0), (.int .u64 0), (.int .i64 0), (.int .u64 0), (.int .i64 0), (.int .i64 0), (.int .u64 0), (.int .i64 0), (.int .u64 0), (.int .i64 0), (.int .i64 0)] [(0, 1, (.int .i64 10))]) fun x34 => S.bd (bld [(.int .i64 0), (.int .i64 0), (.int .i64 0), (.int .u64 0), (.int .i64 0), (.int .u64 0), (.int .i64 0), (.int .i64 0), (.int .u64 0), (.int .i64 0), (.int .i64 0), (.int .u64 0), (.int .i64 0), (.int .u64 0), (.int .i64 0), (.int .i64 0), (.int .u64 0), (.int .i64 0), (.int .u64 0), (.int .i64 0), (.int .i64 0), (.int .i64 0), (.int .u64 0), (.slice none 0 0), (.slice none 0 0), (.int .i64 0), (.int .i64 0), (.int .u64 0), (.int .i64 0), (.int .u64 0), (.int .i64 0), (.int .i64 0), (.int .u64 0), (.int .i64 0), (.int .u64 0), (.bool Bool.false)] [(0, 1, (.int .i64 1)), (1, 5, x33), (6, 15, x34)]) fun x35 => S.bd (stl c1 0 36 x35) fun c36 => S.bd (lal c36 0 36) fun x37 => some (x37, s)
def iI_Next.t.p3 (S : Sig) (a0 : Value) (s : St) (c1 : List Value) : Option (Value × St) :=
  S.bd (nck a0) fun x39 => S.bd (fld 22 x39) fun x40 => S.bd (ldc s x40) fun x41 => S.bd (bld [(.int .i64 0), (.int .u64 0), (.slice none 0 0), (.slice none 0 0), (.int .i64 0), (.int .i64 0), (.int .u64 0), (.int .i64 0), (.int .u64 0), (.int .i64 0), (.int .i64 0), (.int .u64 0), (.int .i64 0), (.int .u64 0), (.bool Bool.false)] [(0, 1, x41)]) fun x42 => S.bd (bld [(.int .i64 0), (.int .i64 0), (.int .i64 0), (.int .u64 0), (.int .i64 0), (.int .u64 0), (.int .i64 0), (.int .i64 0), (.int .u64 0), (.int .i64 0), (.int .i64 0), (.int .u64 0), (.int .i64 0), (.int .u64 0), (.int .i64 0), (.int .i64 0), (.int .u64 0), (.int .i64 0), (.int .u64 0), (.int .i64 0), (.int .i64 0), (.int .i64 0), (.int .u64 0), (.slice none 0 0), (.slice none 0 0), (.int .i64 0), (.int .i64 0), (.int .u64 0), (.int .i64 0), (.int .u64 0), (.int .i64 0), (.int .i64 0), (.int .u64 0), (.int .i64 0), (.int .u64 0), (.bool Bool.false)] [(0, 1, (.int .i64 3)), (21, 15, x42)]) fun x43 => S.bd (stl c1 0 36 x43) fun c44 => S.bd (lal c44 0 36) fun x45 => some (x45, s)
def iI_Next.t.p4 (S : Sig) (a0 : Value) (s : St) (c1 : List Value) : Option (Value × St) :=
  S.bd (nck a0) fun x6 => S.bd (fld 13 x6) fun x7 => S.bd (ldc s x7) fun x8 => S.bd (eqb [1] false false x8 (.int .i64 1)) fun x9 => S.cnd x9 (S.bd (nck a0) fun x10 => S.bd (fld 14 x10) fun x11 => S.bd (ldc s x11) fun x12 => S.bd (callI Tryz.prog (iI_Next.ctx) "Next" x12 [] s) fun r13 => S.bd (stl c1 0 36 r13.1) fun c14 => S.bd (lal c14 0 36) fun x15 => some (x15, r13.2)) (S.bd (eqb [1] false false x8 (.int .i64 2)) fun x16 => S.cnd x16 (iI_Next.t.p1 S a0 s c1) (S.bd (eqb [1] false false x8 (.int .i64 3)) fun x29 => S.cnd x29 (iI_Next.t.p2 S a0 s c1) (S.bd (eqb [1] false false x8 (.int .i64 4)) fun x38 => S.cnd x38 (iI_Next.t.p3 S a0 s c1) (S.bd (bld [(.int .i64 0), (.int .i64 0), (.int .i64 0), (.int .u64 0), (.int .i64 0), (.int .u64 0), (.int .i64 0), (.int .i64 0), (.int .u64 0), (.int .i64 0), (.int .i64 0), (.int .u64 0), (.int .i64 0), (.int .u64 0), (.int .i64 0), (.int .i64 0), (.int .u64 0), (.int .i64 0), (.int .u64 0), (.int .i64 0), (.int .i64 0), (.int .i64 0), (.int .u64 0), (.slice none 0 0), (.slice none 0 0), (.int .i64 0), (.int .i64 0), (.int .u64 0), (.int .i64 0), (.int .u64 0), (.int .i64 0), (.int .i64 0), (.int .u64 0), (.int .i64 0), (.int .u64 0), (.bool Bool.false)] []) fun x46 => S.bd (stl c1 0 36 x46) fun c47 => S.bd (lal c47 0 36) fun x48 => some (x48, s)))))
def iI_Next.t (S : Sig) (a0 : Value) (s : St) : Option (Value × St) :=
  S.bd (bx (Go.Value.agg #[(.int .i64 0), (.int .i64 0), (.int .i64 0), (.int .u64 0), (.int .i64 0), (.int .u64 0), (.int .i64 0), (.int .i64 0), (.int .u64 0), (.int .i64 0), (.int .i64 0), (.int .u64 0), (.int .i64 0), (.int .u64 0), (.int .i64 0), (.int .i64 0), (.int .u64 0), (.int .i64 0), (.int .u64 0), (.int .i64 0), (.int .i64 0), (.int .i64 0), (.int .u64 0), (.slice none 0 0), (.slice none 0 0), (.int .i64 0), (.int .i64 0), (.int .u64 0), (.int .i64 0), (.int .u64 0), (.int .i64 0), (.int .i64 0), (.int .u64 0), (.int .i64 0), (.int .u64 0), (.bool Bool.false)])) fun c1 => S.bd (eqb [3] false false a0 (.pointer none)) fun x2 => S.cnd x2 (S.bd (bld [(.int .i64 0), (.int .i64 0), (.int .i64 0), (.int .u64 0), (.int .i64 0), (.int .u64 0), (.int .i64 0), (.int .i64 0), (.int .u64 0), (.int .i64 0), (.int .i64 0), (.int .u64 0), (.int .i64 0), (.int .u64 0), (.int .i64 0), (.int .i64 0), (.int .u64 0), (.int .i64 0), (.int .u64 0), (.int .i64 0), (.int .i64 0), (.int .i64 0), (.int .u64 0), (.slice none 0 0), (.slice none 0 0), (.int .i64 0), (.int .i64 0), (.int .u64 0), (.int .i64 0), (.int .u64 0), (.int .i64 0), (.int .i64 0), (.int .u64 0), (.int .i64 0), (.int .u64 0), (.bool Bool.false)] []) fun x3 => S.bd (stl c1 0 36 x3) fun c4 => S.bd (lal c4 0 36) fun x5 => some (x5, s)) (iI_Next.t.p4 S a0 s c1)
def iI_Next.v (a0 : Value) (s : St) : Option (Value × St) := iI_Next.t std a0 s
def iI_Next.w : List Value → St → Option (Value × St)
  | [a0], s => iI_Next.v a0 s
  | _, _ => none
def iI_Next.an : An := ⟨50, false, [2], [], [], [(7, [(z4 0 0), (z4 1 0), (z4 2 0), (z4 3 2), (z4 4 0), (z4 5 0), (z4 6 0), (z4 7 0), (z4 8 2), (z4 9 0), (z4 10 3), (z4 11 0), (z4 12 0), (z4 13 21)])]⟩
theorem iI_Next.ok (S : Sig) (a0 : Value) (s : St) : evF S Tryz.prog iI_Next.ctx iI_Next.an Tryz.f15 [a0] s = iI_Next.t S a0 s := by kernel_rfl
theorem iI_Next.cok : CtxOk Tryz.prog iI_Next.ctx := .cons r15Insert_Next.sound r15Insert_Next.can <| .cons kS_Next.sound kS_Next.can <| .cons pS_Next.sound pS_Next.can <| .cons r12Seek_Next.sound r12Seek_Next.can <| .cons r13Splice_Next.sound r13Splice_Next.can <| .cons iI_list.sound iI_list.can <| .nil
theorem iI_Next.draws : fnDraws iI_Next.an Tryz.f15 = true := by kernel_rfl
theorem iI_Next.can : callOk Tryz.prog 15 = true := by kernel_rfl
theorem iI_Next.sound : FnOk Tryz.prog 15 (.st iI_Next.w) := FnOk.st_of (evF_ok iI_Next.cok mixed (f := 15) (fn := Tryz.f15) (by kernel_rfl) iI_Next.draws) fun args s r h => by
  unfold iI_Next.w at h; split at h
  · rw [iI_Next.ok std]; exact h
  · simp at h
def iI_up.ctx : Ctx := []
def iI_up.t (S : Sig) (a0 : Value) (s : St) : Option (Value × St) :=
  S.bd (nck a0) fun x1 => S.bd (fld 15 x1) fun x2 => S.bd (ldc s x2) fun x3 => S.bd (nck a0) fun x4 => S.bd (fld 0 x4) fun x5 => S.bd (fld 0 x5) fun x6 => S.bd (ldc s x6) fun x7 => S.bd (eqb [1] false false x3 x7) fun x8 => S.cnd x8 (S.bd (nck a0) fun x9 => S.bd (fld 13 x9) fun x10 => S.bd (stv s 1 x10 (.int .i64 3)) fun s11 => some ((Value.tuple ⟨[]⟩), s11)) (S.bd (nck a0) fun x12 => S.bd (fld 15 x12) fun x13 => S.bd (ldc s x13) fun x14 => S.bd (bin .add x14 (.int .i64 1)) fun x15 => S.bd (nck a0) fun x16 => S.bd (fld 15 x16) fun x17 => S.bd (stv s 1 x17 x15) fun s18 => S.bd (nck a0) fun x19 => S.bd (fld 0 x19) fun x20 => S.bd (fld 1 x20) fun x21 => S.bd (lda s18 5 x21) fun x22 => S.bd (nck a0) fun x23 => S.bd (fld 13 x23) fun x24 => S.bd (stv s18 1 x24 (.int .i64 2)) fun s25 => S.bd (nck a0) fun x26 => S.bd (fld 16 x26) fun x27 => S.bd (stv s25 5 x27 x22) fun s28 => some ((Value.tuple ⟨[]⟩), s28))
def iI_up.v (a0 : Value) (s : St) : Option (Value × St) := iI_up.t std a0 s
def iI_up.w : List Value → St → Option (Value × St)
  | [a0], s => iI_up.v a0 s
  | _, _ => none
def iI_up.an : An := ⟨33, false, [], [], [], [(0, [(z4 0 0), (z4 1 0), (z4 2 0), (z4 3 2), (z4 4 0), (z4 5 0), (z4 6 0), (z4 7 0), (z4 8 2), (z4 9 0)])]⟩
theorem iI_up.ok (S : Sig) (a0 : Value) (s : St) : evF S Tryz.prog iI_up.ctx iI_up.an Tryz.f116 [a0] s = iI_up.t S a0 s := by kernel_rfl
theorem iI_up.cok : CtxOk Tryz.prog iI_up.ctx := .nil
theorem iI_up.draws : fnDraws iI_up.an Tryz.f116 = true := by kernel_rfl
theorem iI_up.can : callOk Tryz.prog 116 = true := by kernel_rfl
theorem iI_up.sound : FnOk Tryz.prog 116 (.st iI_up.w) := FnOk.st_of (evF_ok iI_up.cok mixed (f := 116) (fn := Tryz.f116) (by kernel_rfl) iI_up.draws) fun args s r h => by
  unfold iI_up.w at h; split at h
  · rw [iI_up.ok std]; exact h
  · simp at h
def iI_end.ctx : Ctx := []
def iI_end.t (S : Sig) (a0 a1 : Value) (s : St) : Option (Value × St) :=
  S.bd (nck a0) fun x1 => S.bd (fld 13 x1) fun x2 => S.bd (stv s 1 x2 (.int .i64 4)) fun s3 => S.bd (nck a0) fun x4 => S.bd (fld 22 x4) fun x5 => S.bd (stv s3 1 x5 a1) fun s6 => some ((Value.tuple ⟨[]⟩), s6)
def iI_end.v (a0 a1 : Value) (s : St) : Option (Value × St) := iI_end.t std a0 a1 s
def iI_end.w : List Value → St → Option (Value × St)
  | [a0, a1], s => iI_end.v a0 a1 s
  | _, _ => none
def iI_end.an : An := ⟨11, false, [], [], [], []⟩
theorem iI_end.ok (S : Sig) (a0 a1 : Value) (s : St) : evF S Tryz.prog iI_end.ctx iI_end.an Tryz.f39 [a0, a1] s = iI_end.t S a0 a1 s := by kernel_rfl
theorem iI_end.cok : CtxOk Tryz.prog iI_end.ctx := .nil
theorem iI_end.draws : fnDraws iI_end.an Tryz.f39 = true := by kernel_rfl
theorem iI_end.can : callOk Tryz.prog 39 = true := by kernel_rfl
theorem iI_end.sound : FnOk Tryz.prog 39 (.st iI_end.w) := FnOk.st_of (evF_ok iI_end.cok mixed (f := 39) (fn := Tryz.f39) (by kernel_rfl) iI_end.draws) fun args s r h => by
  unfold iI_end.w at h; split at h
  · rw [iI_end.ok std]; exact h
  · simp at h
def iI_head.ctx : Ctx := []
def iI_head.t (S : Sig) (a0 : Value) (s : St) : Option Value :=
  S.bd (bx (Go.Value.agg #[(.int .i64 0), (.int .i64 0), (.int .u64 0), (.int .i64 0), (.int .u64 0)])) fun c1 => S.bd (bld [(.int .i64 0), (.int .u64 0)] [(0, 1, (.int .i64 1))]) fun x2 => S.bd (nck a0) fun x3 => S.bd (fld 0 x3) fun x4 => S.bd (fld 0 x4) fun x5 => S.bd (ldc s x5) fun x6 => S.bd (bld [(.int .i64 0), (.int .u64 0)] [(0, 1, x6)]) fun x7 => S.bd (bld [(.int .i64 0), (.int .i64 0), (.int .u64 0), (.int .i64 0), (.int .u64 0)] [(1, 2, x2), (3, 2, x7)]) fun x8 => S.bd (stl c1 0 5 x8) fun c9 => S.bd (lal c9 0 5) fun x10 => some (x10)
def iI_head.r (a0 : Value) (s : St) : Option Value := iI_head.t std a0 s
def iI_head.w : List Value → St → Option Value
  | [a0], s => iI_head.r a0 s
  | _, _ => none
def iI_head.an : An := ⟨11, true, [2], [], [], []⟩
theorem iI_head.ok (S : Sig) (a0 : Value) (s : St) : evG S Tryz.prog iI_head.ctx iI_head.an Tryz.f32 [a0] s = iI_head.t S a0 s := by kernel_rfl
theorem iI_head.cok : CtxOk Tryz.prog iI_head.ctx := .nil
theorem iI_head.draws : fnDraws iI_head.an Tryz.f32 = true := by kernel_rfl
theorem iI_head.can : callOk Tryz.prog 32 = true := by kernel_rfl
theorem iI_head.sound : FnOk Tryz.prog 32 (.rd iI_head.w) := FnOk.rd_of (evG_ok iI_head.cok mixed (f := 32) (fn := Tryz.f32) (by kernel_rfl) iI_head.draws) fun args s r h => by
  unfold iI_head.w at h; split at h
  · rw [iI_head.ok std]; exact h
  · simp at h
def seek_right.ctx : Ctx := [(56, .rd key_Check.w), (30, .rd vec_Right.w)]
def seek_right.t (S : Sig) (a0 a1 : Value) (s : St) : Option Value :=
  S.bd (bx a0) fun c1 => S.bd (lal c1 1 2) fun x2 => S.bd (key_Check.r x2 s) fun x3 => S.bd (eqb [1] false false x3 (.int .i64 0)) fun x4 => S.bd (S.gd x4 true (lal c1 3 2)) fun x5 => S.bd (S.gd x4 true (vec_Right.r x5 s)) fun x6 => S.bd (S.gd x4 true (eqb [1] false false x6 (.int .i64 0))) fun x7 => S.bd (pik x4 x7 (.bool Bool.false)) fun x8 => S.bd (S.gd x8 true (lcl c1 3)) fun x9 => S.bd (S.gd x8 true (some a1)) fun x10 => S.bd (S.gd x8 true (eqb [1] false false x9 x10)) fun x11 => S.bd (pik x8 x11 (.bool Bool.false)) fun x12 => some (x12)
def seek_right.r (a0 a1 : Value) (s : St) : Option Value := seek_right.t std a0 a1 s
def seek_right.w : List Value → St → Option Value
  | [a0, a1], s => seek_right.r a0 a1 s
  | _, _ => none
def seek_right.an : An := ⟨22, true, [2], [], [], []⟩
theorem seek_right.ok (S : Sig) (a0 a1 : Value) (s : St) : evG S Tryz.prog seek_right.ctx seek_right.an Tryz.f55 [a0, a1] s = seek_right.t S a0 a1 s := by kernel_rfl
theorem seek_right.cok : CtxOk Tryz.prog seek_right.ctx := .cons key_Check.sound key_Check.can <| .cons vec_Right.sound vec_Right.can <| .nil
theorem seek_right.draws : fnDraws seek_right.an Tryz.f55 = true := by kernel_rfl
theorem seek_right.can : callOk Tryz.prog 55 = true := by kernel_rfl
theorem seek_right.sound : FnOk Tryz.prog 55 (.rd seek_right.w) := FnOk.rd_of (evG_ok seek_right.cok mixed (f := 55) (fn := Tryz.f55) (by kernel_rfl) seek_right.draws) fun args s r h => by
  unfold seek_right.w at h; split at h
  · rw [seek_right.ok std]; exact h
  · simp at h
def seek_New.ctx : Ctx := [(55, .rd seek_right.w), (56, .rd key_Check.w)]
def seek_New.t.p1 (S : Sig) (x6 : Value) (x9 : Value) (c1 : List Value) (s : St) : Option (Value × St) :=
  S.bd (S.gd x6 false (un .not x9)) fun x10 => S.bd (pik x6 (.bool Bool.true) x10) fun x11 => S.bd (S.gd x11 false (lal c1 6 2)) fun x12 => S.bd (S.gd x11 false (key_Check.r x12 s)) fun x13 => S.bd (S.gd x11 false (eqb [1] false true x13 (.int .i64 0))) fun x14 => S.bd (pik x11 (.bool Bool.true) x14) fun x15 => S.bd (S.gd x15 false (lcl c1 6)) fun x16 => S.bd (S.gd x15 false (eqb [1] false false x16 (.int .i64 1))) fun x17 => S.bd (pik x15 (.bool Bool.true) x17) fun x18 => S.cnd x18 (some ((Value.tuple ⟨[(.pointer none), (.int .i64 120)]⟩), s)) (S.bd (lal c1 0 8) fun x19 => S.bd (lal c1 1 5) fun x20 => S.bd (lal c1 4 2) fun x21 => S.bd (mkm s) fun r22 => S.bd (bld [(.int .i64 0), (.int .i64 0), (.int .i64 0), (.int .u64 0), (.int .i64 0), (.int .u64 0), (.int .i64 0), (.int .u64 0), (.bool Bool.false), (.int .i64 0), (.int .i64 0), (.int .u64 0), (.int .i64 0), (.int .u64 0), (.int .i64 0), (.int .u64 0), (.bool Bool.false), (.int .i64 0), (.int .i64 0), (.int .u64 0), (.int .i64 0), (.int .u64 0), (Go.Value.map Option.none), (.int .i64 0), (.bool Bool.false), (.int .i64 0), (.int .u64 0), (.slice none 0 0), (.slice none 0 0), (.int .i64 0), (.int .i64 0), (.int .u64 0), (.int .i64 0), (.int .u64 0), (.int .i64 0), (.int .i64 0), (.int .u64 0), (.int .i64 0), (.int .u64 0), (.bool Bool.false)] [(0, 8, x19), (8, 1, (.bool Bool.true)), (9, 5, x20), (14, 2, x21), (22, 1, r22.1)]) fun x23 => S.bd (alv r22.2 x23) fun r24 => some ((Value.tuple ⟨[r24.1, (.int .i64 0)]⟩), r24.2))
def seek_New.t (S : Sig) (a0 : Value) (s : St) : Option (Value × St) :=
  S.bd (bx a0) fun c1 => S.bd (lcl c1 0) fun x2 => S.bd (bin .lss x2 (.int .i64 0)) fun x3 => S.bd (S.gd x3 false (lcl c1 0)) fun x4 => S.bd (S.gd x3 false (bin .gtr x4 (.int .i64 32))) fun x5 => S.bd (pik x3 (.bool Bool.true) x5) fun x6 => S.bd (S.gd x6 false (lal c1 1 5)) fun x7 => S.bd (S.gd x6 false (lcl c1 0)) fun x8 => S.bd (S.gd x6 false (seek_right.r x7 x8 s)) fun x9 => seek_New.t.p1 S x6 x9 c1 s
def seek_New.v (a0 : Value) (s : St) : Option (Value × St) := seek_New.t std a0 s
def seek_New.w : List Value → St → Option (Value × St)
  | [a0], s => seek_New.v a0 s
  | _, _ => none
def seek_New.an : An := ⟨41, false, [1], [], [], []⟩
theorem seek_New.ok (S : Sig) (a0 : Value) (s : St) : evF S Tryz.prog seek_New.ctx seek_New.an Tryz.f29 [a0] s = seek_New.t S a0 s := by kernel_rfl
theorem seek_New.cok : CtxOk Tryz.prog seek_New.ctx := .cons seek_right.sound seek_right.can <| .cons key_Check.sound key_Check.can <| .nil
theorem seek_New.draws : fnDraws seek_New.an Tryz.f29 = true := by kernel_rfl
theorem seek_New.can : callOk Tryz.prog 29 = true := by kernel_rfl
theorem seek_New.sound : FnOk Tryz.prog 29 (.st seek_New.w) := FnOk.st_of (evF_ok seek_New.cok mixed (f := 29) (fn := Tryz.f29) (by kernel_rfl) seek_New.draws) fun args s r h => by
  unfold seek_New.w at h; split at h
  · rw [seek_New.ok std]; exact h
  · simp at h
def iI_seek.ctx : Ctx := [(39, .st iI_end.w), (32, .rd iI_head.w), (29, .st seek_New.w)]
def iI_seek.t (S : Sig) (a0 : Value) (s : St) : Option (Value × St) :=
  S.bd (nck a0) fun x1 => S.bd (fld 21 x1) fun x2 => S.bd (ldc s x2) fun x3 => S.bd (bin .geq x3 (.int .i64 64)) fun x4 => S.cnd x4 (S.bd (iI_end.v a0 (.int .i64 121) s) fun r5 => some ((Value.tuple ⟨[]⟩), r5.2)) (S.bd (nck a0) fun x6 => S.bd (fld 21 x6) fun x7 => S.bd (ldc s x7) fun x8 => S.bd (bin .add x8 (.int .i64 1)) fun x9 => S.bd (nck a0) fun x10 => S.bd (fld 21 x10) fun x11 => S.bd (stv s 1 x11 x9) fun s12 => S.bd (nck a0) fun x13 => S.bd (fld 0 x13) fun x14 => S.bd (fld 0 x14) fun x15 => S.bd (ldc s12 x15) fun x16 => S.bd (nck a0) fun x17 => S.bd (fld 0 x17) fun x18 => S.bd (fld 1 x18) fun x19 => S.bd (fld 1 x19) fun x20 => S.bd (lda s12 2 x20) fun x21 => S.bd (iI_head.r a0 s12) fun x22 => S.bd (bld [(.int .i64 0), (.int .i64 0), (.int .i64 0), (.int .u64 0), (.int .i64 0), (.int .u64 0), (.int .i64 0), (.int .u64 0)] [(0, 1, x16), (1, 5, x22), (6, 2, x21)]) fun x23 => S.bd (seek_New.v x23 s12) fun r24 => S.bd (ldc r24.2 x15) fun x25 => S.cnd (Value.bool (sameV x25 x16)) (S.bd (lda r24.2 2 x20) fun x26 => S.cnd (Value.bool (sameV x26 x21)) (S.bd (xtr 0 r24.1) fun x27 => S.bd (xtr 1 r24.1) fun x28 => S.bd (nck a0) fun x29 => S.bd (fld 13 x29) fun x30 => S.bd (stv r24.2 1 x30 (.int .i64 1)) fun s31 => S.bd (nck a0) fun x32 => S.bd (fld 14 x32) fun x33 => S.bd (stv s31 1 x33 (Value.iface 103 x27)) fun s34 => some ((Value.tuple ⟨[]⟩), s34)) (none)) (none))
def iI_seek.v (a0 : Value) (s : St) : Option (Value × St) := iI_seek.t std a0 s
def iI_seek.w : List Value → St → Option (Value × St)
  | [a0], s => iI_seek.v a0 s
  | _, _ => none
def iI_seek.an : An := ⟨44, false, [], [], [], [(3, [(z4 0 0), (z4 1 0), (z4 2 0), (z4 3 0), (z4 4 2), (z4 5 0), (z4 7 0), (z4 8 0), (z4 9 0), (z4 10 0), (z4 11 0), (z4 12 2), (z4 6 3), (z4 13 0), (14, 4, [4, 12], []), (z4 15 0), (z4 16 0), (z4 17 0), (z4 18 0), (z4 19 0)])]⟩
theorem iI_seek.ok (S : Sig) (a0 : Value) (s : St) : evF S Tryz.prog iI_seek.ctx iI_seek.an Tryz.f117 [a0] s = iI_seek.t S a0 s := by kernel_rfl
theorem iI_seek.cok : CtxOk Tryz.prog iI_seek.ctx := .cons iI_end.sound iI_end.can <| .cons iI_head.sound iI_head.can <| .cons seek_New.sound seek_New.can <| .nil
theorem iI_seek.draws : fnDraws iI_seek.an Tryz.f117 = true := by kernel_rfl
theorem iI_seek.can : callOk Tryz.prog 117 = true := by kernel_rfl
theorem iI_seek.sound : FnOk Tryz.prog 117 (.st iI_seek.w) := FnOk.st_of (evF_ok iI_seek.cok mixed (f := 117) (fn := Tryz.f117) (by kernel_rfl) iI_seek.draws) fun args s r h => by
  unfold iI_seek.w at h; split at h
  · rw [iI_seek.ok std]; exact h
  · simp at h
def vec_Begins.ctx : Ctx := [(30, .rd vec_Right.w), (100, .rd vec_prefix.w)]
def vec_Begins.t (S : Sig) (a0 a1 : Value) (s : St) : Option Value :=
  S.bd (bx a0) fun c1 => S.bd (bx a1) fun c2 => S.bd (lal c1 0 2) fun x3 => S.bd (vec_Right.r x3 s) fun x4 => S.bd (eqb [1] false false x4 (.int .i64 0)) fun x5 => S.bd (S.gd x5 true (lal c2 0 2)) fun x6 => S.bd (S.gd x5 true (vec_Right.r x6 s)) fun x7 => S.bd (S.gd x5 true (eqb [1] false false x7 (.int .i64 0))) fun x8 => S.bd (pik x5 x8 (.bool Bool.false)) fun x9 => S.bd (S.gd x9 true (lcl c2 0)) fun x10 => S.bd (S.gd x9 true (lcl c1 0)) fun x11 => S.bd (S.gd x9 true (bin .leq x10 x11)) fun x12 => S.bd (pik x9 x12 (.bool Bool.false)) fun x13 => S.bd (S.gd x13 true (lal c1 0 2)) fun x14 => S.bd (S.gd x13 true (lcl c2 0)) fun x15 => S.bd (S.gd x13 true (lal c2 0 2)) fun x16 => S.bd (S.gd x13 true (vec_prefix.r x14 x15 s)) fun x17 => S.bd (S.gd x13 true (eqb [1, 1] true false x17 x16)) fun x18 => S.bd (pik x13 x18 (.bool Bool.false)) fun x19 => some (x19)
def vec_Begins.r (a0 a1 : Value) (s : St) : Option Value := vec_Begins.t std a0 a1 s
def vec_Begins.w : List Value → St → Option Value
  | [a0, a1], s => vec_Begins.r a0 a1 s
  | _, _ => none
def vec_Begins.an : An := ⟨28, true, [2, 3], [], [], [(1, [(z4 0 17), (z4 1 3), (z4 2 0), (z4 3 0), (z4 4 25), (z4 5 3), (z4 6 0), (z4 7 0), (z4 8 0), (z4 9 0), (z4 10 25), (z4 11 0), (z4 12 17), (z4 13 0), (z4 14 0), (z4 15 0), (z4 16 17), (z4 17 0), (z4 18 25), (z4 20 25), (z4 19 3), (z4 21 0), (z4 22 0), (z4 23 0)])]⟩
theorem vec_Begins.ok (S : Sig) (a0 a1 : Value) (s : St) : evG S Tryz.prog vec_Begins.ctx vec_Begins.an Tryz.f58 [a0, a1] s = vec_Begins.t S a0 a1 s := by kernel_rfl
theorem vec_Begins.cok : CtxOk Tryz.prog vec_Begins.ctx := .cons vec_Right.sound vec_Right.can <| .cons vec_prefix.sound vec_prefix.can <| .nil
theorem vec_Begins.draws : fnDraws vec_Begins.an Tryz.f58 = true := by kernel_rfl
theorem vec_Begins.can : callOk Tryz.prog 58 = true := by kernel_rfl
theorem vec_Begins.sound : FnOk Tryz.prog 58 (.rd vec_Begins.w) := FnOk.rd_of (evG_ok vec_Begins.cok mixed (f := 58) (fn := Tryz.f58) (by kernel_rfl) vec_Begins.draws) fun args s r h => by
  unfold vec_Begins.w at h; split at h
  · rw [vec_Begins.ok std]; exact h
  · simp at h
def lock_Check.ctx : Ctx := []
def lock_Check.t (S : Sig) (a0 : Value) (s : St) : Option Value :=
  S.bd (bx a0) fun c1 => S.bd (lcl c1 0) fun x2 => S.bd (bin .lss x2 (.int .i64 0)) fun x3 => S.bd (S.gd x3 false (lcl c1 0)) fun x4 => S.bd (S.gd x3 false (bin .geq x4 (.int .i64 1024))) fun x5 => S.bd (pik x3 (.bool Bool.true) x5) fun x6 => S.bd (S.gd x6 false (lcl c1 1)) fun x7 => S.bd (S.gd x6 false (bin .lss x7 (.int .i64 1))) fun x8 => S.bd (pik x6 (.bool Bool.true) x8) fun x9 => S.bd (S.gd x9 false (lcl c1 1)) fun x10 => S.bd (S.gd x9 false (bin .gtr x10 (.int .i64 1073741824))) fun x11 => S.bd (pik x9 (.bool Bool.true) x11) fun x12 => S.cnd x12 (some ((.int .i64 70))) (some ((.int .i64 0)))
def lock_Check.r (a0 : Value) (s : St) : Option Value := lock_Check.t std a0 s
def lock_Check.w : List Value → St → Option Value
  | [a0], s => lock_Check.r a0 s
  | _, _ => none
def lock_Check.an : An := ⟨21, true, [1], [], [], []⟩
theorem lock_Check.ok (S : Sig) (a0 : Value) (s : St) : evG S Tryz.prog lock_Check.ctx lock_Check.an Tryz.f60 [a0] s = lock_Check.t S a0 s := by kernel_rfl
theorem lock_Check.cok : CtxOk Tryz.prog lock_Check.ctx := .nil
theorem lock_Check.draws : fnDraws lock_Check.an Tryz.f60 = true := by kernel_rfl
theorem lock_Check.can : callOk Tryz.prog 60 = true := by kernel_rfl
theorem lock_Check.sound : FnOk Tryz.prog 60 (.rd lock_Check.w) := FnOk.rd_of (evG_ok lock_Check.cok mixed (f := 60) (fn := Tryz.f60) (by kernel_rfl) lock_Check.draws) fun args s r h => by
  unfold lock_Check.w at h; split at h
  · rw [lock_Check.ok std]; exact h
  · simp at h
def splice_New.ctx : Ctx := [(58, .rd vec_Begins.w), (56, .rd key_Check.w), (59, .rd key_Less.w), (30, .rd vec_Right.w), (60, .rd lock_Check.w)]
def splice_New.t.p1 (S : Sig) (x18 : Value) (c1 : List Value) (s : St) : Option (Value × St) :=
  S.bd (S.gd x18 false (lal c1 0 2)) fun x19 => S.bd (S.gd x18 false (vec_Right.r x19 s)) fun x20 => S.bd (S.gd x18 false (eqb [1] false true x20 (.int .i64 0))) fun x21 => S.bd (pik x18 (.bool Bool.true) x21) fun x22 => S.bd (S.gd x22 false (lal c1 12 2)) fun x23 => S.bd (S.gd x22 false (lock_Check.r x23 s)) fun x24 => S.bd (S.gd x22 false (eqb [1] false true x24 (.int .i64 0))) fun x25 => S.bd (pik x22 (.bool Bool.true) x25) fun x26 => S.cnd x26 (some ((Value.tuple ⟨[(.pointer none), (.int .i64 130)]⟩), s)) (S.bd (lal c1 0 14) fun x27 => S.bd (lal c1 7 5) fun x28 => S.bd (bld [(.int .i64 0), (.int .u64 0), (.int .i64 0), (.int .i64 0), (.int .u64 0), (.int .i64 0), (.int .u64 0), (.int .i64 0), (.int .i64 0), (.int .u64 0), (.int .i64 0), (.int .u64 0), (.int .i64 0), (.int .i64 0), (.int .i64 0), (.int .i64 0), (.int .i64 0), (.int .u64 0), (.int .i64 0), (.int .u64 0), (.pointer none), (.int .i64 0), (.int .i64 0), (.int .u64 0), (.int .i64 0), (.int .u64 0), (.bool Bool.false), (.bool Bool.false), Go.Value.nilFunc, (.int .i64 0), (.int .u64 0), (.slice none 0 0), (.slice none 0 0), (.int .i64 0), (.int .i64 0), (.int .u64 0), (.int .i64 0), (.int .u64 0), (.int .i64 0), (.int .i64 0), (.int .u64 0), (.int .i64 0), (.int .u64 0), (.bool Bool.false)] [(0, 14, x27), (14, 1, (.int .i64 1)), (15, 5, x28)]) fun x29 => S.bd (alv s x29) fun r30 => some ((Value.tuple ⟨[r30.1, (.int .i64 0)]⟩), r30.2))
def splice_New.t (S : Sig) (a0 : Value) (s : St) : Option (Value × St) :=
  S.bd (bx a0) fun c1 => S.bd (lcl c1 3) fun x2 => S.bd (eqb [1] false false x2 (.int .i64 2)) fun x3 => S.bd (S.gd x3 true (lal c1 5 2)) fun x4 => S.bd (S.gd x3 true (lal c1 0 2)) fun x5 => S.bd (S.gd x3 true (vec_Begins.r x4 x5 s)) fun x6 => S.bd (pik x3 x6 (.bool Bool.false)) fun x7 => S.bd (lal c1 8 2) fun x8 => S.bd (key_Check.r x8 s) fun x9 => S.bd (eqb [1] false false x9 (.int .i64 0)) fun x10 => S.bd (S.gd x10 true (lal c1 8 2)) fun x11 => S.bd (S.gd x10 true (lal c1 3 2)) fun x12 => S.bd (S.gd x10 true (key_Less.r x11 x12 s)) fun x13 => S.bd (pik x10 x13 (.bool Bool.false)) fun x14 => S.bd (un .not x7) fun x15 => S.bd (S.gd x15 false (some x14)) fun x16 => S.bd (S.gd x15 false (un .not x16)) fun x17 => S.bd (pik x15 (.bool Bool.true) x17) fun x18 => splice_New.t.p1 S x18 c1 s
def splice_New.v (a0 : Value) (s : St) : Option (Value × St) := splice_New.t std a0 s
def splice_New.w : List Value → St → Option (Value × St)
  | [a0], s => splice_New.v a0 s
  | _, _ => none
def splice_New.an : An := ⟨56, false, [1], [], [], []⟩
theorem splice_New.ok (S : Sig) (a0 : Value) (s : St) : evF S Tryz.prog splice_New.ctx splice_New.an Tryz.f31 [a0] s = splice_New.t S a0 s := by kernel_rfl
theorem splice_New.cok : CtxOk Tryz.prog splice_New.ctx := .cons vec_Begins.sound vec_Begins.can <| .cons key_Check.sound key_Check.can <| .cons key_Less.sound key_Less.can <| .cons vec_Right.sound vec_Right.can <| .cons lock_Check.sound lock_Check.can <| .nil
theorem splice_New.draws : fnDraws splice_New.an Tryz.f31 = true := by kernel_rfl
theorem splice_New.can : callOk Tryz.prog 31 = true := by kernel_rfl
theorem splice_New.sound : FnOk Tryz.prog 31 (.st splice_New.w) := FnOk.st_of (evF_ok splice_New.cok mixed (f := 31) (fn := Tryz.f31) (by kernel_rfl) splice_New.draws) fun args s r h => by
  unfold splice_New.w at h; split at h
  · rw [splice_New.ok std]; exact h
  · simp at h
def iI_splice.ctx : Ctx := [(33, .rd iI_list.w), (31, .st splice_New.w), (32, .rd iI_head.w)]
def iI_splice.t.p1 (S : Sig) (r16 : Value × St) (x12 : Value) (x13 : Value) (a0 : Value) : Option (Value × St) :=
  S.bd (lda r16.2 2 x12) fun x18 => S.cnd (Value.bool (sameV x18 x13)) (S.bd (xtr 0 r16.1) fun x19 => S.bd (xtr 1 r16.1) fun x20 => S.bd (show Option Cut from S.bd (eqb [1] false true x20 (.int .i64 0)) fun x41 => S.cnd x41 (S.bd (nck a0) fun x42 => S.bd (fld 15 x42) fun x43 => S.bd (ldc r16.2 x43) fun x44 => S.bd (nck a0) fun x45 => S.bd (fld 0 x45) fun x46 => S.bd (fld 1 x46) fun x47 => S.bd (lda r16.2 5 x47) fun x48 => S.bd (nck a0) fun x49 => S.bd (fld 0 x49) fun x50 => S.bd (fld 11 x50) fun x51 => S.bd (lda r16.2 2 x51) fun x52 => S.bd (iI_list.r a0 x44 r16.2) fun x53 => S.bd (iI_head.r a0 r16.2) fun x54 => S.bd (bld [(.int .i64 0), (.int .u64 0), (.int .i64 0), (.int .i64 0), (.int .u64 0), (.int .i64 0), (.int .u64 0), (.int .i64 0), (.int .i64 0), (.int .u64 0), (.int .i64 0), (.int .u64 0), (.int .i64 0), (.int .i64 0)] [(0, 2, x53), (2, 5, x48), (7, 5, x54), (12, 2, x52)]) fun x55 => S.bd (splice_New.v x55 r16.2) fun r56 => S.bd (lda r56.2 5 x47) fun x57 => S.cnd (Value.bool (sameV x57 x48)) (S.bd (lda r56.2 2 x51) fun x58 => S.cnd (Value.bool (sameV x58 x52)) (S.bd (xtr 0 r56.1) fun x59 => S.bd (xtr 1 r56.1) fun x60 => some (0, [a0, x59], r56.2)) (none)) (none)) (some (0, [a0, x19], r16.2))) fun r61 => S.bd (nck (r61.2.1.getD 0 undef)) fun x62 => S.bd (fld 13 x62) fun x63 => S.bd (stv r61.2.2 1 x63 (.int .i64 1)) fun s64 => S.bd (nck (r61.2.1.getD 0 undef)) fun x65 => S.bd (fld 14 x65) fun x66 => S.bd (stv s64 1 x66 (Value.iface 109 (r61.2.1.getD 1 undef))) fun s67 => some ((Value.tuple ⟨[]⟩), s67)) (none)
def iI_splice.t (S : Sig) (a0 a1 : Value) (s : St) : Option (Value × St) :=
  S.bd (bx a1) fun c1 => S.bd (nck a0) fun x2 => S.bd (fld 15 x2) fun x3 => S.bd (ldc s x3) fun x4 => S.bd (nck a0) fun x5 => S.bd (fld 0 x5) fun x6 => S.bd (fld 1 x6) fun x7 => S.bd (lda s 5 x7) fun x8 => S.bd (lal c1 0 5) fun x9 => S.bd (nck a0) fun x10 => S.bd (fld 0 x10) fun x11 => S.bd (fld 11 x11) fun x12 => S.bd (lda s 2 x12) fun x13 => S.bd (iI_list.r a0 x4 s) fun x14 => S.bd (bld [(.int .i64 0), (.int .u64 0), (.int .i64 0), (.int .i64 0), (.int .u64 0), (.int .i64 0), (.int .u64 0), (.int .i64 0), (.int .i64 0), (.int .u64 0), (.int .i64 0), (.int .u64 0), (.int .i64 0), (.int .i64 0)] [(0, 2, x14), (2, 5, x8), (7, 5, x9), (12, 2, x13)]) fun x15 => S.bd (splice_New.v x15 s) fun r16 => S.bd (lda r16.2 5 x7) fun x17 => S.cnd (Value.bool (sameV x17 x8)) (iI_splice.t.p1 S r16 x12 x13 a0) (none)
def iI_splice.v (a0 a1 : Value) (s : St) : Option (Value × St) := iI_splice.t std a0 a1 s
def iI_splice.w : List Value → St → Option (Value × St)
  | [a0, a1], s => iI_splice.v a0 a1 s
  | _, _ => none
def iI_splice.an : An := ⟨61, false, [3], [], [(4, ⟨[], [(.normal, [.v 0, .v 4])]⟩)], [(1, [(z4 0 0), (z4 1 0), (z4 2 0), (z4 3 0), (z4 4 2), (z4 6 0), (z4 7 0), (z4 8 0), (z4 9 0), (z4 10 2), (z4 11 25), (z4 12 0), (z4 13 0), (z4 14 0), (z4 15 0), (z4 16 2), (z4 5 3), (z4 17 0), (18, 4, [10, 16], []), (z4 19 0), (z4 20 0), (z4 21 0), (z4 22 0), (z4 23 0)]), (3, [(z4 0 0), (z4 1 0), (z4 2 0), (z4 3 0), (z4 4 2), (z4 6 0), (z4 7 0), (z4 8 0), (z4 9 0), (z4 10 2), (z4 11 0), (z4 13 0), (z4 14 0), (z4 15 0), (z4 16 0), (z4 17 2), (z4 5 3), (z4 12 3), (z4 18 0), (19, 4, [10, 17], []), (z4 20 0), (z4 21 0), (z4 22 0), (z4 23 0)])]⟩
theorem iI_splice.ok (S : Sig) (a0 a1 : Value) (s : St) : evF S Tryz.prog iI_splice.ctx iI_splice.an Tryz.f76 [a0, a1] s = iI_splice.t S a0 a1 s := by kernel_rfl
theorem iI_splice.cok : CtxOk Tryz.prog iI_splice.ctx := .cons iI_list.sound iI_list.can <| .cons splice_New.sound splice_New.can <| .cons iI_head.sound iI_head.can <| .nil
theorem iI_splice.draws : fnDraws iI_splice.an Tryz.f76 = true := by kernel_rfl
theorem iI_splice.can : callOk Tryz.prog 76 = true := by kernel_rfl
theorem iI_splice.sound : FnOk Tryz.prog 76 (.st iI_splice.w) := FnOk.st_of (evF_ok iI_splice.cok mixed (f := 76) (fn := Tryz.f76) (by kernel_rfl) iI_splice.draws) fun args s r h => by
  unfold iI_splice.w at h; split at h
  · rw [iI_splice.ok std]; exact h
  · simp at h
def iI_spliced.ctx : Ctx := [(116, .st iI_up.w), (39, .st iI_end.w), (117, .st iI_seek.w), (32, .rd iI_head.w), (76, .st iI_splice.w)]
def iI_spliced.t (S : Sig) (a0 a1 : Value) (s : St) : Option (Value × St) :=
  S.bd (eqb [1] false false a1 (.int .i64 0)) fun x1 => S.bd (S.gd x1 false (some a1)) fun x2 => S.bd (S.gd x1 false (eqb [1] false false x2 (.int .i64 133))) fun x3 => S.bd (S.gd x1 false (some x3)) fun x4 => S.bd (S.gd x4 true (some a0)) fun x5 => S.bd (S.gd x4 true (nck x5)) fun x6 => S.bd (S.gd x4 true (fld 15 x6)) fun x7 => S.bd (S.gd x4 true (ldc s x7)) fun x8 => S.bd (S.gd x4 true (bin .gtr x8 (.int .i64 0))) fun x9 => S.bd (S.gd x1 false (pik x4 x9 (.bool Bool.false))) fun x10 => S.bd (pik x1 (.bool Bool.true) x10) fun x11 => S.cnd x11 (S.bd (iI_up.v a0 s) fun r12 => some ((Value.tuple ⟨[]⟩), r12.2)) (S.bd (eqb [1] false true a1 (.int .i64 131)) fun x13 => S.cnd x13 (S.bd (iI_end.v a0 a1 s) fun r14 => some ((Value.tuple ⟨[]⟩), r14.2)) (S.bd (nck a0) fun x15 => S.bd (fld 15 x15) fun x16 => S.bd (ldc s x16) fun x17 => S.bd (eqb [1] false false x17 (.int .i64 0)) fun x18 => S.cnd x18 (S.bd (iI_seek.v a0 s) fun r19 => some ((Value.tuple ⟨[]⟩), r19.2)) (S.bd (iI_head.r a0 s) fun x20 => S.bd (iI_splice.v a0 x20 s) fun r21 => some ((Value.tuple ⟨[]⟩), r21.2))))
def iI_spliced.v (a0 a1 : Value) (s : St) : Option (Value × St) := iI_spliced.t std a0 a1 s
def iI_spliced.w : List Value → St → Option (Value × St)
  | [a0, a1], s => iI_spliced.v a0 a1 s
  | _, _ => none
def iI_spliced.an : An := ⟨38, false, [], [], [], []⟩
theorem iI_spliced.ok (S : Sig) (a0 a1 : Value) (s : St) : evF S Tryz.prog iI_spliced.ctx iI_spliced.an Tryz.f75 [a0, a1] s = iI_spliced.t S a0 a1 s := by kernel_rfl
theorem iI_spliced.cok : CtxOk Tryz.prog iI_spliced.ctx := .cons iI_up.sound iI_up.can <| .cons iI_end.sound iI_end.can <| .cons iI_seek.sound iI_seek.can <| .cons iI_head.sound iI_head.can <| .cons iI_splice.sound iI_splice.can <| .nil
theorem iI_spliced.draws : fnDraws iI_spliced.an Tryz.f75 = true := by kernel_rfl
theorem iI_spliced.can : callOk Tryz.prog 75 = true := by kernel_rfl
theorem iI_spliced.sound : FnOk Tryz.prog 75 (.st iI_spliced.w) := FnOk.st_of (evF_ok iI_spliced.cok mixed (f := 75) (fn := Tryz.f75) (by kernel_rfl) iI_spliced.draws) fun args s r h => by
  unfold iI_spliced.w at h; split at h
  · rw [iI_spliced.ok std]; exact h
  · simp at h
def iI_played.ctx : Ctx := [(15, .st iI_Next.w), (21, .rd r15Insert_Next.w), (156, .rd kS_Next.w), (166, .rd pS_Next.w), (43, .rd r12Seek_Next.w), (44, .rd r13Splice_Next.w), (75, .st iI_spliced.w), (39, .st iI_end.w), (76, .st iI_splice.w)]
def iI_played.t (S : Sig) (a0 : Value) (s : St) : Option (Value × St) :=
  S.bd (nck a0) fun x1 => S.bd (fld 14 x1) fun x2 => S.bd (ldc s x2) fun x3 => S.bd (callI Tryz.prog (iI_played.ctx) "Next" x3 [] s) fun r4 => S.bd (bx (Go.Value.agg #[(.int .i64 0), (.int .i64 0), (.int .i64 0), (.int .u64 0), (.int .i64 0), (.int .u64 0), (.int .i64 0), (.int .i64 0), (.int .u64 0), (.int .i64 0), (.int .i64 0), (.int .u64 0), (.int .i64 0), (.int .u64 0), (.int .i64 0), (.int .i64 0), (.int .u64 0), (.int .i64 0), (.int .u64 0), (.int .i64 0), (.int .i64 0), (.int .i64 0), (.int .u64 0), (.slice none 0 0), (.slice none 0 0), (.int .i64 0), (.int .i64 0), (.int .u64 0), (.int .i64 0), (.int .u64 0), (.int .i64 0), (.int .i64 0), (.int .u64 0), (.int .i64 0), (.int .u64 0), (.bool Bool.false)])) fun c5 => S.bd (stl c5 0 36 r4.1) fun c6 => S.bd (lcl c6 0) fun x7 => S.bd (eqb [1] false true x7 (.int .i64 3)) fun x8 => S.cnd x8 (some ((Value.tuple ⟨[]⟩), r4.2)) (S.bd (nck a0) fun x9 => S.bd (fld 14 x9) fun x10 => S.bd (ldc r4.2 x10) fun x11 => S.bd (tas Tryz.prog 109 true (.pointer none) x11) fun x12 => S.bd (xtr 1 x12) fun x13 => S.bd (xtr 0 x12) fun x14 => S.cnd x13 (S.bd (lcl c6 21) fun x15 => S.bd (iI_spliced.v a0 x15 r4.2) fun r16 => some ((Value.tuple ⟨[]⟩), r16.2)) (S.bd (lcl c6 21) fun x17 => S.bd (eqb [1] false true x17 (.int .i64 0)) fun x18 => S.cnd x18 (S.bd (lcl c6 21) fun x19 => S.bd (iI_end.v a0 x19 r4.2) fun r20 => some ((Value.tuple ⟨[]⟩), r20.2)) (S.bd (lal c6 25 5) fun x21 => S.bd (iI_splice.v a0 x21 r4.2) fun r22 => some ((Value.tuple ⟨[]⟩), r22.2))))
def iI_played.v (a0 : Value) (s : St) : Option (Value × St) := iI_played.t std a0 s
def iI_played.w : List Value → St → Option (Value × St)
  | [a0], s => iI_played.v a0 s
  | _, _ => none
def iI_played.an : An := ⟨37, false, [2], [], [], []⟩
theorem iI_played.ok (S : Sig) (a0 : Value) (s : St) : evF S Tryz.prog iI_played.ctx iI_played.an Tryz.f37 [a0] s = iI_played.t S a0 s := by kernel_rfl
theorem iI_played.cok : CtxOk Tryz.prog iI_played.ctx := .cons iI_Next.sound iI_Next.can <| .cons r15Insert_Next.sound r15Insert_Next.can <| .cons kS_Next.sound kS_Next.can <| .cons pS_Next.sound pS_Next.can <| .cons r12Seek_Next.sound r12Seek_Next.can <| .cons r13Splice_Next.sound r13Splice_Next.can <| .cons iI_spliced.sound iI_spliced.can <| .cons iI_end.sound iI_end.can <| .cons iI_splice.sound iI_splice.can <| .nil
theorem iI_played.draws : fnDraws iI_played.an Tryz.f37 = true := by kernel_rfl
theorem iI_played.can : callOk Tryz.prog 37 = true := by kernel_rfl
theorem iI_played.sound : FnOk Tryz.prog 37 (.st iI_played.w) := FnOk.st_of (evF_ok iI_played.cok mixed (f := 37) (fn := Tryz.f37) (by kernel_rfl) iI_played.draws) fun args s r h => by
  unfold iI_played.w at h; split at h
  · rw [iI_played.ok std]; exact h
  · simp at h
def iI_walked.ctx : Ctx := [(39, .st iI_end.w), (56, .rd key_Check.w), (59, .rd key_Less.w), (32, .rd iI_head.w), (76, .st iI_splice.w), (33, .rd iI_list.w), (58, .rd vec_Begins.w)]
def iI_walked.t.p1 (S : Sig) (x3 : Value) (x9 : Value) (s : St) (x7 : Value) (a0 : Value) (c1 : List Value) : Option (Value × St) :=
  S.bd (S.gd x3 true (fld 0 x9)) fun x10 => S.bd (S.gd x3 true (fld 1 x10)) fun x11 => S.bd (S.gd x3 true (lda s 5 x11)) fun x12 => S.bd (S.gd x3 true (eqb [1, 1, 1, 1, 1] true false x7 x12)) fun x13 => S.bd (pik x3 x13 (.bool Bool.false)) fun x14 => S.cnd x14 (S.bd (iI_end.v a0 (.int .i64 132) s) fun r15 => some ((Value.tuple ⟨[]⟩), r15.2)) (S.bd (lcl c1 0) fun x16 => S.bd (eqb [1] false true x16 (.int .i64 1)) fun x17 => S.bd (S.gd x17 false (lal c1 3 2)) fun x18 => S.bd (S.gd x17 false (key_Check.r x18 s)) fun x19 => S.bd (S.gd x17 false (eqb [1] false true x19 (.int .i64 0))) fun x20 => S.bd (pik x17 (.bool Bool.true) x20) fun x21 => S.bd (S.gd x21 false (lal c1 3 2)) fun x22 => S.bd (S.gd x21 false (some a0)) fun x23 => S.bd (S.gd x21 false (nck x23)) fun x24 => S.bd (S.gd x21 false (fld 16 x24)) fun x25 => S.bd (S.gd x21 false (fld 1 x25)) fun x26 => S.bd (S.gd x21 false (lda s 2 x26)) fun x27 => S.bd (S.gd x21 false (key_Less.r x22 x27 s)) fun x28 => S.bd (S.gd x21 false (un .not x28)) fun x29 => S.bd (pik x21 (.bool Bool.true) x29) fun x30 => S.cnd x30 (S.bd (iI_head.r a0 s) fun x31 => S.bd (iI_splice.v a0 x31 s) fun r32 => some ((Value.tuple ⟨[]⟩), r32.2)) (S.bd (lcl c1 3) fun x33 => S.bd (eqb [1] false false x33 (.int .i64 1)) fun x34 => S.bd (S.gd x34 false (lal c1 5 2)) fun x35 => S.bd (S.gd x34 false (some a0)) fun x36 => S.bd (S.gd x34 false (some a0)) fun x37 => S.bd (S.gd x34 false (nck x37)) fun x38 => S.bd (S.gd x34 false (fld 15 x38)) fun x39 => S.bd (S.gd x34 false (ldc s x39)) fun x40 => S.bd (S.gd x34 false (iI_list.r x36 x40 s)) fun x41 => S.bd (S.gd x34 false (vec_Begins.r x35 x41 s)) fun x42 => S.bd (pik x34 (.bool Bool.true) x42) fun x43 => S.cnd x43 (S.bd (lal c1 2 5) fun x44 => S.bd (iI_splice.v a0 x44 s) fun r45 => some ((Value.tuple ⟨[]⟩), r45.2)) (S.bd (lal c1 2 5) fun x46 => S.bd (nck a0) fun x47 => S.bd (fld 16 x47) fun x48 => S.bd (stv s 5 x48 x46) fun s49 => some ((Value.tuple ⟨[]⟩), s49))))
def iI_walked.t (S : Sig) (a0 a1 : Value) (s : St) : Option (Value × St) :=
  S.bd (bx a1) fun c1 => S.bd (lcl c1 0) fun x2 => S.bd (eqb [1] false false x2 (.int .i64 3)) fun x3 => S.bd (S.gd x3 true (some a0)) fun x4 => S.bd (S.gd x3 true (nck x4)) fun x5 => S.bd (S.gd x3 true (fld 16 x5)) fun x6 => S.bd (S.gd x3 true (lda s 5 x6)) fun x7 => S.bd (S.gd x3 true (some a0)) fun x8 => S.bd (S.gd x3 true (nck x8)) fun x9 => iI_walked.t.p1 S x3 x9 s x7 a0 c1
def iI_walked.v (a0 a1 : Value) (s : St) : Option (Value × St) := iI_walked.t std a0 a1 s
def iI_walked.w : List Value → St → Option (Value × St)
  | [a0, a1], s => iI_walked.v a0 a1 s
  | _, _ => none
def iI_walked.an : An := ⟨76, false, [3], [], [], [(2, [(z4 0 0), (z4 1 25), (z4 2 0), (z4 3 0), (z4 4 0), (z4 5 0), (z4 6 0), (z4 7 2), (z4 8 0), (z4 9 0), (z4 10 0), (z4 11 0), (z4 12 2), (z4 13 0), (z4 14 0), (z4 15 0)]), (4, [(z4 0 0), (z4 1 25), (z4 2 0), (z4 3 0), (z4 4 0), (z4 5 0), (z4 6 25), (z4 7 3), (z4 8 0), (z4 9 0), (z4 10 0), (z4 11 0), (z4 12 0), (z4 13 25), (z4 14 0), (z4 15 0), (z4 16 0), (z4 17 0), (z4 18 2), (z4 19 3), (z4 20 0), (z4 21 0), (z4 22 0)]), (6, [(z4 0 0), (z4 1 0), (z4 2 0), (z4 3 25), (z4 4 0), (z4 5 0), (z4 6 0), (z4 7 0), (z4 8 25), (z4 9 0), (z4 10 0), (z4 11 0), (z4 12 0), (z4 13 2), (z4 14 3), (z4 15 3), (z4 16 0), (z4 17 0)])]⟩
theorem iI_walked.ok (S : Sig) (a0 a1 : Value) (s : St) : evF S Tryz.prog iI_walked.ctx iI_walked.an Tryz.f38 [a0, a1] s = iI_walked.t S a0 a1 s := by kernel_rfl
theorem iI_walked.cok : CtxOk Tryz.prog iI_walked.ctx := .cons iI_end.sound iI_end.can <| .cons key_Check.sound key_Check.can <| .cons key_Less.sound key_Less.can <| .cons iI_head.sound iI_head.can <| .cons iI_splice.sound iI_splice.can <| .cons iI_list.sound iI_list.can <| .cons vec_Begins.sound vec_Begins.can <| .nil
theorem iI_walked.draws : fnDraws iI_walked.an Tryz.f38 = true := by kernel_rfl
theorem iI_walked.can : callOk Tryz.prog 38 = true := by kernel_rfl
theorem iI_walked.sound : FnOk Tryz.prog 38 (.st iI_walked.w) := FnOk.st_of (evF_ok iI_walked.cok mixed (f := 38) (fn := Tryz.f38) (by kernel_rfl) iI_walked.draws) fun args s r h => by
  unfold iI_walked.w at h; split at h
  · rw [iI_walked.ok std]; exact h
  · simp at h
def iI_Tell.ctx : Ctx := [(24, .st r15Insert_Tell.w), (157, .st kS_Tell.w), (167, .st pS_Tell.w), (47, .st r12Seek_Tell.w), (48, .st r13Splice_Tell.w), (37, .st iI_played.w), (38, .st iI_walked.w), (39, .st iI_end.w)]
def iI_Tell.t (S : Sig) (a0 a1 : Value) (s : St) : Option (Value × St) :=
  S.bd (bx a1) fun c1 => S.bd (eqb [3] false false a0 (.pointer none)) fun x2 => S.cnd x2 (some ((Value.tuple ⟨[]⟩), s)) (S.bd (nck a0) fun x3 => S.bd (fld 13 x3) fun x4 => S.bd (ldc s x4) fun x5 => S.bd (eqb [1] false false x5 (.int .i64 1)) fun x6 => S.cnd x6 (S.bd (nck a0) fun x7 => S.bd (fld 14 x7) fun x8 => S.bd (ldc s x8) fun x9 => S.bd (lal c1 0 13) fun x10 => S.bd (callI Tryz.prog (iI_Tell.ctx) "Tell" x9 [x10] s) fun r11 => S.bd (iI_played.v a0 r11.2) fun r12 => some ((Value.tuple ⟨[]⟩), r12.2)) (S.bd (eqb [1] false false x5 (.int .i64 2)) fun x13 => S.cnd x13 (S.bd (lal c1 0 13) fun x14 => S.bd (iI_walked.v a0 x14 s) fun r15 => some ((Value.tuple ⟨[]⟩), r15.2)) (S.bd (eqb [1] false false x5 (.int .i64 3)) fun x16 => S.cnd x16 (S.bd (lcl c1 0) fun x17 => S.bd (eqb [1] false false x17 (.int .i64 3)) fun x18 => S.cnd x18 (S.bd (iI_end.v a0 (.int .i64 132) s) fun r19 => some ((Value.tuple ⟨[]⟩), r19.2)) (S.bd (iI_end.v a0 (.int .i64 0) s) fun r20 => some ((Value.tuple ⟨[]⟩), r20.2))) (some ((Value.tuple ⟨[]⟩), s)))))
def iI_Tell.v (a0 a1 : Value) (s : St) : Option (Value × St) := iI_Tell.t std a0 a1 s
def iI_Tell.w : List Value → St → Option (Value × St)
  | [a0, a1], s => iI_Tell.v a0 a1 s
  | _, _ => none
def iI_Tell.an : An := ⟨34, false, [3], [], [], [(4, [(z4 0 0), (z4 1 0), (z4 2 0), (z4 3 2), (z4 4 25), (z4 5 4)])]⟩
theorem iI_Tell.ok (S : Sig) (a0 a1 : Value) (s : St) : evF S Tryz.prog iI_Tell.ctx iI_Tell.an Tryz.f18 [a0, a1] s = iI_Tell.t S a0 a1 s := by kernel_rfl
theorem iI_Tell.cok : CtxOk Tryz.prog iI_Tell.ctx := .cons r15Insert_Tell.sound r15Insert_Tell.can <| .cons kS_Tell.sound kS_Tell.can <| .cons pS_Tell.sound pS_Tell.can <| .cons r12Seek_Tell.sound r12Seek_Tell.can <| .cons r13Splice_Tell.sound r13Splice_Tell.can <| .cons iI_played.sound iI_played.can <| .cons iI_walked.sound iI_walked.can <| .cons iI_end.sound iI_end.can <| .nil
theorem iI_Tell.draws : fnDraws iI_Tell.an Tryz.f18 = true := by kernel_rfl
theorem iI_Tell.can : callOk Tryz.prog 18 = true := by kernel_rfl
theorem iI_Tell.sound : FnOk Tryz.prog 18 (.st iI_Tell.w) := FnOk.st_of (evF_ok iI_Tell.cok mixed (f := 18) (fn := Tryz.f18) (by kernel_rfl) iI_Tell.draws) fun args s r h => by
  unfold iI_Tell.w at h; split at h
  · rw [iI_Tell.ok std]; exact h
  · simp at h
def iI_Wake.ctx : Ctx := [(23, .st r15Insert_Wake.w), (158, .rd kS_Wake.w), (168, .st pS_Wake.w), (46, .st r13Splice_Wake.w), (37, .st iI_played.w)]
def iI_Wake.t (S : Sig) (a0 : Value) (s : St) : Option (Value × St) :=
  S.bd (eqb [3] false true a0 (.pointer none)) fun x1 => S.bd (S.gd x1 true (some a0)) fun x2 => S.bd (S.gd x1 true (nck x2)) fun x3 => S.bd (S.gd x1 true (fld 13 x3)) fun x4 => S.bd (S.gd x1 true (ldc s x4)) fun x5 => S.bd (S.gd x1 true (eqb [1] false false x5 (.int .i64 1))) fun x6 => S.bd (pik x1 x6 (.bool Bool.false)) fun x7 => S.cnd x7 (S.bd (nck a0) fun x8 => S.bd (fld 14 x8) fun x9 => S.bd (ldc s x9) fun x10 => S.bd (callI Tryz.prog (iI_Wake.ctx) "Wake" x10 [] s) fun r11 => S.bd (iI_played.v a0 r11.2) fun r12 => some ((Value.tuple ⟨[]⟩), r12.2)) (some ((Value.tuple ⟨[]⟩), s))
def iI_Wake.v (a0 : Value) (s : St) : Option (Value × St) := iI_Wake.t std a0 s
def iI_Wake.w : List Value → St → Option (Value × St)
  | [a0], s => iI_Wake.v a0 s
  | _, _ => none
def iI_Wake.an : An := ⟨18, false, [], [], [], []⟩
theorem iI_Wake.ok (S : Sig) (a0 : Value) (s : St) : evF S Tryz.prog iI_Wake.ctx iI_Wake.an Tryz.f22 [a0] s = iI_Wake.t S a0 s := by kernel_rfl
theorem iI_Wake.cok : CtxOk Tryz.prog iI_Wake.ctx := .cons r15Insert_Wake.sound r15Insert_Wake.can <| .cons kS_Wake.sound kS_Wake.can <| .cons pS_Wake.sound pS_Wake.can <| .cons r13Splice_Wake.sound r13Splice_Wake.can <| .cons iI_played.sound iI_played.can <| .nil
theorem iI_Wake.draws : fnDraws iI_Wake.an Tryz.f22 = true := by kernel_rfl
theorem iI_Wake.can : callOk Tryz.prog 22 = true := by kernel_rfl
theorem iI_Wake.sound : FnOk Tryz.prog 22 (.st iI_Wake.w) := FnOk.st_of (evF_ok iI_Wake.cok mixed (f := 22) (fn := Tryz.f22) (by kernel_rfl) iI_Wake.draws) fun args s r h => by
  unfold iI_Wake.w at h; split at h
  · rw [iI_Wake.ok std]; exact h
  · simp at h
def insert_New.ctx : Ctx := [(29, .st seek_New.w), (30, .rd vec_Right.w), (32, .rd iI_head.w), (31, .st splice_New.w)]
def insert_New.t.p1 (S : Sig) (r9 : Value × St) (c1 : List Value) (r4 : Value × St) : Option (Value × St) :=
  S.bd (xtr 0 r9.1) fun x10 => S.bd (xtr 1 r9.1) fun x11 => S.bd (eqb [1] false true x11 (.int .i64 0)) fun x12 => S.bd (S.gd x12 false (lcl c1 2)) fun x13 => S.bd (S.gd x12 false (eqb [1] false true x13 (.int .i64 2))) fun x14 => S.bd (pik x12 (.bool Bool.true) x14) fun x15 => S.bd (S.gd x15 false (lal c1 4 2)) fun x16 => S.bd (S.gd x15 false (vec_Right.r x16 r9.2)) fun x17 => S.bd (S.gd x15 false (eqb [1] false true x17 (.int .i64 0))) fun x18 => S.bd (pik x15 (.bool Bool.true) x18) fun x19 => S.bd (S.gd x19 false (lcl c1 4)) fun x20 => S.bd (S.gd x19 false (lcl c1 0)) fun x21 => S.bd (S.gd x19 false (eqb [1] false true x20 x21)) fun x22 => S.bd (pik x19 (.bool Bool.true) x22) fun x23 => S.cnd x23 (some ((Value.tuple ⟨[(.pointer none), (.int .i64 150)]⟩), r9.2)) (S.bd (lal c1 1 5) fun x24 => S.bd (lal c1 11 2) fun x25 => S.bd (iI_head.r r4.1 r9.2) fun x26 => S.bd (bld [(.int .i64 0), (.int .u64 0), (.int .i64 0), (.int .i64 0), (.int .u64 0), (.int .i64 0), (.int .u64 0), (.int .i64 0), (.int .i64 0), (.int .u64 0), (.int .i64 0), (.int .u64 0), (.int .i64 0), (.int .i64 0)] [(2, 5, x24), (7, 5, x26), (12, 2, x25)]) fun x27 => S.bd (splice_New.v x27 r9.2) fun r28 => S.bd (xtr 0 r28.1) fun x29 => S.bd (xtr 1 r28.1) fun x30 => S.bd (eqb [1] false true x30 (.int .i64 0)) fun x31 => S.cnd x31 (some ((Value.tuple ⟨[(.pointer none), (.int .i64 150)]⟩), r28.2)) (S.bd (nck r4.1) fun x32 => S.bd (fld 14 x32) fun x33 => S.bd (stv r28.2 1 x33 (Value.iface 103 x10)) fun s34 => S.bd (nck r4.1) fun x35 => S.bd (fld 21 x35) fun x36 => S.bd (stv s34 1 x36 (.int .i64 1)) fun s37 => some ((Value.tuple ⟨[r4.1, (.int .i64 0)]⟩), s37)))
def insert_New.t (S : Sig) (a0 : Value) (s : St) : Option (Value × St) :=
  S.bd (bx a0) fun c1 => S.bd (lal c1 0 13) fun x2 => S.bd (bld [(.int .i64 0), (.int .i64 0), (.int .i64 0), (.int .u64 0), (.int .i64 0), (.int .u64 0), (.int .i64 0), (.int .i64 0), (.int .u64 0), (.int .i64 0), (.int .u64 0), (.int .i64 0), (.int .i64 0), (.int .i64 0), Go.Value.nilIface, (.int .i64 0), (.int .i64 0), (.int .i64 0), (.int .u64 0), (.int .i64 0), (.int .u64 0), (.int .i64 0), (.int .i64 0)] [(0, 13, x2), (13, 1, (.int .i64 1))]) fun x3 => S.bd (alv s x3) fun r4 => S.bd (lcl c1 0) fun x5 => S.bd (lal c1 6 5) fun x6 => S.bd (lal c1 2 2) fun x7 => S.bd (bld [(.int .i64 0), (.int .i64 0), (.int .i64 0), (.int .u64 0), (.int .i64 0), (.int .u64 0), (.int .i64 0), (.int .u64 0)] [(0, 1, x5), (1, 5, x6), (6, 2, x7)]) fun x8 => S.bd (seek_New.v x8 r4.2) fun r9 => insert_New.t.p1 S r9 c1 r4
def insert_New.v (a0 : Value) (s : St) : Option (Value × St) := insert_New.t std a0 s
def insert_New.w : List Value → St → Option (Value × St)
  | [a0], s => insert_New.v a0 s
  | _, _ => none
def insert_New.an : An := ⟨71, false, [1], [], [], [(5, [(z4 0 0), (z4 1 9), (z4 2 0), (z4 4 0), (z4 5 9), (z4 3 3), (z4 6 0), (z4 7 4), (z4 8 0), (z4 9 0), (z4 10 0), (z4 11 0), (z4 12 0)])]⟩
theorem insert_New.ok (S : Sig) (a0 : Value) (s : St) : evF S Tryz.prog insert_New.ctx insert_New.an Tryz.f14 [a0] s = insert_New.t S a0 s := by kernel_rfl
theorem insert_New.cok : CtxOk Tryz.prog insert_New.ctx := .cons seek_New.sound seek_New.can <| .cons vec_Right.sound vec_Right.can <| .cons iI_head.sound iI_head.can <| .cons splice_New.sound splice_New.can <| .nil
theorem insert_New.draws : fnDraws insert_New.an Tryz.f14 = true := by kernel_rfl
theorem insert_New.can : callOk Tryz.prog 14 = true := by kernel_rfl
theorem insert_New.sound : FnOk Tryz.prog 14 (.st insert_New.w) := FnOk.st_of (evF_ok insert_New.cok mixed (f := 14) (fn := Tryz.f14) (by kernel_rfl) insert_New.draws) fun args s r h => by
  unfold insert_New.w at h; split at h
  · rw [insert_New.ok std]; exact h
  · simp at h
def r15New.ctx : Ctx := [(40, .st r12New.w), (26, .rd r01Right.w), (11, .rd r12Head.w), (41, .st r13New.w)]
def r15New.t.p1 (S : Sig) (c1 : List Value) (r6 : Value × St) (x7 : Value) : Option (Value × St) :=
  S.bd (lal c1 1 5) fun x21 => S.bd (lcl c1 0) fun x22 => S.bd (lal c1 11 2) fun x23 => S.bd (r12Head.r x22 r6.2) fun x24 => S.bd (bld [(.int .i64 0), (.int .u64 0), (.int .i64 0), (.int .i64 0), (.int .u64 0), (.int .i64 0), (.int .u64 0), (.int .i64 0), (.int .i64 0), (.int .u64 0), (.int .i64 0), (.int .u64 0), (.int .i64 0), (.int .i64 0)] [(2, 5, x21), (7, 5, x24), (12, 2, x23)]) fun x25 => S.bd (r13New.v x25 r6.2) fun r26 => S.bd (xtr 0 r26.1) fun x27 => S.bd (xtr 1 r26.1) fun x28 => S.bd (eqb [1] false true x28 (.int .i64 0)) fun x29 => S.cnd x29 (some ((Value.tuple ⟨[(.pointer none), (.int .i64 150)]⟩), r26.2)) (S.bd (lal c1 0 13) fun x30 => S.bd (bld [(.int .i64 0), (.int .i64 0), (.int .i64 0), (.int .u64 0), (.int .i64 0), (.int .u64 0), (.int .i64 0), (.int .i64 0), (.int .u64 0), (.int .i64 0), (.int .u64 0), (.int .i64 0), (.int .i64 0), (.int .i64 0), (.int .i64 0), (.int .i64 0), (.pointer none), (.pointer none), (.int .i64 0), (.int .i64 0), (.int .u64 0), (.int .i64 0), (.int .u64 0), (.int .i64 0), (.int .u64 0), (.slice none 0 0), (.slice none 0 0), (.int .i64 0), (.int .i64 0), (.int .u64 0), (.int .i64 0), (.int .u64 0), (.int .i64 0), (.int .i64 0), (.int .u64 0), (.int .i64 0), (.int .u64 0), (.bool Bool.false)] [(0, 13, x30), (13, 1, (.int .i64 1)), (15, 1, (.int .i64 1)), (16, 1, x7)]) fun x31 => S.bd (alv r26.2 x31) fun r32 => some ((Value.tuple ⟨[r32.1, (.int .i64 0)]⟩), r32.2))
def r15New.t (S : Sig) (a0 : Value) (s : St) : Option (Value × St) :=
  S.bd (bx a0) fun c1 => S.bd (lcl c1 0) fun x2 => S.bd (lal c1 6 5) fun x3 => S.bd (lal c1 2 2) fun x4 => S.bd (bld [(.int .i64 0), (.int .i64 0), (.int .i64 0), (.int .u64 0), (.int .i64 0), (.int .u64 0), (.int .i64 0), (.int .u64 0)] [(0, 1, x2), (1, 5, x3), (6, 2, x4)]) fun x5 => S.bd (r12New.v x5 s) fun r6 => S.bd (xtr 0 r6.1) fun x7 => S.bd (xtr 1 r6.1) fun x8 => S.bd (eqb [1] false true x8 (.int .i64 0)) fun x9 => S.bd (S.gd x9 false (lcl c1 2)) fun x10 => S.bd (S.gd x9 false (eqb [1] false true x10 (.int .i64 2))) fun x11 => S.bd (pik x9 (.bool Bool.true) x11) fun x12 => S.bd (S.gd x12 false (lal c1 4 2)) fun x13 => S.bd (S.gd x12 false (r01Right.r x13 r6.2)) fun x14 => S.bd (S.gd x12 false (un .not x14)) fun x15 => S.bd (pik x12 (.bool Bool.true) x15) fun x16 => S.bd (S.gd x16 false (lcl c1 4)) fun x17 => S.bd (S.gd x16 false (lcl c1 0)) fun x18 => S.bd (S.gd x16 false (eqb [1] false true x17 x18)) fun x19 => S.bd (pik x16 (.bool Bool.true) x19) fun x20 => S.cnd x20 (some ((Value.tuple ⟨[(.pointer none), (.int .i64 150)]⟩), r6.2)) (r15New.t.p1 S c1 r6 x7)
def r15New.v (a0 : Value) (s : St) : Option (Value × St) := r15New.t std a0 s
def r15New.w : List Value → St → Option (Value × St)
  | [a0], s => r15New.v a0 s
  | _, _ => none
def r15New.an : An := ⟨63, false, [1], [], [], [(4, [(z4 0 0), (z4 1 9), (z4 2 0), (z4 3 9), (z4 5 0), (z4 6 9), (z4 4 3), (z4 7 0), (z4 8 4), (z4 9 0), (z4 10 0), (z4 11 0), (z4 12 0), (z4 13 0)])]⟩
theorem r15New.ok (S : Sig) (a0 : Value) (s : St) : evF S Tryz.prog r15New.ctx r15New.an Tryz.f19 [a0] s = r15New.t S a0 s := by kernel_rfl
theorem r15New.cok : CtxOk Tryz.prog r15New.ctx := .cons r12New.sound r12New.can <| .cons r01Right.sound r01Right.can <| .cons r12Head.sound r12Head.can <| .cons r13New.sound r13New.can <| .nil
theorem r15New.draws : fnDraws r15New.an Tryz.f19 = true := by kernel_rfl
theorem r15New.can : callOk Tryz.prog 19 = true := by kernel_rfl
theorem r15New.sound : FnOk Tryz.prog 19 (.st r15New.w) := FnOk.st_of (evF_ok r15New.cok mixed (f := 19) (fn := Tryz.f19) (by kernel_rfl) r15New.draws) fun args s r h => by
  unfold r15New.w at h; split at h
  · rw [r15New.ok std]; exact h
  · simp at h
def l15conf.ctx : Ctx := [(11, .rd r12Head.w)]
def l15conf.t (S : Sig) (s : St) : Option Value :=
  S.bd (bx (Go.Value.agg #[(.int .i64 0), (.int .i64 0), (.int .i64 0), (.int .u64 0), (.int .i64 0), (.int .u64 0), (.int .i64 0), (.int .i64 0), (.int .u64 0), (.int .i64 0), (.int .u64 0), (.int .i64 0), (.int .i64 0)])) fun c1 => S.bd (bld [(.int .i64 0), (.int .u64 0)] [(0, 1, (.int .i64 2)), (1, 1, (.int .u64 5))]) fun x2 => S.bd (bld [(.int .i64 0), (.int .i64 0), (.int .u64 0), (.int .i64 0), (.int .u64 0)] [(0, 1, (.int .i64 2)), (1, 2, x2)]) fun x3 => S.bd (r12Head.r (.int .i64 0) s) fun x4 => S.bd (bld [(.int .i64 0), (.int .i64 0)] [(1, 1, (.int .i64 1))]) fun x5 => S.bd (bld [(.int .i64 0), (.int .i64 0), (.int .i64 0), (.int .u64 0), (.int .i64 0), (.int .u64 0), (.int .i64 0), (.int .i64 0), (.int .u64 0), (.int .i64 0), (.int .u64 0), (.int .i64 0), (.int .i64 0)] [(1, 5, x3), (6, 5, x4), (11, 2, x5)]) fun x6 => S.bd (stl c1 0 13 x6) fun c7 => S.bd (lal c7 0 13) fun x8 => some (x8)
def l15conf.r (s : St) : Option Value := l15conf.t std  s
def l15conf.w : List Value → St → Option Value
  | [], s => l15conf.r  s
  | _, _ => none
def l15conf.an : An := ⟨6, true, [0], [], [], []⟩
theorem l15conf.ok (S : Sig) (s : St) : evG S Tryz.prog l15conf.ctx l15conf.an Tryz.f27 [] s = l15conf.t S  s := by kernel_rfl
theorem l15conf.cok : CtxOk Tryz.prog l15conf.ctx := .cons r12Head.sound r12Head.can <| .nil
theorem l15conf.draws : fnDraws l15conf.an Tryz.f27 = true := by kernel_rfl
theorem l15conf.can : callOk Tryz.prog 27 = true := by kernel_rfl
theorem l15conf.sound : FnOk Tryz.prog 27 (.rd l15conf.w) := FnOk.rd_of (evG_ok l15conf.cok mixed (f := 27) (fn := Tryz.f27) (by kernel_rfl) l15conf.draws) fun args s r h => by
  unfold l15conf.w at h; split at h
  · rw [l15conf.ok std]; exact h
  · simp at h
def r11Check.ctx : Ctx := [(26, .rd r01Right.w)]
def r11Check.l10 (S : Sig) (rec93 : List Value → St → Option Cut) (xs91 : List Value) (s92 : St) : Option Cut :=
  S.bd (bin .lss (xs91.getD 3 undef) (xs91.getD 2 undef)) fun x94 => S.cnd x94 (S.bd (idx s92 5 (xs91.getD 1 undef) (xs91.getD 3 undef)) fun x95 => S.bd (fld 0 x95) fun x96 => S.bd (ldc s92 x96) fun x97 => S.bd (lcl (cellsA (xs91.getD 14 undef)) 0) fun x98 => S.bd (eqb [1] false false x97 x98) fun x99 => S.bd (S.gd x99 false (some (xs91.getD 1 undef))) fun x100 => S.bd (S.gd x99 false (some (xs91.getD 3 undef))) fun x101 => S.bd (S.gd x99 false (idx s92 5 x100 x101)) fun x102 => S.bd (S.gd x99 false (fld 1 x102)) fun x103 => S.bd (S.gd x99 false (lda s92 2 x103)) fun x104 => S.bd (S.gd x99 false (lal (cellsA (xs91.getD 14 undef)) 1 2)) fun x105 => S.bd (S.gd x99 false (eqb [1, 1] true false x104 x105)) fun x106 => S.bd (pik x99 (.bool Bool.true) x106) fun x107 => S.cnd x107 (some (1, [(.int .i64 110)], s92)) (S.bd (bin .add (xs91.getD 3 undef) (.int .i64 1)) fun x108 => rec93 [(xs91.getD 0 undef), (xs91.getD 1 undef), (xs91.getD 2 undef), x108, (xs91.getD 4 undef), (xs91.getD 5 undef), (xs91.getD 6 undef), (xs91.getD 7 undef), (xs91.getD 8 undef), (xs91.getD 9 undef), (xs91.getD 10 undef), (xs91.getD 11 undef), (xs91.getD 12 undef), (xs91.getD 13 undef), (Value.agg ⟨(cellsA (xs91.getD 14 undef))⟩)] s92)) (some (0, [(xs91.getD 0 undef), (xs91.getD 1 undef), (xs91.getD 2 undef), (xs91.getD 4 undef), (xs91.getD 5 undef), (xs91.getD 6 undef), (xs91.getD 7 undef), (xs91.getD 8 undef), (xs91.getD 9 undef), (xs91.getD 10 undef), (xs91.getD 11 undef), (xs91.getD 12 undef), (xs91.getD 13 undef)], s92))
def r11Check.l4 (S : Sig) (rec68 : List Value → St → Option Cut) (xs66 : List Value) (s67 : St) : Option Cut :=
  S.bd (lenL (xs66.getD 1 undef)) fun x69 => S.bd (bin .lss (xs66.getD 2 undef) x69) fun x70 => S.cnd x70 (S.bd (idx s67 5 (xs66.getD 1 undef) (xs66.getD 2 undef)) fun x71 => S.bd (lda s67 5 x71) fun x72 => S.bd (bx (Go.Value.agg #[(.int .i64 0), (.int .i64 0), (.int .u64 0), (.int .i64 0), (.int .u64 0)])) fun c73 => S.bd (stl c73 0 5 x72) fun c74 => S.bd (lcl c74 0) fun x75 => S.bd (bin .lss x75 (.int .i64 2)) fun x76 => S.bd (S.gd x76 false (lcl c74 0)) fun x77 => S.bd (S.gd x76 false (bin .geq x77 (.int .i64 1024))) fun x78 => S.bd (pik x76 (.bool Bool.true) x78) fun x79 => S.bd (S.gd x79 false (lcl c74 1)) fun x80 => S.bd (S.gd x79 false (eqb [1] false true x80 (.int .i64 2))) fun x81 => S.bd (pik x79 (.bool Bool.true) x81) fun x82 => S.bd (S.gd x82 false (lal c74 3 2)) fun x83 => S.bd (S.gd x82 false (r01Right.r x83 s67)) fun x84 => S.bd (S.gd x82 false (un .not x84)) fun x85 => S.bd (pik x82 (.bool Bool.true) x85) fun x86 => S.bd (S.gd x86 false (lcl c74 3)) fun x87 => S.bd (S.gd x86 false (some (xs66.getD 0 undef))) fun x88 => S.bd (S.gd x86 false (eqb [1] false true x87 x88)) fun x89 => S.bd (pik x86 (.bool Bool.true) x89) fun x90 => S.cnd x90 (some (1, [(.int .i64 110)], s67)) (S.bd (S.it (r11Check.l10 S) [(xs66.getD 0 undef), (xs66.getD 1 undef), (xs66.getD 2 undef), (.int .i64 0), x77, x78, x80, x81, x83, x84, x85, x87, x88, x89, (Value.agg ⟨c74⟩)] s67) fun r109 => if r109.1 = 0 then (S.bd (bin .add (r109.2.1.getD 2 undef) (.int .i64 1)) fun x110 => rec68 [(r109.2.1.getD 0 undef), (r109.2.1.getD 1 undef), x110] r109.2.2) else (some (1, [(r109.2.1.getD 0 undef)], r109.2.2)))) (some (0, [], s67))
def r11Check.t (S : Sig) (a0 a1 : Value) (s : St) : Option Value :=
  S.bd (bin .lss a0 (.int .i64 0)) fun x1 => S.bd (S.gd x1 false (some a0)) fun x2 => S.bd (S.gd x1 false (bin .gtr x2 (.int .i64 32))) fun x3 => S.bd (pik x1 (.bool Bool.true) x3) fun x4 => S.bd (S.gd x4 false (some a1)) fun x5 => S.bd (S.gd x4 false (lenL x5)) fun x6 => S.bd (S.gd x4 false (bin .gtr x6 (.int .i64 1022))) fun x7 => S.bd (pik x4 (.bool Bool.true) x7) fun x8 => S.cnd x8 (some ((.int .i64 110))) (S.bd (S.it (r11Check.l4 S) [a0, a1, (.int .i64 0)] s) fun r111 => if r111.1 = 0 then (some ((.int .i64 0))) else (some ((r111.2.1.getD 0 undef))))
def r11Check.r (a0 a1 : Value) (s : St) : Option Value := r11Check.t std a0 a1 s
def r11Check.w : List Value → St → Option Value
  | [a0, a1], s => r11Check.r a0 a1 s
  | _, _ => none
def r11Check.an : An := ⟨79, true, [6], [(10, ⟨[.v 0, .v 1, .v 5, .p 6 6 0, .v 7, .v 34, .v 35, .v 40, .v 41, .v 45, .v 46, .v 47, .v 52, .v 53, .v 54, .l 6], [(.exit 2, [.v 0, .v 1, .v 5, .v 34, .v 35, .v 40, .v 41, .v 45, .v 46, .v 47, .v 52, .v 53, .v 54]), (.ret, [.v 4])]⟩), (4, ⟨[.v 0, .v 1, .v 5], [(.exit 0, []), (.ret, [.v 4])]⟩)], [], [(12, [(z4 0 0), (z4 1 0), (z4 2 2), (z4 3 0), (z4 4 2), (z4 5 0), (z4 6 49), (z4 7 0), (z4 8 0), (z4 9 0), (z4 10 0), (z4 11 2), (z4 12 0), (z4 13 2), (z4 14 0), (z4 15 49), (z4 16 0), (z4 17 0)])]⟩
theorem r11Check.ok (S : Sig) (a0 a1 : Value) (s : St) : evG S Tryz.prog r11Check.ctx r11Check.an Tryz.f8 [a0, a1] s = r11Check.t S a0 a1 s := by kernel_rfl
theorem r11Check.cok : CtxOk Tryz.prog r11Check.ctx := .cons r01Right.sound r01Right.can <| .nil
theorem r11Check.draws : fnDraws r11Check.an Tryz.f8 = true := by kernel_rfl
theorem r11Check.can : callOk Tryz.prog 8 = true := by kernel_rfl
theorem r11Check.sound : FnOk Tryz.prog 8 (.rd r11Check.w) := FnOk.rd_of (evG_ok r11Check.cok mixed (f := 8) (fn := Tryz.f8) (by kernel_rfl) r11Check.draws) fun args s r h => by
  unfold r11Check.w at h; split at h
  · rw [r11Check.ok std]; exact h
  · simp at h
def r01Prefixes.ctx : Ctx := [(26, .rd r01Right.w), (119, .st r01Bits.w), (120, .rd r01Of.w)]
def r01Prefixes.l6 (S : Sig) (rec16 : List Value → St → Option Cut) (xs14 : List Value) (s15 : St) : Option Cut :=
  S.bd (lenL (xs14.getD 1 undef)) fun x17 => S.bd (bin .leq (xs14.getD 2 undef) x17) fun x18 => S.cnd x18 (S.bd (slc s15 1 (xs14.getD 1 undef) none (some (xs14.getD 2 undef)) none) fun x19 => S.bd (r01Of.r x19 s15) fun x20 => S.bd (S.bd (bls 2 (List.replicate 1 [(.int .i64 0), (.int .u64 0)]) [(0, x20)]) fun rows => als s15 2 1 rows) fun r21 => S.bd (app r21.2 2 16 (xs14.getD 0 undef) r21.1) fun r22 => S.bd (bin .add (xs14.getD 2 undef) (.int .i64 1)) fun x23 => rec16 [r22.1, (xs14.getD 1 undef), x23] r22.2) (some (0, [(xs14.getD 0 undef)], s15))
def r01Prefixes.t (S : Sig) (a0 : Value) (s : St) : Option (Value × St) :=
  S.bd (bx a0) fun c1 => S.bd (lal c1 0 2) fun x2 => S.bd (r01Right.r x2 s) fun x3 => S.bd (un .not x3) fun x4 => S.cnd x4 (some ((.slice none 0 0), s)) (S.bd (lal c1 0 2) fun x5 => S.bd (r01Bits.v x5 s) fun r6 => S.bd (S.it (r01Prefixes.l6 S) [(.slice none 0 0), r6.1, (.int .i64 0)] r6.2) fun r24 => some ((r24.2.1.getD 0 undef), r24.2.2))
def r01Prefixes.v (a0 : Value) (s : St) : Option (Value × St) := r01Prefixes.t std a0 s
def r01Prefixes.w : List Value → St → Option (Value × St)
  | [a0], s => r01Prefixes.v a0 s
  | _, _ => none
def r01Prefixes.an : An := ⟨25, false, [1], [(6, ⟨[.v 3, .v 4, .v 5], [(.exit 0, [.v 3])]⟩)], [], []⟩
theorem r01Prefixes.ok (S : Sig) (a0 : Value) (s : St) : evF S Tryz.prog r01Prefixes.ctx r01Prefixes.an Tryz.f96 [a0] s = r01Prefixes.t S a0 s := by kernel_rfl
theorem r01Prefixes.cok : CtxOk Tryz.prog r01Prefixes.ctx := .cons r01Right.sound r01Right.can <| .cons r01Bits.sound r01Bits.can <| .cons r01Of.sound r01Of.can <| .nil
theorem r01Prefixes.draws : fnDraws r01Prefixes.an Tryz.f96 = true := by kernel_rfl
theorem r01Prefixes.can : callOk Tryz.prog 96 = true := by kernel_rfl
theorem r01Prefixes.sound : FnOk Tryz.prog 96 (.st r01Prefixes.w) := FnOk.st_of (evF_ok r01Prefixes.cok mixed (f := 96) (fn := Tryz.f96) (by kernel_rfl) r01Prefixes.draws) fun args s r h => by
  unfold r01Prefixes.w at h; split at h
  · rw [r01Prefixes.ok std]; exact h
  · simp at h
def r01Compare.ctx : Ctx := [(26, .rd r01Right.w), (119, .st r01Bits.w), (118, .rd r01common.w)]
def r01Compare.t (S : Sig) (a0 a1 : Value) (s : St) : Option (Value × St) :=
  S.bd (bx a0) fun c1 => S.bd (bx a1) fun c2 => S.bd (lal c1 0 2) fun x3 => S.bd (r01Right.r x3 s) fun x4 => S.bd (un .not x4) fun x5 => S.bd (S.gd x5 false (lal c2 0 2)) fun x6 => S.bd (S.gd x5 false (r01Right.r x6 s)) fun x7 => S.bd (S.gd x5 false (un .not x7)) fun x8 => S.bd (pik x5 (.bool Bool.true) x8) fun x9 => S.cnd x9 (some ((Value.tuple ⟨[(.int .i64 0), (.int .i64 10)]⟩), s)) (S.bd (lal c1 0 2) fun x10 => S.bd (lal c2 0 2) fun x11 => S.bd (r01Bits.v x10 s) fun r12 => S.bd (r01Bits.v x11 r12.2) fun r13 => S.bd (r01common.r r12.1 r13.1 r13.2) fun x14 => S.bd (lenL r12.1) fun x15 => S.bd (eqb [1] false false x14 x15) fun x16 => S.bd (S.gd x16 true (some x14)) fun x17 => S.bd (S.gd x16 true (some r13.1)) fun x18 => S.bd (S.gd x16 true (lenL x18)) fun x19 => S.bd (S.gd x16 true (eqb [1] false false x17 x19)) fun x20 => S.bd (pik x16 x20 (.bool Bool.false)) fun x21 => S.cnd x21 (some ((Value.tuple ⟨[(.int .i64 0), (.int .i64 0)]⟩), r13.2)) (S.bd (lenL r12.1) fun x22 => S.bd (eqb [1] false false x14 x22) fun x23 => S.cnd x23 (some ((Value.tuple ⟨[(.int .i64 (-1)), (.int .i64 0)]⟩), r13.2)) (S.bd (lenL r13.1) fun x24 => S.bd (eqb [1] false false x14 x24) fun x25 => S.cnd x25 (some ((Value.tuple ⟨[(.int .i64 1), (.int .i64 0)]⟩), r13.2)) (S.bd (idx r13.2 1 r12.1 x14) fun x26 => S.bd (ldc r13.2 x26) fun x27 => S.bd (idx r13.2 1 r13.1 x14) fun x28 => S.bd (ldc r13.2 x28) fun x29 => S.bd (bin .lss x27 x29) fun x30 => S.cnd x30 (some ((Value.tuple ⟨[(.int .i64 (-1)), (.int .i64 0)]⟩), r13.2)) (some ((Value.tuple ⟨[(.int .i64 1), (.int .i64 0)]⟩), r13.2))))))
def r01Compare.v (a0 a1 : Value) (s : St) : Option (Value × St) := r01Compare.t std a0 a1 s
def r01Compare.w : List Value → St → Option (Value × St)
  | [a0, a1], s => r01Compare.v a0 a1 s
  | _, _ => none
def r01Compare.an : An := ⟨55, false, [2, 3], [], [], [(3, [(z4 0 17), (z4 2 25), (z4 1 4), (z4 3 4), (z4 4 0), (z4 5 0)]), (11, [(z4 0 0), (z4 1 0), (z4 2 2), (z4 3 2), (z4 4 0), (z4 5 0), (z4 6 2), (z4 7 2), (z4 8 0), (z4 9 0)])]⟩
theorem r01Compare.ok (S : Sig) (a0 a1 : Value) (s : St) : evF S Tryz.prog r01Compare.ctx r01Compare.an Tryz.f127 [a0, a1] s = r01Compare.t S a0 a1 s := by kernel_rfl
theorem r01Compare.cok : CtxOk Tryz.prog r01Compare.ctx := .cons r01Right.sound r01Right.can <| .cons r01Bits.sound r01Bits.can <| .cons r01common.sound r01common.can <| .nil
theorem r01Compare.draws : fnDraws r01Compare.an Tryz.f127 = true := by kernel_rfl
theorem r01Compare.can : callOk Tryz.prog 127 = true := by kernel_rfl
theorem r01Compare.sound : FnOk Tryz.prog 127 (.st r01Compare.w) := FnOk.st_of (evF_ok r01Compare.cok mixed (f := 127) (fn := Tryz.f127) (by kernel_rfl) r01Compare.draws) fun args s r h => by
  unfold r01Compare.w at h; split at h
  · rw [r01Compare.ok std]; exact h
  · simp at h
def r01CompareQ.r (a0 a1 : Value) (s : St) : Option Value := frzR (fun s => r01Compare.v a0 a1 s) s
def r01CompareQ.w : List Value → St → Option Value := fun args s => frzR (r01Compare.w args) s
theorem r01CompareQ.can : callOk Tryz.prog 127 = true := r01Compare.can
theorem r01CompareQ.sound : FnOk Tryz.prog 127 (.rd r01CompareQ.w) := FnOk.frozen r01Compare.sound
def r11sorted.ctx : Ctx := [(81, .rd r09Less.w)]
def r11sorted.l6 (S : Sig) (rec60 : List Value → St → Option Cut) (xs58 : List Value) (s59 : St) : Option Cut :=
  S.bd (lenL (xs58.getD 1 undef)) fun x61 => S.bd (bin .lss (xs58.getD 3 undef) x61) fun x62 => S.bd (S.gd x62 true (some (xs58.getD 1 undef))) fun x63 => S.bd (S.gd x62 true (some (xs58.getD 3 undef))) fun x64 => S.bd (S.gd x62 true (idx s59 5 x63 x64)) fun x65 => S.bd (S.gd x62 true (fld 1 x65)) fun x66 => S.bd (S.gd x62 true (lda s59 2 x66)) fun x67 => S.bd (S.gd x62 true (some (xs58.getD 0 undef))) fun x68 => S.bd (S.gd x62 true (some (xs58.getD 2 undef))) fun x69 => S.bd (S.gd x62 true (idx s59 5 x68 x69)) fun x70 => S.bd (S.gd x62 true (fld 1 x70)) fun x71 => S.bd (S.gd x62 true (lda s59 2 x71)) fun x72 => S.bd (S.gd x62 true (r09Less.r x67 x72 s59)) fun x73 => S.bd (pik x62 x73 (.bool Bool.false)) fun x74 => S.cnd x74 (S.bd (bin .add (xs58.getD 3 undef) (.int .i64 1)) fun x75 => rec60 [(xs58.getD 0 undef), (xs58.getD 1 undef), (xs58.getD 2 undef), x75] s59) (some (0, [(xs58.getD 0 undef), (xs58.getD 1 undef), (xs58.getD 2 undef), (xs58.getD 3 undef), x63, x64, x65, x66, x67, x68, x69, x70, x71, x72, x73], s59))
def r11sorted.l3.p1 (S : Sig) (xs53 : List Value) (s54 : St) (rec55 : List Value → St → Option Cut) : Option Cut :=
  S.bd (S.it (r11sorted.l6 S) [(xs53.getD 0 undef), (xs53.getD 1 undef), (xs53.getD 2 undef), (.int .i64 0)] s54) fun r76 => S.bd (slc r76.2.2 5 (r76.2.1.getD 1 undef) none (some (r76.2.1.getD 3 undef)) none) fun x77 => S.bd (idx r76.2.2 5 (r76.2.1.getD 0 undef) (r76.2.1.getD 2 undef)) fun x78 => S.bd (lda r76.2.2 5 x78) fun x79 => S.bd (slc r76.2.2 5 (r76.2.1.getD 1 undef) (some (r76.2.1.getD 3 undef)) none none) fun x80 => S.bd (S.bd (bls 5 (List.replicate 1 [(.int .i64 0), (.int .i64 0), (.int .u64 0), (.int .i64 0), (.int .u64 0)]) [(0, x79)]) fun rows => als r76.2.2 5 1 rows) fun _ => S.bd (S.bd (bls 5 (List.replicate 0 [(.int .i64 0), (.int .i64 0), (.int .u64 0), (.int .i64 0), (.int .u64 0)]) []) fun rows => als r76.2.2 5 0 rows) fun r81 => S.bd (S.bd (bls 5 (List.replicate 1 [(.int .i64 0), (.int .i64 0), (.int .u64 0), (.int .i64 0), (.int .u64 0)]) [(0, x79)]) fun rows => als r81.2 5 1 rows) fun _ => S.bd (app r81.2 5 40 r81.1 x77) fun r82 => S.bd (idx r82.2 5 (r76.2.1.getD 0 undef) (r76.2.1.getD 2 undef)) fun x83 => S.cnd (Value.bool (sameV x83 x78)) (S.bd (lda r82.2 5 x78) fun x84 => S.cnd (Value.bool (sameV x84 x79)) (S.bd (slc r82.2 5 (r76.2.1.getD 1 undef) (some (r76.2.1.getD 3 undef)) none none) fun x85 => S.cnd (Value.bool (sameV x85 x80)) (S.bd (S.bd (bls 5 (List.replicate 1 [(.int .i64 0), (.int .i64 0), (.int .u64 0), (.int .i64 0), (.int .u64 0)]) [(0, x79)]) fun rows => als r82.2 5 1 rows) fun r86 => S.bd (app r86.2 5 40 r82.1 r86.1) fun r87 => S.bd (idx r87.2 5 (r76.2.1.getD 0 undef) (r76.2.1.getD 2 undef)) fun x88 => S.cnd (Value.bool (sameV x88 x78)) (S.bd (slc r87.2 5 (r76.2.1.getD 1 undef) (some (r76.2.1.getD 3 undef)) none none) fun x89 => S.cnd (Value.bool (sameV x89 x80)) (S.bd (app r87.2 5 40 r87.1 x80) fun r90 => S.bd (idx r90.2 5 (r76.2.1.getD 0 undef) (r76.2.1.getD 2 undef)) fun x91 => S.cnd (Value.bool (sameV x91 x78)) (S.bd (bin .add (r76.2.1.getD 2 undef) (.int .i64 1)) fun x92 => rec55 [(r76.2.1.getD 0 undef), r90.1, x92] r90.2) (none)) (none)) (none)) (none)) (none)) (none)
def r11sorted.l3 (S : Sig) (rec55 : List Value → St → Option Cut) (xs53 : List Value) (s54 : St) : Option Cut :=
  S.bd (lenL (xs53.getD 0 undef)) fun x56 => S.bd (bin .lss (xs53.getD 2 undef) x56) fun x57 => S.cnd x57 (r11sorted.l3.p1 S xs53 s54 rec55) (some (0, [(xs53.getD 1 undef)], s54))
def r11sorted.t (S : Sig) (a0 : Value) (s : St) : Option (Value × St) :=
  S.bd (S.it (r11sorted.l3 S) [a0, (.slice none 0 0), (.int .i64 0)] s) fun r93 => some ((r93.2.1.getD 0 undef), r93.2.2)
def r11sorted.v (a0 : Value) (s : St) : Option (Value × St) := r11sorted.t std a0 s
def r11sorted.w : List Value → St → Option (Value × St)
  | [a0], s => r11sorted.v a0 s
  | _, _ => none
def r11sorted.an : An := ⟨47, false, [], [(6, ⟨[.v 0, .v 3, .v 4, .v 5], [(.exit 2, [.v 0, .v 3, .v 4, .v 5, .v 17, .v 18, .v 19, .v 20, .v 21, .v 22, .v 23, .v 24, .v 25, .v 26, .v 27])]⟩), (3, ⟨[.v 0, .v 3, .v 4], [(.exit 0, [.v 3])]⟩)], [], [(6, [(z4 0 0), (z4 1 0), (z4 2 2), (z4 3 0), (z4 4 0), (z4 5 0), (z4 6 0), (z4 7 2), (z4 8 0), (z4 9 2), (z4 10 0), (z4 11 0), (z4 12 2), (z4 13 0), (z4 14 2), (z4 15 3), (z4 16 0)]), (8, [(z4 1 0), (z4 2 0), (z4 3 2), (z4 5 0), (z4 6 0), (z4 7 2), (z4 8 2), (z4 11 0), (z4 12 0), (z4 13 2), (0, 3, [], [9]), (4, 4, [7, 8, 13], [9]), (z4 9 3), (10, 4, [7, 13], []), (14, 4, [7], []), (z4 15 3)])]⟩
theorem r11sorted.ok (S : Sig) (a0 : Value) (s : St) : evF S Tryz.prog r11sorted.ctx r11sorted.an Tryz.f136 [a0] s = r11sorted.t S a0 s := by kernel_rfl
theorem r11sorted.cok : CtxOk Tryz.prog r11sorted.ctx := .cons r09Less.sound r09Less.can <| .nil
theorem r11sorted.draws : fnDraws r11sorted.an Tryz.f136 = true := by kernel_rfl
theorem r11sorted.can : callOk Tryz.prog 136 = true := by kernel_rfl
theorem r11sorted.sound : FnOk Tryz.prog 136 (.st r11sorted.w) := FnOk.st_of (evF_ok r11sorted.cok mixed (f := 136) (fn := Tryz.f136) (by kernel_rfl) r11sorted.draws) fun args s r h => by
  unfold r11sorted.w at h; split at h
  · rw [r11sorted.ok std]; exact h
  · simp at h
def r11members.ctx : Ctx := [(79, .rd r01BeginsQ.w), (136, .st r11sorted.w)]
def r11members.l3 (S : Sig) (rec17 : List Value → St → Option Cut) (xs15 : List Value) (s16 : St) : Option Cut :=
  S.bd (lenL (xs15.getD 0 undef)) fun x18 => S.bd (bin .lss (xs15.getD 2 undef) x18) fun x19 => S.cnd x19 (S.bd (idx s16 5 (xs15.getD 0 undef) (xs15.getD 2 undef)) fun x20 => S.bd (fld 3 x20) fun x21 => S.bd (lda s16 2 x21) fun x22 => S.bd (lal (cellsA (xs15.getD 3 undef)) 0 2) fun x23 => S.bd (r01BeginsQ.r x22 x23 s16) fun x24 => S.cnd x24 (S.bd (idx s16 5 (xs15.getD 0 undef) (xs15.getD 2 undef)) fun x25 => S.bd (lda s16 5 x25) fun x26 => S.bd (S.bd (bls 5 (List.replicate 1 [(.int .i64 0), (.int .i64 0), (.int .u64 0), (.int .i64 0), (.int .u64 0)]) [(0, x26)]) fun rows => als s16 5 1 rows) fun r27 => S.bd (app r27.2 5 40 (xs15.getD 1 undef) r27.1) fun r28 => S.bd (bin .add (xs15.getD 2 undef) (.int .i64 1)) fun x29 => rec17 [(xs15.getD 0 undef), r28.1, x29, (Value.agg ⟨(cellsA (xs15.getD 3 undef))⟩)] r28.2) (S.bd (bin .add (xs15.getD 2 undef) (.int .i64 1)) fun x30 => rec17 [(xs15.getD 0 undef), (xs15.getD 1 undef), x30, (Value.agg ⟨(cellsA (xs15.getD 3 undef))⟩)] s16)) (some (0, [(xs15.getD 1 undef)], s16))
def r11members.t (S : Sig) (a0 a1 : Value) (s : St) : Option (Value × St) :=
  S.bd (bx a0) fun c1 => S.bd (S.it (r11members.l3 S) [a1, (.slice none 0 0), (.int .i64 0), (Value.agg ⟨c1⟩)] s) fun r31 => S.bd (r11sorted.v (r31.2.1.getD 0 undef) r31.2.2) fun r32 => some (r32.1, r32.2)
def r11members.v (a0 a1 : Value) (s : St) : Option (Value × St) := r11members.t std a0 a1 s
def r11members.w : List Value → St → Option (Value × St)
  | [a0, a1], s => r11members.v a0 a1 s
  | _, _ => none
def r11members.an : An := ⟨29, false, [2], [(3, ⟨[.v 1, .p 2 2 0, .v 5, .v 6, .l 2], [(.exit 0, [.v 5])]⟩)], [], [(5, [(z4 0 0), (z4 1 0), (z4 2 2), (z4 3 0), (z4 4 2), (z4 5 17), (z4 6 3)])]⟩
theorem r11members.ok (S : Sig) (a0 a1 : Value) (s : St) : evF S Tryz.prog r11members.ctx r11members.an Tryz.f128 [a0, a1] s = r11members.t S a0 a1 s := by kernel_rfl
theorem r11members.cok : CtxOk Tryz.prog r11members.ctx := .cons r01BeginsQ.sound r01BeginsQ.can <| .cons r11sorted.sound r11sorted.can <| .nil
theorem r11members.draws : fnDraws r11members.an Tryz.f128 = true := by kernel_rfl
theorem r11members.can : callOk Tryz.prog 128 = true := by kernel_rfl
theorem r11members.sound : FnOk Tryz.prog 128 (.st r11members.w) := FnOk.st_of (evF_ok r11members.cok mixed (f := 128) (fn := Tryz.f128) (by kernel_rfl) r11members.draws) fun args s r h => by
  unfold r11members.w at h; split at h
  · rw [r11members.ok std]; exact h
  · simp at h
def r11with.ctx : Ctx := [(127, .rd r01CompareQ.w), (128, .st r11members.w)]
def r11with.l2 (S : Sig) (rec16 : List Value → St → Option Cut) (xs14 : List Value) (s15 : St) : Option Cut :=
  S.bd (lenL (xs14.getD 0 undef)) fun x17 => S.bd (bin .lss (xs14.getD 2 undef) x17) fun x18 => S.cnd x18 (S.bd (idx s15 3 (xs14.getD 0 undef) (xs14.getD 2 undef)) fun x19 => S.bd (fld 0 x19) fun x20 => S.bd (lda s15 2 x20) fun x21 => S.bd (lal (cellsA (xs14.getD 3 undef)) 0 2) fun x22 => S.bd (r01CompareQ.r x21 x22 s15) fun x23 => S.bd (xtr 0 x23) fun x24 => S.bd (xtr 1 x23) fun x25 => S.bd (eqb [1] false false x24 (.int .i64 0)) fun x26 => S.cnd x26 (some (1, [(xs14.getD 0 undef)], s15)) (S.bd (bin .gtr x24 (.int .i64 0)) fun x27 => S.cnd x27 (some (0, [(xs14.getD 0 undef), (xs14.getD 1 undef), (xs14.getD 2 undef), (Value.agg ⟨(cellsA (xs14.getD 3 undef))⟩)], s15)) (S.bd (bin .add (xs14.getD 2 undef) (.int .i64 1)) fun x28 => rec16 [(xs14.getD 0 undef), (xs14.getD 1 undef), x28, (Value.agg ⟨(cellsA (xs14.getD 3 undef))⟩)] s15))) (some (0, [(xs14.getD 0 undef), (xs14.getD 1 undef), (xs14.getD 2 undef), (Value.agg ⟨(cellsA (xs14.getD 3 undef))⟩)], s15))
def r11with.t (S : Sig) (a0 a1 a2 : Value) (s : St) : Option (Value × St) :=
  S.bd (bx a1) fun c1 => S.bd (S.it (r11with.l2 S) [a0, a2, (.int .i64 0), (Value.agg ⟨c1⟩)] s) fun r29 => if r29.1 = 0 then (S.bd (slc r29.2.2 3 (r29.2.1.getD 0 undef) none (some (r29.2.1.getD 2 undef)) none) fun x30 => S.bd (lal (cellsA (r29.2.1.getD 3 undef)) 0 2) fun x31 => S.bd (lal (cellsA (r29.2.1.getD 3 undef)) 0 2) fun x32 => S.bd (slc r29.2.2 3 (r29.2.1.getD 0 undef) (some (r29.2.1.getD 2 undef)) none none) fun x33 => S.bd (S.bd (bls 3 (List.replicate 0 [(.int .i64 0), (.int .u64 0), (.slice none 0 0)]) []) fun rows => als r29.2.2 3 0 rows) fun r34 => S.bd (app r34.2 3 40 r34.1 x30) fun r35 => S.bd (slc r35.2 3 (r29.2.1.getD 0 undef) (some (r29.2.1.getD 2 undef)) none none) fun x36 => S.cnd (Value.bool (sameV x36 x33)) (S.bd (r11members.v x32 (r29.2.1.getD 1 undef) r35.2) fun r37 => S.bd (slc r37.2 3 (r29.2.1.getD 0 undef) (some (r29.2.1.getD 2 undef)) none none) fun x38 => S.cnd (Value.bool (sameV x38 x33)) (S.bd (bld [(.int .i64 0), (.int .u64 0), (.slice none 0 0)] [(0, 2, x31), (2, 1, r37.1)]) fun x39 => S.bd (S.bd (bls 3 (List.replicate 1 [(.int .i64 0), (.int .u64 0), (.slice none 0 0)]) [(0, x39)]) fun rows => als r37.2 3 1 rows) fun r40 => S.bd (app r40.2 3 40 r35.1 r40.1) fun r41 => S.bd (slc r41.2 3 (r29.2.1.getD 0 undef) (some (r29.2.1.getD 2 undef)) none none) fun x42 => S.cnd (Value.bool (sameV x42 x33)) (S.bd (app r41.2 3 40 r41.1 x33) fun r43 => some (r43.1, r43.2)) (none)) (none)) (none)) else (some ((r29.2.1.getD 0 undef), r29.2.2))
def r11with.v (a0 a1 a2 : Value) (s : St) : Option (Value × St) := r11with.t std a0 a1 a2 s
def r11with.w : List Value → St → Option (Value × St)
  | [a0, a1, a2], s => r11with.v a0 a1 a2 s
  | _, _ => none
def r11with.an : An := ⟨47, false, [4], [(2, ⟨[.v 0, .v 2, .p 4 4 0, .v 7, .l 4], [(.exit 0, [.v 0, .v 2, .p 4 4 0, .v 7, .l 4]), (.ret, [.v 6])]⟩)], [], [(3, [(z4 0 0), (z4 1 0), (z4 2 2), (z4 3 0), (z4 4 2), (z4 5 33), (z4 6 3), (z4 7 0), (z4 8 0), (z4 9 0), (z4 10 0), (z4 11 0)]), (8, [(z4 1 0), (z4 2 0), (z4 3 2), (z4 5 33), (z4 6 33), (z4 7 0), (z4 12 0), (z4 13 0), (z4 14 2), (z4 0 3), (4, 4, [14], []), (8, 4, [14], []), (z4 9 0), (z4 10 3), (11, 4, [14], []), (z4 15 4), (z4 16 0)])]⟩
theorem r11with.ok (S : Sig) (a0 a1 a2 : Value) (s : St) : evF S Tryz.prog r11with.ctx r11with.an Tryz.f97 [a0, a1, a2] s = r11with.t S a0 a1 a2 s := by kernel_rfl
theorem r11with.cok : CtxOk Tryz.prog r11with.ctx := .cons r01CompareQ.sound r01CompareQ.can <| .cons r11members.sound r11members.can <| .nil
theorem r11with.draws : fnDraws r11with.an Tryz.f97 = true := by kernel_rfl
theorem r11with.can : callOk Tryz.prog 97 = true := by kernel_rfl
theorem r11with.sound : FnOk Tryz.prog 97 (.st r11with.w) := FnOk.st_of (evF_ok r11with.cok mixed (f := 97) (fn := Tryz.f97) (by kernel_rfl) r11with.draws) fun args s r h => by
  unfold r11with.w at h; split at h
  · rw [r11with.ok std]; exact h
  · simp at h
def r11Lists.ctx : Ctx := [(8, .rd r11Check.w), (96, .st r01Prefixes.w), (97, .st r11with.w)]
def r11Lists.l9 (S : Sig) (rec37 : List Value → St → Option Cut) (xs35 : List Value) (s36 : St) : Option Cut :=
  S.bd (lenL (xs35.getD 3 undef)) fun x38 => S.bd (bin .lss (xs35.getD 4 undef) x38) fun x39 => S.cnd x39 (S.bd (idx s36 2 (xs35.getD 3 undef) (xs35.getD 4 undef)) fun x40 => S.bd (lda s36 2 x40) fun x41 => S.bd (r11with.v (xs35.getD 1 undef) x41 (xs35.getD 0 undef) s36) fun r42 => S.bd (bin .add (xs35.getD 4 undef) (.int .i64 1)) fun x43 => rec37 [(xs35.getD 0 undef), r42.1, (xs35.getD 2 undef), (xs35.getD 3 undef), x43] r42.2) (some (0, [(xs35.getD 0 undef), (xs35.getD 1 undef), (xs35.getD 2 undef)], s36))
def r11Lists.l5 (S : Sig) (rec28 : List Value → St → Option Cut) (xs26 : List Value) (s27 : St) : Option Cut :=
  S.bd (lenL (xs26.getD 0 undef)) fun x29 => S.bd (bin .lss (xs26.getD 2 undef) x29) fun x30 => S.cnd x30 (S.bd (idx s27 5 (xs26.getD 0 undef) (xs26.getD 2 undef)) fun x31 => S.bd (fld 3 x31) fun x32 => S.bd (lda s27 2 x32) fun x33 => S.bd (r01Prefixes.v x33 s27) fun r34 => S.bd (S.it (r11Lists.l9 S) [(xs26.getD 0 undef), (xs26.getD 1 undef), (xs26.getD 2 undef), r34.1, (.int .i64 0)] r34.2) fun r44 => S.bd (bin .add (r44.2.1.getD 2 undef) (.int .i64 1)) fun x45 => rec28 [(r44.2.1.getD 0 undef), (r44.2.1.getD 1 undef), x45] r44.2.2) (some (0, [(xs26.getD 1 undef)], s27))
def r11Lists.t (S : Sig) (a0 a1 : Value) (s : St) : Option (Value × St) :=
  S.bd (r11Check.r a0 a1 s) fun x1 => S.bd (eqb [1] false true x1 (.int .i64 0)) fun x2 => S.cnd x2 (some ((Value.tuple ⟨[(.slice none 0 0), (.int .i64 110)]⟩), s)) (S.bd (S.it (r11Lists.l5 S) [a1, (.slice none 0 0), (.int .i64 0)] s) fun r46 => some ((Value.tuple ⟨[(r46.2.1.getD 0 undef), (.int .i64 0)]⟩), r46.2.2))
def r11Lists.v (a0 a1 : Value) (s : St) : Option (Value × St) := r11Lists.t std a0 a1 s
def r11Lists.w : List Value → St → Option (Value × St)
  | [a0, a1], s => r11Lists.v a0 a1 s
  | _, _ => none
def r11Lists.an : An := ⟨40, false, [], [(9, ⟨[.v 1, .v 6, .v 7, .v 8, .v 9], [(.exit 2, [.v 1, .v 6, .v 7])]⟩), (5, ⟨[.v 1, .v 6, .v 7], [(.exit 0, [.v 6])]⟩)], [], []⟩
theorem r11Lists.ok (S : Sig) (a0 a1 : Value) (s : St) : evF S Tryz.prog r11Lists.ctx r11Lists.an Tryz.f53 [a0, a1] s = r11Lists.t S a0 a1 s := by kernel_rfl
theorem r11Lists.cok : CtxOk Tryz.prog r11Lists.ctx := .cons r11Check.sound r11Check.can <| .cons r01Prefixes.sound r01Prefixes.can <| .cons r11with.sound r11with.can <| .nil
theorem r11Lists.draws : fnDraws r11Lists.an Tryz.f53 = true := by kernel_rfl
theorem r11Lists.can : callOk Tryz.prog 53 = true := by kernel_rfl
theorem r11Lists.sound : FnOk Tryz.prog 53 (.st r11Lists.w) := FnOk.st_of (evF_ok r11Lists.cok mixed (f := 53) (fn := Tryz.f53) (by kernel_rfl) r11Lists.draws) fun args s r h => by
  unfold r11Lists.w at h; split at h
  · rw [r11Lists.ok std]; exact h
  · simp at h
def r09Head.ctx : Ctx := []
def r09Head.t (S : Sig) (a0 : Value) (s : St) : Option Value :=
  S.bd (bx (Go.Value.agg #[(.int .i64 0), (.int .i64 0), (.int .u64 0), (.int .i64 0), (.int .u64 0)])) fun c1 => S.bd (bin .lss a0 (.int .i64 0)) fun x2 => S.bd (S.gd x2 false (some a0)) fun x3 => S.bd (S.gd x2 false (bin .gtr x3 (.int .i64 32))) fun x4 => S.bd (pik x2 (.bool Bool.true) x4) fun x5 => S.cnd x5 (S.bd (bld [(.int .i64 0), (.int .i64 0), (.int .u64 0), (.int .i64 0), (.int .u64 0)] []) fun x6 => S.bd (stl c1 0 5 x6) fun c7 => S.bd (lal c7 0 5) fun x8 => some ((Value.tuple ⟨[x8, (.int .i64 90)]⟩))) (S.bd (bld [(.int .i64 0), (.int .u64 0)] [(0, 1, (.int .i64 1))]) fun x9 => S.bd (bld [(.int .i64 0), (.int .u64 0)] [(0, 1, a0)]) fun x10 => S.bd (bld [(.int .i64 0), (.int .i64 0), (.int .u64 0), (.int .i64 0), (.int .u64 0)] [(0, 1, (.int .i64 0)), (1, 2, x9), (3, 2, x10)]) fun x11 => S.bd (stl c1 0 5 x11) fun c12 => S.bd (lal c12 0 5) fun x13 => some ((Value.tuple ⟨[x13, (.int .i64 0)]⟩)))
def r09Head.r (a0 : Value) (s : St) : Option Value := r09Head.t std a0 s
def r09Head.w : List Value → St → Option Value
  | [a0], s => r09Head.r a0 s
  | _, _ => none
def r09Head.an : An := ⟨15, true, [2], [], [], []⟩
theorem r09Head.ok (S : Sig) (a0 : Value) (s : St) : evG S Tryz.prog r09Head.ctx r09Head.an Tryz.f129 [a0] s = r09Head.t S a0 s := by kernel_rfl
theorem r09Head.cok : CtxOk Tryz.prog r09Head.ctx := .nil
theorem r09Head.draws : fnDraws r09Head.an Tryz.f129 = true := by kernel_rfl
theorem r09Head.can : callOk Tryz.prog 129 = true := by kernel_rfl
theorem r09Head.sound : FnOk Tryz.prog 129 (.rd r09Head.w) := FnOk.rd_of (evG_ok r09Head.cok mixed (f := 129) (fn := Tryz.f129) (by kernel_rfl) r09Head.draws) fun args s r h => by
  unfold r09Head.w at h; split at h
  · rw [r09Head.ok std]; exact h
  · simp at h
def r09Tail.ctx : Ctx := []
def r09Tail.t (S : Sig) (a0 : Value) (s : St) : Option Value :=
  S.bd (bx (Go.Value.agg #[(.int .i64 0), (.int .i64 0), (.int .u64 0), (.int .i64 0), (.int .u64 0)])) fun c1 => S.bd (bin .lss a0 (.int .i64 0)) fun x2 => S.bd (S.gd x2 false (some a0)) fun x3 => S.bd (S.gd x2 false (bin .gtr x3 (.int .i64 32))) fun x4 => S.bd (pik x2 (.bool Bool.true) x4) fun x5 => S.cnd x5 (S.bd (bld [(.int .i64 0), (.int .i64 0), (.int .u64 0), (.int .i64 0), (.int .u64 0)] []) fun x6 => S.bd (stl c1 0 5 x6) fun c7 => S.bd (lal c7 0 5) fun x8 => some ((Value.tuple ⟨[x8, (.int .i64 90)]⟩))) (S.bd (bld [(.int .i64 0), (.int .u64 0)] [(0, 1, (.int .i64 3))]) fun x9 => S.bd (bld [(.int .i64 0), (.int .u64 0)] [(0, 1, a0)]) fun x10 => S.bd (bld [(.int .i64 0), (.int .i64 0), (.int .u64 0), (.int .i64 0), (.int .u64 0)] [(0, 1, (.int .i64 1)), (1, 2, x9), (3, 2, x10)]) fun x11 => S.bd (stl c1 0 5 x11) fun c12 => S.bd (lal c12 0 5) fun x13 => some ((Value.tuple ⟨[x13, (.int .i64 0)]⟩)))
def r09Tail.r (a0 : Value) (s : St) : Option Value := r09Tail.t std a0 s
def r09Tail.w : List Value → St → Option Value
  | [a0], s => r09Tail.r a0 s
  | _, _ => none
def r09Tail.an : An := ⟨15, true, [2], [], [], []⟩
theorem r09Tail.ok (S : Sig) (a0 : Value) (s : St) : evG S Tryz.prog r09Tail.ctx r09Tail.an Tryz.f130 [a0] s = r09Tail.t S a0 s := by kernel_rfl
theorem r09Tail.cok : CtxOk Tryz.prog r09Tail.ctx := .nil
theorem r09Tail.draws : fnDraws r09Tail.an Tryz.f130 = true := by kernel_rfl
theorem r09Tail.can : callOk Tryz.prog 130 = true := by kernel_rfl
theorem r09Tail.sound : FnOk Tryz.prog 130 (.rd r09Tail.w) := FnOk.rd_of (evG_ok r09Tail.cok mixed (f := 130) (fn := Tryz.f130) (by kernel_rfl) r09Tail.draws) fun args s r h => by
  unfold r09Tail.w at h; split at h
  · rw [r09Tail.ok std]; exact h
  · simp at h
def r11Row.ctx : Ctx := [(129, .rd r09Head.w), (130, .rd r09Tail.w), (128, .st r11members.w)]
def r11Row.t.p1 (S : Sig) (x8 : Value) (c6 : List Value) (c1 : List Value) (s : St) (a2 : Value) : Option (Value × St) :=
  S.bd (bx (Go.Value.agg #[(.int .i64 0), (.int .i64 0), (.int .u64 0), (.int .i64 0), (.int .u64 0)])) fun c10 => S.bd (stl c10 0 5 x8) fun c11 => S.bd (lal c6 0 5) fun x12 => S.bd (lal c1 0 2) fun x13 => S.bd (lal c11 0 5) fun x14 => S.bd (S.bd (bls 5 (List.replicate 1 [(.int .i64 0), (.int .i64 0), (.int .u64 0), (.int .i64 0), (.int .u64 0)]) [(0, x12)]) fun rows => als s 5 1 rows) fun _ => S.bd (S.bd (bls 5 (List.replicate 1 [(.int .i64 0), (.int .i64 0), (.int .u64 0), (.int .i64 0), (.int .u64 0)]) [(0, x14)]) fun rows => als s 5 1 rows) fun _ => S.bd (r11members.v x13 a2 s) fun r15 => S.bd (S.bd (bls 5 (List.replicate 1 [(.int .i64 0), (.int .i64 0), (.int .u64 0), (.int .i64 0), (.int .u64 0)]) [(0, x14)]) fun rows => als r15.2 5 1 rows) fun _ => S.bd (S.bd (bls 5 (List.replicate 1 [(.int .i64 0), (.int .i64 0), (.int .u64 0), (.int .i64 0), (.int .u64 0)]) [(0, x12)]) fun rows => als r15.2 5 1 rows) fun r16 => S.bd (S.bd (bls 5 (List.replicate 1 [(.int .i64 0), (.int .i64 0), (.int .u64 0), (.int .i64 0), (.int .u64 0)]) [(0, x14)]) fun rows => als r16.2 5 1 rows) fun _ => S.bd (app r16.2 5 40 r16.1 r15.1) fun r17 => S.bd (S.bd (bls 5 (List.replicate 1 [(.int .i64 0), (.int .i64 0), (.int .u64 0), (.int .i64 0), (.int .u64 0)]) [(0, x14)]) fun rows => als r17.2 5 1 rows) fun r18 => S.bd (app r18.2 5 40 r17.1 r18.1) fun r19 => some (r19.1, r19.2)
def r11Row.t (S : Sig) (a0 a1 a2 : Value) (s : St) : Option (Value × St) :=
  S.bd (bx a1) fun c1 => S.bd (r09Head.r a0 s) fun x2 => S.bd (xtr 0 x2) fun x3 => S.bd (xtr 1 x2) fun x4 => S.bd (bx (Go.Value.agg #[(.int .i64 0), (.int .i64 0), (.int .u64 0), (.int .i64 0), (.int .u64 0)])) fun c5 => S.bd (stl c5 0 5 x3) fun c6 => S.bd (r09Tail.r a0 s) fun x7 => S.bd (xtr 0 x7) fun x8 => S.bd (xtr 1 x7) fun x9 => r11Row.t.p1 S x8 c6 c1 s a2
def r11Row.v (a0 a1 a2 : Value) (s : St) : Option (Value × St) := r11Row.t std a0 a1 a2 s
def r11Row.w : List Value → St → Option (Value × St)
  | [a0, a1, a2], s => r11Row.v a0 a1 a2 s
  | _, _ => none
def r11Row.an : An := ⟨30, false, [4, 7, 9], [], [], [(3, [(z4 0 57), (z4 2 33), (z4 3 0), (z4 6 73), (4, 4, [], [1, 7]), (1, 3, [], [7]), (5, 4, [], [7]), (z4 7 3), (z4 8 4), (z4 9 0)])]⟩
theorem r11Row.ok (S : Sig) (a0 a1 a2 : Value) (s : St) : evF S Tryz.prog r11Row.ctx r11Row.an Tryz.f98 [a0, a1, a2] s = r11Row.t S a0 a1 a2 s := by kernel_rfl
theorem r11Row.cok : CtxOk Tryz.prog r11Row.ctx := .cons r09Head.sound r09Head.can <| .cons r09Tail.sound r09Tail.can <| .cons r11members.sound r11members.can <| .nil
theorem r11Row.draws : fnDraws r11Row.an Tryz.f98 = true := by kernel_rfl
theorem r11Row.can : callOk Tryz.prog 98 = true := by kernel_rfl
theorem r11Row.sound : FnOk Tryz.prog 98 (.st r11Row.w) := FnOk.st_of (evF_ok r11Row.cok mixed (f := 98) (fn := Tryz.f98) (by kernel_rfl) r11Row.draws) fun args s r h => by
  unfold r11Row.w at h; split at h
  · rw [r11Row.ok std]; exact h
  · simp at h
def r11beside.ctx : Ctx := []
def r11beside.l2.p1 (S : Sig) (xs42 : List Value) (s43 : St) : Option Cut :=
  S.bd (bx (Go.Value.agg #[(.int .i64 0), (.int .i64 0), (.int .u64 0), (.int .i64 0), (.int .u64 0)])) fun c52 => S.bd (bx (Go.Value.agg #[(.int .i64 0), (.int .i64 0), (.int .u64 0), (.int .i64 0), (.int .u64 0)])) fun c53 => S.bd (show Option Cut from S.bd (bin .gtr (xs42.getD 2 undef) (.int .i64 0)) fun x54 => S.cnd x54 (S.bd (bin .sub (xs42.getD 2 undef) (.int .i64 1)) fun x55 => S.bd (idx s43 5 (xs42.getD 0 undef) x55) fun x56 => S.bd (lda s43 5 x56) fun x57 => S.bd (stl c52 0 5 x57) fun c58 => some (0, [(xs42.getD 0 undef), (xs42.getD 2 undef), (Value.agg ⟨(cellsA (xs42.getD 3 undef))⟩), (Value.agg ⟨(cellsA (xs42.getD 4 undef))⟩), (Value.agg ⟨c58⟩), (Value.agg ⟨c53⟩)], s43)) (some (0, [(xs42.getD 0 undef), (xs42.getD 2 undef), (Value.agg ⟨(cellsA (xs42.getD 3 undef))⟩), (Value.agg ⟨(cellsA (xs42.getD 4 undef))⟩), (Value.agg ⟨c52⟩), (Value.agg ⟨c53⟩)], s43))) fun r59 => S.bd (show Option Cut from S.bd (bin .add (r59.2.1.getD 1 undef) (.int .i64 1)) fun x60 => S.bd (lenL (r59.2.1.getD 0 undef)) fun x61 => S.bd (bin .lss x60 x61) fun x62 => S.cnd x62 (S.bd (bin .add (r59.2.1.getD 1 undef) (.int .i64 1)) fun x63 => S.bd (idx r59.2.2 5 (r59.2.1.getD 0 undef) x63) fun x64 => S.bd (lda r59.2.2 5 x64) fun x65 => S.bd (stl (cellsA (r59.2.1.getD 5 undef)) 0 5 x65) fun c66 => some (0, [(Value.agg ⟨(cellsA (r59.2.1.getD 2 undef))⟩), (Value.agg ⟨(cellsA (r59.2.1.getD 3 undef))⟩), (Value.agg ⟨(cellsA (r59.2.1.getD 4 undef))⟩), (Value.agg ⟨c66⟩)], r59.2.2)) (some (0, [(Value.agg ⟨(cellsA (r59.2.1.getD 2 undef))⟩), (Value.agg ⟨(cellsA (r59.2.1.getD 3 undef))⟩), (Value.agg ⟨(cellsA (r59.2.1.getD 4 undef))⟩), (Value.agg ⟨(cellsA (r59.2.1.getD 5 undef))⟩)], r59.2.2))) fun r67 => S.bd (lal (cellsA (r67.2.1.getD 2 undef)) 0 5) fun x68 => S.bd (lal (cellsA (r67.2.1.getD 3 undef)) 0 5) fun x69 => S.bd (stl (cellsA (r67.2.1.getD 0 undef)) 0 5 x68) fun c70 => S.bd (stl (cellsA (r67.2.1.getD 1 undef)) 0 5 x69) fun c71 => some (1, [(.bool Bool.true), (Value.agg ⟨c70⟩), (Value.agg ⟨c71⟩)], r67.2.2)
def r11beside.l2 (S : Sig) (rec44 : List Value → St → Option Cut) (xs42 : List Value) (s43 : St) : Option Cut :=
  S.bd (lenL (xs42.getD 0 undef)) fun x45 => S.bd (bin .lss (xs42.getD 2 undef) x45) fun x46 => S.cnd x46 (S.bd (idx s43 5 (xs42.getD 0 undef) (xs42.getD 2 undef)) fun x47 => S.bd (fld 0 x47) fun x48 => S.bd (ldc s43 x48) fun x49 => S.bd (eqb [1] false true x49 (xs42.getD 1 undef)) fun x50 => S.cnd x50 (S.bd (bin .add (xs42.getD 2 undef) (.int .i64 1)) fun x51 => rec44 [(xs42.getD 0 undef), (xs42.getD 1 undef), x51, (Value.agg ⟨(cellsA (xs42.getD 3 undef))⟩), (Value.agg ⟨(cellsA (xs42.getD 4 undef))⟩)] s43) (r11beside.l2.p1 S xs42 s43)) (some (0, [(Value.agg ⟨(cellsA (xs42.getD 3 undef))⟩), (Value.agg ⟨(cellsA (xs42.getD 4 undef))⟩)], s43))
def r11beside.t (S : Sig) (a0 a1 : Value) (s : St) : Option Value :=
  S.bd (bx (Go.Value.agg #[(.int .i64 0), (.int .i64 0), (.int .u64 0), (.int .i64 0), (.int .u64 0)])) fun c1 => S.bd (bx (Go.Value.agg #[(.int .i64 0), (.int .i64 0), (.int .u64 0), (.int .i64 0), (.int .u64 0)])) fun c2 => S.bd (S.it (r11beside.l2 S) [a0, a1, (.int .i64 0), (Value.agg ⟨c1⟩), (Value.agg ⟨c2⟩)] s) fun r72 => if r72.1 = 0 then (S.bd (bld [(.int .i64 0), (.int .i64 0), (.int .u64 0), (.int .i64 0), (.int .u64 0)] []) fun x75 => S.bd (bld [(.int .i64 0), (.int .i64 0), (.int .u64 0), (.int .i64 0), (.int .u64 0)] []) fun x76 => S.bd (stl (cellsA (r72.2.1.getD 0 undef)) 0 5 x75) fun c77 => S.bd (stl (cellsA (r72.2.1.getD 1 undef)) 0 5 x76) fun c78 => S.bd (lal c77 0 5) fun x79 => S.bd (lal c78 0 5) fun x80 => some ((Value.tuple ⟨[x79, x80, (.bool Bool.false)]⟩))) else (S.bd (lal (cellsA (r72.2.1.getD 1 undef)) 0 5) fun x73 => S.bd (lal (cellsA (r72.2.1.getD 2 undef)) 0 5) fun x74 => some ((Value.tuple ⟨[x73, x74, (r72.2.1.getD 0 undef)]⟩)))
def r11beside.r (a0 a1 : Value) (s : St) : Option Value := r11beside.t std a0 a1 s
def r11beside.w : List Value → St → Option Value
  | [a0, a1], s => r11beside.r a0 a1 s
  | _, _ => none
def r11beside.an : An := ⟨44, true, [4, 5, 8, 9], [(2, ⟨[.v 0, .v 1, .p 4 4 0, .p 5 5 0, .v 7, .l 4, .l 5], [(.exit 0, [.p 4 4 0, .p 5 5 0, .l 4, .l 5]), (.ret, [.p 4 4 0, .p 5 5 0, .v 6, .l 4, .l 5])]⟩)], [(8, ⟨[], [(.normal, [.v 0, .p 4 4 0, .p 5 5 0, .v 7, .p 8 8 0, .p 9 9 0, .l 4, .l 5, .l 8, .l 9])]⟩), (10, ⟨[], [(.normal, [.p 4 4 0, .p 5 5 0, .p 8 8 0, .p 9 9 0, .l 4, .l 5, .l 8, .l 9])]⟩)], [(10, [(z4 0 65), (z4 1 73), (z4 2 37), (z4 3 45), (z4 4 0)])]⟩
theorem r11beside.ok (S : Sig) (a0 a1 : Value) (s : St) : evG S Tryz.prog r11beside.ctx r11beside.an Tryz.f99 [a0, a1] s = r11beside.t S a0 a1 s := by kernel_rfl
theorem r11beside.cok : CtxOk Tryz.prog r11beside.ctx := .nil
theorem r11beside.draws : fnDraws r11beside.an Tryz.f99 = true := by kernel_rfl
theorem r11beside.can : callOk Tryz.prog 99 = true := by kernel_rfl
theorem r11beside.sound : FnOk Tryz.prog 99 (.rd r11beside.w) := FnOk.rd_of (evG_ok r11beside.cok mixed (f := 99) (fn := Tryz.f99) (by kernel_rfl) r11beside.draws) fun args s r h => by
  unfold r11beside.w at h; split at h
  · rw [r11beside.ok std]; exact h
  · simp at h
def r11one.ctx : Ctx := [(98, .st r11Row.w), (99, .rd r11beside.w)]
def r11one.l8.p1 (S : Sig) (xs93 : List Value) (r101 : Value × St) (c108 : List Value) (c109 : List Value) (rec95 : List Value → St → Option Cut) : Option Cut :=
  S.bd (lcl (cellsA (xs93.getD 6 undef)) 8) fun x110 => S.bd (idx r101.2 3 (xs93.getD 3 undef) (xs93.getD 4 undef)) fun x111 => S.bd (fld 0 x111) fun x112 => S.bd (lda r101.2 2 x112) fun x113 => S.bd (lal c108 0 5) fun x114 => S.bd (lal c109 0 5) fun x115 => S.bd (bld [(.int .i64 0), (.int .u64 0), (.int .i64 0), (.int .i64 0), (.int .u64 0), (.int .i64 0), (.int .u64 0), (.int .i64 0), (.int .i64 0), (.int .u64 0), (.int .i64 0), (.int .u64 0), (.bool Bool.false), (.int .i64 0), (.int .i64 0), (.slice none 0 0)] [(0, 2, x113), (2, 5, x114), (7, 5, x115)]) fun x116 => S.bd (S.bd (bls 16 (List.replicate 1 [(.int .i64 0), (.int .u64 0), (.int .i64 0), (.int .i64 0), (.int .u64 0), (.int .i64 0), (.int .u64 0), (.int .i64 0), (.int .i64 0), (.int .u64 0), (.int .i64 0), (.int .u64 0), (.bool Bool.false), (.int .i64 0), (.int .i64 0), (.slice none 0 0)]) [(0, x116)]) fun rows => als r101.2 16 1 rows) fun r117 => S.bd (app r117.2 16 144 x110 r117.1) fun r118 => S.bd (idx r118.2 3 (xs93.getD 3 undef) (xs93.getD 4 undef)) fun x119 => S.cnd (Value.bool (sameV x119 x111)) (S.bd (lda r118.2 2 x112) fun x120 => S.cnd (Value.bool (sameV x120 x113)) (S.bd (stl (cellsA (xs93.getD 6 undef)) 8 1 r118.1) fun c121 => S.bd (bin .add (xs93.getD 4 undef) (.int .i64 1)) fun x122 => rec95 [(xs93.getD 0 undef), (xs93.getD 1 undef), (xs93.getD 2 undef), (xs93.getD 3 undef), x122, (Value.agg ⟨(cellsA (xs93.getD 5 undef))⟩), (Value.agg ⟨c121⟩)] r118.2) (none)) (none)
def r11one.l8 (S : Sig) (rec95 : List Value → St → Option Cut) (xs93 : List Value) (s94 : St) : Option Cut :=
  S.bd (lenL (xs93.getD 3 undef)) fun x96 => S.bd (bin .lss (xs93.getD 4 undef) x96) fun x97 => S.cnd x97 (S.bd (idx s94 3 (xs93.getD 3 undef) (xs93.getD 4 undef)) fun x98 => S.bd (fld 0 x98) fun x99 => S.bd (lda s94 2 x99) fun x100 => S.bd (r11Row.v (xs93.getD 0 undef) x100 (xs93.getD 2 undef) s94) fun r101 => S.bd (r11beside.r r101.1 (xs93.getD 1 undef) r101.2) fun x102 => S.bd (xtr 0 x102) fun x103 => S.bd (xtr 1 x102) fun x104 => S.bd (xtr 2 x102) fun x105 => S.bd (bx (Go.Value.agg #[(.int .i64 0), (.int .i64 0), (.int .u64 0), (.int .i64 0), (.int .u64 0)])) fun c106 => S.bd (bx (Go.Value.agg #[(.int .i64 0), (.int .i64 0), (.int .u64 0), (.int .i64 0), (.int .u64 0)])) fun c107 => S.bd (stl c106 0 5 x103) fun c108 => S.bd (stl c107 0 5 x104) fun c109 => S.cnd x105 (r11one.l8.p1 S xs93 r101 c108 c109 rec95) (S.bd (bin .add (xs93.getD 4 undef) (.int .i64 1)) fun x123 => rec95 [(xs93.getD 0 undef), (xs93.getD 1 undef), (xs93.getD 2 undef), (xs93.getD 3 undef), x123, (Value.agg ⟨(cellsA (xs93.getD 5 undef))⟩), (Value.agg ⟨(cellsA (xs93.getD 6 undef))⟩)] r101.2)) (some (0, [(Value.agg ⟨(cellsA (xs93.getD 5 undef))⟩), (Value.agg ⟨(cellsA (xs93.getD 6 undef))⟩)], s94))
def r11one.l3 (S : Sig) (rec80 : List Value → St → Option Cut) (xs78 : List Value) (s79 : St) : Option Cut :=
  S.bd (lenL (xs78.getD 4 undef)) fun x81 => S.bd (bin .lss (xs78.getD 5 undef) x81) fun x82 => S.cnd x82 (S.bd (idx s79 5 (xs78.getD 4 undef) (xs78.getD 5 undef)) fun x83 => S.bd (fld 0 x83) fun x84 => S.bd (ldc s79 x84) fun x85 => S.bd (eqb [1] false true x85 (xs78.getD 1 undef)) fun x86 => S.cnd x86 (S.bd (bin .add (xs78.getD 5 undef) (.int .i64 1)) fun x87 => rec80 [(xs78.getD 0 undef), (xs78.getD 1 undef), (xs78.getD 2 undef), (xs78.getD 3 undef), (xs78.getD 4 undef), x87, (Value.agg ⟨(cellsA (xs78.getD 6 undef))⟩)] s79) (S.bd (idx s79 5 (xs78.getD 4 undef) (xs78.getD 5 undef)) fun x88 => S.bd (lda s79 5 x88) fun x89 => S.bd (bld [(.int .i64 0), (.int .i64 0), (.int .u64 0), (.int .i64 0), (.int .u64 0), (.slice none 0 0), (.bool Bool.false), (.bool Bool.false), (.slice none 0 0)] [(0, 5, x89), (6, 1, (.bool Bool.true))]) fun x90 => S.bd (bx (Go.Value.agg #[(.int .i64 0), (.int .i64 0), (.int .u64 0), (.int .i64 0), (.int .u64 0), (.slice none 0 0), (.bool Bool.false), (.bool Bool.false), (.slice none 0 0)])) fun c91 => S.bd (stl c91 0 9 x90) fun c92 => S.bd (S.it (r11one.l8 S) [(xs78.getD 0 undef), (xs78.getD 1 undef), (xs78.getD 2 undef), (xs78.getD 3 undef), (.int .i64 0), (Value.agg ⟨(cellsA (xs78.getD 6 undef))⟩), (Value.agg ⟨c92⟩)] s79) fun r124 => S.bd (lal (cellsA (r124.2.1.getD 1 undef)) 0 9) fun x125 => S.bd (stl (cellsA (r124.2.1.getD 0 undef)) 0 9 x125) fun c126 => some (1, [(.bool Bool.true), (Value.agg ⟨c126⟩)], r124.2.2))) (some (0, [(Value.agg ⟨(cellsA (xs78.getD 6 undef))⟩)], s79))
def r11one.t (S : Sig) (a0 a1 a2 a3 : Value) (s : St) : Option (Value × St) :=
  S.bd (bx (Go.Value.agg #[(.int .i64 0), (.int .i64 0), (.int .u64 0), (.int .i64 0), (.int .u64 0), (.slice none 0 0), (.bool Bool.false), (.bool Bool.false), (.slice none 0 0)])) fun c1 => S.bd (bld [(.int .i64 0), (.int .u64 0)] []) fun x2 => S.bd (r11Row.v a0 x2 a2 s) fun r3 => S.bd (S.it (r11one.l3 S) [a0, a1, a2, a3, r3.1, (.int .i64 0), (Value.agg ⟨c1⟩)] r3.2) fun r127 => if r127.1 = 0 then (S.bd (bld [(.int .i64 0), (.int .i64 0), (.int .u64 0), (.int .i64 0), (.int .u64 0), (.slice none 0 0), (.bool Bool.false), (.bool Bool.false), (.slice none 0 0)] []) fun x129 => S.bd (stl (cellsA (r127.2.1.getD 0 undef)) 0 9 x129) fun c130 => S.bd (lal c130 0 9) fun x131 => some ((Value.tuple ⟨[x131, (.bool Bool.false)]⟩), r127.2.2)) else (S.bd (lal (cellsA (r127.2.1.getD 1 undef)) 0 9) fun x128 => some ((Value.tuple ⟨[x128, (r127.2.1.getD 0 undef)]⟩), r127.2.2))
def r11one.v (a0 a1 a2 a3 : Value) (s : St) : Option (Value × St) := r11one.t std a0 a1 a2 a3 s
def r11one.w : List Value → St → Option (Value × St)
  | [a0, a1, a2, a3], s => r11one.v a0 a1 a2 a3 s
  | _, _ => none
def r11one.an : An := ⟨75, false, [8, 12, 14, 15], [(8, ⟨[.v 0, .v 1, .v 2, .v 3, .p 8 8 0, .p 12 12 0, .v 13, .l 8, .l 12], [(.exit 2, [.p 8 8 0, .p 12 12 0, .l 8, .l 12])]⟩), (3, ⟨[.v 0, .v 1, .v 2, .v 3, .p 8 8 0, .v 10, .v 11, .l 8], [(.exit 0, [.p 8 8 0, .l 8]), (.ret, [.p 8 8 0, .v 9, .l 8])]⟩)], [], [(12, [(z4 0 0), (z4 1 97), (z4 2 0), (z4 3 0), (z4 4 2), (z4 5 0), (z4 6 2), (z4 7 113), (z4 8 121), (z4 9 0), (z4 10 3), (11, 4, [4, 6], []), (z4 12 0), (z4 13 101)])]⟩
theorem r11one.ok (S : Sig) (a0 a1 a2 a3 : Value) (s : St) : evF S Tryz.prog r11one.ctx r11one.an Tryz.f54 [a0, a1, a2, a3] s = r11one.t S a0 a1 a2 a3 s := by kernel_rfl
theorem r11one.cok : CtxOk Tryz.prog r11one.ctx := .cons r11Row.sound r11Row.can <| .cons r11beside.sound r11beside.can <| .nil
theorem r11one.draws : fnDraws r11one.an Tryz.f54 = true := by kernel_rfl
theorem r11one.can : callOk Tryz.prog 54 = true := by kernel_rfl
theorem r11one.sound : FnOk Tryz.prog 54 (.st r11one.w) := FnOk.st_of (evF_ok r11one.cok mixed (f := 54) (fn := Tryz.f54) (by kernel_rfl) r11one.draws) fun args s r h => by
  unfold r11one.w at h; split at h
  · rw [r11one.ok std]; exact h
  · simp at h
def r11oneD.v (a0 a1 a2 a3 : Value) (s : St) : Option (Value × St) := dropR (fun s => r11one.v a0 a1 a2 a3 s) s
def r11oneD.w : List Value → St → Option (Value × St) := fun args s => dropR (r11one.w args) s
theorem r11oneD.can : callOk Tryz.prog 54 = true := r11one.can
theorem r11oneD.sound : FnOk Tryz.prog 54 (.st r11oneD.w) := FnOk.dropped r11one.sound
def r11Records.ctx : Ctx := [(8, .rd r11Check.w), (53, .st r11Lists.w), (54, .st r11oneD.w)]
def r11Records.l6 (S : Sig) (rec19 : List Value → St → Option Cut) (xs17 : List Value) (s18 : St) : Option Cut :=
  S.bd (bin .lss (xs17.getD 4 undef) (.int .i64 1024)) fun x20 => S.cnd x20 (S.bd (r11oneD.v (xs17.getD 0 undef) (xs17.getD 4 undef) (xs17.getD 1 undef) (xs17.getD 2 undef) s18) fun r21 => S.bd (xtr 0 r21.1) fun x22 => S.bd (xtr 1 r21.1) fun x23 => S.bd (bx (Go.Value.agg #[(.int .i64 0), (.int .i64 0), (.int .u64 0), (.int .i64 0), (.int .u64 0), (.slice none 0 0), (.bool Bool.false), (.bool Bool.false), (.slice none 0 0)])) fun c24 => S.bd (stl c24 0 9 x22) fun c25 => S.cnd x23 (S.bd (lal c25 0 9) fun x26 => S.bd (S.bd (bls 9 (List.replicate 1 [(.int .i64 0), (.int .i64 0), (.int .u64 0), (.int .i64 0), (.int .u64 0), (.slice none 0 0), (.bool Bool.false), (.bool Bool.false), (.slice none 0 0)]) [(0, x26)]) fun rows => als r21.2 9 1 rows) fun r27 => S.bd (app r27.2 9 96 (xs17.getD 3 undef) r27.1) fun r28 => S.bd (bin .add (xs17.getD 4 undef) (.int .i64 1)) fun x29 => rec19 [(xs17.getD 0 undef), (xs17.getD 1 undef), (xs17.getD 2 undef), r28.1, x29] r28.2) (S.bd (bin .add (xs17.getD 4 undef) (.int .i64 1)) fun x30 => rec19 [(xs17.getD 0 undef), (xs17.getD 1 undef), (xs17.getD 2 undef), (xs17.getD 3 undef), x30] r21.2)) (some (0, [(xs17.getD 3 undef)], s18))
def r11Records.t (S : Sig) (a0 a1 : Value) (s : St) : Option (Value × St) :=
  S.bd (r11Check.r a0 a1 s) fun x1 => S.bd (eqb [1] false true x1 (.int .i64 0)) fun x2 => S.cnd x2 (some ((Value.tuple ⟨[(.slice none 0 0), (.int .i64 110)]⟩), s)) (S.bd (r11Lists.v a0 a1 s) fun r3 => S.bd (xtr 0 r3.1) fun x4 => S.bd (xtr 1 r3.1) fun x5 => S.bd (S.it (r11Records.l6 S) [a0, a1, x4, (.slice none 0 0), (.int .i64 0)] r3.2) fun r31 => some ((Value.tuple ⟨[(r31.2.1.getD 0 undef), (.int .i64 0)]⟩), r31.2.2))
def r11Records.v (a0 a1 : Value) (s : St) : Option (Value × St) := r11Records.t std a0 a1 s
def r11Records.w : List Value → St → Option (Value × St)
  | [a0, a1], s => r11Records.v a0 a1 s
  | _, _ => none
def r11Records.an : An := ⟨40, false, [10], [(6, ⟨[.v 0, .v 1, .v 6, .v 8, .v 9], [(.exit 0, [.v 8])]⟩)], [], []⟩
theorem r11Records.ok (S : Sig) (a0 a1 : Value) (s : St) : evF S Tryz.prog r11Records.ctx r11Records.an Tryz.f28 [a0, a1] s = r11Records.t S a0 a1 s := by kernel_rfl
theorem r11Records.cok : CtxOk Tryz.prog r11Records.ctx := .cons r11Check.sound r11Check.can <| .cons r11Lists.sound r11Lists.can <| .cons r11oneD.sound r11oneD.can <| .nil
theorem r11Records.draws : fnDraws r11Records.an Tryz.f28 = true := by kernel_rfl
theorem r11Records.can : callOk Tryz.prog 28 = true := by kernel_rfl
theorem r11Records.sound : FnOk Tryz.prog 28 (.st r11Records.w) := FnOk.st_of (evF_ok r11Records.cok mixed (f := 28) (fn := Tryz.f28) (by kernel_rfl) r11Records.draws) fun args s r h => by
  unfold r11Records.w at h; split at h
  · rw [r11Records.ok std]; exact h
  · simp at h
def r11RecordsX0.S0 : St := ⟨[], 0⟩
def r11RecordsX0.A : List Value := [(.int .i64 0), (.slice none 0 0)]
def r11RecordsX0.l6 (S : Sig) (rec19 : List Value → St → Option Cut) (xs17 : List Value) (s18 : St) : Option Cut :=
  S.bd (bin .lss (xs17.getD 4 undef) (.int .i64 8)) fun x20 => S.cnd x20 (S.bd (r11oneD.v (xs17.getD 0 undef) (xs17.getD 4 undef) (xs17.getD 1 undef) (xs17.getD 2 undef) s18) fun r21 => S.bd (xtr 0 r21.1) fun x22 => S.bd (xtr 1 r21.1) fun x23 => S.bd (bx (Go.Value.agg #[(.int .i64 0), (.int .i64 0), (.int .u64 0), (.int .i64 0), (.int .u64 0), (.slice none 0 0), (.bool Bool.false), (.bool Bool.false), (.slice none 0 0)])) fun c24 => S.bd (stl c24 0 9 x22) fun c25 => S.cnd x23 (S.bd (lal c25 0 9) fun x26 => S.bd (S.bd (bls 9 (List.replicate 1 [(.int .i64 0), (.int .i64 0), (.int .u64 0), (.int .i64 0), (.int .u64 0), (.slice none 0 0), (.bool Bool.false), (.bool Bool.false), (.slice none 0 0)]) [(0, x26)]) fun rows => als r21.2 9 1 rows) fun r27 => S.bd (app r27.2 9 96 (xs17.getD 3 undef) r27.1) fun r28 => S.bd (bin .add (xs17.getD 4 undef) (.int .i64 1)) fun x29 => rec19 [(xs17.getD 0 undef), (xs17.getD 1 undef), (xs17.getD 2 undef), r28.1, x29] r28.2) (S.bd (bin .add (xs17.getD 4 undef) (.int .i64 1)) fun x30 => rec19 [(xs17.getD 0 undef), (xs17.getD 1 undef), (xs17.getD 2 undef), (xs17.getD 3 undef), x30] r21.2)) (some (0, [(xs17.getD 3 undef)], s18))
def r11RecordsX0.t (S : Sig) (a0 a1 : Value) (s : St) : Option (Value × St) :=
  S.bd (r11Check.r a0 a1 s) fun x1 => S.bd (eqb [1] false true x1 (.int .i64 0)) fun x2 => S.cnd x2 (some ((Value.tuple ⟨[(.slice none 0 0), (.int .i64 110)]⟩), s)) (S.bd (r11Lists.v a0 a1 s) fun r3 => S.bd (xtr 0 r3.1) fun x4 => S.bd (xtr 1 r3.1) fun x5 => S.bd (S.it (r11RecordsX0.l6 S) [a0, a1, x4, (.slice none 0 0), (.int .i64 0)] r3.2) fun r31 => some ((Value.tuple ⟨[(r31.2.1.getD 0 undef), (.int .i64 0)]⟩), r31.2.2))
def r11RecordsX0.k (args : List Value) (s : St) : Option (Value × St) := r11RecordsX0.t std (args.getD 0 undef) (args.getD 1 undef) s
def r11RecordsX0.r3 : Option (Value × St) := r11Lists.v (.int .i64 0) (.slice none 0 0) r11RecordsX0.S0
def r11RecordsX0.x4 : Value := (r11RecordsX0.r3.bind fun r => xtr 0 r.1).getD undef
def r11RecordsX0.s1 : St := (r11RecordsX0.r3.map (·.2)).getD ⟨[], 0⟩
def r11RecordsX0.xs0 : List Value := [(.int .i64 0), (.slice none 0 0), r11RecordsX0.x4, (.slice none 0 0), (.int .i64 0)]
def r11RecordsX0.cap : List Value → St → Option Cut := fun xs s => some (0, xs, s)
def r11RecordsX0.c : Nat → Cut
  | 0 => (0, r11RecordsX0.xs0, r11RecordsX0.s1)
  | k + 1 => (r11Records.l6 std r11RecordsX0.cap (r11RecordsX0.c k).2.1 (r11RecordsX0.c k).2.2).getD (0, [], ⟨[], 0⟩)
def r11RecordsX0.out : Value := (r11RecordsX0.c 8).2.1.getD 3 undef
def r11RecordsX0.sK : St := (r11RecordsX0.c 8).2.2
def r11RecordsX0.xs (j : Nat) : List Value := [(.int .i64 0), (.slice none 0 0), r11RecordsX0.x4, r11RecordsX0.out, (.int .i64 (Int.ofNat (j + 8)))]
theorem r11RecordsX0.first (rec : List Value → St → Option Cut) : r11Records.l6 std (r11Records.l6 std (r11Records.l6 std (r11Records.l6 std (r11Records.l6 std (r11Records.l6 std (r11Records.l6 std (r11Records.l6 std rec))))))) r11RecordsX0.xs0 r11RecordsX0.s1 = rec (r11RecordsX0.xs 0) r11RecordsX0.sK := by kernel_rfl
theorem r11RecordsX0.short : iter (r11RecordsX0.l6 std) BIG r11RecordsX0.xs0 r11RecordsX0.s1 = some (0, [r11RecordsX0.out], r11RecordsX0.sK) := by kernel_rfl
theorem r11RecordsX0.one (rec : List Value → St → Option Cut) (j : Nat) : r11Records.l6 std rec (r11RecordsX0.xs j) r11RecordsX0.sK =
    (bin .lss (.int .i64 (Int.ofNat (j + 8))) (.int .i64 1024)).bind fun x => cnd x ((bin .add (.int .i64 (Int.ofNat (j + 8))) (.int .i64 1)).bind fun y => rec [(.int .i64 0), (.slice none 0 0), r11RecordsX0.x4, r11RecordsX0.out, y] r11RecordsX0.sK) (some (0, [r11RecordsX0.out], r11RecordsX0.sK)) := by kernel_rfl
theorem r11RecordsX0.step (rec : List Value → St → Option Cut) (j : Nat) (h : j < 1016) : r11Records.l6 std rec (r11RecordsX0.xs j) r11RecordsX0.sK = rec (r11RecordsX0.xs (j + 1)) r11RecordsX0.sK := by
  rw [r11RecordsX0.one, lss_i64 (by simp; omega), add_i64 (by simp; omega) (by simp; omega)]
  simp only [Option.bind_some, cnd, r11RecordsX0.xs, show (Int.ofNat (j + 8) + 1 : Int) = Int.ofNat (j + 1 + 8) by simp; omega]
theorem r11RecordsX0.last (rec : List Value → St → Option Cut) : r11Records.l6 std rec (r11RecordsX0.xs 1016) r11RecordsX0.sK = some (0, [r11RecordsX0.out], r11RecordsX0.sK) := by kernel_rfl
theorem r11RecordsX0.long : iter (r11Records.l6 std) BIG r11RecordsX0.xs0 r11RecordsX0.s1 = some (0, [r11RecordsX0.out], r11RecordsX0.sK) := by
  have h := iter_count (f := r11Records.l6 std) (xs := r11RecordsX0.xs) (s := r11RecordsX0.sK) r11RecordsX0.step r11RecordsX0.last 1016 0 4611686018427386879 rfl
  rw [show BIG = (4611686018427386879 + 1016 + 1) + 8 by decide, iter8]
  exact (r11RecordsX0.first _).trans h
theorem r11RecordsX0.way (it : {R : Type} → ((List Value → St → Option R) → List Value → St → Option R) → List Value → St → Option R) : r11Records.t (stdIt it) (.int .i64 0) (.slice none 0 0) r11RecordsX0.S0 =
    (it (r11Records.l6 (stdIt it)) r11RecordsX0.xs0 r11RecordsX0.s1).bind fun r => some ((Value.tuple ⟨[(r.2.1.getD 0 undef), (.int .i64 0)]⟩), r.2.2) := by kernel_rfl
theorem r11RecordsX0.way2 (it : {R : Type} → ((List Value → St → Option R) → List Value → St → Option R) → List Value → St → Option R) : r11RecordsX0.t (stdIt it) (.int .i64 0) (.slice none 0 0) r11RecordsX0.S0 =
    (it (r11RecordsX0.l6 (stdIt it)) r11RecordsX0.xs0 r11RecordsX0.s1).bind fun r => some ((Value.tuple ⟨[(r.2.1.getD 0 undef), (.int .i64 0)]⟩), r.2.2) := by kernel_rfl
theorem r11RecordsX0.lit : r11Records.w r11RecordsX0.A r11RecordsX0.S0 = r11RecordsX0.k r11RecordsX0.A r11RecordsX0.S0 := by
  have h1 := r11RecordsX0.way fun f xs s => iter f BIG xs s
  have h2 := r11RecordsX0.way2 fun f xs s => iter f BIG xs s
  rw [show iter (r11Records.l6 (stdIt fun f xs s => iter f BIG xs s)) BIG r11RecordsX0.xs0 r11RecordsX0.s1 = _ from r11RecordsX0.long] at h1
  rw [show iter (r11RecordsX0.l6 (stdIt fun f xs s => iter f BIG xs s)) BIG r11RecordsX0.xs0 r11RecordsX0.s1 = _ from r11RecordsX0.short] at h2
  exact h1.trans h2.symm
def r11RecordsX0.w : List Value → St → Option (Value × St) := atOne r11RecordsX0.A r11RecordsX0.S0 r11Records.w r11RecordsX0.k
theorem r11RecordsX0.can : callOk Tryz.prog 28 = true := r11Records.can
theorem r11RecordsX0.sound : FnOk Tryz.prog 28 (.st r11RecordsX0.w) := FnOk.atOne r11Records.sound (r11RecordsX0.lit)
def r11RecordsX1.S0 : St := ⟨[(0, .row 5 [[.int .i64 2, .int .i64 2, .int .u64 5, .int .i64 0, .int .u64 0]] true)], 1⟩
def r11RecordsX1.A : List Value := [(.int .i64 0), (.slice (some ⟨0, 0, some 0⟩) 1 2)]
def r11RecordsX1.l6 (S : Sig) (rec19 : List Value → St → Option Cut) (xs17 : List Value) (s18 : St) : Option Cut :=
  S.bd (bin .lss (xs17.getD 4 undef) (.int .i64 8)) fun x20 => S.cnd x20 (S.bd (r11oneD.v (xs17.getD 0 undef) (xs17.getD 4 undef) (xs17.getD 1 undef) (xs17.getD 2 undef) s18) fun r21 => S.bd (xtr 0 r21.1) fun x22 => S.bd (xtr 1 r21.1) fun x23 => S.bd (bx (Go.Value.agg #[(.int .i64 0), (.int .i64 0), (.int .u64 0), (.int .i64 0), (.int .u64 0), (.slice none 0 0), (.bool Bool.false), (.bool Bool.false), (.slice none 0 0)])) fun c24 => S.bd (stl c24 0 9 x22) fun c25 => S.cnd x23 (S.bd (lal c25 0 9) fun x26 => S.bd (S.bd (bls 9 (List.replicate 1 [(.int .i64 0), (.int .i64 0), (.int .u64 0), (.int .i64 0), (.int .u64 0), (.slice none 0 0), (.bool Bool.false), (.bool Bool.false), (.slice none 0 0)]) [(0, x26)]) fun rows => als r21.2 9 1 rows) fun r27 => S.bd (app r27.2 9 96 (xs17.getD 3 undef) r27.1) fun r28 => S.bd (bin .add (xs17.getD 4 undef) (.int .i64 1)) fun x29 => rec19 [(xs17.getD 0 undef), (xs17.getD 1 undef), (xs17.getD 2 undef), r28.1, x29] r28.2) (S.bd (bin .add (xs17.getD 4 undef) (.int .i64 1)) fun x30 => rec19 [(xs17.getD 0 undef), (xs17.getD 1 undef), (xs17.getD 2 undef), (xs17.getD 3 undef), x30] r21.2)) (some (0, [(xs17.getD 3 undef)], s18))
def r11RecordsX1.t (S : Sig) (a0 a1 : Value) (s : St) : Option (Value × St) :=
  S.bd (r11Check.r a0 a1 s) fun x1 => S.bd (eqb [1] false true x1 (.int .i64 0)) fun x2 => S.cnd x2 (some ((Value.tuple ⟨[(.slice none 0 0), (.int .i64 110)]⟩), s)) (S.bd (r11Lists.v a0 a1 s) fun r3 => S.bd (xtr 0 r3.1) fun x4 => S.bd (xtr 1 r3.1) fun x5 => S.bd (S.it (r11RecordsX1.l6 S) [a0, a1, x4, (.slice none 0 0), (.int .i64 0)] r3.2) fun r31 => some ((Value.tuple ⟨[(r31.2.1.getD 0 undef), (.int .i64 0)]⟩), r31.2.2))
def r11RecordsX1.k (args : List Value) (s : St) : Option (Value × St) := r11RecordsX1.t std (args.getD 0 undef) (args.getD 1 undef) s
def r11RecordsX1.r3 : Option (Value × St) := r11Lists.v (.int .i64 0) (.slice (some ⟨0, 0, some 0⟩) 1 2) r11RecordsX1.S0
def r11RecordsX1.x4 : Value := (r11RecordsX1.r3.bind fun r => xtr 0 r.1).getD undef
def r11RecordsX1.s1 : St := (r11RecordsX1.r3.map (·.2)).getD ⟨[], 0⟩
def r11RecordsX1.xs0 : List Value := [(.int .i64 0), (.slice (some ⟨0, 0, some 0⟩) 1 2), r11RecordsX1.x4, (.slice none 0 0), (.int .i64 0)]
def r11RecordsX1.cap : List Value → St → Option Cut := fun xs s => some (0, xs, s)
def r11RecordsX1.c : Nat → Cut
  | 0 => (0, r11RecordsX1.xs0, r11RecordsX1.s1)
  | k + 1 => (r11Records.l6 std r11RecordsX1.cap (r11RecordsX1.c k).2.1 (r11RecordsX1.c k).2.2).getD (0, [], ⟨[], 0⟩)
def r11RecordsX1.out : Value := (r11RecordsX1.c 8).2.1.getD 3 undef
def r11RecordsX1.sK : St := (r11RecordsX1.c 8).2.2
def r11RecordsX1.xs (j : Nat) : List Value := [(.int .i64 0), (.slice (some ⟨0, 0, some 0⟩) 1 2), r11RecordsX1.x4, r11RecordsX1.out, (.int .i64 (Int.ofNat (j + 8)))]
theorem r11RecordsX1.first (rec : List Value → St → Option Cut) : r11Records.l6 std (r11Records.l6 std (r11Records.l6 std (r11Records.l6 std (r11Records.l6 std (r11Records.l6 std (r11Records.l6 std (r11Records.l6 std rec))))))) r11RecordsX1.xs0 r11RecordsX1.s1 = rec (r11RecordsX1.xs 0) r11RecordsX1.sK := by kernel_rfl
theorem r11RecordsX1.short : iter (r11RecordsX1.l6 std) BIG r11RecordsX1.xs0 r11RecordsX1.s1 = some (0, [r11RecordsX1.out], r11RecordsX1.sK) := by kernel_rfl
theorem r11RecordsX1.one (rec : List Value → St → Option Cut) (j : Nat) : r11Records.l6 std rec (r11RecordsX1.xs j) r11RecordsX1.sK =
    (bin .lss (.int .i64 (Int.ofNat (j + 8))) (.int .i64 1024)).bind fun x => cnd x ((bin .add (.int .i64 (Int.ofNat (j + 8))) (.int .i64 1)).bind fun y => rec [(.int .i64 0), (.slice (some ⟨0, 0, some 0⟩) 1 2), r11RecordsX1.x4, r11RecordsX1.out, y] r11RecordsX1.sK) (some (0, [r11RecordsX1.out], r11RecordsX1.sK)) := by kernel_rfl
theorem r11RecordsX1.step (rec : List Value → St → Option Cut) (j : Nat) (h : j < 1016) : r11Records.l6 std rec (r11RecordsX1.xs j) r11RecordsX1.sK = rec (r11RecordsX1.xs (j + 1)) r11RecordsX1.sK := by
  rw [r11RecordsX1.one, lss_i64 (by simp; omega), add_i64 (by simp; omega) (by simp; omega)]
  simp only [Option.bind_some, cnd, r11RecordsX1.xs, show (Int.ofNat (j + 8) + 1 : Int) = Int.ofNat (j + 1 + 8) by simp; omega]
theorem r11RecordsX1.last (rec : List Value → St → Option Cut) : r11Records.l6 std rec (r11RecordsX1.xs 1016) r11RecordsX1.sK = some (0, [r11RecordsX1.out], r11RecordsX1.sK) := by kernel_rfl
theorem r11RecordsX1.long : iter (r11Records.l6 std) BIG r11RecordsX1.xs0 r11RecordsX1.s1 = some (0, [r11RecordsX1.out], r11RecordsX1.sK) := by
  have h := iter_count (f := r11Records.l6 std) (xs := r11RecordsX1.xs) (s := r11RecordsX1.sK) r11RecordsX1.step r11RecordsX1.last 1016 0 4611686018427386879 rfl
  rw [show BIG = (4611686018427386879 + 1016 + 1) + 8 by decide, iter8]
  exact (r11RecordsX1.first _).trans h
theorem r11RecordsX1.way (it : {R : Type} → ((List Value → St → Option R) → List Value → St → Option R) → List Value → St → Option R) : r11Records.t (stdIt it) (.int .i64 0) (.slice (some ⟨0, 0, some 0⟩) 1 2) r11RecordsX1.S0 =
    (it (r11Records.l6 (stdIt it)) r11RecordsX1.xs0 r11RecordsX1.s1).bind fun r => some ((Value.tuple ⟨[(r.2.1.getD 0 undef), (.int .i64 0)]⟩), r.2.2) := by kernel_rfl
theorem r11RecordsX1.way2 (it : {R : Type} → ((List Value → St → Option R) → List Value → St → Option R) → List Value → St → Option R) : r11RecordsX1.t (stdIt it) (.int .i64 0) (.slice (some ⟨0, 0, some 0⟩) 1 2) r11RecordsX1.S0 =
    (it (r11RecordsX1.l6 (stdIt it)) r11RecordsX1.xs0 r11RecordsX1.s1).bind fun r => some ((Value.tuple ⟨[(r.2.1.getD 0 undef), (.int .i64 0)]⟩), r.2.2) := by kernel_rfl
theorem r11RecordsX1.lit : r11Records.w r11RecordsX1.A r11RecordsX1.S0 = r11RecordsX1.k r11RecordsX1.A r11RecordsX1.S0 := by
  have h1 := r11RecordsX1.way fun f xs s => iter f BIG xs s
  have h2 := r11RecordsX1.way2 fun f xs s => iter f BIG xs s
  rw [show iter (r11Records.l6 (stdIt fun f xs s => iter f BIG xs s)) BIG r11RecordsX1.xs0 r11RecordsX1.s1 = _ from r11RecordsX1.long] at h1
  rw [show iter (r11RecordsX1.l6 (stdIt fun f xs s => iter f BIG xs s)) BIG r11RecordsX1.xs0 r11RecordsX1.s1 = _ from r11RecordsX1.short] at h2
  exact h1.trans h2.symm
def r11RecordsX1.w : List Value → St → Option (Value × St) := atOne r11RecordsX1.A r11RecordsX1.S0 r11RecordsX0.w r11RecordsX1.k
theorem r11RecordsX1.can : callOk Tryz.prog 28 = true := r11Records.can
theorem r11RecordsX1.sound : FnOk Tryz.prog 28 (.st r11RecordsX1.w) := FnOk.atOne r11RecordsX0.sound ((atOne_ne (by kernel_rfl)).trans <| r11RecordsX1.lit)
def r11RecordsM.w : List Value → St → Option (Value × St) := movedAt r11RecordsX1.w
def r11RecordsM.v (a0 a1 : Value) (s : St) : Option (Value × St) := r11RecordsM.w [a0, a1] s
theorem r11RecordsM.can : callOk Tryz.prog 28 = true := r11Records.can
theorem r11RecordsM.sound : FnOk Tryz.prog 28 (.st r11RecordsM.w) := FnOk.movedAt r11RecordsX1.sound
def r15Quiet.ctx : Ctx := [(28, .st r11RecordsM.w)]
def r15Quiet.l10.p1 (S : Sig) (s142 : St) (xs141 : List Value) (rec143 : List Value → St → Option Cut) : Option Cut :=
  S.bd (idx s142 9 (xs141.getD 2 undef) (xs141.getD 4 undef)) fun x149 => S.bd (fld 8 x149) fun x150 => S.bd (ldc s142 x150) fun x151 => S.bd (idx s142 16 x151 (xs141.getD 6 undef)) fun x152 => S.bd (lda s142 16 x152) fun x153 => S.bd (bx (Go.Value.agg #[(.int .i64 0), (.int .u64 0), (.int .i64 0), (.int .i64 0), (.int .u64 0), (.int .i64 0), (.int .u64 0), (.int .i64 0), (.int .i64 0), (.int .u64 0), (.int .i64 0), (.int .u64 0), (.bool Bool.false), (.int .i64 0), (.int .i64 0), (.slice none 0 0)])) fun c154 => S.bd (stl c154 0 16 x153) fun c155 => S.bd (nck (xs141.getD 5 undef)) fun x156 => S.bd (fld 9 x156) fun x157 => S.bd (ldc s142 x157) fun x158 => S.bd (lal c155 0 2) fun x159 => S.bd (lal c155 2 5) fun x160 => S.bd (lal c155 7 5) fun x161 => S.bd (bld [(.int .i64 0), (.int .u64 0), (.int .i64 0), (.int .i64 0), (.int .u64 0), (.int .i64 0), (.int .u64 0), (.int .i64 0), (.int .i64 0), (.int .u64 0), (.int .i64 0), (.int .u64 0), (.bool Bool.false), (.int .i64 0), (.int .i64 0), (.slice none 0 0)] [(0, 2, x159), (2, 5, x160), (7, 5, x161)]) fun x162 => S.bd (S.bd (bls 16 (List.replicate 1 [(.int .i64 0), (.int .u64 0), (.int .i64 0), (.int .i64 0), (.int .u64 0), (.int .i64 0), (.int .u64 0), (.int .i64 0), (.int .i64 0), (.int .u64 0), (.int .i64 0), (.int .u64 0), (.bool Bool.false), (.int .i64 0), (.int .i64 0), (.slice none 0 0)]) [(0, x162)]) fun rows => als s142 16 1 rows) fun r163 => S.bd (app r163.2 16 144 x158 r163.1) fun r164 => S.bd (nck (xs141.getD 5 undef)) fun x165 => S.bd (fld 9 x165) fun x166 => S.bd (stv r164.2 1 x166 r164.1) fun s167 => S.bd (bin .add (xs141.getD 6 undef) (.int .i64 1)) fun x168 => rec143 [(xs141.getD 0 undef), (xs141.getD 1 undef), (xs141.getD 2 undef), (xs141.getD 3 undef), (xs141.getD 4 undef), (xs141.getD 5 undef), x168] s167
def r15Quiet.l10 (S : Sig) (rec143 : List Value → St → Option Cut) (xs141 : List Value) (s142 : St) : Option Cut :=
  S.bd (idx s142 9 (xs141.getD 2 undef) (xs141.getD 4 undef)) fun x144 => S.bd (fld 8 x144) fun x145 => S.bd (ldc s142 x145) fun x146 => S.bd (lenL x146) fun x147 => S.bd (bin .lss (xs141.getD 6 undef) x147) fun x148 => S.cnd x148 (r15Quiet.l10.p1 S s142 xs141 rec143) (some (0, [(xs141.getD 0 undef), (xs141.getD 1 undef), (xs141.getD 2 undef), (xs141.getD 3 undef), (xs141.getD 4 undef), (xs141.getD 5 undef)], s142))
def r15Quiet.l15 (S : Sig) (rec172 : List Value → St → Option Cut) (xs170 : List Value) (s171 : St) : Option Cut :=
  S.bd (lenL (xs170.getD 0 undef)) fun x173 => S.bd (bin .lss (xs170.getD 6 undef) x173) fun x174 => S.bd (S.gd x174 true (some (xs170.getD 6 undef))) fun x175 => S.bd (S.gd x174 true (some (xs170.getD 1 undef))) fun x176 => S.bd (S.gd x174 true (lenL x176)) fun x177 => S.bd (S.gd x174 true (bin .lss x175 x177)) fun x178 => S.bd (pik x174 x178 (.bool Bool.false)) fun x179 => S.cnd x179 (S.bd (idx s171 5 (xs170.getD 0 undef) (xs170.getD 6 undef)) fun x180 => S.bd (fld 0 x180) fun x181 => S.bd (ldc s171 x181) fun x182 => S.bd (nck (xs170.getD 5 undef)) fun x183 => S.bd (fld 0 x183) fun x184 => S.bd (fld 0 x184) fun x185 => S.bd (ldc s171 x185) fun x186 => S.bd (eqb [1] false false x182 x186) fun x187 => S.cnd x187 (S.bd (S.bd (bls 1 (List.replicate 0 [(.int .u8 0)]) []) fun rows => als s171 1 0 rows) fun r188 => S.bd (idx r188.2 1 (xs170.getD 1 undef) (xs170.getD 6 undef)) fun x189 => S.bd (ldc r188.2 x189) fun x190 => S.bd (app r188.2 1 1 r188.1 x190) fun r191 => S.bd (nck (xs170.getD 5 undef)) fun x192 => S.bd (fld 5 x192) fun x193 => S.bd (stv r191.2 1 x193 r191.1) fun s194 => S.bd (bin .add (xs170.getD 6 undef) (.int .i64 1)) fun x195 => rec172 [(xs170.getD 0 undef), (xs170.getD 1 undef), (xs170.getD 2 undef), (xs170.getD 3 undef), (xs170.getD 4 undef), (xs170.getD 5 undef), x195] s194) (S.bd (bin .add (xs170.getD 6 undef) (.int .i64 1)) fun x196 => rec172 [(xs170.getD 0 undef), (xs170.getD 1 undef), (xs170.getD 2 undef), (xs170.getD 3 undef), (xs170.getD 4 undef), (xs170.getD 5 undef), x196] s171)) (some (0, [(xs170.getD 0 undef), (xs170.getD 1 undef), (xs170.getD 2 undef), (xs170.getD 3 undef), (xs170.getD 4 undef), (xs170.getD 5 undef), x175, x176, x177, x178], s171))
def r15Quiet.l6 (S : Sig) (rec128 : List Value → St → Option Cut) (xs126 : List Value) (s127 : St) : Option Cut :=
  S.bd (lenL (xs126.getD 2 undef)) fun x129 => S.bd (bin .lss (xs126.getD 4 undef) x129) fun x130 => S.cnd x130 (S.bd (idx s127 9 (xs126.getD 2 undef) (xs126.getD 4 undef)) fun x131 => S.bd (fld 0 x131) fun x132 => S.bd (lda s127 5 x132) fun x133 => S.bd (idx s127 9 (xs126.getD 2 undef) (xs126.getD 4 undef)) fun x134 => S.bd (fld 0 x134) fun x135 => S.bd (fld 0 x135) fun x136 => S.bd (ldc s127 x136) fun x137 => S.bd (bin .lss x137 (.int .i64 2)) fun x138 => S.bd (bld [(.int .i64 0), (.int .i64 0), (.int .u64 0), (.int .i64 0), (.int .u64 0), (.slice none 0 0), (.bool Bool.false), (.bool Bool.false), (.bool Bool.false), (.slice none 0 0), (.slice none 0 0)] [(0, 5, x133), (7, 1, (.bool Bool.true)), (6, 1, x138)]) fun x139 => S.bd (alv s127 x139) fun r140 => S.bd (S.it (r15Quiet.l10 S) [(xs126.getD 0 undef), (xs126.getD 1 undef), (xs126.getD 2 undef), (xs126.getD 3 undef), (xs126.getD 4 undef), r140.1, (.int .i64 0)] r140.2) fun r169 => S.bd (S.it (r15Quiet.l15 S) [(r169.2.1.getD 0 undef), (r169.2.1.getD 1 undef), (r169.2.1.getD 2 undef), (r169.2.1.getD 3 undef), (r169.2.1.getD 4 undef), (r169.2.1.getD 5 undef), (.int .i64 0)] r169.2.2) fun r197 => S.bd (S.bd (bls 1 (List.replicate 1 [(.pointer none)]) [(0, (r197.2.1.getD 5 undef))]) fun rows => als r197.2.2 1 1 rows) fun r198 => S.bd (app r198.2 1 8 (r197.2.1.getD 3 undef) r198.1) fun r199 => S.bd (bin .add (r197.2.1.getD 4 undef) (.int .i64 1)) fun x200 => rec128 [(r197.2.1.getD 0 undef), (r197.2.1.getD 1 undef), (r197.2.1.getD 2 undef), r199.1, x200] r199.2) (some (0, [(xs126.getD 3 undef)], s127))
def r15Quiet.t (S : Sig) (a0 a1 a2 : Value) (s : St) : Option (Value × St) :=
  S.bd (r11RecordsM.v a0 a1 s) fun r1 => S.bd (xtr 0 r1.1) fun x2 => S.bd (xtr 1 r1.1) fun x3 => S.bd (eqb [1] false true x3 (.int .i64 0)) fun x4 => S.cnd x4 (some ((.slice none 0 0), r1.2)) (S.bd (S.it (r15Quiet.l6 S) [a1, a2, x2, (.slice none 0 0), (.int .i64 0)] r1.2) fun r201 => some ((r201.2.1.getD 0 undef), r201.2.2))
def r15Quiet.v (a0 a1 a2 : Value) (s : St) : Option (Value × St) := r15Quiet.t std a0 a1 a2 s
def r15Quiet.w : List Value → St → Option (Value × St)
  | [a0, a1, a2], s => r15Quiet.v a0 a1 a2 s
  | _, _ => none
def r15Quiet.an : An := ⟨114, false, [13], [(10, ⟨[.v 1, .v 2, .v 7, .v 9, .v 10, .v 11, .v 12], [(.exit 2, [.v 1, .v 2, .v 7, .v 9, .v 10, .v 11])]⟩), (15, ⟨[.v 1, .v 2, .v 7, .v 9, .v 10, .v 11, .v 14], [(.exit 4, [.v 1, .v 2, .v 7, .v 9, .v 10, .v 11, .v 82, .v 83, .v 84, .v 85])]⟩), (6, ⟨[.v 1, .v 2, .v 7, .v 9, .v 10], [(.exit 0, [.v 9])]⟩)], [], [(8, [(z4 0 0), (z4 1 0), (z4 2 2), (z4 3 0), (z4 4 2), (z4 5 0), (z4 6 0), (z4 7 2), (z4 8 0), (z4 9 0), (z4 10 2), (z4 11 0), (z4 12 0), (z4 13 3), (z4 14 0)]), (13, [(z4 0 0), (z4 1 0), (z4 2 0), (z4 3 0), (z4 4 2), (z4 5 0), (z4 6 105), (z4 7 0), (z4 8 105), (z4 9 0), (z4 10 105), (z4 11 0), (z4 12 3), (z4 13 4), (z4 14 0), (z4 15 0), (z4 16 4)]), (17, [(z4 0 0), (z4 1 0), (z4 2 2), (z4 3 0), (z4 4 2), (z4 5 0), (z4 6 0), (z4 7 0), (z4 8 0), (z4 9 2), (z4 10 0)])]⟩
theorem r15Quiet.ok (S : Sig) (a0 a1 a2 : Value) (s : St) : evF S Tryz.prog r15Quiet.ctx r15Quiet.an Tryz.f10 [a0, a1, a2] s = r15Quiet.t S a0 a1 a2 s := by kernel_rfl
theorem r15Quiet.cok : CtxOk Tryz.prog r15Quiet.ctx := .cons r11RecordsM.sound r11RecordsM.can <| .nil
theorem r15Quiet.draws : fnDraws r15Quiet.an Tryz.f10 = true := by kernel_rfl
theorem r15Quiet.can : callOk Tryz.prog 10 = true := by kernel_rfl
theorem r15Quiet.sound : FnOk Tryz.prog 10 (.st r15Quiet.w) := FnOk.st_of (evF_ok r15Quiet.cok mixed (f := 10) (fn := Tryz.f10) (by kernel_rfl) r15Quiet.draws) fun args s r h => by
  unfold r15Quiet.w at h; split at h
  · rw [r15Quiet.ok std]; exact h
  · simp at h
def r09New.ctx : Ctx := [(26, .rd r01Right.w)]
def r09New.t (S : Sig) (a0 a1 : Value) (s : St) : Option (Value × St) :=
  S.bd (bx a0) fun c1 => S.bd (lcl c1 1) fun x2 => S.bd (eqb [1] false true x2 (.int .i64 2)) fun x3 => S.bd (S.gd x3 false (lal c1 3 2)) fun x4 => S.bd (S.gd x3 false (r01Right.r x4 s)) fun x5 => S.bd (S.gd x3 false (un .not x5)) fun x6 => S.bd (pik x3 (.bool Bool.true) x6) fun x7 => S.bd (S.gd x7 false (lcl c1 0)) fun x8 => S.bd (S.gd x7 false (bin .lss x8 (.int .i64 2))) fun x9 => S.bd (pik x7 (.bool Bool.true) x9) fun x10 => S.bd (S.gd x10 false (lcl c1 0)) fun x11 => S.bd (S.gd x10 false (bin .geq x11 (.int .i64 1024))) fun x12 => S.bd (pik x10 (.bool Bool.true) x12) fun x13 => S.bd (S.gd x13 false (some a1)) fun x14 => S.bd (S.gd x13 false (lenL x14)) fun x15 => S.bd (S.gd x13 false (bin .gtr x15 (.int .i64 1024))) fun x16 => S.bd (pik x13 (.bool Bool.true) x16) fun x17 => S.cnd x17 (some ((Value.tuple ⟨[(.pointer none), (.int .i64 90)]⟩), s)) (S.bd (lal c1 0 5) fun x18 => S.bd (S.bd (bls 1 (List.replicate 0 [(.int .u8 0)]) []) fun rows => als s 1 0 rows) fun r19 => S.bd (app r19.2 1 1 r19.1 a1) fun r20 => S.bd (bld [(.int .i64 0), (.int .i64 0), (.int .u64 0), (.int .i64 0), (.int .u64 0), (.slice none 0 0), (.bool Bool.false), (.bool Bool.false), (.bool Bool.false), (.slice none 0 0), (.slice none 0 0)] [(0, 5, x18), (5, 1, r20.1)]) fun x21 => S.bd (alv r20.2 x21) fun r22 => some ((Value.tuple ⟨[r22.1, (.int .i64 0)]⟩), r22.2))
def r09New.v (a0 a1 : Value) (s : St) : Option (Value × St) := r09New.t std a0 a1 s
def r09New.w : List Value → St → Option (Value × St)
  | [a0, a1], s => r09New.v a0 a1 s
  | _, _ => none
def r09New.an : An := ⟨37, false, [2], [], [], [(3, [(z4 0 17), (z4 2 0), (z4 1 3), (z4 3 4), (z4 4 0), (z4 5 3), (z4 6 0), (z4 7 0)])]⟩
theorem r09New.ok (S : Sig) (a0 a1 : Value) (s : St) : evF S Tryz.prog r09New.ctx r09New.an Tryz.f13 [a0, a1] s = r09New.t S a0 a1 s := by kernel_rfl
theorem r09New.cok : CtxOk Tryz.prog r09New.ctx := .cons r01Right.sound r01Right.can <| .nil
theorem r09New.draws : fnDraws r09New.an Tryz.f13 = true := by kernel_rfl
theorem r09New.can : callOk Tryz.prog 13 = true := by kernel_rfl
theorem r09New.sound : FnOk Tryz.prog 13 (.st r09New.w) := FnOk.st_of (evF_ok r09New.cok mixed (f := 13) (fn := Tryz.f13) (by kernel_rfl) r09New.draws) fun args s r h => by
  unfold r09New.w at h; split at h
  · rw [r09New.ok std]; exact h
  · simp at h
def r04has.ctx : Ctx := []
def r04has.t (S : Sig) (a0 : Value) (s : St) : Option Value :=
  S.bd (eqb [1] false false a0 (.int .i64 5)) fun x1 => S.bd (S.gd x1 false (some a0)) fun x2 => S.bd (S.gd x1 false (eqb [1] false false x2 (.int .i64 6))) fun x3 => S.bd (pik x1 (.bool Bool.true) x3) fun x4 => S.bd (S.gd x4 false (some a0)) fun x5 => S.bd (S.gd x4 false (eqb [1] false false x5 (.int .i64 7))) fun x6 => S.bd (pik x4 (.bool Bool.true) x6) fun x7 => S.bd (eqb [1] false false a0 (.int .i64 3)) fun x8 => S.bd (S.gd x8 false (some a0)) fun x9 => S.bd (S.gd x8 false (eqb [1] false false x9 (.int .i64 4))) fun x10 => S.bd (pik x8 (.bool Bool.true) x10) fun x11 => S.bd (S.gd x11 false (some a0)) fun x12 => S.bd (S.gd x11 false (eqb [1] false false x12 (.int .i64 8))) fun x13 => S.bd (pik x11 (.bool Bool.true) x13) fun x14 => S.bd (S.gd x14 false (some a0)) fun x15 => S.bd (S.gd x14 false (eqb [1] false false x15 (.int .i64 5))) fun x16 => S.bd (pik x14 (.bool Bool.true) x16) fun x17 => S.bd (S.gd x17 false (some a0)) fun x18 => S.bd (S.gd x17 false (eqb [1] false false x18 (.int .i64 7))) fun x19 => S.bd (pik x17 (.bool Bool.true) x19) fun x20 => S.bd (eqb [1] false false a0 (.int .i64 1)) fun x21 => S.bd (S.gd x21 false (some x7)) fun x22 => S.bd (pik x21 (.bool Bool.true) x22) fun x23 => S.bd (S.gd x23 false (some x20)) fun x24 => S.bd (pik x23 (.bool Bool.true) x24) fun x25 => S.bd (eqb [1] false false a0 (.int .i64 7)) fun x26 => some ((Value.tuple ⟨[x25, x7, x26, x20]⟩))
def r04has.r (a0 : Value) (s : St) : Option Value := r04has.t std a0 s
def r04has.w : List Value → St → Option Value
  | [a0], s => r04has.r a0 s
  | _, _ => none
def r04has.an : An := ⟨48, true, [], [], [], []⟩
theorem r04has.ok (S : Sig) (a0 : Value) (s : St) : evG S Tryz.prog r04has.ctx r04has.an Tryz.f103 [a0] s = r04has.t S a0 s := by kernel_rfl
theorem r04has.cok : CtxOk Tryz.prog r04has.ctx := .nil
theorem r04has.draws : fnDraws r04has.an Tryz.f103 = true := by kernel_rfl
theorem r04has.can : callOk Tryz.prog 103 = true := by kernel_rfl
theorem r04has.sound : FnOk Tryz.prog 103 (.rd r04has.w) := FnOk.rd_of (evG_ok r04has.cok mixed (f := 103) (fn := Tryz.f103) (by kernel_rfl) r04has.draws) fun args s r h => by
  unfold r04has.w at h; split at h
  · rw [r04has.ok std]; exact h
  · simp at h
def r04only.ctx : Ctx := []
def r04only.t.p1 (S : Sig) (r20 : Cut) : Option Value :=
  S.bd (eqb [1] false false (r20.2.1.getD 0 undef) (.int .i64 5)) fun x28 => S.cnd x28 (S.bd (lal (cellsA (r20.2.1.getD 2 undef)) 1 2) fun x29 => S.bd (lal (cellsA (r20.2.1.getD 2 undef)) 3 5) fun x30 => S.bd (lal (cellsA (r20.2.1.getD 2 undef)) 13 2) fun x31 => S.bd (stl (cellsA (r20.2.1.getD 4 undef)) 1 2 x29) fun c32 => S.bd (stl c32 3 5 x30) fun c33 => S.bd (stl c33 13 2 x31) fun c34 => S.bd (lal c34 0 15) fun x35 => S.bd (stl (cellsA (r20.2.1.getD 3 undef)) 0 15 x35) fun c36 => S.bd (lal c36 0 15) fun x37 => some (x37)) (S.bd (eqb [1] false false (r20.2.1.getD 0 undef) (.int .i64 6)) fun x38 => S.cnd x38 (S.bd (lal (cellsA (r20.2.1.getD 2 undef)) 1 2) fun x39 => S.bd (lal (cellsA (r20.2.1.getD 2 undef)) 3 5) fun x40 => S.bd (stl (cellsA (r20.2.1.getD 4 undef)) 1 2 x39) fun c41 => S.bd (stl c41 3 5 x40) fun c42 => S.bd (lal c42 0 15) fun x43 => S.bd (stl (cellsA (r20.2.1.getD 3 undef)) 0 15 x43) fun c44 => S.bd (lal c44 0 15) fun x45 => some (x45)) (S.bd (eqb [1] false false (r20.2.1.getD 0 undef) (.int .i64 7)) fun x46 => S.cnd x46 (S.bd (lal (cellsA (r20.2.1.getD 2 undef)) 1 2) fun x47 => S.bd (lal (cellsA (r20.2.1.getD 2 undef)) 3 5) fun x48 => S.bd (lal (cellsA (r20.2.1.getD 2 undef)) 8 5) fun x49 => S.bd (lal (cellsA (r20.2.1.getD 2 undef)) 13 2) fun x50 => S.bd (stl (cellsA (r20.2.1.getD 4 undef)) 1 2 x47) fun c51 => S.bd (stl c51 3 5 x48) fun c52 => S.bd (stl c52 8 5 x49) fun c53 => S.bd (stl c53 13 2 x50) fun c54 => S.bd (lal c54 0 15) fun x55 => S.bd (stl (cellsA (r20.2.1.getD 3 undef)) 0 15 x55) fun c56 => S.bd (lal c56 0 15) fun x57 => some (x57)) (S.bd (lal (cellsA (r20.2.1.getD 4 undef)) 0 15) fun x58 => S.bd (stl (cellsA (r20.2.1.getD 3 undef)) 0 15 x58) fun c59 => S.bd (lal c59 0 15) fun x60 => some (x60))))
def r04only.t (S : Sig) (a0 : Value) (s : St) : Option Value :=
  S.bd (bx a0) fun c1 => S.bd (bx (Go.Value.agg #[(.int .i64 0), (.int .i64 0), (.int .u64 0), (.int .i64 0), (.int .i64 0), (.int .u64 0), (.int .i64 0), (.int .u64 0), (.int .i64 0), (.int .i64 0), (.int .u64 0), (.int .i64 0), (.int .u64 0), (.int .i64 0), (.int .i64 0)])) fun c2 => S.bd (lcl c1 0) fun x3 => S.bd (bld [(.int .i64 0), (.int .i64 0), (.int .u64 0), (.int .i64 0), (.int .i64 0), (.int .u64 0), (.int .i64 0), (.int .u64 0), (.int .i64 0), (.int .i64 0), (.int .u64 0), (.int .i64 0), (.int .u64 0), (.int .i64 0), (.int .i64 0)] [(0, 1, x3)]) fun x4 => S.bd (bx (Go.Value.agg #[(.int .i64 0), (.int .i64 0), (.int .u64 0), (.int .i64 0), (.int .i64 0), (.int .u64 0), (.int .i64 0), (.int .u64 0), (.int .i64 0), (.int .i64 0), (.int .u64 0), (.int .i64 0), (.int .u64 0), (.int .i64 0), (.int .i64 0)])) fun c5 => S.bd (stl c5 0 15 x4) fun c6 => S.bd (lcl c1 0) fun x7 => S.bd (eqb [1] false false x7 (.int .i64 1)) fun x8 => S.cnd x8 (S.bd (lal c1 1 2) fun x9 => S.bd (stl c6 1 2 x9) fun c10 => S.bd (lal c10 0 15) fun x11 => S.bd (stl c2 0 15 x11) fun c12 => S.bd (lal c12 0 15) fun x13 => some (x13)) (S.bd (show Option Cut from S.bd (eqb [1] false false x7 (.int .i64 3)) fun x17 => S.cnd x17 (some (0, [x7, x17, (Value.agg ⟨c1⟩), (Value.agg ⟨c2⟩), (Value.agg ⟨c6⟩)], s)) (S.bd (eqb [1] false false x7 (.int .i64 4)) fun x18 => S.cnd x18 (some (0, [x7, x18, (Value.agg ⟨c1⟩), (Value.agg ⟨c2⟩), (Value.agg ⟨c6⟩)], s)) (S.bd (eqb [1] false false x7 (.int .i64 8)) fun x19 => some (0, [x7, x19, (Value.agg ⟨c1⟩), (Value.agg ⟨c2⟩), (Value.agg ⟨c6⟩)], s)))) fun r20 => S.cnd (r20.2.1.getD 1 undef) (S.bd (lal (cellsA (r20.2.1.getD 2 undef)) 1 2) fun x21 => S.bd (lal (cellsA (r20.2.1.getD 2 undef)) 13 2) fun x22 => S.bd (stl (cellsA (r20.2.1.getD 4 undef)) 1 2 x21) fun c23 => S.bd (stl c23 13 2 x22) fun c24 => S.bd (lal c24 0 15) fun x25 => S.bd (stl (cellsA (r20.2.1.getD 3 undef)) 0 15 x25) fun c26 => S.bd (lal c26 0 15) fun x27 => some (x27)) (r04only.t.p1 S r20))
def r04only.r (a0 : Value) (s : St) : Option Value := r04only.t std a0 s
def r04only.w : List Value → St → Option Value
  | [a0], s => r04only.r a0 s
  | _, _ => none
def r04only.an : An := ⟨59, true, [1, 2, 3], [], [(9, ⟨[], [(.normal, [.p 1 1 0, .p 2 2 0, .p 3 3 0, .v 8, .v 15, .l 1, .l 2, .l 3])]⟩)], [(9, [(z4 0 0), (z4 1 9), (z4 2 0), (z4 3 9), (z4 4 0), (z4 5 29), (z4 6 0), (z4 7 29)]), (11, [(z4 0 0), (z4 1 9), (z4 2 0), (z4 3 9), (z4 4 0), (z4 5 9), (z4 6 0), (z4 7 29), (z4 8 0), (z4 9 29), (z4 10 0), (z4 11 29)]), (13, [(z4 0 0), (z4 1 9), (z4 2 0), (z4 3 9), (z4 4 0), (z4 5 29), (z4 6 0), (z4 7 29)]), (15, [(z4 0 0), (z4 1 9), (z4 2 0), (z4 3 9), (z4 4 0), (z4 5 9), (z4 6 0), (z4 7 9), (z4 8 0), (z4 9 29), (z4 10 0), (z4 11 29), (z4 12 0), (z4 13 29), (z4 14 0), (z4 15 29)])]⟩
theorem r04only.ok (S : Sig) (a0 : Value) (s : St) : evG S Tryz.prog r04only.ctx r04only.an Tryz.f104 [a0] s = r04only.t S a0 s := by kernel_rfl
theorem r04only.cok : CtxOk Tryz.prog r04only.ctx := .nil
theorem r04only.draws : fnDraws r04only.an Tryz.f104 = true := by kernel_rfl
theorem r04only.can : callOk Tryz.prog 104 = true := by kernel_rfl
theorem r04only.sound : FnOk Tryz.prog 104 (.rd r04only.w) := FnOk.rd_of (evG_ok r04only.cok mixed (f := 104) (fn := Tryz.f104) (by kernel_rfl) r04only.draws) fun args s r h => by
  unfold r04only.w at h; split at h
  · rw [r04only.ok std]; exact h
  · simp at h
def r04isRef.ctx : Ctx := [(80, .rd r03IsKey.w), (26, .rd r01Right.w)]
def r04isRef.t (S : Sig) (a0 : Value) (s : St) : Option Value :=
  S.bd (bx a0) fun c1 => S.bd (lal c1 1 2) fun x2 => S.bd (r03IsKey.r x2 s) fun x3 => S.bd (S.gd x3 true (lal c1 3 2)) fun x4 => S.bd (S.gd x3 true (r01Right.r x4 s)) fun x5 => S.bd (pik x3 x5 (.bool Bool.false)) fun x6 => some (x6)
def r04isRef.r (a0 : Value) (s : St) : Option Value := r04isRef.t std a0 s
def r04isRef.w : List Value → St → Option Value
  | [a0], s => r04isRef.r a0 s
  | _, _ => none
def r04isRef.an : An := ⟨11, true, [1], [], [], []⟩
theorem r04isRef.ok (S : Sig) (a0 : Value) (s : St) : evG S Tryz.prog r04isRef.ctx r04isRef.an Tryz.f105 [a0] s = r04isRef.t S a0 s := by kernel_rfl
theorem r04isRef.cok : CtxOk Tryz.prog r04isRef.ctx := .cons r03IsKey.sound r03IsKey.can <| .cons r01Right.sound r01Right.can <| .nil
theorem r04isRef.draws : fnDraws r04isRef.an Tryz.f105 = true := by kernel_rfl
theorem r04isRef.can : callOk Tryz.prog 105 = true := by kernel_rfl
theorem r04isRef.sound : FnOk Tryz.prog 105 (.rd r04isRef.w) := FnOk.rd_of (evG_ok r04isRef.cok mixed (f := 105) (fn := Tryz.f105) (by kernel_rfl) r04isRef.draws) fun args s r h => by
  unfold r04isRef.w at h; split at h
  · rw [r04isRef.ok std]; exact h
  · simp at h
def r04CheckAsk.ctx : Ctx := [(103, .rd r04has.w), (104, .rd r04only.w), (26, .rd r01Right.w), (105, .rd r04isRef.w)]
def r04CheckAsk.t (S : Sig) (a0 : Value) (s : St) : Option Value :=
  S.bd (bx a0) fun c1 => S.bd (lcl c1 0) fun x2 => S.bd (r04has.r x2 s) fun x3 => S.bd (xtr 0 x3) fun x4 => S.bd (xtr 1 x3) fun x5 => S.bd (xtr 2 x3) fun x6 => S.bd (xtr 3 x3) fun x7 => S.bd (lcl c1 0) fun x8 => S.bd (bin .lss x8 (.int .i64 1)) fun x9 => S.bd (S.gd x9 false (lcl c1 0)) fun x10 => S.bd (S.gd x9 false (bin .gtr x10 (.int .i64 10))) fun x11 => S.bd (pik x9 (.bool Bool.true) x11) fun x12 => S.bd (S.gd x12 false (lal c1 0 15)) fun x13 => S.bd (S.gd x12 false (lal c1 0 15)) fun x14 => S.bd (S.gd x12 false (r04only.r x14 s)) fun x15 => S.bd (S.gd x12 false (eqb [1, 1, 1, 1, 1, 1, 1, 1, 1, 1, 1, 1, 1, 1, 1] true true x13 x15)) fun x16 => S.bd (pik x12 (.bool Bool.true) x16) fun x17 => S.bd (S.gd x17 false (some x4)) fun x18 => S.bd (S.gd x17 false (some x18)) fun x19 => S.bd (S.gd x19 true (lal c1 1 2)) fun x20 => S.bd (S.gd x19 true (r01Right.r x20 s)) fun x21 => S.bd (S.gd x19 true (un .not x21)) fun x22 => S.bd (S.gd x17 false (pik x19 x22 (.bool Bool.false))) fun x23 => S.bd (pik x17 (.bool Bool.true) x23) fun x24 => S.bd (S.gd x24 false (some x5)) fun x25 => S.bd (S.gd x24 false (some x25)) fun x26 => S.bd (S.gd x26 true (lal c1 3 5)) fun x27 => S.bd (S.gd x26 true (r04isRef.r x27 s)) fun x28 => S.bd (S.gd x26 true (un .not x28)) fun x29 => S.bd (S.gd x24 false (pik x26 x29 (.bool Bool.false))) fun x30 => S.bd (pik x24 (.bool Bool.true) x30) fun x31 => S.bd (S.gd x31 false (some x6)) fun x32 => S.bd (S.gd x31 false (some x32)) fun x33 => S.bd (S.gd x33 true (lal c1 8 5)) fun x34 => S.bd (S.gd x33 true (r04isRef.r x34 s)) fun x35 => S.bd (S.gd x33 true (un .not x35)) fun x36 => S.bd (S.gd x31 false (pik x33 x36 (.bool Bool.false))) fun x37 => S.bd (pik x31 (.bool Bool.true) x37) fun x38 => S.cnd x38 (some ((.int .i64 40))) (some ((.int .i64 0)))
def r04CheckAsk.r (a0 : Value) (s : St) : Option Value := r04CheckAsk.t std a0 s
def r04CheckAsk.w : List Value → St → Option Value
  | [a0], s => r04CheckAsk.r a0 s
  | _, _ => none
def r04CheckAsk.an : An := ⟨56, true, [1], [], [], [(2, [(z4 0 0), (z4 1 9), (z4 2 0), (z4 3 0), (z4 4 0), (z4 5 9), (z4 6 0), (z4 7 0), (z4 8 0), (z4 9 9), (z4 10 9), (z4 11 3), (z4 12 0), (z4 13 0), (z4 14 0), (z4 15 0), (z4 16 0), (z4 17 0), (z4 18 9), (z4 19 3), (z4 20 0), (z4 21 0), (z4 22 0), (z4 23 0), (z4 24 0), (z4 25 0), (z4 26 0), (z4 27 9), (z4 28 3), (z4 29 0), (z4 30 0), (z4 31 0), (z4 32 0), (z4 33 0), (z4 34 0), (z4 35 0), (z4 36 9), (z4 37 3), (z4 38 0), (z4 39 0), (z4 40 0)])]⟩
theorem r04CheckAsk.ok (S : Sig) (a0 : Value) (s : St) : evG S Tryz.prog r04CheckAsk.ctx r04CheckAsk.an Tryz.f63 [a0] s = r04CheckAsk.t S a0 s := by kernel_rfl
theorem r04CheckAsk.cok : CtxOk Tryz.prog r04CheckAsk.ctx := .cons r04has.sound r04has.can <| .cons r04only.sound r04only.can <| .cons r01Right.sound r01Right.can <| .cons r04isRef.sound r04isRef.can <| .nil
theorem r04CheckAsk.draws : fnDraws r04CheckAsk.an Tryz.f63 = true := by kernel_rfl
theorem r04CheckAsk.can : callOk Tryz.prog 63 = true := by kernel_rfl
theorem r04CheckAsk.sound : FnOk Tryz.prog 63 (.rd r04CheckAsk.w) := FnOk.rd_of (evG_ok r04CheckAsk.cok mixed (f := 63) (fn := Tryz.f63) (by kernel_rfl) r04CheckAsk.draws) fun args s r h => by
  unfold r04CheckAsk.w at h; split at h
  · rw [r04CheckAsk.ok std]; exact h
  · simp at h
def r09Peer_list.ctx : Ctx := [(26, .rd r01Right.w), (79, .rd r01BeginsQ.w)]
def r09Peer_list.t (S : Sig) (a0 a1 : Value) (s : St) : Option Value :=
  S.bd (bx a1) fun c1 => S.bd (nck a0) fun x2 => S.bd (fld 6 x2) fun x3 => S.bd (ldc s x3) fun x4 => S.cnd x4 (S.bd (lal c1 0 2) fun x5 => S.bd (r01Right.r x5 s) fun x6 => S.bd (S.gd x6 true (lcl c1 0)) fun x7 => S.bd (S.gd x6 true (some a0)) fun x8 => S.bd (S.gd x6 true (nck x8)) fun x9 => S.bd (S.gd x6 true (fld 0 x9)) fun x10 => S.bd (S.gd x6 true (fld 3 x10)) fun x11 => S.bd (S.gd x6 true (fld 0 x11)) fun x12 => S.bd (S.gd x6 true (ldc s x12)) fun x13 => S.bd (S.gd x6 true (bin .leq x7 x13)) fun x14 => S.bd (pik x6 x14 (.bool Bool.false)) fun x15 => some (x15)) (S.bd (nck a0) fun x16 => S.bd (fld 0 x16) fun x17 => S.bd (fld 3 x17) fun x18 => S.bd (lda s 2 x18) fun x19 => S.bd (lal c1 0 2) fun x20 => S.bd (r01BeginsQ.r x19 x20 s) fun x21 => some (x21))
def r09Peer_list.r (a0 a1 : Value) (s : St) : Option Value := r09Peer_list.t std a0 a1 s
def r09Peer_list.w : List Value → St → Option Value
  | [a0, a1], s => r09Peer_list.r a0 a1 s
  | _, _ => none
def r09Peer_list.an : An := ⟨29, true, [3], [], [], [(2, [(z4 0 25), (z4 1 3), (z4 2 0), (z4 3 0), (z4 4 25), (z4 5 0), (z4 6 0), (z4 7 0), (z4 8 0), (z4 9 0), (z4 10 2), (z4 11 0), (z4 12 0), (z4 13 0)]), (3, [(z4 0 0), (z4 1 0), (z4 2 0), (z4 3 0), (z4 4 2), (z4 5 25), (z4 6 3), (z4 7 0)])]⟩
theorem r09Peer_list.ok (S : Sig) (a0 a1 : Value) (s : St) : evG S Tryz.prog r09Peer_list.ctx r09Peer_list.an Tryz.f106 [a0, a1] s = r09Peer_list.t S a0 a1 s := by kernel_rfl
theorem r09Peer_list.cok : CtxOk Tryz.prog r09Peer_list.ctx := .cons r01Right.sound r01Right.can <| .cons r01BeginsQ.sound r01BeginsQ.can <| .nil
theorem r09Peer_list.draws : fnDraws r09Peer_list.an Tryz.f106 = true := by kernel_rfl
theorem r09Peer_list.can : callOk Tryz.prog 106 = true := by kernel_rfl
theorem r09Peer_list.sound : FnOk Tryz.prog 106 (.rd r09Peer_list.w) := FnOk.rd_of (evG_ok r09Peer_list.cok mixed (f := 106) (fn := Tryz.f106) (by kernel_rfl) r09Peer_list.draws) fun args s r h => by
  unfold r09Peer_list.w at h; split at h
  · rw [r09Peer_list.ok std]; exact h
  · simp at h
def r09Peer_first.ctx : Ctx := [(130, .rd r09Tail.w), (129, .rd r09Head.w)]
def r09Peer_first.t (S : Sig) (a0 a1 : Value) (s : St) : Option Value :=
  S.bd (bx a1) fun c1 => S.bd (bx (Go.Value.agg #[(.int .i64 0), (.int .u64 0), (.int .i64 0), (.int .i64 0), (.int .u64 0), (.int .i64 0), (.int .u64 0), (.int .i64 0), (.int .i64 0), (.int .u64 0), (.int .i64 0), (.int .u64 0), (.bool Bool.false), (.int .i64 0), (.int .i64 0), (.slice none 0 0)])) fun c2 => S.bd (lal c1 0 2) fun x3 => S.bd (bld [(.int .i64 0), (.int .u64 0), (.int .i64 0), (.int .i64 0), (.int .u64 0), (.int .i64 0), (.int .u64 0), (.int .i64 0), (.int .i64 0), (.int .u64 0), (.int .i64 0), (.int .u64 0), (.bool Bool.false), (.int .i64 0), (.int .i64 0), (.slice none 0 0)] [(0, 2, x3)]) fun x4 => S.bd (bx (Go.Value.agg #[(.int .i64 0), (.int .u64 0), (.int .i64 0), (.int .i64 0), (.int .u64 0), (.int .i64 0), (.int .u64 0), (.int .i64 0), (.int .i64 0), (.int .u64 0), (.int .i64 0), (.int .u64 0), (.bool Bool.false), (.int .i64 0), (.int .i64 0), (.slice none 0 0)])) fun c5 => S.bd (stl c5 0 16 x4) fun c6 => S.bd (nck a0) fun x7 => S.bd (fld 0 x7) fun x8 => S.bd (fld 1 x8) fun x9 => S.bd (fld 0 x9) fun x10 => S.bd (ldc s x10) fun x11 => S.bd (eqb [1] false false x11 (.int .i64 1)) fun x12 => S.cnd x12 (S.bd (nck a0) fun x13 => S.bd (fld 0 x13) fun x14 => S.bd (fld 3 x14) fun x15 => S.bd (fld 0 x15) fun x16 => S.bd (ldc s x16) fun x17 => S.bd (r09Tail.r x17 s) fun x18 => S.bd (xtr 0 x18) fun x19 => S.bd (xtr 1 x18) fun x20 => S.bd (stl c6 7 5 x19) fun c21 => S.bd (lal c21 0 16) fun x22 => S.bd (stl c2 0 16 x22) fun c23 => S.bd (lal c23 0 16) fun x24 => some (x24)) (S.bd (nck a0) fun x25 => S.bd (fld 0 x25) fun x26 => S.bd (fld 3 x26) fun x27 => S.bd (fld 0 x27) fun x28 => S.bd (ldc s x28) fun x29 => S.bd (r09Head.r x29 s) fun x30 => S.bd (xtr 0 x30) fun x31 => S.bd (xtr 1 x30) fun x32 => S.bd (stl c6 2 5 x31) fun c33 => S.bd (lal c33 0 16) fun x34 => S.bd (stl c2 0 16 x34) fun c35 => S.bd (lal c35 0 16) fun x36 => some (x36))
def r09Peer_first.r (a0 a1 : Value) (s : St) : Option Value := r09Peer_first.t std a0 a1 s
def r09Peer_first.w : List Value → St → Option Value
  | [a0, a1], s => r09Peer_first.r a0 a1 s
  | _, _ => none
def r09Peer_first.an : An := ⟨38, true, [3, 4, 5], [], [], []⟩
theorem r09Peer_first.ok (S : Sig) (a0 a1 : Value) (s : St) : evG S Tryz.prog r09Peer_first.ctx r09Peer_first.an Tryz.f107 [a0, a1] s = r09Peer_first.t S a0 a1 s := by kernel_rfl
theorem r09Peer_first.cok : CtxOk Tryz.prog r09Peer_first.ctx := .cons r09Tail.sound r09Tail.can <| .cons r09Head.sound r09Head.can <| .nil
theorem r09Peer_first.draws : fnDraws r09Peer_first.an Tryz.f107 = true := by kernel_rfl
theorem r09Peer_first.can : callOk Tryz.prog 107 = true := by kernel_rfl
theorem r09Peer_first.sound : FnOk Tryz.prog 107 (.rd r09Peer_first.w) := FnOk.rd_of (evG_ok r09Peer_first.cok mixed (f := 107) (fn := Tryz.f107) (by kernel_rfl) r09Peer_first.draws) fun args s r h => by
  unfold r09Peer_first.w at h; split at h
  · rw [r09Peer_first.ok std]; exact h
  · simp at h
def r09Peer_rec.ctx : Ctx := [(106, .rd r09Peer_list.w), (107, .rd r09Peer_first.w)]
def r09Peer_rec.l2 (S : Sig) (rec25 : List Value → St → Option Cut) (xs23 : List Value) (s24 : St) : Option Cut :=
  S.bd (nck (xs23.getD 0 undef)) fun x26 => S.bd (fld 9 x26) fun x27 => S.bd (ldc s24 x27) fun x28 => S.bd (lenL x28) fun x29 => S.bd (bin .lss (xs23.getD 1 undef) x29) fun x30 => S.cnd x30 (S.bd (nck (xs23.getD 0 undef)) fun x31 => S.bd (fld 9 x31) fun x32 => S.bd (ldc s24 x32) fun x33 => S.bd (idx s24 16 x33 (xs23.getD 1 undef)) fun x34 => S.bd (fld 0 x34) fun x35 => S.bd (lda s24 2 x35) fun x36 => S.bd (lal (cellsA (xs23.getD 2 undef)) 0 2) fun x37 => S.bd (eqb [1, 1] true false x36 x37) fun x38 => S.cnd x38 (S.bd (nck (xs23.getD 0 undef)) fun x39 => S.bd (fld 9 x39) fun x40 => S.bd (ldc s24 x40) fun x41 => S.bd (idx s24 16 x41 (xs23.getD 1 undef)) fun x42 => S.bd (lda s24 16 x42) fun x43 => S.bd (stl (cellsA (xs23.getD 3 undef)) 0 16 x43) fun c44 => some (1, [(.bool Bool.true), (Value.agg ⟨c44⟩)], s24)) (S.bd (bin .add (xs23.getD 1 undef) (.int .i64 1)) fun x45 => rec25 [(xs23.getD 0 undef), x45, (Value.agg ⟨(cellsA (xs23.getD 2 undef))⟩), (Value.agg ⟨(cellsA (xs23.getD 3 undef))⟩)] s24)) (some (0, [(xs23.getD 0 undef), (Value.agg ⟨(cellsA (xs23.getD 2 undef))⟩), (Value.agg ⟨(cellsA (xs23.getD 3 undef))⟩)], s24))
def r09Peer_rec.t (S : Sig) (a0 a1 : Value) (s : St) : Option Value :=
  S.bd (bx a1) fun c1 => S.bd (bx (Go.Value.agg #[(.int .i64 0), (.int .u64 0), (.int .i64 0), (.int .i64 0), (.int .u64 0), (.int .i64 0), (.int .u64 0), (.int .i64 0), (.int .i64 0), (.int .u64 0), (.int .i64 0), (.int .u64 0), (.bool Bool.false), (.int .i64 0), (.int .i64 0), (.slice none 0 0)])) fun c2 => S.bd (S.it (r09Peer_rec.l2 S) [a0, (.int .i64 0), (Value.agg ⟨c1⟩), (Value.agg ⟨c2⟩)] s) fun r46 => if r46.1 = 0 then (S.bd (nck (r46.2.1.getD 0 undef)) fun x48 => S.bd (fld 6 x48) fun x49 => S.bd (ldc r46.2.2 x49) fun x50 => S.bd (S.gd x50 true (some (r46.2.1.getD 0 undef))) fun x51 => S.bd (S.gd x50 true (lal (cellsA (r46.2.1.getD 1 undef)) 0 2)) fun x52 => S.bd (S.gd x50 true (r09Peer_list.r x51 x52 r46.2.2)) fun x53 => S.bd (pik x50 x53 (.bool Bool.false)) fun x54 => S.cnd x54 (S.bd (lal (cellsA (r46.2.1.getD 1 undef)) 0 2) fun x55 => S.bd (r09Peer_first.r (r46.2.1.getD 0 undef) x55 r46.2.2) fun x56 => S.bd (stl (cellsA (r46.2.1.getD 2 undef)) 0 16 x56) fun c57 => S.bd (lal c57 0 16) fun x58 => some ((Value.tuple ⟨[x58, (.bool Bool.true)]⟩))) (S.bd (bld [(.int .i64 0), (.int .u64 0), (.int .i64 0), (.int .i64 0), (.int .u64 0), (.int .i64 0), (.int .u64 0), (.int .i64 0), (.int .i64 0), (.int .u64 0), (.int .i64 0), (.int .u64 0), (.bool Bool.false), (.int .i64 0), (.int .i64 0), (.slice none 0 0)] []) fun x59 => S.bd (stl (cellsA (r46.2.1.getD 2 undef)) 0 16 x59) fun c60 => S.bd (lal c60 0 16) fun x61 => some ((Value.tuple ⟨[x61, (.bool Bool.false)]⟩)))) else (S.bd (lal (cellsA (r46.2.1.getD 1 undef)) 0 16) fun x47 => some ((Value.tuple ⟨[x47, (r46.2.1.getD 0 undef)]⟩)))
def r09Peer_rec.r (a0 a1 : Value) (s : St) : Option Value := r09Peer_rec.t std a0 a1 s
def r09Peer_rec.w : List Value → St → Option Value
  | [a0, a1], s => r09Peer_rec.r a0 a1 s
  | _, _ => none
def r09Peer_rec.an : An := ⟨46, true, [3, 4], [(2, ⟨[.v 0, .p 3 3 0, .p 4 4 0, .v 6, .l 3, .l 4], [(.exit 0, [.v 0, .p 3 3 0, .p 4 4 0, .l 3, .l 4]), (.ret, [.p 4 4 0, .v 5, .l 4])]⟩)], [], [(4, [(z4 0 0), (z4 1 0), (z4 2 0), (z4 3 2), (z4 4 0), (z4 5 2), (z4 6 0), (z4 7 2), (z4 8 25), (z4 9 0)])]⟩
theorem r09Peer_rec.ok (S : Sig) (a0 a1 : Value) (s : St) : evG S Tryz.prog r09Peer_rec.ctx r09Peer_rec.an Tryz.f64 [a0, a1] s = r09Peer_rec.t S a0 a1 s := by kernel_rfl
theorem r09Peer_rec.cok : CtxOk Tryz.prog r09Peer_rec.ctx := .cons r09Peer_list.sound r09Peer_list.can <| .cons r09Peer_first.sound r09Peer_first.can <| .nil
theorem r09Peer_rec.draws : fnDraws r09Peer_rec.an Tryz.f64 = true := by kernel_rfl
theorem r09Peer_rec.can : callOk Tryz.prog 64 = true := by kernel_rfl
theorem r09Peer_rec.sound : FnOk Tryz.prog 64 (.rd r09Peer_rec.w) := FnOk.rd_of (evG_ok r09Peer_rec.cok mixed (f := 64) (fn := Tryz.f64) (by kernel_rfl) r09Peer_rec.draws) fun args s r h => by
  unfold r09Peer_rec.w at h; split at h
  · rw [r09Peer_rec.ok std]; exact h
  · simp at h
end
end Go.Proofs.YteafgjpbfhjbjaaGreat
