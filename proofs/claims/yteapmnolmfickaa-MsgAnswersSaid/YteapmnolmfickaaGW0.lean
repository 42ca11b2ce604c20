/-
  What the functions answer that MsgForms, MsgReplies, MsgBytes, MsgBack, MsgApart, MsgAnswers reaches (part 0): for each function of the program a plain function over abstract values, and that the model answers as it does.
-/
import Derived.Test.YteapmnolmfickaaSimZ
import Derived.Test.YteapmnolmfickaaProg
import Derived.KernelRfl
import Derived.Test.YteapmnolmfickaaDfrB
set_option linter.unusedVariables false
set_option maxRecDepth 100000
namespace Go.Proofs.Yteapmnolmfickaa
open Go.Sim
noncomputable section
abbrev z4 (a b : Nat) : Nat × Nat × List Nat × List Nat := (a, b, [], [])
theorem mixed : Try.prog.follows .mixedOrders = true := by kernel_rfl
def msg_answer_fn1.ctx : Ctx := []
def msg_answer_fn1.t (S : Sig) (a0 a1 : Value) (s : St) : Option (Value × St) :=
  S.bd (bx a0) fun c1 => S.bd (ldc s a1) fun x2 => S.bd (lal c1 0 14) fun x3 => S.bd (S.bd (bls 14 (List.replicate 1 [(.int .i64 0), (.int .u64 0), (.int .i64 0), (.bool Bool.false), (.slice none 0 0), (.int .i64 0), (.int .u64 0), (.int .i64 0), (.int .u64 0), (.int .i64 0), (.int .i64 0), (.int .u64 0), (.int .i64 0), (.int .u64 0)]) [(0, x3)]) fun rows => als s 14 1 rows) fun r4 => S.bd (app r4.2 14 128 x2 r4.1) fun r5 => S.bd (stv r5.2 1 a1 r5.1) fun s6 => some ((Value.tuple ⟨[]⟩), s6)
def msg_answer_fn1.v (a0 a1 : Value) (s : St) : Option (Value × St) := msg_answer_fn1.t std a0 a1 s
def msg_answer_fn1.w : List Value → St → Option (Value × St)
  | [a0, a1], s => msg_answer_fn1.v a0 a1 s
  | _, _ => none
def msg_answer_fn1.an : An := ⟨7, false, [2], [], [], [], [], []⟩
theorem msg_answer_fn1.ok (S : Sig) (a0 a1 : Value) (s : St) : evF S Try.prog msg_answer_fn1.ctx msg_answer_fn1.an Try.f60 [a0, a1] s = msg_answer_fn1.t S a0 a1 s := by kernel_rfl
theorem msg_answer_fn1.cok : CtxOk Try.prog msg_answer_fn1.ctx := .nil
theorem msg_answer_fn1.draws : fnDraws msg_answer_fn1.an Try.f60 = true := by kernel_rfl
theorem msg_answer_fn1.can : callOk Try.prog 60 = true := by kernel_rfl
theorem msg_answer_fn1.sound : FnOk Try.prog 60 (.st msg_answer_fn1.w) := FnOk.st_of (evF_ok msg_answer_fn1.cok mixed (f := 60) (fn := Try.f60) (by kernel_rfl) msg_answer_fn1.draws) fun args s r h => by
  unfold msg_answer_fn1.w at h; split at h
  · rw [msg_answer_fn1.ok std]; exact h
  · simp at h
-- NOT PRINTED 87 leapfrog/pack.First$1: builtin recover
def l04light.ctx : Ctx := []
def l04light.t (S : Sig) (a0 : Value) (s : St) : Option Value :=
  S.bd (bx a0) fun c1 => S.bd (bx (Go.Value.agg #[(.bool Bool.false), (.bool Bool.false), (.int .i64 0), (.bool Bool.false), (.int .i64 0), (.int .i64 0), (.int .i64 0), (.int .i64 0), (.int .u64 0), (.int .i64 0), (.int .i64 0), (.int .u64 0), (.int .i64 0), (.int .u64 0), (.int .i64 0), (.int .i64 0), (.int .u64 0), (.int .i64 0), (.int .u64 0), (.int .i64 0), (.int .i64 0), (.int .i64 0), (.bool Bool.false), (.int .i64 0), (.int .i64 0), (.int .u64 0), (.int .i64 0), (.int .u64 0), (.int .i64 0), (.int .i64 0), (.int .u64 0), (.int .i64 0), (.int .u64 0), (.slice none 0 0)])) fun c2 => S.bd (lcl c1 33) fun x3 => S.bd (lenL x3) fun x4 => S.bd (bin .gtr x4 (.int .i64 3000)) fun x5 => S.cnd x5 (S.bd (lcl c1 33) fun x6 => S.bd (slc s 1 x6 none (some (.int .i64 3000)) none) fun x7 => S.bd (stl c1 33 1 x7) fun c8 => S.bd (lal c8 0 34) fun x9 => S.bd (stl c2 0 34 x9) fun c10 => S.bd (lal c10 0 34) fun x11 => some (x11)) (S.bd (lal c1 0 34) fun x12 => S.bd (stl c2 0 34 x12) fun c13 => S.bd (lal c13 0 34) fun x14 => some (x14))
def l04light.r (a0 : Value) (s : St) : Option Value := l04light.t std a0 s
def l04light.w : List Value → St → Option Value
  | [a0], s => l04light.r a0 s
  | _, _ => none
def l04light.an : An := ⟨15, true, [1, 2], [], [], [], [], []⟩
theorem l04light.ok (S : Sig) (a0 : Value) (s : St) : evG S Try.prog l04light.ctx l04light.an Try.f9 [a0] s = l04light.t S a0 s := by kernel_rfl
theorem l04light.cok : CtxOk Try.prog l04light.ctx := .nil
theorem l04light.draws : fnDraws l04light.an Try.f9 = true := by kernel_rfl
theorem l04light.can : callOk Try.prog 9 = true := by kernel_rfl
theorem l04light.sound : FnOk Try.prog 9 (.rd l04light.w) := FnOk.rd_of (evG_ok l04light.cok mixed (f := 9) (fn := Try.f9) (by kernel_rfl) l04light.draws) fun args s r h => by
  unfold l04light.w at h; split at h
  · rw [l04light.ok std]; exact h
  · simp at h
def msg_needs.ctx : Ctx := []
def msg_needs.t (S : Sig) (a0 : Value) (s : St) : Option (Value × St) :=
  S.bd (show Option Cut from S.bd (show Option Cut from S.bd (show Option Cut from S.bd (show Option Cut from S.bd (show Option Cut from S.bd (eqb [1] false false a0 (.int .i64 7)) fun x89 => S.cnd x89 (some (6, [(.slice none 0 0)], s)) (S.bd (eqb [1] false false a0 (.int .i64 5)) fun x90 => S.cnd x90 (some (0, [(.slice none 0 0)], s)) (S.bd (show Option Cut from S.bd (eqb [1] false false a0 (.int .i64 3)) fun x91 => S.cnd x91 (S.cnd x91 (some (0, [(.slice none 0 0)], s)) (some (1, [(.slice none 0 0), a0], s))) (S.bd (eqb [1] false false a0 (.int .i64 4)) fun x92 => S.cnd x92 (S.cnd x92 (some (0, [(.slice none 0 0)], s)) (some (1, [(.slice none 0 0), a0], s))) (S.bd (eqb [1] false false a0 (.int .i64 8)) fun x93 => S.cnd x93 (some (0, [(.slice none 0 0)], s)) (some (1, [(.slice none 0 0), a0], s))))) fun r94 => if r94.1 = 0 then (some (1, [(r94.2.1.getD 0 undef)], r94.2.2)) else (S.bd (eqb [1] false false (r94.2.1.getD 1 undef) (.int .i64 1)) fun x95 => S.cnd x95 (some (2, [(r94.2.1.getD 0 undef)], r94.2.2)) (S.bd (eqb [1] false false (r94.2.1.getD 1 undef) (.int .i64 6)) fun x96 => S.cnd x96 (some (3, [(r94.2.1.getD 0 undef)], r94.2.2)) (S.bd (eqb [1] false false (r94.2.1.getD 1 undef) (.int .i64 2)) fun x97 => S.cnd x97 (S.cnd x97 (some (4, [(r94.2.1.getD 0 undef)], r94.2.2)) (some (5, [], r94.2.2))) (S.bd (eqb [1] false false (r94.2.1.getD 1 undef) (.int .i64 9)) fun x98 => S.cnd x98 (S.cnd x98 (some (4, [(r94.2.1.getD 0 undef)], r94.2.2)) (some (5, [], r94.2.2))) (S.bd (eqb [1] false false (r94.2.1.getD 1 undef) (.int .i64 10)) fun x99 => S.cnd x99 (some (4, [(r94.2.1.getD 0 undef)], r94.2.2)) (some (5, [], r94.2.2)))))))))) fun r100 => if r100.1 = 0 then (some (5, [(r100.2.1.getD 0 undef)], r100.2.2)) else (if r100.1 = 1 then (some (0, [(r100.2.1.getD 0 undef)], r100.2.2)) else (if r100.1 = 2 then (some (1, [(r100.2.1.getD 0 undef)], r100.2.2)) else (if r100.1 = 3 then (some (2, [(r100.2.1.getD 0 undef)], r100.2.2)) else (if r100.1 = 4 then (some (3, [(r100.2.1.getD 0 undef)], r100.2.2)) else (if r100.1 = 5 then (some (4, [], r100.2.2)) else (S.bd (S.bd (bls 1 (List.replicate 1 [(.int .i64 0)]) [(0, (.int .i64 7))]) fun rows => als r100.2.2 1 1 rows) fun r101 => S.bd (app r101.2 1 8 (r100.2.1.getD 0 undef) r101.1) fun r102 => some (5, [r102.1], r102.2)))))))) fun r103 => if r103.1 = 0 then (some (4, [(r103.2.1.getD 0 undef)], r103.2.2)) else (if r103.1 = 1 then (some (0, [(r103.2.1.getD 0 undef)], r103.2.2)) else (if r103.1 = 2 then (some (1, [(r103.2.1.getD 0 undef)], r103.2.2)) else (if r103.1 = 3 then (some (2, [(r103.2.1.getD 0 undef)], r103.2.2)) else (if r103.1 = 4 then (some (3, [], r103.2.2)) else (S.bd (S.bd (bls 1 (List.replicate 1 [(.int .i64 0)]) [(0, (.int .i64 7))]) fun rows => als r103.2.2 1 1 rows) fun r104 => S.bd (app r104.2 1 8 (r103.2.1.getD 0 undef) r104.1) fun r105 => some (4, [r105.1], r105.2))))))) fun r106 => if r106.1 = 0 then (some (3, [(r106.2.1.getD 0 undef)], r106.2.2)) else (if r106.1 = 1 then (some (0, [(r106.2.1.getD 0 undef)], r106.2.2)) else (if r106.1 = 2 then (some (1, [(r106.2.1.getD 0 undef)], r106.2.2)) else (if r106.1 = 3 then (some (2, [], r106.2.2)) else (S.bd (S.bd (bls 1 (List.replicate 2 [(.int .i64 0)]) [(0, (.int .i64 2)), (1, (.int .i64 2))]) fun rows => als r106.2.2 1 2 rows) fun r107 => S.bd (app r107.2 1 8 (r106.2.1.getD 0 undef) r107.1) fun r108 => some (3, [r108.1], r108.2)))))) fun r109 => if r109.1 = 0 then (some (3, [(r109.2.1.getD 0 undef)], r109.2.2)) else (if r109.1 = 1 then (some (1, [(r109.2.1.getD 0 undef)], r109.2.2)) else (if r109.1 = 2 then (some (2, [], r109.2.2)) else (S.bd (S.bd (bls 1 (List.replicate 1 [(.int .i64 0)]) [(0, (.int .i64 5))]) fun rows => als r109.2.2 1 1 rows) fun r110 => S.bd (app r110.2 1 8 r110.1 (r109.2.1.getD 0 undef)) fun r111 => some (0, [r111.1], r111.2))))) fun r112 => if r112.1 = 0 then (some ((Value.tuple ⟨[(r112.2.1.getD 0 undef), (.bool Bool.true)]⟩), r112.2.2)) else (if r112.1 = 1 then (some ((Value.tuple ⟨[(r112.2.1.getD 0 undef), (.bool Bool.true)]⟩), r112.2.2)) else (if r112.1 = 2 then (some ((Value.tuple ⟨[(.slice none 0 0), (.bool Bool.false)]⟩), r112.2.2)) else (S.bd (S.bd (bls 1 (List.replicate 2 [(.int .i64 0)]) [(0, (.int .i64 5)), (1, (.int .i64 7))]) fun rows => als r112.2.2 1 2 rows) fun r113 => S.bd (app r113.2 1 8 (r112.2.1.getD 0 undef) r113.1) fun r114 => some ((Value.tuple ⟨[r114.1, (.bool Bool.true)]⟩), r114.2))))
def msg_needs.v (a0 : Value) (s : St) : Option (Value × St) := msg_needs.t std a0 s
def msg_needs.w : List Value → St → Option (Value × St)
  | [a0], s => msg_needs.v a0 s
  | _, _ => none
def msg_needs.an : An := ⟨38, false, [], [], [(8, ⟨[], [(.exit 3, [.v 4]), (.normal, [.v 4, .v 5])]⟩), (13, ⟨[], [(.exit 2, [.v 4]), (.exit 3, [.v 4]), (.exit 4, [.v 4]), (.exit 5, [.v 4]), (.exit 6, [.v 4]), (.exit 7, []), (.normal, [.v 4])]⟩), (14, ⟨[], [(.exit 3, [.v 4]), (.exit 4, [.v 4]), (.exit 5, [.v 4]), (.exit 6, [.v 4]), (.exit 7, []), (.normal, [.v 4])]⟩), (15, ⟨[], [(.exit 4, [.v 4]), (.exit 5, [.v 4]), (.exit 6, [.v 4]), (.exit 7, []), (.normal, [.v 4])]⟩), (16, ⟨[], [(.exit 5, [.v 4]), (.exit 6, [.v 4]), (.exit 7, []), (.normal, [.v 4])]⟩), (17, ⟨[], [(.exit 0, [.v 4]), (.exit 6, [.v 4]), (.exit 7, []), (.normal, [.v 4])]⟩)], [], [], []⟩
theorem msg_needs.ok (S : Sig) (a0 : Value) (s : St) : evF S Try.prog msg_needs.ctx msg_needs.an Try.f54 [a0] s = msg_needs.t S a0 s := by kernel_rfl
theorem msg_needs.cok : CtxOk Try.prog msg_needs.ctx := .nil
theorem msg_needs.draws : fnDraws msg_needs.an Try.f54 = true := by kernel_rfl
theorem msg_needs.can : callOk Try.prog 54 = true := by kernel_rfl
theorem msg_needs.sound : FnOk Try.prog 54 (.st msg_needs.w) := FnOk.st_of (evF_ok msg_needs.cok mixed (f := 54) (fn := Try.f54) (by kernel_rfl) msg_needs.draws) fun args s r h => by
  unfold msg_needs.w at h; split at h
  · rw [msg_needs.ok std]; exact h
  · simp at h
def pack_only.ctx : Ctx := []
def pack_only.t.p1 (S : Sig) (x7 : Value) (c1 : List Value) (c6 : List Value) (c2 : List Value) : Option Value :=
  S.bd (eqb [1] false false x7 (.int .i64 2)) fun x14 => S.cnd x14 (S.bd (lcl c1 2) fun x15 => S.bd (stl c6 2 1 x15) fun c16 => S.bd (lal c16 0 14) fun x17 => S.bd (stl c2 0 14 x17) fun c18 => S.bd (lal c18 0 14) fun x19 => some ((Value.tuple ⟨[x19, (.bool Bool.true)]⟩))) (S.bd (eqb [1] false false x7 (.int .i64 3)) fun x20 => S.cnd x20 (S.bd (lcl c1 3) fun x21 => S.bd (stl c6 3 1 x21) fun c22 => S.bd (lal c22 0 14) fun x23 => S.bd (stl c2 0 14 x23) fun c24 => S.bd (lal c24 0 14) fun x25 => some ((Value.tuple ⟨[x25, (.bool Bool.true)]⟩))) (S.bd (eqb [1] false false x7 (.int .i64 4)) fun x26 => S.cnd x26 (S.bd (lcl c1 4) fun x27 => S.bd (stl c6 4 1 x27) fun c28 => S.bd (lal c28 0 14) fun x29 => S.bd (stl c2 0 14 x29) fun c30 => S.bd (lal c30 0 14) fun x31 => some ((Value.tuple ⟨[x31, (.bool Bool.true)]⟩))) (S.bd (eqb [1] false false x7 (.int .i64 5)) fun x32 => S.cnd x32 (S.bd (lal c1 5 2) fun x33 => S.bd (stl c6 5 2 x33) fun c34 => S.bd (lal c34 0 14) fun x35 => S.bd (stl c2 0 14 x35) fun c36 => S.bd (lal c36 0 14) fun x37 => some ((Value.tuple ⟨[x37, (.bool Bool.true)]⟩))) (S.bd (eqb [1] false false x7 (.int .i64 6)) fun x38 => S.cnd x38 (S.bd (lal c1 7 2) fun x39 => S.bd (stl c6 7 2 x39) fun c40 => S.bd (lal c40 0 14) fun x41 => S.bd (stl c2 0 14 x41) fun c42 => S.bd (lal c42 0 14) fun x43 => some ((Value.tuple ⟨[x43, (.bool Bool.true)]⟩))) (S.bd (eqb [1] false false x7 (.int .i64 7)) fun x44 => S.cnd x44 (S.bd (lal c1 9 5) fun x45 => S.bd (stl c6 9 5 x45) fun c46 => S.bd (lal c46 0 14) fun x47 => S.bd (stl c2 0 14 x47) fun c48 => S.bd (lal c48 0 14) fun x49 => some ((Value.tuple ⟨[x49, (.bool Bool.true)]⟩))) (S.bd (lal c6 0 14) fun x50 => S.bd (stl c2 0 14 x50) fun c51 => S.bd (lal c51 0 14) fun x52 => some ((Value.tuple ⟨[x52, (.bool Bool.false)]⟩))))))))
def pack_only.t (S : Sig) (a0 : Value) (s : St) : Option Value :=
  S.bd (bx a0) fun c1 => S.bd (bx (Go.Value.agg #[(.int .i64 0), (.int .u64 0), (.int .i64 0), (.bool Bool.false), (.slice none 0 0), (.int .i64 0), (.int .u64 0), (.int .i64 0), (.int .u64 0), (.int .i64 0), (.int .i64 0), (.int .u64 0), (.int .i64 0), (.int .u64 0)])) fun c2 => S.bd (lcl c1 0) fun x3 => S.bd (bld [(.int .i64 0), (.int .u64 0), (.int .i64 0), (.bool Bool.false), (.slice none 0 0), (.int .i64 0), (.int .u64 0), (.int .i64 0), (.int .u64 0), (.int .i64 0), (.int .i64 0), (.int .u64 0), (.int .i64 0), (.int .u64 0)] [(0, 1, x3)]) fun x4 => S.bd (bx (Go.Value.agg #[(.int .i64 0), (.int .u64 0), (.int .i64 0), (.bool Bool.false), (.slice none 0 0), (.int .i64 0), (.int .u64 0), (.int .i64 0), (.int .u64 0), (.int .i64 0), (.int .i64 0), (.int .u64 0), (.int .i64 0), (.int .u64 0)])) fun c5 => S.bd (stl c5 0 14 x4) fun c6 => S.bd (lcl c1 0) fun x7 => S.bd (eqb [1] false false x7 (.int .i64 1)) fun x8 => S.cnd x8 (S.bd (lcl c1 1) fun x9 => S.bd (stl c6 1 1 x9) fun c10 => S.bd (lal c10 0 14) fun x11 => S.bd (stl c2 0 14 x11) fun c12 => S.bd (lal c12 0 14) fun x13 => some ((Value.tuple ⟨[x13, (.bool Bool.true)]⟩))) (pack_only.t.p1 S x7 c1 c6 c2)
def pack_only.r (a0 : Value) (s : St) : Option Value := pack_only.t std a0 s
def pack_only.w : List Value → St → Option Value
  | [a0], s => pack_only.r a0 s
  | _, _ => none
def pack_only.an : An := ⟨47, true, [1, 2, 4], [], [], [], [], []⟩
theorem pack_only.ok (S : Sig) (a0 : Value) (s : St) : evG S Try.prog pack_only.ctx pack_only.an Try.f71 [a0] s = pack_only.t S a0 s := by kernel_rfl
theorem pack_only.cok : CtxOk Try.prog pack_only.ctx := .nil
theorem pack_only.draws : fnDraws pack_only.an Try.f71 = true := by kernel_rfl
theorem pack_only.can : callOk Try.prog 71 = true := by kernel_rfl
theorem pack_only.sound : FnOk Try.prog 71 (.rd pack_only.w) := FnOk.rd_of (evG_ok pack_only.cok mixed (f := 71) (fn := Try.f71) (by kernel_rfl) pack_only.draws) fun args s r h => by
  unfold pack_only.w at h; split at h
  · rw [pack_only.ok std]; exact h
  · simp at h
def bytes_Equal.ctx : Ctx := []
def bytes_Equal.t (S : Sig) (a0 a1 : Value) (s : St) : Option Value :=
  S.bd (b2s s a0) fun x1 => S.bd (b2s s a1) fun x2 => S.bd (eqb [2] false false x1 x2) fun x3 => some (x3)
def bytes_Equal.r (a0 a1 : Value) (s : St) : Option Value := bytes_Equal.t std a0 a1 s
def bytes_Equal.w : List Value → St → Option Value
  | [a0, a1], s => bytes_Equal.r a0 a1 s
  | _, _ => none
def bytes_Equal.an : An := ⟨10, true, [], [], [], [], [], []⟩
theorem bytes_Equal.ok (S : Sig) (a0 a1 : Value) (s : St) : evG S Try.prog bytes_Equal.ctx bytes_Equal.an Try.f37 [a0, a1] s = bytes_Equal.t S a0 a1 s := by kernel_rfl
theorem bytes_Equal.cok : CtxOk Try.prog bytes_Equal.ctx := .nil
theorem bytes_Equal.draws : fnDraws bytes_Equal.an Try.f37 = true := by kernel_rfl
theorem bytes_Equal.can : callOk Try.prog 37 = true := by kernel_rfl
theorem bytes_Equal.sound : FnOk Try.prog 37 (.rd bytes_Equal.w) := FnOk.rd_of (evG_ok bytes_Equal.cok mixed (f := 37) (fn := Try.f37) (by kernel_rfl) bytes_Equal.draws) fun args s r h => by
  unfold bytes_Equal.w at h; split at h
  · rw [bytes_Equal.ok std]; exact h
  · simp at h
def pack_Same.ctx : Ctx := [(37, .rd bytes_Equal.w)]
def pack_Same.t (S : Sig) (a0 a1 : Value) (s : St) : Option Value :=
  S.bd (bx a0) fun c1 => S.bd (bx a1) fun c2 => S.bd (lcl c1 0) fun x3 => S.bd (lcl c2 0) fun x4 => S.bd (eqb [1] false false x3 x4) fun x5 => S.bd (S.gd x5 true (lcl c1 1)) fun x6 => S.bd (S.gd x5 true (lcl c2 1)) fun x7 => S.bd (S.gd x5 true (eqb [1] false false x6 x7)) fun x8 => S.bd (pik x5 x8 (.bool Bool.false)) fun x9 => S.bd (S.gd x9 true (lcl c1 2)) fun x10 => S.bd (S.gd x9 true (lcl c2 2)) fun x11 => S.bd (S.gd x9 true (eqb [1] false false x10 x11)) fun x12 => S.bd (pik x9 x12 (.bool Bool.false)) fun x13 => S.bd (S.gd x13 true (lcl c1 3)) fun x14 => S.bd (S.gd x13 true (lcl c2 3)) fun x15 => S.bd (S.gd x13 true (eqb [0] false false x14 x15)) fun x16 => S.bd (pik x13 x16 (.bool Bool.false)) fun x17 => S.bd (S.gd x17 true (lcl c1 4)) fun x18 => S.bd (S.gd x17 true (lcl c2 4)) fun x19 => S.bd (S.gd x17 true (bytes_Equal.r x18 x19 s)) fun x20 => S.bd (pik x17 x20 (.bool Bool.false)) fun x21 => S.bd (S.gd x21 true (lal c1 5 2)) fun x22 => S.bd (S.gd x21 true (lal c2 5 2)) fun x23 => S.bd (S.gd x21 true (eqb [1, 1] true false x22 x23)) fun x24 => S.bd (pik x21 x24 (.bool Bool.false)) fun x25 => S.bd (S.gd x25 true (lal c1 7 2)) fun x26 => S.bd (S.gd x25 true (lal c2 7 2)) fun x27 => S.bd (S.gd x25 true (eqb [1, 1] true false x26 x27)) fun x28 => S.bd (pik x25 x28 (.bool Bool.false)) fun x29 => S.bd (S.gd x29 true (lal c1 9 5)) fun x30 => S.bd (S.gd x29 true (lal c2 9 5)) fun x31 => S.bd (S.gd x29 true (eqb [1, 1, 1, 1, 1] true false x30 x31)) fun x32 => S.bd (pik x29 x32 (.bool Bool.false)) fun x33 => some (x33)
def pack_Same.r (a0 a1 : Value) (s : St) : Option Value := pack_Same.t std a0 a1 s
def pack_Same.w : List Value → St → Option Value
  | [a0, a1], s => pack_Same.r a0 a1 s
  | _, _ => none
def pack_Same.an : An := ⟨59, true, [2, 3], [], [], [], [], []⟩
theorem pack_Same.ok (S : Sig) (a0 a1 : Value) (s : St) : evG S Try.prog pack_Same.ctx pack_Same.an Try.f72 [a0, a1] s = pack_Same.t S a0 a1 s := by kernel_rfl
theorem pack_Same.cok : CtxOk Try.prog pack_Same.ctx := .cons bytes_Equal.sound bytes_Equal.can <| .nil
theorem pack_Same.draws : fnDraws pack_Same.an Try.f72 = true := by kernel_rfl
theorem pack_Same.can : callOk Try.prog 72 = true := by kernel_rfl
theorem pack_Same.sound : FnOk Try.prog 72 (.rd pack_Same.w) := FnOk.rd_of (evG_ok pack_Same.cok mixed (f := 72) (fn := Try.f72) (by kernel_rfl) pack_Same.draws) fun args s r h => by
  unfold pack_Same.w at h; split at h
  · rw [pack_Same.ok std]; exact h
  · simp at h
def vec_low.ctx : Ctx := []
def vec_low.t (S : Sig) (a0 : Value) (s : St) : Option Value :=
  S.bd (cvi .u64 a0) fun x1 => S.bd (bin .shl (.int .u64 1) x1) fun x2 => S.bd (bin .sub x2 (.int .u64 1)) fun x3 => some (x3)
def vec_low.r (a0 : Value) (s : St) : Option Value := vec_low.t std a0 s
def vec_low.w : List Value → St → Option Value
  | [a0], s => vec_low.r a0 s
  | _, _ => none
def vec_low.an : An := ⟨7, true, [], [], [], [], [], []⟩
theorem vec_low.ok (S : Sig) (a0 : Value) (s : St) : evG S Try.prog vec_low.ctx vec_low.an Try.f90 [a0] s = vec_low.t S a0 s := by kernel_rfl
theorem vec_low.cok : CtxOk Try.prog vec_low.ctx := .nil
theorem vec_low.draws : fnDraws vec_low.an Try.f90 = true := by kernel_rfl
theorem vec_low.can : callOk Try.prog 90 = true := by kernel_rfl
theorem vec_low.sound : FnOk Try.prog 90 (.rd vec_low.w) := FnOk.rd_of (evG_ok vec_low.cok mixed (f := 90) (fn := Try.f90) (by kernel_rfl) vec_low.draws) fun args s r h => by
  unfold vec_low.w at h; split at h
  · rw [vec_low.ok std]; exact h
  · simp at h
def vec_Right.ctx : Ctx := [(90, .rd vec_low.w)]
def vec_Right.t (S : Sig) (a0 : Value) (s : St) : Option Value :=
  S.bd (bx a0) fun c1 => S.bd (lcl c1 0) fun x2 => S.bd (bin .lss x2 (.int .i64 0)) fun x3 => S.bd (S.gd x3 false (lcl c1 0)) fun x4 => S.bd (S.gd x3 false (bin .gtr x4 (.int .i64 32))) fun x5 => S.bd (pik x3 (.bool Bool.true) x5) fun x6 => S.bd (S.gd x6 false (lcl c1 1)) fun x7 => S.bd (S.gd x6 false (lcl c1 0)) fun x8 => S.bd (S.gd x6 false (vec_low.r x8 s)) fun x9 => S.bd (S.gd x6 false (bin .gtr x7 x9)) fun x10 => S.bd (pik x6 (.bool Bool.true) x10) fun x11 => S.cnd x11 (some ((.int .i64 10))) (some ((.int .i64 0)))
def vec_Right.r (a0 : Value) (s : St) : Option Value := vec_Right.t std a0 s
def vec_Right.w : List Value → St → Option Value
  | [a0], s => vec_Right.r a0 s
  | _, _ => none
def vec_Right.an : An := ⟨19, true, [1], [], [], [(1, [(z4 0 0), (z4 1 9), (z4 2 0), (z4 3 0), (z4 4 0), (z4 5 9), (z4 6 0), (z4 7 0), (z4 8 0), (z4 9 0), (z4 10 9), (z4 11 0), (z4 12 9), (z4 13 3), (z4 14 0), (z4 15 0)])], [], []⟩
theorem vec_Right.ok (S : Sig) (a0 : Value) (s : St) : evG S Try.prog vec_Right.ctx vec_Right.an Try.f73 [a0] s = vec_Right.t S a0 s := by kernel_rfl
theorem vec_Right.cok : CtxOk Try.prog vec_Right.ctx := .cons vec_low.sound vec_low.can <| .nil
theorem vec_Right.draws : fnDraws vec_Right.an Try.f73 = true := by kernel_rfl
theorem vec_Right.can : callOk Try.prog 73 = true := by kernel_rfl
theorem vec_Right.sound : FnOk Try.prog 73 (.rd vec_Right.w) := FnOk.rd_of (evG_ok vec_Right.cok mixed (f := 73) (fn := Try.f73) (by kernel_rfl) vec_Right.draws) fun args s r h => by
  unfold vec_Right.w at h; split at h
  · rw [vec_Right.ok std]; exact h
  · simp at h
def key_Check.ctx : Ctx := []
def key_Check.t (S : Sig) (a0 : Value) (s : St) : Option Value :=
  S.bd (bx a0) fun c1 => S.bd (lcl c1 0) fun x2 => S.bd (eqb [1] false false x2 (.int .i64 2)) fun x3 => S.bd (S.gd x3 false (lcl c1 0)) fun x4 => S.bd (S.gd x3 false (eqb [1] false false x4 (.int .i64 1))) fun x5 => S.bd (S.gd x3 false (some x5)) fun x6 => S.bd (S.gd x6 false (lcl c1 0)) fun x7 => S.bd (S.gd x6 false (eqb [1] false false x7 (.int .i64 3))) fun x8 => S.bd (S.gd x3 false (pik x6 (.bool Bool.true) x8)) fun x9 => S.bd (S.gd x3 false (some x9)) fun x10 => S.bd (S.gd x10 true (lcl c1 1)) fun x11 => S.bd (S.gd x10 true (eqb [1] false false x11 (.int .u64 0))) fun x12 => S.bd (S.gd x3 false (pik x10 x12 (.bool Bool.false))) fun x13 => S.bd (pik x3 (.bool Bool.true) x13) fun x14 => S.cnd x14 (some ((.int .i64 0))) (some ((.int .i64 20)))
def key_Check.r (a0 : Value) (s : St) : Option Value := key_Check.t std a0 s
def key_Check.w : List Value → St → Option Value
  | [a0], s => key_Check.r a0 s
  | _, _ => none
def key_Check.an : An := ⟨21, true, [1], [], [], [], [], []⟩
theorem key_Check.ok (S : Sig) (a0 : Value) (s : St) : evG S Try.prog key_Check.ctx key_Check.an Try.f74 [a0] s = key_Check.t S a0 s := by kernel_rfl
theorem key_Check.cok : CtxOk Try.prog key_Check.ctx := .nil
theorem key_Check.draws : fnDraws key_Check.an Try.f74 = true := by kernel_rfl
theorem key_Check.can : callOk Try.prog 74 = true := by kernel_rfl
theorem key_Check.sound : FnOk Try.prog 74 (.rd key_Check.w) := FnOk.rd_of (evG_ok key_Check.cok mixed (f := 74) (fn := Try.f74) (by kernel_rfl) key_Check.draws) fun args s r h => by
  unfold key_Check.w at h; split at h
  · rw [key_Check.ok std]; exact h
  · simp at h
def pack_Check.ctx : Ctx := [(71, .rd pack_only.w), (72, .rd pack_Same.w), (73, .rd vec_Right.w), (74, .rd key_Check.w)]
def pack_Check.t (S : Sig) (a0 : Value) (s : St) : Option Value :=
  S.bd (bx a0) fun c1 => S.bd (lal c1 0 14) fun x2 => S.bd (pack_only.r x2 s) fun x3 => S.bd (xtr 0 x3) fun x4 => S.bd (xtr 1 x3) fun x5 => S.bd (bx (Go.Value.agg #[(.int .i64 0), (.int .u64 0), (.int .i64 0), (.bool Bool.false), (.slice none 0 0), (.int .i64 0), (.int .u64 0), (.int .i64 0), (.int .u64 0), (.int .i64 0), (.int .i64 0), (.int .u64 0), (.int .i64 0), (.int .u64 0)])) fun c6 => S.bd (stl c6 0 14 x4) fun c7 => S.bd (un .not x5) fun x8 => S.bd (S.gd x8 false (lal c7 0 14)) fun x9 => S.bd (S.gd x8 false (lal c1 0 14)) fun x10 => S.bd (S.gd x8 false (pack_Same.r x9 x10 s)) fun x11 => S.bd (S.gd x8 false (un .not x11)) fun x12 => S.bd (pik x8 (.bool Bool.true) x12) fun x13 => S.cnd x13 (some ((.int .i64 30))) (S.bd (show Option Cut from S.bd (lcl c1 0) fun x35 => S.bd (eqb [1] false false x35 (.int .i64 4)) fun x36 => S.cnd x36 (S.bd (lcl c1 4) fun x37 => S.bd (lenL x37) fun x38 => S.bd (bin .leq x38 (.int .i64 65536)) fun x39 => some (0, [x39], s)) (S.bd (eqb [1] false false x35 (.int .i64 5)) fun x40 => S.cnd x40 (S.bd (lal c1 5 2) fun x41 => S.bd (vec_Right.r x41 s) fun x42 => S.bd (eqb [1] false false x42 (.int .i64 0)) fun x43 => some (0, [x43], s)) (S.bd (eqb [1] false false x35 (.int .i64 6)) fun x44 => S.cnd x44 (S.bd (lal c1 7 2) fun x45 => S.bd (key_Check.r x45 s) fun x46 => S.bd (eqb [1] false false x46 (.int .i64 0)) fun x47 => some (0, [x47], s)) (S.bd (eqb [1] false false x35 (.int .i64 7)) fun x48 => S.cnd x48 (S.bd (lal c1 10 2) fun x49 => S.bd (key_Check.r x49 s) fun x50 => S.bd (eqb [1] false false x50 (.int .i64 0)) fun x51 => S.bd (S.gd x51 true (lal c1 12 2)) fun x52 => S.bd (S.gd x51 true (vec_Right.r x52 s)) fun x53 => S.bd (S.gd x51 true (eqb [1] false false x53 (.int .i64 0))) fun x54 => S.bd (pik x51 x54 (.bool Bool.false)) fun x55 => some (0, [x55], s)) (some (0, [x5], s)))))) fun r56 => S.bd (un .not (r56.2.1.getD 0 undef)) fun x57 => S.cnd x57 (some ((.int .i64 30))) (some ((.int .i64 0))))
def pack_Check.r (a0 : Value) (s : St) : Option Value := pack_Check.t std a0 s
def pack_Check.w : List Value → St → Option Value
  | [a0], s => pack_Check.r a0 s
  | _, _ => none
def pack_Check.an : An := ⟨54, true, [1, 3], [], [(13, ⟨[], [(.normal, [.v 4])]⟩)], [], [], []⟩
theorem pack_Check.ok (S : Sig) (a0 : Value) (s : St) : evG S Try.prog pack_Check.ctx pack_Check.an Try.f55 [a0] s = pack_Check.t S a0 s := by kernel_rfl
theorem pack_Check.cok : CtxOk Try.prog pack_Check.ctx := .cons pack_only.sound pack_only.can <| .cons pack_Same.sound pack_Same.can <| .cons vec_Right.sound vec_Right.can <| .cons key_Check.sound key_Check.can <| .nil
theorem pack_Check.draws : fnDraws pack_Check.an Try.f55 = true := by kernel_rfl
theorem pack_Check.can : callOk Try.prog 55 = true := by kernel_rfl
theorem pack_Check.sound : FnOk Try.prog 55 (.rd pack_Check.w) := FnOk.rd_of (evG_ok pack_Check.cok mixed (f := 55) (fn := Try.f55) (by kernel_rfl) pack_Check.draws) fun args s r h => by
  unfold pack_Check.w at h; split at h
  · rw [pack_Check.ok std]; exact h
  · simp at h
def msg_made.ctx : Ctx := []
def msg_made.l4.p1 (S : Sig) (c45 : List Value) (xs38 : List Value) (rec40 : List Value → St → Option Cut) (s39 : St) : Option Cut :=
  S.bd (lcl c45 0) fun x51 => S.bd (eqb [1] false false x51 (.int .i64 7)) fun x52 => S.bd (S.gd x52 true (some (xs38.getD 0 undef))) fun x53 => S.bd (S.gd x52 true (eqb [1] false false x53 (.int .i64 0))) fun x54 => S.bd (pik x52 x54 (.bool Bool.false)) fun x55 => S.cnd x55 (S.bd (lal c45 9 5) fun x56 => S.bd (stl (cellsA (xs38.getD 6 undef)) 3 5 x56) fun c57 => S.bd (bin .add (xs38.getD 0 undef) (.int .i64 1)) fun x58 => S.bd (bin .add (xs38.getD 4 undef) (.int .i64 1)) fun x59 => rec40 [x58, (xs38.getD 1 undef), (xs38.getD 2 undef), (xs38.getD 3 undef), x59, (Value.agg ⟨(cellsA (xs38.getD 5 undef))⟩), (Value.agg ⟨c57⟩)] s39) (S.bd (lcl c45 0) fun x60 => S.bd (eqb [1] false false x60 (.int .i64 7)) fun x61 => S.cnd x61 (S.bd (lal c45 9 5) fun x62 => S.bd (stl (cellsA (xs38.getD 6 undef)) 8 5 x62) fun c63 => S.bd (bin .add (xs38.getD 4 undef) (.int .i64 1)) fun x64 => rec40 [(xs38.getD 0 undef), (xs38.getD 1 undef), (xs38.getD 2 undef), (xs38.getD 3 undef), x64, (Value.agg ⟨(cellsA (xs38.getD 5 undef))⟩), (Value.agg ⟨c63⟩)] s39) (S.bd (eqb [1] false false (xs38.getD 1 undef) (.int .i64 0)) fun x65 => S.cnd x65 (S.bd (lcl c45 2) fun x66 => S.bd (stl (cellsA (xs38.getD 6 undef)) 13 1 x66) fun c67 => S.bd (bin .add (xs38.getD 1 undef) (.int .i64 1)) fun x68 => S.bd (bin .add (xs38.getD 4 undef) (.int .i64 1)) fun x69 => rec40 [(xs38.getD 0 undef), x68, (xs38.getD 2 undef), (xs38.getD 3 undef), x69, (Value.agg ⟨(cellsA (xs38.getD 5 undef))⟩), (Value.agg ⟨c67⟩)] s39) (S.bd (lcl c45 2) fun x70 => S.bd (stl (cellsA (xs38.getD 6 undef)) 14 1 x70) fun c71 => S.bd (bin .add (xs38.getD 4 undef) (.int .i64 1)) fun x72 => rec40 [(xs38.getD 0 undef), (xs38.getD 1 undef), (xs38.getD 2 undef), (xs38.getD 3 undef), x72, (Value.agg ⟨(cellsA (xs38.getD 5 undef))⟩), (Value.agg ⟨c71⟩)] s39)))
def msg_made.l4 (S : Sig) (rec40 : List Value → St → Option Cut) (xs38 : List Value) (s39 : St) : Option Cut :=
  S.bd (bin .lss (xs38.getD 4 undef) (xs38.getD 3 undef)) fun x41 => S.cnd x41 (S.bd (idx s39 14 (xs38.getD 2 undef) (xs38.getD 4 undef)) fun x42 => S.bd (lda s39 14 x42) fun x43 => S.bd (bx (Go.Value.agg #[(.int .i64 0), (.int .u64 0), (.int .i64 0), (.bool Bool.false), (.slice none 0 0), (.int .i64 0), (.int .u64 0), (.int .i64 0), (.int .u64 0), (.int .i64 0), (.int .i64 0), (.int .u64 0), (.int .i64 0), (.int .u64 0)])) fun c44 => S.bd (stl c44 0 14 x43) fun c45 => S.bd (lcl c45 0) fun x46 => S.bd (eqb [1] false false x46 (.int .i64 5)) fun x47 => S.cnd x47 (S.bd (lal c45 5 2) fun x48 => S.bd (stl (cellsA (xs38.getD 6 undef)) 1 2 x48) fun c49 => S.bd (bin .add (xs38.getD 4 undef) (.int .i64 1)) fun x50 => rec40 [(xs38.getD 0 undef), (xs38.getD 1 undef), (xs38.getD 2 undef), (xs38.getD 3 undef), x50, (Value.agg ⟨(cellsA (xs38.getD 5 undef))⟩), (Value.agg ⟨c49⟩)] s39) (msg_made.l4.p1 S c45 xs38 rec40 s39)) (some (0, [(Value.agg ⟨(cellsA (xs38.getD 5 undef))⟩), (Value.agg ⟨(cellsA (xs38.getD 6 undef))⟩)], s39))
def msg_made.t (S : Sig) (a0 a1 : Value) (s : St) : Option Value :=
  S.bd (bx (Go.Value.agg #[(.int .i64 0), (.int .i64 0), (.int .u64 0), (.int .i64 0), (.int .i64 0), (.int .u64 0), (.int .i64 0), (.int .u64 0), (.int .i64 0), (.int .i64 0), (.int .u64 0), (.int .i64 0), (.int .u64 0), (.int .i64 0), (.int .i64 0)])) fun c1 => S.bd (bld [(.int .i64 0), (.int .i64 0), (.int .u64 0), (.int .i64 0), (.int .i64 0), (.int .u64 0), (.int .i64 0), (.int .u64 0), (.int .i64 0), (.int .i64 0), (.int .u64 0), (.int .i64 0), (.int .u64 0), (.int .i64 0), (.int .i64 0)] [(0, 1, a0)]) fun x2 => S.bd (bx (Go.Value.agg #[(.int .i64 0), (.int .i64 0), (.int .u64 0), (.int .i64 0), (.int .i64 0), (.int .u64 0), (.int .i64 0), (.int .u64 0), (.int .i64 0), (.int .i64 0), (.int .u64 0), (.int .i64 0), (.int .u64 0), (.int .i64 0), (.int .i64 0)])) fun c3 => S.bd (stl c3 0 15 x2) fun c4 => S.bd (lenL a1) fun x5 => S.bd (S.it (msg_made.l4 S) [(.int .i64 0), (.int .i64 0), a1, x5, (.int .i64 0), (Value.agg ⟨c1⟩), (Value.agg ⟨c4⟩)] s) fun r73 => S.bd (lal (cellsA (r73.2.1.getD 1 undef)) 0 15) fun x74 => S.bd (stl (cellsA (r73.2.1.getD 0 undef)) 0 15 x74) fun c75 => S.bd (lal c75 0 15) fun x76 => some (x76)
def msg_made.r (a0 a1 : Value) (s : St) : Option Value := msg_made.t std a0 a1 s
def msg_made.w : List Value → St → Option Value
  | [a0, a1], s => msg_made.r a0 a1 s
  | _, _ => none
def msg_made.an : An := ⟨60, true, [4, 5, 9], [(4, ⟨[.p 4 4 0, .p 5 5 0, .v 6, .v 7, .v 12, .v 13, .v 14, .l 4, .l 5], [(.exit 0, [.p 4 4 0, .p 5 5 0, .l 4, .l 5])]⟩)], [], [], [], []⟩
theorem msg_made.ok (S : Sig) (a0 a1 : Value) (s : St) : evG S Try.prog msg_made.ctx msg_made.an Try.f56 [a0, a1] s = msg_made.t S a0 a1 s := by kernel_rfl
theorem msg_made.cok : CtxOk Try.prog msg_made.ctx := .nil
theorem msg_made.draws : fnDraws msg_made.an Try.f56 = true := by kernel_rfl
theorem msg_made.can : callOk Try.prog 56 = true := by kernel_rfl
theorem msg_made.sound : FnOk Try.prog 56 (.rd msg_made.w) := FnOk.rd_of (evG_ok msg_made.cok mixed (f := 56) (fn := Try.f56) (by kernel_rfl) msg_made.draws) fun args s r h => by
  unfold msg_made.w at h; split at h
  · rw [msg_made.ok std]; exact h
  · simp at h
def msg_ask.ctx : Ctx := [(54, .st msg_needs.w), (55, .rd pack_Check.w), (56, .rd msg_made.w)]
def msg_ask.l7.p1 (S : Sig) (s55 : St) (xs54 : List Value) (rec56 : List Value → St → Option Cut) : Option Cut :=
  S.bd (idx s55 1 (xs54.getD 3 undef) (xs54.getD 5 undef)) fun x58 => S.bd (ldc s55 x58) fun x59 => S.bd (bld [(.int .i64 0), (.int .u64 0), (.int .i64 0), (.bool Bool.false), (.slice none 0 0), (.int .i64 0), (.int .u64 0), (.int .i64 0), (.int .u64 0), (.int .i64 0), (.int .i64 0), (.int .u64 0), (.int .i64 0), (.int .u64 0)] [(0, 1, x59)]) fun x60 => S.bd (bx (Go.Value.agg #[(.int .i64 0), (.int .u64 0), (.int .i64 0), (.bool Bool.false), (.slice none 0 0), (.int .i64 0), (.int .u64 0), (.int .i64 0), (.int .u64 0), (.int .i64 0), (.int .i64 0), (.int .u64 0), (.int .i64 0), (.int .u64 0)])) fun c61 => S.bd (stl c61 0 14 x60) fun c62 => S.bd (show Option Cut from S.bd (eqb [1] false false x59 (.int .i64 5)) fun x63 => S.cnd x63 (S.bd (lal (cellsA (xs54.getD 6 undef)) 1 2) fun x64 => S.bd (stl c62 5 2 x64) fun c65 => some (0, [(xs54.getD 0 undef), (xs54.getD 1 undef), (xs54.getD 2 undef), (xs54.getD 3 undef), (xs54.getD 4 undef), (xs54.getD 5 undef), (Value.agg ⟨(cellsA (xs54.getD 6 undef))⟩), (Value.agg ⟨c65⟩)], s55)) (S.bd (eqb [1] false false x59 (.int .i64 7)) fun x66 => S.cnd x66 (S.bd (idx s55 5 (xs54.getD 1 undef) (.int .i64 0)) fun x67 => S.bd (lda s55 5 x67) fun x68 => S.bd (slc s55 5 (xs54.getD 1 undef) (some (.int .i64 1)) none none) fun x69 => S.bd (stl c62 9 5 x68) fun c70 => some (0, [(xs54.getD 0 undef), x69, (xs54.getD 2 undef), (xs54.getD 3 undef), (xs54.getD 4 undef), (xs54.getD 5 undef), (Value.agg ⟨(cellsA (xs54.getD 6 undef))⟩), (Value.agg ⟨c70⟩)], s55)) (S.bd (eqb [1] false false x59 (.int .i64 2)) fun x71 => S.cnd x71 (S.bd (idx s55 1 (xs54.getD 2 undef) (.int .i64 0)) fun x72 => S.bd (ldc s55 x72) fun x73 => S.bd (slc s55 1 (xs54.getD 2 undef) (some (.int .i64 1)) none none) fun x74 => S.bd (stl c62 2 1 x73) fun c75 => some (0, [(xs54.getD 0 undef), (xs54.getD 1 undef), x74, (xs54.getD 3 undef), (xs54.getD 4 undef), (xs54.getD 5 undef), (Value.agg ⟨(cellsA (xs54.getD 6 undef))⟩), (Value.agg ⟨c75⟩)], s55)) (some (0, [(xs54.getD 0 undef), (xs54.getD 1 undef), (xs54.getD 2 undef), (xs54.getD 3 undef), (xs54.getD 4 undef), (xs54.getD 5 undef), (Value.agg ⟨(cellsA (xs54.getD 6 undef))⟩), (Value.agg ⟨c62⟩)], s55))))) fun r76 => S.bd (lal (cellsA (r76.2.1.getD 7 undef)) 0 14) fun x77 => S.bd (pack_Check.r x77 r76.2.2) fun x78 => S.bd (eqb [1] false true x78 (.int .i64 0)) fun x79 => S.cnd x79 (some (1, [(.slice none 0 0), (.bool Bool.false)], r76.2.2)) (S.bd (lal (cellsA (r76.2.1.getD 7 undef)) 0 14) fun x80 => S.bd (S.bd (bls 14 (List.replicate 1 [(.int .i64 0), (.int .u64 0), (.int .i64 0), (.bool Bool.false), (.slice none 0 0), (.int .i64 0), (.int .u64 0), (.int .i64 0), (.int .u64 0), (.int .i64 0), (.int .i64 0), (.int .u64 0), (.int .i64 0), (.int .u64 0)]) [(0, x80)]) fun rows => als r76.2.2 14 1 rows) fun r81 => S.bd (app r81.2 14 128 (r76.2.1.getD 0 undef) r81.1) fun r82 => S.bd (bin .add (r76.2.1.getD 5 undef) (.int .i64 1)) fun x83 => rec56 [r82.1, (r76.2.1.getD 1 undef), (r76.2.1.getD 2 undef), (r76.2.1.getD 3 undef), (r76.2.1.getD 4 undef), x83, (Value.agg ⟨(cellsA (r76.2.1.getD 6 undef))⟩)] r82.2)
def msg_ask.l7 (S : Sig) (rec56 : List Value → St → Option Cut) (xs54 : List Value) (s55 : St) : Option Cut :=
  S.bd (bin .lss (xs54.getD 5 undef) (xs54.getD 4 undef)) fun x57 => S.cnd x57 (msg_ask.l7.p1 S s55 xs54 rec56) (some (0, [(xs54.getD 0 undef), (Value.agg ⟨(cellsA (xs54.getD 6 undef))⟩)], s55))
def msg_ask.t (S : Sig) (a0 : Value) (s : St) : Option (Value × St) :=
  S.bd (bx a0) fun c1 => S.bd (lcl c1 0) fun x2 => S.bd (msg_needs.v x2 s) fun r3 => S.bd (xtr 0 r3.1) fun x4 => S.bd (xtr 1 r3.1) fun x5 => S.bd (un .not x5) fun x6 => S.cnd x6 (some ((Value.tuple ⟨[(.slice none 0 0), (.bool Bool.false)]⟩), r3.2)) (S.bd (lal c1 3 5) fun x7 => S.bd (lal c1 8 5) fun x8 => S.bd (lcl c1 13) fun x9 => S.bd (lcl c1 14) fun x10 => S.bd (S.bd (bls 1 (List.replicate 2 [(.int .i64 0)]) [(0, x9), (1, x10)]) fun rows => als r3.2 1 2 rows) fun _ => S.bd (S.bd (bls 5 (List.replicate 2 [(.int .i64 0), (.int .i64 0), (.int .u64 0), (.int .i64 0), (.int .u64 0)]) [(0, x7), (1, x8)]) fun rows => als r3.2 5 2 rows) fun r11 => S.bd (S.bd (bls 1 (List.replicate 2 [(.int .i64 0)]) [(0, x9), (1, x10)]) fun rows => als r11.2 1 2 rows) fun r12 => S.bd (lenL x4) fun x13 => S.bd (S.it (msg_ask.l7 S) [(.slice none 0 0), r11.1, r12.1, x4, x13, (.int .i64 0), (Value.agg ⟨c1⟩)] r12.2) fun r84 => if r84.1 = 0 then (S.bd (lcl (cellsA (r84.2.1.getD 1 undef)) 0) fun x85 => S.bd (lal (cellsA (r84.2.1.getD 1 undef)) 0 15) fun x86 => S.bd (msg_made.r x85 (r84.2.1.getD 0 undef) r84.2.2) fun x87 => S.bd (eqb [1, 1, 1, 1, 1, 1, 1, 1, 1, 1, 1, 1, 1, 1, 1] true false x87 x86) fun x88 => some ((Value.tuple ⟨[(r84.2.1.getD 0 undef), x88]⟩), r84.2.2)) else (some ((Value.tuple ⟨[(r84.2.1.getD 0 undef), (r84.2.1.getD 1 undef)]⟩), r84.2.2)))
def msg_ask.v (a0 : Value) (s : St) : Option (Value × St) := msg_ask.t std a0 s
def msg_ask.w : List Value → St → Option (Value × St)
  | [a0], s => msg_ask.v a0 s
  | _, _ => none
def msg_ask.an : An := ⟨77, false, [1, 11], [(7, ⟨[.p 1 1 0, .v 6, .v 7, .v 8, .v 32, .v 33, .v 34, .l 1], [(.exit 0, [.p 1 1 0, .v 6, .l 1]), (.ret, [.v 2, .v 3])]⟩)], [(17, ⟨[], [(.normal, [.p 1 1 0, .v 6, .v 7, .v 8, .p 11 11 0, .v 32, .v 33, .v 34, .l 1, .l 11])]⟩)], [(5, [(z4 0 0), (z4 1 9), (z4 2 0), (z4 3 9), (z4 5 0), (z4 6 0), (z4 7 9), (z4 8 0), (z4 9 0), (z4 10 9), (4, 3, [], [11]), (z4 12 0), (z4 11 3), (z4 13 0)]), (14, [(z4 0 0), (z4 1 2), (z4 2 2), (z4 3 0), (z4 4 2), (z4 5 0), (z4 6 93), (z4 7 3)]), (16, [(z4 0 0), (z4 1 2), (z4 2 2), (z4 3 0), (z4 4 2), (z4 5 0), (z4 6 93), (z4 7 3)]), (21, [(z4 0 0), (z4 1 0), (z4 2 9), (z4 3 0), (z4 5 9), (z4 4 3), (z4 6 0), (z4 7 0), (z4 8 0)])], [], []⟩
theorem msg_ask.ok (S : Sig) (a0 : Value) (s : St) : evF S Try.prog msg_ask.ctx msg_ask.an Try.f30 [a0] s = msg_ask.t S a0 s := by kernel_rfl
theorem msg_ask.cok : CtxOk Try.prog msg_ask.ctx := .cons msg_needs.sound msg_needs.can <| .cons pack_Check.sound pack_Check.can <| .cons msg_made.sound msg_made.can <| .nil
theorem msg_ask.draws : fnDraws msg_ask.an Try.f30 = true := by kernel_rfl
theorem msg_ask.can : callOk Try.prog 30 = true := by kernel_rfl
theorem msg_ask.sound : FnOk Try.prog 30 (.st msg_ask.w) := FnOk.st_of (evF_ok msg_ask.cok mixed (f := 30) (fn := Try.f30) (by kernel_rfl) msg_ask.draws) fun args s r h => by
  unfold msg_ask.w at h; split at h
  · rw [msg_ask.ok std]; exact h
  · simp at h
def msg_CheckAsk.ctx : Ctx := [(30, .st msg_ask.w)]
def msg_CheckAsk.t (S : Sig) (a0 : Value) (s : St) : Option (Value × St) :=
  S.bd (bx a0) fun c1 => S.bd (lal c1 0 15) fun x2 => S.bd (msg_ask.v x2 s) fun r3 => S.bd (xtr 0 r3.1) fun x4 => S.bd (xtr 1 r3.1) fun x5 => S.bd (un .not x5) fun x6 => S.cnd x6 (some ((.int .i64 40), r3.2)) (some ((.int .i64 0), r3.2))
def msg_CheckAsk.v (a0 : Value) (s : St) : Option (Value × St) := msg_CheckAsk.t std a0 s
def msg_CheckAsk.w : List Value → St → Option (Value × St)
  | [a0], s => msg_CheckAsk.v a0 s
  | _, _ => none
def msg_CheckAsk.an : An := ⟨12, false, [1], [], [], [], [], []⟩
theorem msg_CheckAsk.ok (S : Sig) (a0 : Value) (s : St) : evF S Try.prog msg_CheckAsk.ctx msg_CheckAsk.an Try.f10 [a0] s = msg_CheckAsk.t S a0 s := by kernel_rfl
theorem msg_CheckAsk.cok : CtxOk Try.prog msg_CheckAsk.ctx := .cons msg_ask.sound msg_ask.can <| .nil
theorem msg_CheckAsk.draws : fnDraws msg_CheckAsk.an Try.f10 = true := by kernel_rfl
theorem msg_CheckAsk.can : callOk Try.prog 10 = true := by kernel_rfl
theorem msg_CheckAsk.sound : FnOk Try.prog 10 (.st msg_CheckAsk.w) := FnOk.st_of (evF_ok msg_CheckAsk.cok mixed (f := 10) (fn := Try.f10) (by kernel_rfl) msg_CheckAsk.draws) fun args s r h => by
  unfold msg_CheckAsk.w at h; split at h
  · rw [msg_CheckAsk.ok std]; exact h
  · simp at h
def msg_CheckAskQ.r (a0 : Value) (s : St) : Option Value := frzR (fun s => msg_CheckAsk.v a0 s) s
def msg_CheckAskQ.w : List Value → St → Option Value := fun args s => frzR (msg_CheckAsk.w args) s
theorem msg_CheckAskQ.can : callOk Try.prog 10 = true := msg_CheckAsk.can
theorem msg_CheckAskQ.sound : FnOk Try.prog 10 (.rd msg_CheckAskQ.w) := FnOk.frozen msg_CheckAsk.sound
def r04has.ctx : Ctx := []
def r04has.t (S : Sig) (a0 : Value) (s : St) : Option Value :=
  S.bd (eqb [1] false false a0 (.int .i64 5)) fun x1 => S.bd (S.gd x1 false (some a0)) fun x2 => S.bd (S.gd x1 false (eqb [1] false false x2 (.int .i64 6))) fun x3 => S.bd (pik x1 (.bool Bool.true) x3) fun x4 => S.bd (S.gd x4 false (some a0)) fun x5 => S.bd (S.gd x4 false (eqb [1] false false x5 (.int .i64 7))) fun x6 => S.bd (pik x4 (.bool Bool.true) x6) fun x7 => S.bd (eqb [1] false false a0 (.int .i64 3)) fun x8 => S.bd (S.gd x8 false (some a0)) fun x9 => S.bd (S.gd x8 false (eqb [1] false false x9 (.int .i64 4))) fun x10 => S.bd (pik x8 (.bool Bool.true) x10) fun x11 => S.bd (S.gd x11 false (some a0)) fun x12 => S.bd (S.gd x11 false (eqb [1] false false x12 (.int .i64 8))) fun x13 => S.bd (pik x11 (.bool Bool.true) x13) fun x14 => S.bd (S.gd x14 false (some a0)) fun x15 => S.bd (S.gd x14 false (eqb [1] false false x15 (.int .i64 5))) fun x16 => S.bd (pik x14 (.bool Bool.true) x16) fun x17 => S.bd (S.gd x17 false (some a0)) fun x18 => S.bd (S.gd x17 false (eqb [1] false false x18 (.int .i64 7))) fun x19 => S.bd (pik x17 (.bool Bool.true) x19) fun x20 => S.bd (eqb [1] false false a0 (.int .i64 1)) fun x21 => S.bd (S.gd x21 false (some x7)) fun x22 => S.bd (pik x21 (.bool Bool.true) x22) fun x23 => S.bd (S.gd x23 false (some x20)) fun x24 => S.bd (pik x23 (.bool Bool.true) x24) fun x25 => S.bd (eqb [1] false false a0 (.int .i64 7)) fun x26 => some ((Value.tuple ⟨[x25, x7, x26, x20]⟩))
def r04has.r (a0 : Value) (s : St) : Option Value := r04has.t std a0 s
def r04has.w : List Value → St → Option Value
  | [a0], s => r04has.r a0 s
  | _, _ => none
def r04has.an : An := ⟨48, true, [], [], [], [], [], []⟩
theorem r04has.ok (S : Sig) (a0 : Value) (s : St) : evG S Try.prog r04has.ctx r04has.an Try.f31 [a0] s = r04has.t S a0 s := by kernel_rfl
theorem r04has.cok : CtxOk Try.prog r04has.ctx := .nil
theorem r04has.draws : fnDraws r04has.an Try.f31 = true := by kernel_rfl
theorem r04has.can : callOk Try.prog 31 = true := by kernel_rfl
theorem r04has.sound : FnOk Try.prog 31 (.rd r04has.w) := FnOk.rd_of (evG_ok r04has.cok mixed (f := 31) (fn := Try.f31) (by kernel_rfl) r04has.draws) fun args s r h => by
  unfold r04has.w at h; split at h
  · rw [r04has.ok std]; exact h
  · simp at h
def r04only.ctx : Ctx := []
def r04only.t.p1 (S : Sig) (r20 : Cut) : Option Value :=
  S.bd (eqb [1] false false (r20.2.1.getD 0 undef) (.int .i64 5)) fun x28 => S.cnd x28 (S.bd (lal (cellsA (r20.2.1.getD 2 undef)) 1 2) fun x29 => S.bd (lal (cellsA (r20.2.1.getD 2 undef)) 3 5) fun x30 => S.bd (lal (cellsA (r20.2.1.getD 2 undef)) 13 2) fun x31 => S.bd (stl (cellsA (r20.2.1.getD 4 undef)) 1 2 x29) fun c32 => S.bd (stl c32 3 5 x30) fun c33 => S.bd (stl c33 13 2 x31) fun c34 => S.bd (lal c34 0 15) fun x35 => S.bd (stl (cellsA (r20.2.1.getD 3 undef)) 0 15 x35) fun c36 => S.bd (lal c36 0 15) fun x37 => some (x37)) (S.bd (eqb [1] false false (r20.2.1.getD 0 undef) (.int .i64 6)) fun x38 => S.cnd x38 (S.bd (lal (cellsA (r20.2.1.getD 2 undef)) 1 2) fun x39 => S.bd (lal (cellsA (r20.2.1.getD 2 undef)) 3 5) fun x40 => S.bd (stl (cellsA (r20.2.1.getD 4 undef)) 1 2 x39) fun c41 => S.bd (stl c41 3 5 x40) fun c42 => S.bd (lal c42 0 15) fun x43 => S.bd (stl (cellsA (r20.2.1.getD 3 undef)) 0 15 x43) fun c44 => S.bd (lal c44 0 15) fun x45 => some (x45)) (S.bd (eqb [1] false false (r20.2.1.getD 0 undef) (.int .i64 7)) fun x46 => S.cnd x46 (S.bd (lal (cellsA (r20.2.1.getD 2 undef)) 1 2) fun x47 => S.bd (lal (cellsA (r20.2.1.getD 2 undef)) 3 5) fun x48 => S.bd (lal (cellsA (r20.2.1.getD 2 undef)) 8 5) fun x49 => S.bd (lal (cellsA (r20.2.1.getD 2 undef)) 13 2) fun x50 => S.bd (stl (cellsA (r20.2.1.getD 4 undef)) 1 2 x47) fun c51 => S.bd (stl c51 3 5 x48) fun c52 => S.bd (stl c52 8 5 x49) fun c53 => S.bd (stl c53 13 2 x50) fun c54 => S.bd (lal c54 0 15) fun x55 => S.bd (stl (cellsA (r20.2.1.getD 3 undef)) 0 15 x55) fun c56 => S.bd (lal c56 0 15) fun x57 => some (x57)) (S.bd (lal (cellsA (r20.2.1.getD 4 undef)) 0 15) fun x58 => S.bd (stl (cellsA (r20.2.1.getD 3 undef)) 0 15 x58) fun c59 => S.bd (lal c59 0 15) fun x60 => some (x60))))
def r04only.t (S : Sig) (a0 : Value) (s : St) : Option Value :=
  S.bd (bx a0) fun c1 => S.bd (bx (Go.Value.agg #[(.int .i64 0), (.int .i64 0), (.int .u64 0), (.int .i64 0), (.int .i64 0), (.int .u64 0), (.int .i64 0), (.int .u64 0), (.int .i64 0), (.int .i64 0), (.int .u64 0), (.int .i64 0), (.int .u64 0), (.int .i64 0), (.int .i64 0)])) fun c2 => S.bd (lcl c1 0) fun x3 => S.bd (bld [(.int .i64 0), (.int .i64 0), (.int .u64 0), (.int .i64 0), (.int .i64 0), (.int .u64 0), (.int .i64 0), (.int .u64 0), (.int .i64 0), (.int .i64 0), (.int .u64 0), (.int .i64 0), (.int .u64 0), (.int .i64 0), (.int .i64 0)] [(0, 1, x3)]) fun x4 => S.bd (bx (Go.Value.agg #[(.int .i64 0), (.int .i64 0), (.int .u64 0), (.int .i64 0), (.int .i64 0), (.int .u64 0), (.int .i64 0), (.int .u64 0), (.int .i64 0), (.int .i64 0), (.int .u64 0), (.int .i64 0), (.int .u64 0), (.int .i64 0), (.int .i64 0)])) fun c5 => S.bd (stl c5 0 15 x4) fun c6 => S.bd (lcl c1 0) fun x7 => S.bd (eqb [1] false false x7 (.int .i64 1)) fun x8 => S.cnd x8 (S.bd (lal c1 1 2) fun x9 => S.bd (stl c6 1 2 x9) fun c10 => S.bd (lal c10 0 15) fun x11 => S.bd (stl c2 0 15 x11) fun c12 => S.bd (lal c12 0 15) fun x13 => some (x13)) (S.bd (show Option Cut from S.bd (eqb [1] false false x7 (.int .i64 3)) fun x17 => S.cnd x17 (some (0, [x7, x17, (Value.agg ⟨c1⟩), (Value.agg ⟨c2⟩), (Value.agg ⟨c6⟩)], s)) (S.bd (eqb [1] false false x7 (.int .i64 4)) fun x18 => S.cnd x18 (some (0, [x7, x18, (Value.agg ⟨c1⟩), (Value.agg ⟨c2⟩), (Value.agg ⟨c6⟩)], s)) (S.bd (eqb [1] false false x7 (.int .i64 8)) fun x19 => some (0, [x7, x19, (Value.agg ⟨c1⟩), (Value.agg ⟨c2⟩), (Value.agg ⟨c6⟩)], s)))) fun r20 => S.cnd (r20.2.1.getD 1 undef) (S.bd (lal (cellsA (r20.2.1.getD 2 undef)) 1 2) fun x21 => S.bd (lal (cellsA (r20.2.1.getD 2 undef)) 13 2) fun x22 => S.bd (stl (cellsA (r20.2.1.getD 4 undef)) 1 2 x21) fun c23 => S.bd (stl c23 13 2 x22) fun c24 => S.bd (lal c24 0 15) fun x25 => S.bd (stl (cellsA (r20.2.1.getD 3 undef)) 0 15 x25) fun c26 => S.bd (lal c26 0 15) fun x27 => some (x27)) (r04only.t.p1 S r20))
def r04only.r (a0 : Value) (s : St) : Option Value := r04only.t std a0 s
def r04only.w : List Value → St → Option Value
  | [a0], s => r04only.r a0 s
  | _, _ => none
def r04only.an : An := ⟨59, true, [1, 2, 3], [], [(9, ⟨[], [(.normal, [.p 1 1 0, .p 2 2 0, .p 3 3 0, .v 8, .v 15, .l 1, .l 2, .l 3])]⟩)], [(9, [(z4 0 0), (z4 1 9), (z4 2 0), (z4 3 9), (z4 4 0), (z4 5 29), (z4 6 0), (z4 7 29)]), (11, [(z4 0 0), (z4 1 9), (z4 2 0), (z4 3 9), (z4 4 0), (z4 5 9), (z4 6 0), (z4 7 29), (z4 8 0), (z4 9 29), (z4 10 0), (z4 11 29)]), (13, [(z4 0 0), (z4 1 9), (z4 2 0), (z4 3 9), (z4 4 0), (z4 5 29), (z4 6 0), (z4 7 29)]), (15, [(z4 0 0), (z4 1 9), (z4 2 0), (z4 3 9), (z4 4 0), (z4 5 9), (z4 6 0), (z4 7 9), (z4 8 0), (z4 9 29), (z4 10 0), (z4 11 29), (z4 12 0), (z4 13 29), (z4 14 0), (z4 15 29)])], [], []⟩
theorem r04only.ok (S : Sig) (a0 : Value) (s : St) : evG S Try.prog r04only.ctx r04only.an Try.f32 [a0] s = r04only.t S a0 s := by kernel_rfl
theorem r04only.cok : CtxOk Try.prog r04only.ctx := .nil
theorem r04only.draws : fnDraws r04only.an Try.f32 = true := by kernel_rfl
theorem r04only.can : callOk Try.prog 32 = true := by kernel_rfl
theorem r04only.sound : FnOk Try.prog 32 (.rd r04only.w) := FnOk.rd_of (evG_ok r04only.cok mixed (f := 32) (fn := Try.f32) (by kernel_rfl) r04only.draws) fun args s r h => by
  unfold r04only.w at h; split at h
  · rw [r04only.ok std]; exact h
  · simp at h
def r01Power.ctx : Ctx := []
def r01Power.l2 (S : Sig) (rec6 : List Value → St → Option Cut) (xs4 : List Value) (s5 : St) : Option Cut :=
  S.bd (bin .gtr (xs4.getD 0 undef) (.int .i64 0)) fun x7 => S.cnd x7 (S.bd (bin .mul (xs4.getD 1 undef) (.int .u64 2)) fun x8 => S.bd (bin .sub (xs4.getD 0 undef) (.int .i64 1)) fun x9 => rec6 [x9, x8] s5) (some (0, [(xs4.getD 1 undef)], s5))
def r01Power.t (S : Sig) (a0 : Value) (s : St) : Option Value :=
  S.bd (S.it (r01Power.l2 S) [a0, (.int .u64 1)] s) fun r10 => some ((r10.2.1.getD 0 undef))
def r01Power.r (a0 : Value) (s : St) : Option Value := r01Power.t std a0 s
def r01Power.w : List Value → St → Option Value
  | [a0], s => r01Power.r a0 s
  | _, _ => none
def r01Power.an : An := ⟨11, true, [], [(2, ⟨[.v 0, .v 3], [(.exit 0, [.v 3])]⟩)], [], [], [], []⟩
theorem r01Power.ok (S : Sig) (a0 : Value) (s : St) : evG S Try.prog r01Power.ctx r01Power.an Try.f57 [a0] s = r01Power.t S a0 s := by kernel_rfl
theorem r01Power.cok : CtxOk Try.prog r01Power.ctx := .nil
theorem r01Power.draws : fnDraws r01Power.an Try.f57 = true := by kernel_rfl
theorem r01Power.can : callOk Try.prog 57 = true := by kernel_rfl
theorem r01Power.sound : FnOk Try.prog 57 (.rd r01Power.w) := FnOk.rd_of (evG_ok r01Power.cok mixed (f := 57) (fn := Try.f57) (by kernel_rfl) r01Power.draws) fun args s r h => by
  unfold r01Power.w at h; split at h
  · rw [r01Power.ok std]; exact h
  · simp at h
def r01Right.ctx : Ctx := [(57, .rd r01Power.w)]
def r01Right.t (S : Sig) (a0 : Value) (s : St) : Option Value :=
  S.bd (bx a0) fun c1 => S.bd (lcl c1 0) fun x2 => S.bd (bin .geq x2 (.int .i64 0)) fun x3 => S.bd (S.gd x3 true (lcl c1 0)) fun x4 => S.bd (S.gd x3 true (bin .leq x4 (.int .i64 32))) fun x5 => S.bd (pik x3 x5 (.bool Bool.false)) fun x6 => S.bd (S.gd x6 true (lcl c1 1)) fun x7 => S.bd (S.gd x6 true (lcl c1 0)) fun x8 => S.bd (S.gd x6 true (r01Power.r x8 s)) fun x9 => S.bd (S.gd x6 true (bin .lss x7 x9)) fun x10 => S.bd (pik x6 x10 (.bool Bool.false)) fun x11 => some (x11)
def r01Right.r (a0 : Value) (s : St) : Option Value := r01Right.t std a0 s
def r01Right.w : List Value → St → Option Value
  | [a0], s => r01Right.r a0 s
  | _, _ => none
def r01Right.an : An := ⟨19, true, [1], [], [], [(1, [(z4 0 0), (z4 1 9), (z4 2 0), (z4 3 0), (z4 4 0), (z4 5 9), (z4 6 0), (z4 7 0), (z4 8 0), (z4 9 0), (z4 10 9), (z4 11 0), (z4 12 9), (z4 13 3), (z4 14 0), (z4 15 0), (z4 16 0)])], [], []⟩
theorem r01Right.ok (S : Sig) (a0 : Value) (s : St) : evG S Try.prog r01Right.ctx r01Right.an Try.f33 [a0] s = r01Right.t S a0 s := by kernel_rfl
theorem r01Right.cok : CtxOk Try.prog r01Right.ctx := .cons r01Power.sound r01Power.can <| .nil
theorem r01Right.draws : fnDraws r01Right.an Try.f33 = true := by kernel_rfl
theorem r01Right.can : callOk Try.prog 33 = true := by kernel_rfl
theorem r01Right.sound : FnOk Try.prog 33 (.rd r01Right.w) := FnOk.rd_of (evG_ok r01Right.cok mixed (f := 33) (fn := Try.f33) (by kernel_rfl) r01Right.draws) fun args s r h => by
  unfold r01Right.w at h; split at h
  · rw [r01Right.ok std]; exact h
  · simp at h
def r03IsKey.ctx : Ctx := []
def r03IsKey.t (S : Sig) (a0 : Value) (s : St) : Option Value :=
  S.bd (bx a0) fun c1 => S.bd (lcl c1 0) fun x2 => S.bd (eqb [1] false false x2 (.int .i64 2)) fun x3 => S.bd (S.gd x3 false (lcl c1 1)) fun x4 => S.bd (S.gd x3 false (eqb [1] false false x4 (.int .u64 0))) fun x5 => S.bd (S.gd x3 false (some x5)) fun x6 => S.bd (S.gd x6 true (lcl c1 0)) fun x7 => S.bd (S.gd x6 true (eqb [1] false false x7 (.int .i64 1))) fun x8 => S.bd (S.gd x6 true (some x8)) fun x9 => S.bd (S.gd x9 false (lcl c1 0)) fun x10 => S.bd (S.gd x9 false (eqb [1] false false x10 (.int .i64 3))) fun x11 => S.bd (S.gd x6 true (pik x9 (.bool Bool.true) x11)) fun x12 => S.bd (S.gd x3 false (pik x6 x12 (.bool Bool.false))) fun x13 => S.bd (pik x3 (.bool Bool.true) x13) fun x14 => some (x14)
def r03IsKey.r (a0 : Value) (s : St) : Option Value := r03IsKey.t std a0 s
def r03IsKey.w : List Value → St → Option Value
  | [a0], s => r03IsKey.r a0 s
  | _, _ => none
def r03IsKey.an : An := ⟨21, true, [1], [], [], [], [], []⟩
theorem r03IsKey.ok (S : Sig) (a0 : Value) (s : St) : evG S Try.prog r03IsKey.ctx r03IsKey.an Try.f58 [a0] s = r03IsKey.t S a0 s := by kernel_rfl
theorem r03IsKey.cok : CtxOk Try.prog r03IsKey.ctx := .nil
theorem r03IsKey.draws : fnDraws r03IsKey.an Try.f58 = true := by kernel_rfl
theorem r03IsKey.can : callOk Try.prog 58 = true := by kernel_rfl
theorem r03IsKey.sound : FnOk Try.prog 58 (.rd r03IsKey.w) := FnOk.rd_of (evG_ok r03IsKey.cok mixed (f := 58) (fn := Try.f58) (by kernel_rfl) r03IsKey.draws) fun args s r h => by
  unfold r03IsKey.w at h; split at h
  · rw [r03IsKey.ok std]; exact h
  · simp at h
def r04isRef.ctx : Ctx := [(58, .rd r03IsKey.w), (33, .rd r01Right.w)]
def r04isRef.t (S : Sig) (a0 : Value) (s : St) : Option Value :=
  S.bd (bx a0) fun c1 => S.bd (lal c1 1 2) fun x2 => S.bd (r03IsKey.r x2 s) fun x3 => S.bd (S.gd x3 true (lal c1 3 2)) fun x4 => S.bd (S.gd x3 true (r01Right.r x4 s)) fun x5 => S.bd (pik x3 x5 (.bool Bool.false)) fun x6 => some (x6)
def r04isRef.r (a0 : Value) (s : St) : Option Value := r04isRef.t std a0 s
def r04isRef.w : List Value → St → Option Value
  | [a0], s => r04isRef.r a0 s
  | _, _ => none
def r04isRef.an : An := ⟨11, true, [1], [], [], [], [], []⟩
theorem r04isRef.ok (S : Sig) (a0 : Value) (s : St) : evG S Try.prog r04isRef.ctx r04isRef.an Try.f34 [a0] s = r04isRef.t S a0 s := by kernel_rfl
theorem r04isRef.cok : CtxOk Try.prog r04isRef.ctx := .cons r03IsKey.sound r03IsKey.can <| .cons r01Right.sound r01Right.can <| .nil
theorem r04isRef.draws : fnDraws r04isRef.an Try.f34 = true := by kernel_rfl
theorem r04isRef.can : callOk Try.prog 34 = true := by kernel_rfl
theorem r04isRef.sound : FnOk Try.prog 34 (.rd r04isRef.w) := FnOk.rd_of (evG_ok r04isRef.cok mixed (f := 34) (fn := Try.f34) (by kernel_rfl) r04isRef.draws) fun args s r h => by
  unfold r04isRef.w at h; split at h
  · rw [r04isRef.ok std]; exact h
  · simp at h
def r04CheckAsk.ctx : Ctx := [(31, .rd r04has.w), (32, .rd r04only.w), (33, .rd r01Right.w), (34, .rd r04isRef.w)]
def r04CheckAsk.t (S : Sig) (a0 : Value) (s : St) : Option Value :=
  S.bd (bx a0) fun c1 => S.bd (lcl c1 0) fun x2 => S.bd (r04has.r x2 s) fun x3 => S.bd (xtr 0 x3) fun x4 => S.bd (xtr 1 x3) fun x5 => S.bd (xtr 2 x3) fun x6 => S.bd (xtr 3 x3) fun x7 => S.bd (lcl c1 0) fun x8 => S.bd (bin .lss x8 (.int .i64 1)) fun x9 => S.bd (S.gd x9 false (lcl c1 0)) fun x10 => S.bd (S.gd x9 false (bin .gtr x10 (.int .i64 10))) fun x11 => S.bd (pik x9 (.bool Bool.true) x11) fun x12 => S.bd (S.gd x12 false (lal c1 0 15)) fun x13 => S.bd (S.gd x12 false (lal c1 0 15)) fun x14 => S.bd (S.gd x12 false (r04only.r x14 s)) fun x15 => S.bd (S.gd x12 false (eqb [1, 1, 1, 1, 1, 1, 1, 1, 1, 1, 1, 1, 1, 1, 1] true true x13 x15)) fun x16 => S.bd (pik x12 (.bool Bool.true) x16) fun x17 => S.bd (S.gd x17 false (some x4)) fun x18 => S.bd (S.gd x17 false (some x18)) fun x19 => S.bd (S.gd x19 true (lal c1 1 2)) fun x20 => S.bd (S.gd x19 true (r01Right.r x20 s)) fun x21 => S.bd (S.gd x19 true (un .not x21)) fun x22 => S.bd (S.gd x17 false (pik x19 x22 (.bool Bool.false))) fun x23 => S.bd (pik x17 (.bool Bool.true) x23) fun x24 => S.bd (S.gd x24 false (some x5)) fun x25 => S.bd (S.gd x24 false (some x25)) fun x26 => S.bd (S.gd x26 true (lal c1 3 5)) fun x27 => S.bd (S.gd x26 true (r04isRef.r x27 s)) fun x28 => S.bd (S.gd x26 true (un .not x28)) fun x29 => S.bd (S.gd x24 false (pik x26 x29 (.bool Bool.false))) fun x30 => S.bd (pik x24 (.bool Bool.true) x30) fun x31 => S.bd (S.gd x31 false (some x6)) fun x32 => S.bd (S.gd x31 false (some x32)) fun x33 => S.bd (S.gd x33 true (lal c1 8 5)) fun x34 => S.bd (S.gd x33 true (r04isRef.r x34 s)) fun x35 => S.bd (S.gd x33 true (un .not x35)) fun x36 => S.bd (S.gd x31 false (pik x33 x36 (.bool Bool.false))) fun x37 => S.bd (pik x31 (.bool Bool.true) x37) fun x38 => S.cnd x38 (some ((.int .i64 40))) (some ((.int .i64 0)))
def r04CheckAsk.r (a0 : Value) (s : St) : Option Value := r04CheckAsk.t std a0 s
def r04CheckAsk.w : List Value → St → Option Value
  | [a0], s => r04CheckAsk.r a0 s
  | _, _ => none
def r04CheckAsk.an : An := ⟨56, true, [1], [], [], [(2, [(z4 0 0), (z4 1 9), (z4 2 0), (z4 3 0), (z4 4 0), (z4 5 9), (z4 6 0), (z4 7 0), (z4 8 0), (z4 9 9), (z4 10 9), (z4 11 3), (z4 12 0), (z4 13 0), (z4 14 0), (z4 15 0), (z4 16 0), (z4 17 0), (z4 18 9), (z4 19 3), (z4 20 0), (z4 21 0), (z4 22 0), (z4 23 0), (z4 24 0), (z4 25 0), (z4 26 0), (z4 27 9), (z4 28 3), (z4 29 0), (z4 30 0), (z4 31 0), (z4 32 0), (z4 33 0), (z4 34 0), (z4 35 0), (z4 36 9), (z4 37 3), (z4 38 0), (z4 39 0), (z4 40 0)])], [], []⟩
theorem r04CheckAsk.ok (S : Sig) (a0 : Value) (s : St) : evG S Try.prog r04CheckAsk.ctx r04CheckAsk.an Try.f11 [a0] s = r04CheckAsk.t S a0 s := by kernel_rfl
theorem r04CheckAsk.cok : CtxOk Try.prog r04CheckAsk.ctx := .cons r04has.sound r04has.can <| .cons r04only.sound r04only.can <| .cons r01Right.sound r01Right.can <| .cons r04isRef.sound r04isRef.can <| .nil
theorem r04CheckAsk.draws : fnDraws r04CheckAsk.an Try.f11 = true := by kernel_rfl
theorem r04CheckAsk.can : callOk Try.prog 11 = true := by kernel_rfl
theorem r04CheckAsk.sound : FnOk Try.prog 11 (.rd r04CheckAsk.w) := FnOk.rd_of (evG_ok r04CheckAsk.cok mixed (f := 11) (fn := Try.f11) (by kernel_rfl) r04CheckAsk.draws) fun args s r h => by
  unfold r04CheckAsk.w at h; split at h
  · rw [r04CheckAsk.ok std]; exact h
  · simp at h
def msg_side.ctx : Ctx := [(55, .rd pack_Check.w)]
def msg_side.t (S : Sig) (a0 : Value) (s : St) : Option Value :=
  S.bd (bx a0) fun c1 => S.bd (lal c1 0 5) fun x2 => S.bd (bld [(.int .i64 0), (.int .i64 0), (.int .u64 0), (.int .i64 0), (.int .u64 0)] []) fun x3 => S.bd (eqb [1, 1, 1, 1, 1] true false x2 x3) fun x4 => S.bd (S.gd x4 false (lal c1 0 5)) fun x5 => S.bd (S.gd x4 false (bld [(.int .i64 0), (.int .u64 0), (.int .i64 0), (.bool Bool.false), (.slice none 0 0), (.int .i64 0), (.int .u64 0), (.int .i64 0), (.int .u64 0), (.int .i64 0), (.int .i64 0), (.int .u64 0), (.int .i64 0), (.int .u64 0)] [(0, 1, (.int .i64 7)), (9, 5, x5)])) fun x6 => S.bd (S.gd x4 false (pack_Check.r x6 s)) fun x7 => S.bd (S.gd x4 false (eqb [1] false false x7 (.int .i64 0))) fun x8 => S.bd (pik x4 (.bool Bool.true) x8) fun x9 => some (x9)
def msg_side.r (a0 : Value) (s : St) : Option Value := msg_side.t std a0 s
def msg_side.w : List Value → St → Option Value
  | [a0], s => msg_side.r a0 s
  | _, _ => none
def msg_side.an : An := ⟨12, true, [1], [], [], [], [], []⟩
theorem msg_side.ok (S : Sig) (a0 : Value) (s : St) : evG S Try.prog msg_side.ctx msg_side.an Try.f35 [a0] s = msg_side.t S a0 s := by kernel_rfl
theorem msg_side.cok : CtxOk Try.prog msg_side.ctx := .cons pack_Check.sound pack_Check.can <| .nil
theorem msg_side.draws : fnDraws msg_side.an Try.f35 = true := by kernel_rfl
theorem msg_side.can : callOk Try.prog 35 = true := by kernel_rfl
theorem msg_side.sound : FnOk Try.prog 35 (.rd msg_side.w) := FnOk.rd_of (evG_ok msg_side.cok mixed (f := 35) (fn := Try.f35) (by kernel_rfl) msg_side.draws) fun args s r h => by
  unfold msg_side.w at h; split at h
  · rw [msg_side.ok std]; exact h
  · simp at h
def msg_SameAnswer.ctx : Ctx := [(37, .rd bytes_Equal.w)]
def msg_SameAnswer.t (S : Sig) (a0 a1 : Value) (s : St) : Option Value :=
  S.bd (bx a0) fun c1 => S.bd (bx a1) fun c2 => S.bd (lcl c1 0) fun x3 => S.bd (lcl c2 0) fun x4 => S.bd (eqb [1] false false x3 x4) fun x5 => S.bd (S.gd x5 true (lcl c1 1)) fun x6 => S.bd (S.gd x5 true (lcl c2 1)) fun x7 => S.bd (S.gd x5 true (eqb [0] false false x6 x7)) fun x8 => S.bd (pik x5 x8 (.bool Bool.false)) fun x9 => S.bd (S.gd x9 true (lal c1 2 5)) fun x10 => S.bd (S.gd x9 true (lal c2 2 5)) fun x11 => S.bd (S.gd x9 true (eqb [1, 1, 1, 1, 1] true false x10 x11)) fun x12 => S.bd (pik x9 x12 (.bool Bool.false)) fun x13 => S.bd (S.gd x13 true (lal c1 7 5)) fun x14 => S.bd (S.gd x13 true (lal c2 7 5)) fun x15 => S.bd (S.gd x13 true (eqb [1, 1, 1, 1, 1] true false x14 x15)) fun x16 => S.bd (pik x13 x16 (.bool Bool.false)) fun x17 => S.bd (S.gd x17 true (lcl c1 12)) fun x18 => S.bd (S.gd x17 true (lcl c2 12)) fun x19 => S.bd (S.gd x17 true (bytes_Equal.r x18 x19 s)) fun x20 => S.bd (pik x17 x20 (.bool Bool.false)) fun x21 => some (x21)
def msg_SameAnswer.r (a0 a1 : Value) (s : St) : Option Value := msg_SameAnswer.t std a0 a1 s
def msg_SameAnswer.w : List Value → St → Option Value
  | [a0, a1], s => msg_SameAnswer.r a0 a1 s
  | _, _ => none
def msg_SameAnswer.an : An := ⟨38, true, [2, 3], [], [], [], [], []⟩
theorem msg_SameAnswer.ok (S : Sig) (a0 a1 : Value) (s : St) : evG S Try.prog msg_SameAnswer.ctx msg_SameAnswer.an Try.f18 [a0, a1] s = msg_SameAnswer.t S a0 a1 s := by kernel_rfl
theorem msg_SameAnswer.cok : CtxOk Try.prog msg_SameAnswer.ctx := .cons bytes_Equal.sound bytes_Equal.can <| .nil
theorem msg_SameAnswer.draws : fnDraws msg_SameAnswer.an Try.f18 = true := by kernel_rfl
theorem msg_SameAnswer.can : callOk Try.prog 18 = true := by kernel_rfl
theorem msg_SameAnswer.sound : FnOk Try.prog 18 (.rd msg_SameAnswer.w) := FnOk.rd_of (evG_ok msg_SameAnswer.cok mixed (f := 18) (fn := Try.f18) (by kernel_rfl) msg_SameAnswer.draws) fun args s r h => by
  unfold msg_SameAnswer.w at h; split at h
  · rw [msg_SameAnswer.ok std]; exact h
  · simp at h
def msg_CheckAnswer.ctx : Ctx := [(35, .rd msg_side.w), (18, .rd msg_SameAnswer.w)]
def msg_CheckAnswer.t (S : Sig) (a0 : Value) (s : St) : Option Value :=
  S.bd (bx a0) fun c1 => S.bd (show Option Cut from S.bd (lcl c1 0) fun x32 => S.bd (eqb [1] false false x32 (.int .i64 1)) fun x33 => S.cnd x33 (S.bd (lal c1 2 5) fun x34 => S.bd (msg_side.r x34 s) fun x35 => S.bd (S.gd x35 true (lal c1 7 5)) fun x36 => S.bd (S.gd x35 true (msg_side.r x36 s)) fun x37 => S.bd (pik x35 x37 (.bool Bool.false)) fun x38 => S.bd (S.gd x38 true (lcl c1 12)) fun x39 => S.bd (S.gd x38 true (lenL x39)) fun x40 => S.bd (S.gd x38 true (bin .leq x40 (.int .i64 1024))) fun x41 => S.bd (pik x38 x41 (.bool Bool.false)) fun x42 => some (0, [x42], s)) (S.bd (eqb [1] false false x32 (.int .i64 3)) fun x43 => S.cnd x43 (S.bd (lal c1 2 5) fun x44 => S.bd (msg_side.r x44 s) fun x45 => S.bd (S.gd x45 true (lal c1 7 5)) fun x46 => S.bd (S.gd x45 true (msg_side.r x46 s)) fun x47 => S.bd (pik x45 x47 (.bool Bool.false)) fun x48 => S.bd (S.gd x48 true (lcl c1 12)) fun x49 => S.bd (S.gd x48 true (lenL x49)) fun x50 => S.bd (S.gd x48 true (eqb [1] false false x50 (.int .i64 0))) fun x51 => S.bd (pik x48 x51 (.bool Bool.false)) fun x52 => some (0, [x52], s)) (S.bd (show Option Cut from S.bd (eqb [1] false false x32 (.int .i64 2)) fun x53 => S.cnd x53 (some (0, [(.bool Bool.false), x53, (Value.agg ⟨c1⟩)], s)) (S.bd (eqb [1] false false x32 (.int .i64 4)) fun x54 => some (0, [(.bool Bool.false), x54, (Value.agg ⟨c1⟩)], s))) fun r55 => S.cnd (r55.2.1.getD 1 undef) (S.bd (lal (cellsA (r55.2.1.getD 2 undef)) 0 13) fun x56 => S.bd (lcl (cellsA (r55.2.1.getD 2 undef)) 0) fun x57 => S.bd (bld [(.int .i64 0), (.bool Bool.false), (.int .i64 0), (.int .i64 0), (.int .u64 0), (.int .i64 0), (.int .u64 0), (.int .i64 0), (.int .i64 0), (.int .u64 0), (.int .i64 0), (.int .u64 0), (.slice none 0 0)] [(0, 1, x57)]) fun x58 => S.bd (msg_SameAnswer.r x56 x58 r55.2.2) fun x59 => some (0, [x59], r55.2.2)) (some (0, [(r55.2.1.getD 0 undef)], r55.2.2))))) fun r60 => S.bd (un .not (r60.2.1.getD 0 undef)) fun x61 => S.cnd x61 (some ((.int .i64 40))) (some ((.int .i64 0)))
def msg_CheckAnswer.r (a0 : Value) (s : St) : Option Value := msg_CheckAnswer.t std a0 s
def msg_CheckAnswer.w : List Value → St → Option Value
  | [a0], s => msg_CheckAnswer.r a0 s
  | _, _ => none
def msg_CheckAnswer.an : An := ⟨48, true, [1], [], [(9, ⟨[], [(.normal, [.p 1 1 0, .v 3, .v 38, .l 1])]⟩), (10, ⟨[], [(.normal, [.v 3])]⟩)], [], [], []⟩
theorem msg_CheckAnswer.ok (S : Sig) (a0 : Value) (s : St) : evG S Try.prog msg_CheckAnswer.ctx msg_CheckAnswer.an Try.f12 [a0] s = msg_CheckAnswer.t S a0 s := by kernel_rfl
theorem msg_CheckAnswer.cok : CtxOk Try.prog msg_CheckAnswer.ctx := .cons msg_side.sound msg_side.can <| .cons msg_SameAnswer.sound msg_SameAnswer.can <| .nil
theorem msg_CheckAnswer.draws : fnDraws msg_CheckAnswer.an Try.f12 = true := by kernel_rfl
theorem msg_CheckAnswer.can : callOk Try.prog 12 = true := by kernel_rfl
theorem msg_CheckAnswer.sound : FnOk Try.prog 12 (.rd msg_CheckAnswer.w) := FnOk.rd_of (evG_ok msg_CheckAnswer.cok mixed (f := 12) (fn := Try.f12) (by kernel_rfl) msg_CheckAnswer.draws) fun args s r h => by
  unfold msg_CheckAnswer.w at h; split at h
  · rw [msg_CheckAnswer.ok std]; exact h
  · simp at h
def r04side.ctx : Ctx := [(34, .rd r04isRef.w)]
def r04side.t (S : Sig) (a0 : Value) (s : St) : Option Value :=
  S.bd (bx a0) fun c1 => S.bd (lal c1 0 5) fun x2 => S.bd (bld [(.int .i64 0), (.int .i64 0), (.int .u64 0), (.int .i64 0), (.int .u64 0)] []) fun x3 => S.bd (eqb [1, 1, 1, 1, 1] true false x2 x3) fun x4 => S.bd (S.gd x4 false (lal c1 0 5)) fun x5 => S.bd (S.gd x4 false (r04isRef.r x5 s)) fun x6 => S.bd (pik x4 (.bool Bool.true) x6) fun x7 => some (x7)
def r04side.r (a0 : Value) (s : St) : Option Value := r04side.t std a0 s
def r04side.w : List Value → St → Option Value
  | [a0], s => r04side.r a0 s
  | _, _ => none
def r04side.an : An := ⟨10, true, [1], [], [], [], [], []⟩
theorem r04side.ok (S : Sig) (a0 : Value) (s : St) : evG S Try.prog r04side.ctx r04side.an Try.f36 [a0] s = r04side.t S a0 s := by kernel_rfl
theorem r04side.cok : CtxOk Try.prog r04side.ctx := .cons r04isRef.sound r04isRef.can <| .nil
theorem r04side.draws : fnDraws r04side.an Try.f36 = true := by kernel_rfl
theorem r04side.can : callOk Try.prog 36 = true := by kernel_rfl
theorem r04side.sound : FnOk Try.prog 36 (.rd r04side.w) := FnOk.rd_of (evG_ok r04side.cok mixed (f := 36) (fn := Try.f36) (by kernel_rfl) r04side.draws) fun args s r h => by
  unfold r04side.w at h; split at h
  · rw [r04side.ok std]; exact h
  · simp at h
def r04SameAnswer.ctx : Ctx := []
def r04SameAnswer.t (S : Sig) (a0 a1 : Value) (s : St) : Option Value :=
  S.bd (bx a0) fun c1 => S.bd (bx a1) fun c2 => S.bd (lcl c1 0) fun x3 => S.bd (lcl c2 0) fun x4 => S.bd (eqb [1] false false x3 x4) fun x5 => S.bd (S.gd x5 true (lcl c1 1)) fun x6 => S.bd (S.gd x5 true (lcl c2 1)) fun x7 => S.bd (S.gd x5 true (eqb [0] false false x6 x7)) fun x8 => S.bd (pik x5 x8 (.bool Bool.false)) fun x9 => S.bd (S.gd x9 true (lal c1 2 5)) fun x10 => S.bd (S.gd x9 true (lal c2 2 5)) fun x11 => S.bd (S.gd x9 true (eqb [1, 1, 1, 1, 1] true false x10 x11)) fun x12 => S.bd (pik x9 x12 (.bool Bool.false)) fun x13 => S.bd (S.gd x13 true (lal c1 7 5)) fun x14 => S.bd (S.gd x13 true (lal c2 7 5)) fun x15 => S.bd (S.gd x13 true (eqb [1, 1, 1, 1, 1] true false x14 x15)) fun x16 => S.bd (pik x13 x16 (.bool Bool.false)) fun x17 => S.bd (S.gd x17 true (lcl c1 12)) fun x18 => S.bd (S.gd x17 true (b2s s x18)) fun x19 => S.bd (S.gd x17 true (lcl c2 12)) fun x20 => S.bd (S.gd x17 true (b2s s x20)) fun x21 => S.bd (S.gd x17 true (eqb [2] false false x19 x21)) fun x22 => S.bd (pik x17 x22 (.bool Bool.false)) fun x23 => some (x23)
def r04SameAnswer.r (a0 a1 : Value) (s : St) : Option Value := r04SameAnswer.t std a0 a1 s
def r04SameAnswer.w : List Value → St → Option Value
  | [a0, a1], s => r04SameAnswer.r a0 a1 s
  | _, _ => none
def r04SameAnswer.an : An := ⟨40, true, [2, 3], [], [], [], [], []⟩
theorem r04SameAnswer.ok (S : Sig) (a0 a1 : Value) (s : St) : evG S Try.prog r04SameAnswer.ctx r04SameAnswer.an Try.f19 [a0, a1] s = r04SameAnswer.t S a0 a1 s := by kernel_rfl
theorem r04SameAnswer.cok : CtxOk Try.prog r04SameAnswer.ctx := .nil
theorem r04SameAnswer.draws : fnDraws r04SameAnswer.an Try.f19 = true := by kernel_rfl
theorem r04SameAnswer.can : callOk Try.prog 19 = true := by kernel_rfl
theorem r04SameAnswer.sound : FnOk Try.prog 19 (.rd r04SameAnswer.w) := FnOk.rd_of (evG_ok r04SameAnswer.cok mixed (f := 19) (fn := Try.f19) (by kernel_rfl) r04SameAnswer.draws) fun args s r h => by
  unfold r04SameAnswer.w at h; split at h
  · rw [r04SameAnswer.ok std]; exact h
  · simp at h
def r04CheckAnswer.ctx : Ctx := [(36, .rd r04side.w), (19, .rd r04SameAnswer.w)]
def r04CheckAnswer.t (S : Sig) (a0 : Value) (s : St) : Option Value :=
  S.bd (bx a0) fun c1 => S.bd (show Option Cut from S.bd (lcl c1 0) fun x32 => S.bd (eqb [1] false false x32 (.int .i64 1)) fun x33 => S.cnd x33 (S.bd (lal c1 2 5) fun x34 => S.bd (r04side.r x34 s) fun x35 => S.bd (S.gd x35 true (lal c1 7 5)) fun x36 => S.bd (S.gd x35 true (r04side.r x36 s)) fun x37 => S.bd (pik x35 x37 (.bool Bool.false)) fun x38 => S.bd (S.gd x38 true (lcl c1 12)) fun x39 => S.bd (S.gd x38 true (lenL x39)) fun x40 => S.bd (S.gd x38 true (bin .leq x40 (.int .i64 1024))) fun x41 => S.bd (pik x38 x41 (.bool Bool.false)) fun x42 => some (0, [x42], s)) (S.bd (eqb [1] false false x32 (.int .i64 3)) fun x43 => S.cnd x43 (S.bd (lal c1 2 5) fun x44 => S.bd (r04side.r x44 s) fun x45 => S.bd (S.gd x45 true (lal c1 7 5)) fun x46 => S.bd (S.gd x45 true (r04side.r x46 s)) fun x47 => S.bd (pik x45 x47 (.bool Bool.false)) fun x48 => S.bd (S.gd x48 true (lcl c1 12)) fun x49 => S.bd (S.gd x48 true (lenL x49)) fun x50 => S.bd (S.gd x48 true (eqb [1] false false x50 (.int .i64 0))) fun x51 => S.bd (pik x48 x51 (.bool Bool.false)) fun x52 => some (0, [x52], s)) (S.bd (show Option Cut from S.bd (eqb [1] false false x32 (.int .i64 2)) fun x53 => S.cnd x53 (some (0, [x53, (Value.agg ⟨c1⟩)], s)) (S.bd (eqb [1] false false x32 (.int .i64 4)) fun x54 => some (0, [x54, (Value.agg ⟨c1⟩)], s))) fun r55 => S.cnd (r55.2.1.getD 0 undef) (S.bd (lal (cellsA (r55.2.1.getD 1 undef)) 0 13) fun x56 => S.bd (lcl (cellsA (r55.2.1.getD 1 undef)) 0) fun x57 => S.bd (bld [(.int .i64 0), (.bool Bool.false), (.int .i64 0), (.int .i64 0), (.int .u64 0), (.int .i64 0), (.int .u64 0), (.int .i64 0), (.int .i64 0), (.int .u64 0), (.int .i64 0), (.int .u64 0), (.slice none 0 0)] [(0, 1, x57)]) fun x58 => S.bd (r04SameAnswer.r x56 x58 r55.2.2) fun x59 => some (0, [x59], r55.2.2)) (some (0, [(.bool Bool.false)], r55.2.2))))) fun r60 => S.bd (un .not (r60.2.1.getD 0 undef)) fun x61 => S.cnd x61 (some ((.int .i64 40))) (some ((.int .i64 0)))
def r04CheckAnswer.r (a0 : Value) (s : St) : Option Value := r04CheckAnswer.t std a0 s
def r04CheckAnswer.w : List Value → St → Option Value
  | [a0], s => r04CheckAnswer.r a0 s
  | _, _ => none
def r04CheckAnswer.an : An := ⟨48, true, [1], [], [(10, ⟨[], [(.normal, [.p 1 1 0, .v 38, .l 1])]⟩), (11, ⟨[], [(.normal, [.v 3])]⟩)], [], [], []⟩
theorem r04CheckAnswer.ok (S : Sig) (a0 : Value) (s : St) : evG S Try.prog r04CheckAnswer.ctx r04CheckAnswer.an Try.f13 [a0] s = r04CheckAnswer.t S a0 s := by kernel_rfl
theorem r04CheckAnswer.cok : CtxOk Try.prog r04CheckAnswer.ctx := .cons r04side.sound r04side.can <| .cons r04SameAnswer.sound r04SameAnswer.can <| .nil
theorem r04CheckAnswer.draws : fnDraws r04CheckAnswer.an Try.f13 = true := by kernel_rfl
theorem r04CheckAnswer.can : callOk Try.prog 13 = true := by kernel_rfl
theorem r04CheckAnswer.sound : FnOk Try.prog 13 (.rd r04CheckAnswer.w) := FnOk.rd_of (evG_ok r04CheckAnswer.cok mixed (f := 13) (fn := Try.f13) (by kernel_rfl) r04CheckAnswer.draws) fun args s r h => by
  unfold r04CheckAnswer.w at h; split at h
  · rw [r04CheckAnswer.ok std]; exact h
  · simp at h
def msg_Check.ctx : Ctx := [(12, .rd msg_CheckAnswer.w), (18, .rd msg_SameAnswer.w), (10, .rd msg_CheckAskQ.w)]
def msg_Check.t (S : Sig) (a0 : Value) (s : St) : Option Value :=
  S.bd (bx a0) fun c1 => S.bd (lcl c1 5) fun x2 => S.bd (bin .lss x2 (.int .i64 1)) fun x3 => S.bd (S.gd x3 false (lcl c1 5)) fun x4 => S.bd (S.gd x3 false (bin .gtr x4 (.int .i64 4611686018427387904))) fun x5 => S.bd (pik x3 (.bool Bool.true) x5) fun x6 => S.cnd x6 (some ((.int .i64 40))) (S.bd (lcl c1 0) fun x7 => S.bd (S.gd x7 true (lal c1 6 15)) fun x8 => S.bd (S.gd x7 true (bld [(.int .i64 0), (.int .i64 0), (.int .u64 0), (.int .i64 0), (.int .i64 0), (.int .u64 0), (.int .i64 0), (.int .u64 0), (.int .i64 0), (.int .i64 0), (.int .u64 0), (.int .i64 0), (.int .u64 0), (.int .i64 0), (.int .i64 0)] [])) fun x9 => S.bd (S.gd x7 true (eqb [1, 1, 1, 1, 1, 1, 1, 1, 1, 1, 1, 1, 1, 1, 1] true false x8 x9)) fun x10 => S.bd (pik x7 x10 (.bool Bool.false)) fun x11 => S.cnd x11 (S.bd (lal c1 21 13) fun x12 => S.bd (msg_CheckAnswer.r x12 s) fun x13 => some (x13)) (S.bd (lcl c1 0) fun x14 => S.bd (un .not x14) fun x15 => S.bd (S.gd x15 true (lal c1 21 13)) fun x16 => S.bd (S.gd x15 true (bld [(.int .i64 0), (.bool Bool.false), (.int .i64 0), (.int .i64 0), (.int .u64 0), (.int .i64 0), (.int .u64 0), (.int .i64 0), (.int .i64 0), (.int .u64 0), (.int .i64 0), (.int .u64 0), (.slice none 0 0)] [])) fun x17 => S.bd (S.gd x15 true (msg_SameAnswer.r x16 x17 s)) fun x18 => S.bd (pik x15 x18 (.bool Bool.false)) fun x19 => S.cnd x19 (S.bd (lal c1 6 15) fun x20 => S.bd (msg_CheckAskQ.r x20 s) fun x21 => some (x21)) (some ((.int .i64 40)))))
def msg_Check.r (a0 : Value) (s : St) : Option Value := msg_Check.t std a0 s
def msg_Check.w : List Value → St → Option Value
  | [a0], s => msg_Check.r a0 s
  | _, _ => none
def msg_Check.an : An := ⟨37, true, [1], [], [], [], [], []⟩
theorem msg_Check.ok (S : Sig) (a0 : Value) (s : St) : evG S Try.prog msg_Check.ctx msg_Check.an Try.f14 [a0] s = msg_Check.t S a0 s := by kernel_rfl
theorem msg_Check.cok : CtxOk Try.prog msg_Check.ctx := .cons msg_CheckAnswer.sound msg_CheckAnswer.can <| .cons msg_SameAnswer.sound msg_SameAnswer.can <| .cons msg_CheckAskQ.sound msg_CheckAskQ.can <| .nil
theorem msg_Check.draws : fnDraws msg_Check.an Try.f14 = true := by kernel_rfl
theorem msg_Check.can : callOk Try.prog 14 = true := by kernel_rfl
theorem msg_Check.sound : FnOk Try.prog 14 (.rd msg_Check.w) := FnOk.rd_of (evG_ok msg_Check.cok mixed (f := 14) (fn := Try.f14) (by kernel_rfl) msg_Check.draws) fun args s r h => by
  unfold msg_Check.w at h; split at h
  · rw [msg_Check.ok std]; exact h
  · simp at h
def r04Check.ctx : Ctx := [(13, .rd r04CheckAnswer.w), (19, .rd r04SameAnswer.w), (11, .rd r04CheckAsk.w)]
def r04Check.t (S : Sig) (a0 : Value) (s : St) : Option Value :=
  S.bd (bx a0) fun c1 => S.bd (lcl c1 5) fun x2 => S.bd (bin .lss x2 (.int .i64 1)) fun x3 => S.bd (S.gd x3 false (lcl c1 5)) fun x4 => S.bd (S.gd x3 false (bin .gtr x4 (.int .i64 4611686018427387904))) fun x5 => S.bd (pik x3 (.bool Bool.true) x5) fun x6 => S.cnd x6 (some ((.int .i64 40))) (S.bd (lcl c1 0) fun x7 => S.cnd x7 (S.bd (lal c1 6 15) fun x8 => S.bd (bld [(.int .i64 0), (.int .i64 0), (.int .u64 0), (.int .i64 0), (.int .i64 0), (.int .u64 0), (.int .i64 0), (.int .u64 0), (.int .i64 0), (.int .i64 0), (.int .u64 0), (.int .i64 0), (.int .u64 0), (.int .i64 0), (.int .i64 0)] []) fun x9 => S.bd (eqb [1, 1, 1, 1, 1, 1, 1, 1, 1, 1, 1, 1, 1, 1, 1] true true x8 x9) fun x10 => S.cnd x10 (some ((.int .i64 40))) (S.bd (lal c1 21 13) fun x11 => S.bd (r04CheckAnswer.r x11 s) fun x12 => some (x12))) (S.bd (lal c1 21 13) fun x13 => S.bd (bld [(.int .i64 0), (.bool Bool.false), (.int .i64 0), (.int .i64 0), (.int .u64 0), (.int .i64 0), (.int .u64 0), (.int .i64 0), (.int .i64 0), (.int .u64 0), (.int .i64 0), (.int .u64 0), (.slice none 0 0)] []) fun x14 => S.bd (r04SameAnswer.r x13 x14 s) fun x15 => S.bd (un .not x15) fun x16 => S.cnd x16 (some ((.int .i64 40))) (S.bd (lal c1 6 15) fun x17 => S.bd (r04CheckAsk.r x17 s) fun x18 => some (x18))))
def r04Check.r (a0 : Value) (s : St) : Option Value := r04Check.t std a0 s
def r04Check.w : List Value → St → Option Value
  | [a0], s => r04Check.r a0 s
  | _, _ => none
def r04Check.an : An := ⟨28, true, [1], [], [], [], [], []⟩
theorem r04Check.ok (S : Sig) (a0 : Value) (s : St) : evG S Try.prog r04Check.ctx r04Check.an Try.f15 [a0] s = r04Check.t S a0 s := by kernel_rfl
theorem r04Check.cok : CtxOk Try.prog r04Check.ctx := .cons r04CheckAnswer.sound r04CheckAnswer.can <| .cons r04SameAnswer.sound r04SameAnswer.can <| .cons r04CheckAsk.sound r04CheckAsk.can <| .nil
theorem r04Check.draws : fnDraws r04Check.an Try.f15 = true := by kernel_rfl
theorem r04Check.can : callOk Try.prog 15 = true := by kernel_rfl
theorem r04Check.sound : FnOk Try.prog 15 (.rd r04Check.w) := FnOk.rd_of (evG_ok r04Check.cok mixed (f := 15) (fn := Try.f15) (by kernel_rfl) r04Check.draws) fun args s r h => by
  unfold r04Check.w at h; split at h
  · rw [r04Check.ok std]; exact h
  · simp at h
def msg_SameAsk.ctx : Ctx := []
def msg_SameAsk.t (S : Sig) (a0 a1 : Value) (s : St) : Option Value :=
  S.bd (bx a0) fun c1 => S.bd (bx a1) fun c2 => S.bd (lal c1 0 15) fun x3 => S.bd (lal c2 0 15) fun x4 => S.bd (eqb [1, 1, 1, 1, 1, 1, 1, 1, 1, 1, 1, 1, 1, 1, 1] true false x3 x4) fun x5 => some (x5)
def msg_SameAsk.r (a0 a1 : Value) (s : St) : Option Value := msg_SameAsk.t std a0 a1 s
def msg_SameAsk.w : List Value → St → Option Value
  | [a0, a1], s => msg_SameAsk.r a0 a1 s
  | _, _ => none
def msg_SameAsk.an : An := ⟨8, true, [2, 3], [], [], [], [], []⟩
theorem msg_SameAsk.ok (S : Sig) (a0 a1 : Value) (s : St) : evG S Try.prog msg_SameAsk.ctx msg_SameAsk.an Try.f16 [a0, a1] s = msg_SameAsk.t S a0 a1 s := by kernel_rfl
theorem msg_SameAsk.cok : CtxOk Try.prog msg_SameAsk.ctx := .nil
theorem msg_SameAsk.draws : fnDraws msg_SameAsk.an Try.f16 = true := by kernel_rfl
theorem msg_SameAsk.can : callOk Try.prog 16 = true := by kernel_rfl
theorem msg_SameAsk.sound : FnOk Try.prog 16 (.rd msg_SameAsk.w) := FnOk.rd_of (evG_ok msg_SameAsk.cok mixed (f := 16) (fn := Try.f16) (by kernel_rfl) msg_SameAsk.draws) fun args s r h => by
  unfold msg_SameAsk.w at h; split at h
  · rw [msg_SameAsk.ok std]; exact h
  · simp at h
def r04SameAsk.ctx : Ctx := []
def r04SameAsk.t (S : Sig) (a0 a1 : Value) (s : St) : Option Value :=
  S.bd (bx a0) fun c1 => S.bd (bx a1) fun c2 => S.bd (lal c1 0 15) fun x3 => S.bd (lal c2 0 15) fun x4 => S.bd (eqb [1, 1, 1, 1, 1, 1, 1, 1, 1, 1, 1, 1, 1, 1, 1] true false x3 x4) fun x5 => some (x5)
def r04SameAsk.r (a0 a1 : Value) (s : St) : Option Value := r04SameAsk.t std a0 a1 s
def r04SameAsk.w : List Value → St → Option Value
  | [a0, a1], s => r04SameAsk.r a0 a1 s
  | _, _ => none
def r04SameAsk.an : An := ⟨8, true, [2, 3], [], [], [], [], []⟩
theorem r04SameAsk.ok (S : Sig) (a0 a1 : Value) (s : St) : evG S Try.prog r04SameAsk.ctx r04SameAsk.an Try.f17 [a0, a1] s = r04SameAsk.t S a0 a1 s := by kernel_rfl
theorem r04SameAsk.cok : CtxOk Try.prog r04SameAsk.ctx := .nil
theorem r04SameAsk.draws : fnDraws r04SameAsk.an Try.f17 = true := by kernel_rfl
theorem r04SameAsk.can : callOk Try.prog 17 = true := by kernel_rfl
theorem r04SameAsk.sound : FnOk Try.prog 17 (.rd r04SameAsk.w) := FnOk.rd_of (evG_ok r04SameAsk.cok mixed (f := 17) (fn := Try.f17) (by kernel_rfl) r04SameAsk.draws) fun args s r h => by
  unfold r04SameAsk.w at h; split at h
  · rw [r04SameAsk.ok std]; exact h
  · simp at h
def msg_Same.ctx : Ctx := [(16, .rd msg_SameAsk.w), (18, .rd msg_SameAnswer.w)]
def msg_Same.t (S : Sig) (a0 a1 : Value) (s : St) : Option Value :=
  S.bd (bx a0) fun c1 => S.bd (bx a1) fun c2 => S.bd (lcl c1 0) fun x3 => S.bd (lcl c2 0) fun x4 => S.bd (eqb [0] false false x3 x4) fun x5 => S.bd (S.gd x5 true (lal c1 1 2)) fun x6 => S.bd (S.gd x5 true (lal c2 1 2)) fun x7 => S.bd (S.gd x5 true (eqb [0, 1] true false x6 x7)) fun x8 => S.bd (pik x5 x8 (.bool Bool.false)) fun x9 => S.bd (S.gd x9 true (lal c1 3 2)) fun x10 => S.bd (S.gd x9 true (lal c2 3 2)) fun x11 => S.bd (S.gd x9 true (eqb [0, 1] true false x10 x11)) fun x12 => S.bd (pik x9 x12 (.bool Bool.false)) fun x13 => S.bd (S.gd x13 true (lcl c1 5)) fun x14 => S.bd (S.gd x13 true (lcl c2 5)) fun x15 => S.bd (S.gd x13 true (eqb [1] false false x14 x15)) fun x16 => S.bd (pik x13 x16 (.bool Bool.false)) fun x17 => S.bd (S.gd x17 true (lal c1 6 15)) fun x18 => S.bd (S.gd x17 true (lal c2 6 15)) fun x19 => S.bd (S.gd x17 true (msg_SameAsk.r x18 x19 s)) fun x20 => S.bd (pik x17 x20 (.bool Bool.false)) fun x21 => S.bd (S.gd x21 true (lal c1 21 13)) fun x22 => S.bd (S.gd x21 true (lal c2 21 13)) fun x23 => S.bd (S.gd x21 true (msg_SameAnswer.r x22 x23 s)) fun x24 => S.bd (pik x21 x24 (.bool Bool.false)) fun x25 => some (x25)
def msg_Same.r (a0 a1 : Value) (s : St) : Option Value := msg_Same.t std a0 a1 s
def msg_Same.w : List Value → St → Option Value
  | [a0, a1], s => msg_Same.r a0 a1 s
  | _, _ => none
def msg_Same.an : An := ⟨45, true, [2, 3], [], [], [], [], []⟩
theorem msg_Same.ok (S : Sig) (a0 a1 : Value) (s : St) : evG S Try.prog msg_Same.ctx msg_Same.an Try.f20 [a0, a1] s = msg_Same.t S a0 a1 s := by kernel_rfl
theorem msg_Same.cok : CtxOk Try.prog msg_Same.ctx := .cons msg_SameAsk.sound msg_SameAsk.can <| .cons msg_SameAnswer.sound msg_SameAnswer.can <| .nil
theorem msg_Same.draws : fnDraws msg_Same.an Try.f20 = true := by kernel_rfl
theorem msg_Same.can : callOk Try.prog 20 = true := by kernel_rfl
theorem msg_Same.sound : FnOk Try.prog 20 (.rd msg_Same.w) := FnOk.rd_of (evG_ok msg_Same.cok mixed (f := 20) (fn := Try.f20) (by kernel_rfl) msg_Same.draws) fun args s r h => by
  unfold msg_Same.w at h; split at h
  · rw [msg_Same.ok std]; exact h
  · simp at h
def r04Same.ctx : Ctx := [(19, .rd r04SameAnswer.w)]
def r04Same.t (S : Sig) (a0 a1 : Value) (s : St) : Option Value :=
  S.bd (bx a0) fun c1 => S.bd (bx a1) fun c2 => S.bd (lcl c1 0) fun x3 => S.bd (lcl c2 0) fun x4 => S.bd (eqb [0] false false x3 x4) fun x5 => S.bd (S.gd x5 true (lal c1 1 2)) fun x6 => S.bd (S.gd x5 true (lal c2 1 2)) fun x7 => S.bd (S.gd x5 true (eqb [0, 1] true false x6 x7)) fun x8 => S.bd (pik x5 x8 (.bool Bool.false)) fun x9 => S.bd (S.gd x9 true (lal c1 3 2)) fun x10 => S.bd (S.gd x9 true (lal c2 3 2)) fun x11 => S.bd (S.gd x9 true (eqb [0, 1] true false x10 x11)) fun x12 => S.bd (pik x9 x12 (.bool Bool.false)) fun x13 => S.bd (S.gd x13 true (lcl c1 5)) fun x14 => S.bd (S.gd x13 true (lcl c2 5)) fun x15 => S.bd (S.gd x13 true (eqb [1] false false x14 x15)) fun x16 => S.bd (pik x13 x16 (.bool Bool.false)) fun x17 => S.bd (S.gd x17 true (lal c1 6 15)) fun x18 => S.bd (S.gd x17 true (lal c2 6 15)) fun x19 => S.bd (S.gd x17 true (eqb [1, 1, 1, 1, 1, 1, 1, 1, 1, 1, 1, 1, 1, 1, 1] true false x18 x19)) fun x20 => S.bd (pik x17 x20 (.bool Bool.false)) fun x21 => S.bd (S.gd x21 true (lal c1 21 13)) fun x22 => S.bd (S.gd x21 true (lal c2 21 13)) fun x23 => S.bd (S.gd x21 true (r04SameAnswer.r x22 x23 s)) fun x24 => S.bd (pik x21 x24 (.bool Bool.false)) fun x25 => some (x25)
def r04Same.r (a0 a1 : Value) (s : St) : Option Value := r04Same.t std a0 a1 s
def r04Same.w : List Value → St → Option Value
  | [a0, a1], s => r04Same.r a0 a1 s
  | _, _ => none
def r04Same.an : An := ⟨45, true, [2, 3], [], [], [], [], []⟩
theorem r04Same.ok (S : Sig) (a0 a1 : Value) (s : St) : evG S Try.prog r04Same.ctx r04Same.an Try.f21 [a0, a1] s = r04Same.t S a0 a1 s := by kernel_rfl
theorem r04Same.cok : CtxOk Try.prog r04Same.ctx := .cons r04SameAnswer.sound r04SameAnswer.can <| .nil
theorem r04Same.draws : fnDraws r04Same.an Try.f21 = true := by kernel_rfl
theorem r04Same.can : callOk Try.prog 21 = true := by kernel_rfl
theorem r04Same.sound : FnOk Try.prog 21 (.rd r04Same.w) := FnOk.rd_of (evG_ok r04Same.cok mixed (f := 21) (fn := Try.f21) (by kernel_rfl) r04Same.draws) fun args s r h => by
  unfold r04Same.w at h; split at h
  · rw [r04Same.ok std]; exact h
  · simp at h
def msg_answer.ctx : Ctx := [(60, .st msg_answer_fn1.w)]
def msg_answer.l7.p1 (S : Sig) (s40 : St) (xs39 : List Value) (rec41 : List Value → St → Option Cut) : Option Cut :=
  S.bd (idx s40 5 (xs39.getD 2 undef) (xs39.getD 4 undef)) fun x43 => S.bd (lda s40 5 x43) fun x44 => S.bd (bx (Go.Value.agg #[(.int .i64 0), (.int .i64 0), (.int .u64 0), (.int .i64 0), (.int .u64 0)])) fun c45 => S.bd (stl c45 0 5 x44) fun c46 => S.bd (lal c46 0 5) fun x47 => S.bd (bld [(.int .i64 0), (.int .i64 0), (.int .u64 0), (.int .i64 0), (.int .u64 0)] []) fun x48 => S.bd (eqb [1, 1, 1, 1, 1] true true x47 x48) fun x49 => S.bd (bld [(.int .i64 0), (.int .u64 0), (.int .i64 0), (.bool Bool.false), (.slice none 0 0), (.int .i64 0), (.int .u64 0), (.int .i64 0), (.int .u64 0), (.int .i64 0), (.int .i64 0), (.int .u64 0), (.int .i64 0), (.int .u64 0)] [(0, 1, (.int .i64 3)), (3, 1, x49)]) fun x50 => S.bd (callV (msg_answer.ctx) (xs39.getD 1 undef) [x50] s40) fun r51 => S.bd (lal c46 0 5) fun x52 => S.bd (bld [(.int .i64 0), (.int .i64 0), (.int .u64 0), (.int .i64 0), (.int .u64 0)] []) fun x53 => S.bd (eqb [1, 1, 1, 1, 1] true true x52 x53) fun x54 => S.cnd x54 (S.bd (lal c46 0 5) fun x55 => S.bd (bld [(.int .i64 0), (.int .u64 0), (.int .i64 0), (.bool Bool.false), (.slice none 0 0), (.int .i64 0), (.int .u64 0), (.int .i64 0), (.int .u64 0), (.int .i64 0), (.int .i64 0), (.int .u64 0), (.int .i64 0), (.int .u64 0)] [(0, 1, (.int .i64 7)), (9, 5, x55)]) fun x56 => S.bd (callV (msg_answer.ctx) (xs39.getD 1 undef) [x56] r51.2) fun r57 => S.bd (bin .add (xs39.getD 4 undef) (.int .i64 1)) fun x58 => rec41 [(xs39.getD 0 undef), (xs39.getD 1 undef), (xs39.getD 2 undef), (xs39.getD 3 undef), x58, (Value.agg ⟨(cellsA (xs39.getD 5 undef))⟩)] r57.2) (S.bd (bin .add (xs39.getD 4 undef) (.int .i64 1)) fun x59 => rec41 [(xs39.getD 0 undef), (xs39.getD 1 undef), (xs39.getD 2 undef), (xs39.getD 3 undef), x59, (Value.agg ⟨(cellsA (xs39.getD 5 undef))⟩)] r51.2)
def msg_answer.l7 (S : Sig) (rec41 : List Value → St → Option Cut) (xs39 : List Value) (s40 : St) : Option Cut :=
  S.bd (bin .lss (xs39.getD 4 undef) (xs39.getD 3 undef)) fun x42 => S.cnd x42 (msg_answer.l7.p1 S s40 xs39 rec41) (some (0, [(xs39.getD 0 undef), (xs39.getD 1 undef), (Value.agg ⟨(cellsA (xs39.getD 5 undef))⟩)], s40))
def msg_answer.t.p1 (S : Sig) (c1 : List Value) (r6 : Value × St) (s7 : St) : Option (Value × St) :=
  S.bd (lcl c1 1) fun x14 => S.bd (bld [(.int .i64 0), (.int .u64 0), (.int .i64 0), (.bool Bool.false), (.slice none 0 0), (.int .i64 0), (.int .u64 0), (.int .i64 0), (.int .u64 0), (.int .i64 0), (.int .i64 0), (.int .u64 0), (.int .i64 0), (.int .u64 0)] [(0, 1, (.int .i64 3)), (3, 1, x14)]) fun x15 => S.bd (callV (msg_answer.ctx) (Value.func (.func 60) ⟨[]⟩ ⟨[r6.1]⟩) [x15] s7) fun r16 => S.bd (lal c1 2 5) fun x17 => S.bd (lal c1 7 5) fun x18 => S.bd (S.bd (bls 5 (List.replicate 2 [(.int .i64 0), (.int .i64 0), (.int .u64 0), (.int .i64 0), (.int .u64 0)]) [(0, x17), (1, x18)]) fun rows => als r16.2 5 2 rows) fun r19 => S.bd (lenL r19.1) fun x20 => S.bd (S.it (msg_answer.l7 S) [r6.1, (Value.func (.func 60) ⟨[]⟩ ⟨[r6.1]⟩), r19.1, x20, (.int .i64 0), (Value.agg ⟨c1⟩)] r19.2) fun r60 => S.bd (lcl (cellsA (r60.2.1.getD 2 undef)) 0) fun x61 => S.bd (eqb [1] false false x61 (.int .i64 1)) fun x62 => S.cnd x62 (S.bd (lcl (cellsA (r60.2.1.getD 2 undef)) 12) fun x63 => S.bd (bld [(.int .i64 0), (.int .u64 0), (.int .i64 0), (.bool Bool.false), (.slice none 0 0), (.int .i64 0), (.int .u64 0), (.int .i64 0), (.int .u64 0), (.int .i64 0), (.int .i64 0), (.int .u64 0), (.int .i64 0), (.int .u64 0)] [(0, 1, (.int .i64 4)), (4, 1, x63)]) fun x64 => S.bd (callV (msg_answer.ctx) (r60.2.1.getD 1 undef) [x64] r60.2.2) fun r65 => S.bd (ldc r65.2 (r60.2.1.getD 0 undef)) fun x66 => some (x66, r65.2)) (S.bd (ldc r60.2.2 (r60.2.1.getD 0 undef)) fun x67 => some (x67, r60.2.2))
def msg_answer.t (S : Sig) (a0 : Value) (s : St) : Option (Value × St) :=
  S.bd (bx a0) fun c1 => S.bd (lcl c1 0) fun x2 => S.bd (cvi .u64 x2) fun x3 => S.bd (bld [(.int .i64 0), (.int .u64 0), (.int .i64 0), (.bool Bool.false), (.slice none 0 0), (.int .i64 0), (.int .u64 0), (.int .i64 0), (.int .u64 0), (.int .i64 0), (.int .i64 0), (.int .u64 0), (.int .i64 0), (.int .u64 0)] [(0, 1, (.int .i64 1)), (1, 1, x3)]) fun x4 => S.bd (S.bd (bls 14 (List.replicate 1 [(.int .i64 0), (.int .u64 0), (.int .i64 0), (.bool Bool.false), (.slice none 0 0), (.int .i64 0), (.int .u64 0), (.int .i64 0), (.int .u64 0), (.int .i64 0), (.int .i64 0), (.int .u64 0), (.int .i64 0), (.int .u64 0)]) [(0, x4)]) fun rows => als s 14 1 rows) fun r5 => S.bd (alv r5.2 (.slice none 0 0)) fun r6 => S.bd (stv r6.2 1 r6.1 r5.1) fun s7 => S.bd (lcl c1 0) fun x8 => S.bd (eqb [1] false true x8 (.int .i64 1)) fun x9 => S.bd (S.gd x9 true (lcl c1 0)) fun x10 => S.bd (S.gd x9 true (eqb [1] false true x10 (.int .i64 3))) fun x11 => S.bd (pik x9 x11 (.bool Bool.false)) fun x12 => S.cnd x12 (S.bd (ldc s7 r6.1) fun x13 => some (x13, s7)) (msg_answer.t.p1 S c1 r6 s7)
def msg_answer.v (a0 : Value) (s : St) : Option (Value × St) := msg_answer.t std a0 s
def msg_answer.w : List Value → St → Option (Value × St)
  | [a0], s => msg_answer.v a0 s
  | _, _ => none
def msg_answer.an : An := ⟨60, false, [1, 6], [(7, ⟨[.p 1 1 0, .v 3, .v 4, .v 31, .v 32, .v 33, .l 1], [(.exit 0, [.p 1 1 0, .v 3, .v 4, .l 1])]⟩)], [], [], [], []⟩
theorem msg_answer.ok (S : Sig) (a0 : Value) (s : St) : evF S Try.prog msg_answer.ctx msg_answer.an Try.f39 [a0] s = msg_answer.t S a0 s := by kernel_rfl
theorem msg_answer.cok : CtxOk Try.prog msg_answer.ctx := .cons msg_answer_fn1.sound msg_answer_fn1.can <| .nil
theorem msg_answer.draws : fnDraws msg_answer.an Try.f39 = true := by kernel_rfl
theorem msg_answer.can : callOk Try.prog 39 = true := by kernel_rfl
theorem msg_answer.sound : FnOk Try.prog 39 (.st msg_answer.w) := FnOk.st_of (evF_ok msg_answer.cok mixed (f := 39) (fn := Try.f39) (by kernel_rfl) msg_answer.draws) fun args s r h => by
  unfold msg_answer.w at h; split at h
  · rw [msg_answer.ok std]; exact h
  · simp at h
def pack_writer_number.ctx : Ctx := []
def pack_writer_number.l0 (S : Sig) (rec15 : List Value → St → Option Cut) (xs13 : List Value) (s14 : St) : Option Cut :=
  S.bd (bin .geq (xs13.getD 1 undef) (.int .u64 128)) fun x16 => S.cnd x16 (S.bd (nck (xs13.getD 0 undef)) fun x17 => S.bd (fld 0 x17) fun x18 => S.bd (ldc s14 x18) fun x19 => S.bd (cvi .u8 (xs13.getD 1 undef)) fun x20 => S.bd (bin .or x20 (.int .u8 128)) fun x21 => S.bd (S.bd (bls 1 (List.replicate 1 [(.int .u8 0)]) [(0, x21)]) fun rows => als s14 1 1 rows) fun r22 => S.bd (app r22.2 1 1 x19 r22.1) fun r23 => S.bd (nck (xs13.getD 0 undef)) fun x24 => S.bd (fld 0 x24) fun x25 => S.bd (stv r23.2 1 x25 r23.1) fun s26 => S.bd (bin .shr (xs13.getD 1 undef) (.int .u64 7)) fun x27 => rec15 [(xs13.getD 0 undef), x27] s26) (some (0, [(xs13.getD 0 undef), (xs13.getD 1 undef)], s14))
def pack_writer_number.t (S : Sig) (a0 a1 : Value) (s : St) : Option (Value × St) :=
  S.bd (S.it (pack_writer_number.l0 S) [a0, a1] s) fun r28 => S.bd (nck (r28.2.1.getD 0 undef)) fun x29 => S.bd (fld 0 x29) fun x30 => S.bd (ldc r28.2.2 x30) fun x31 => S.bd (cvi .u8 (r28.2.1.getD 1 undef)) fun x32 => S.bd (S.bd (bls 1 (List.replicate 1 [(.int .u8 0)]) [(0, x32)]) fun rows => als r28.2.2 1 1 rows) fun r33 => S.bd (app r33.2 1 1 x31 r33.1) fun r34 => S.bd (nck (r28.2.1.getD 0 undef)) fun x35 => S.bd (fld 0 x35) fun x36 => S.bd (stv r34.2 1 x36 r34.1) fun s37 => some ((Value.tuple ⟨[]⟩), s37)
def pack_writer_number.v (a0 a1 : Value) (s : St) : Option (Value × St) := pack_writer_number.t std a0 a1 s
def pack_writer_number.w : List Value → St → Option (Value × St)
  | [a0, a1], s => pack_writer_number.v a0 a1 s
  | _, _ => none
def pack_writer_number.an : An := ⟨31, false, [], [(0, ⟨[.v 0, .v 1], [(.exit 0, [.v 0, .v 1])]⟩)], [], [], [], []⟩
theorem pack_writer_number.ok (S : Sig) (a0 a1 : Value) (s : St) : evF S Try.prog pack_writer_number.ctx pack_writer_number.an Try.f75 [a0, a1] s = pack_writer_number.t S a0 a1 s := by kernel_rfl
theorem pack_writer_number.cok : CtxOk Try.prog pack_writer_number.ctx := .nil
theorem pack_writer_number.draws : fnDraws pack_writer_number.an Try.f75 = true := by kernel_rfl
theorem pack_writer_number.can : callOk Try.prog 75 = true := by kernel_rfl
theorem pack_writer_number.sound : FnOk Try.prog 75 (.st pack_writer_number.w) := FnOk.st_of (evF_ok pack_writer_number.cok mixed (f := 75) (fn := Try.f75) (by kernel_rfl) pack_writer_number.draws) fun args s r h => by
  unfold pack_writer_number.w at h; split at h
  · rw [pack_writer_number.ok std]; exact h
  · simp at h
def pack_writer_int.ctx : Ctx := [(75, .st pack_writer_number.w)]
def pack_writer_int.t (S : Sig) (a0 a1 : Value) (s : St) : Option (Value × St) :=
  S.bd (cvi .u64 a1) fun x1 => S.bd (bin .shl x1 (.int .u64 1)) fun x2 => S.bd (bin .shr a1 (.int .u64 63)) fun x3 => S.bd (cvi .u64 x3) fun x4 => S.bd (bin .xor x2 x4) fun x5 => S.bd (pack_writer_number.v a0 x5 s) fun r6 => some ((Value.tuple ⟨[]⟩), r6.2)
def pack_writer_int.v (a0 a1 : Value) (s : St) : Option (Value × St) := pack_writer_int.t std a0 a1 s
def pack_writer_int.w : List Value → St → Option (Value × St)
  | [a0, a1], s => pack_writer_int.v a0 a1 s
  | _, _ => none
def pack_writer_int.an : An := ⟨13, false, [], [], [], [], [], []⟩
theorem pack_writer_int.ok (S : Sig) (a0 a1 : Value) (s : St) : evF S Try.prog pack_writer_int.ctx pack_writer_int.an Try.f76 [a0, a1] s = pack_writer_int.t S a0 a1 s := by kernel_rfl
theorem pack_writer_int.cok : CtxOk Try.prog pack_writer_int.ctx := .cons pack_writer_number.sound pack_writer_number.can <| .nil
theorem pack_writer_int.draws : fnDraws pack_writer_int.an Try.f76 = true := by kernel_rfl
theorem pack_writer_int.can : callOk Try.prog 76 = true := by kernel_rfl
theorem pack_writer_int.sound : FnOk Try.prog 76 (.st pack_writer_int.w) := FnOk.st_of (evF_ok pack_writer_int.cok mixed (f := 76) (fn := Try.f76) (by kernel_rfl) pack_writer_int.draws) fun args s r h => by
  unfold pack_writer_int.w at h; split at h
  · rw [pack_writer_int.ok std]; exact h
  · simp at h
def pack_writer_key.ctx : Ctx := []
def pack_writer_key.l4 (S : Sig) (rec31 : List Value → St → Option Cut) (xs29 : List Value) (s30 : St) : Option Cut :=
  S.bd (bin .geq (xs29.getD 1 undef) (.int .i64 0)) fun x32 => S.cnd x32 (S.bd (nck (xs29.getD 0 undef)) fun x33 => S.bd (fld 0 x33) fun x34 => S.bd (ldc s30 x34) fun x35 => S.bd (lcl (cellsA (xs29.getD 2 undef)) 1) fun x36 => S.bd (bin .mul (.int .i64 8) (xs29.getD 1 undef)) fun x37 => S.bd (cvi .u64 x37) fun x38 => S.bd (bin .shr x36 x38) fun x39 => S.bd (cvi .u8 x39) fun x40 => S.bd (S.bd (bls 1 (List.replicate 1 [(.int .u8 0)]) [(0, x40)]) fun rows => als s30 1 1 rows) fun r41 => S.bd (app r41.2 1 1 x35 r41.1) fun r42 => S.bd (nck (xs29.getD 0 undef)) fun x43 => S.bd (fld 0 x43) fun x44 => S.bd (stv r42.2 1 x44 r42.1) fun s45 => S.bd (bin .sub (xs29.getD 1 undef) (.int .i64 1)) fun x46 => rec31 [(xs29.getD 0 undef), x46, (Value.agg ⟨(cellsA (xs29.getD 2 undef))⟩)] s45) (some (0, [], s30))
def pack_writer_key.t (S : Sig) (a0 a1 : Value) (s : St) : Option (Value × St) :=
  S.bd (bx a1) fun c1 => S.bd (nck a0) fun x2 => S.bd (fld 0 x2) fun x3 => S.bd (ldc s x3) fun x4 => S.bd (lcl c1 0) fun x5 => S.bd (cvi .u8 x5) fun x6 => S.bd (S.bd (bls 1 (List.replicate 1 [(.int .u8 0)]) [(0, x6)]) fun rows => als s 1 1 rows) fun r7 => S.bd (app r7.2 1 1 x4 r7.1) fun r8 => S.bd (nck a0) fun x9 => S.bd (fld 0 x9) fun x10 => S.bd (stv r8.2 1 x10 r8.1) fun s11 => S.bd (lcl c1 0) fun x12 => S.bd (eqb [1] false false x12 (.int .i64 2)) fun x13 => S.cnd x13 (S.bd (S.it (pack_writer_key.l4 S) [a0, (.int .i64 7), (Value.agg ⟨c1⟩)] s11) fun r47 => some ((Value.tuple ⟨[]⟩), r47.2.2)) (some ((Value.tuple ⟨[]⟩), s11))
def pack_writer_key.v (a0 a1 : Value) (s : St) : Option (Value × St) := pack_writer_key.t std a0 a1 s
def pack_writer_key.w : List Value → St → Option (Value × St)
  | [a0, a1], s => pack_writer_key.v a0 a1 s
  | _, _ => none
def pack_writer_key.an : An := ⟨40, false, [3], [(4, ⟨[.v 0, .p 3 3 0, .v 4, .l 3], [(.exit 0, [])]⟩)], [], [(1, [(z4 0 0), (z4 1 0), (z4 2 0), (z4 3 0), (z4 4 2), (z4 5 0), (z4 6 25), (z4 7 0), (z4 8 3), (z4 9 4), (z4 10 0), (z4 11 0), (z4 12 4)]), (6, [(z4 0 0), (z4 1 0), (z4 2 0), (z4 3 0), (z4 4 2), (z4 5 0), (z4 6 25), (z4 7 0), (z4 8 0), (z4 9 0), (z4 10 0), (z4 11 0), (z4 12 3), (z4 13 4), (z4 14 0), (z4 15 0), (z4 16 4)])], [], []⟩
theorem pack_writer_key.ok (S : Sig) (a0 a1 : Value) (s : St) : evF S Try.prog pack_writer_key.ctx pack_writer_key.an Try.f77 [a0, a1] s = pack_writer_key.t S a0 a1 s := by kernel_rfl
theorem pack_writer_key.cok : CtxOk Try.prog pack_writer_key.ctx := .nil
theorem pack_writer_key.draws : fnDraws pack_writer_key.an Try.f77 = true := by kernel_rfl
theorem pack_writer_key.can : callOk Try.prog 77 = true := by kernel_rfl
theorem pack_writer_key.sound : FnOk Try.prog 77 (.st pack_writer_key.w) := FnOk.st_of (evF_ok pack_writer_key.cok mixed (f := 77) (fn := Try.f77) (by kernel_rfl) pack_writer_key.draws) fun args s r h => by
  unfold pack_writer_key.w at h; split at h
  · rw [pack_writer_key.ok std]; exact h
  · simp at h
def pack_writer_vector.ctx : Ctx := []
def pack_writer_vector.l5 (S : Sig) (rec38 : List Value → St → Option Cut) (xs36 : List Value) (s37 : St) : Option Cut :=
  S.bd (bin .geq (xs36.getD 2 undef) (.int .i64 0)) fun x39 => S.cnd x39 (S.bd (nck (xs36.getD 0 undef)) fun x40 => S.bd (fld 0 x40) fun x41 => S.bd (ldc s37 x41) fun x42 => S.bd (bin .mul (.int .i64 8) (xs36.getD 2 undef)) fun x43 => S.bd (cvi .u64 x43) fun x44 => S.bd (bin .shr (xs36.getD 1 undef) x44) fun x45 => S.bd (cvi .u8 x45) fun x46 => S.bd (S.bd (bls 1 (List.replicate 1 [(.int .u8 0)]) [(0, x46)]) fun rows => als s37 1 1 rows) fun r47 => S.bd (app r47.2 1 1 x42 r47.1) fun r48 => S.bd (nck (xs36.getD 0 undef)) fun x49 => S.bd (fld 0 x49) fun x50 => S.bd (stv r48.2 1 x50 r48.1) fun s51 => S.bd (bin .sub (xs36.getD 2 undef) (.int .i64 1)) fun x52 => rec38 [(xs36.getD 0 undef), (xs36.getD 1 undef), x52] s51) (some (0, [], s37))
def pack_writer_vector.t (S : Sig) (a0 a1 : Value) (s : St) : Option (Value × St) :=
  S.bd (bx a1) fun c1 => S.bd (nck a0) fun x2 => S.bd (fld 0 x2) fun x3 => S.bd (ldc s x3) fun x4 => S.bd (lcl c1 0) fun x5 => S.bd (cvi .u8 x5) fun x6 => S.bd (S.bd (bls 1 (List.replicate 1 [(.int .u8 0)]) [(0, x6)]) fun rows => als s 1 1 rows) fun r7 => S.bd (app r7.2 1 1 x4 r7.1) fun r8 => S.bd (nck a0) fun x9 => S.bd (fld 0 x9) fun x10 => S.bd (stv r8.2 1 x10 r8.1) fun s11 => S.bd (lcl c1 0) fun x12 => S.bd (bin .add x12 (.int .i64 7)) fun x13 => S.bd (bin .quo x13 (.int .i64 8)) fun x14 => S.bd (lcl c1 1) fun x15 => S.bd (bin .mul (.int .i64 8) x14) fun x16 => S.bd (lcl c1 0) fun x17 => S.bd (bin .sub x16 x17) fun x18 => S.bd (cvi .u64 x18) fun x19 => S.bd (bin .shl x15 x19) fun x20 => S.bd (bin .sub x14 (.int .i64 1)) fun x21 => S.bd (S.it (pack_writer_vector.l5 S) [a0, x20, x21] s11) fun r53 => some ((Value.tuple ⟨[]⟩), r53.2.2)
def pack_writer_vector.v (a0 a1 : Value) (s : St) : Option (Value × St) := pack_writer_vector.t std a0 a1 s
def pack_writer_vector.w : List Value → St → Option (Value × St)
  | [a0, a1], s => pack_writer_vector.v a0 a1 s
  | _, _ => none
def pack_writer_vector.an : An := ⟨53, false, [3], [(5, ⟨[.v 0, .v 5, .v 6], [(.exit 0, [])]⟩)], [], [(1, [(z4 0 0), (z4 1 0), (z4 2 0), (z4 3 0), (z4 4 2), (z4 5 0), (z4 6 25), (z4 7 0), (z4 8 3), (z4 9 4), (z4 10 0), (z4 11 0), (z4 12 4)])], [], []⟩
theorem pack_writer_vector.ok (S : Sig) (a0 a1 : Value) (s : St) : evF S Try.prog pack_writer_vector.ctx pack_writer_vector.an Try.f78 [a0, a1] s = pack_writer_vector.t S a0 a1 s := by kernel_rfl
theorem pack_writer_vector.cok : CtxOk Try.prog pack_writer_vector.ctx := .nil
theorem pack_writer_vector.draws : fnDraws pack_writer_vector.an Try.f78 = true := by kernel_rfl
theorem pack_writer_vector.can : callOk Try.prog 78 = true := by kernel_rfl
theorem pack_writer_vector.sound : FnOk Try.prog 78 (.st pack_writer_vector.w) := FnOk.st_of (evF_ok pack_writer_vector.cok mixed (f := 78) (fn := Try.f78) (by kernel_rfl) pack_writer_vector.draws) fun args s r h => by
  unfold pack_writer_vector.w at h; split at h
  · rw [pack_writer_vector.ok std]; exact h
  · simp at h
def pack_writer_field.ctx : Ctx := [(75, .st pack_writer_number.w), (76, .st pack_writer_int.w), (77, .st pack_writer_key.w), (78, .st pack_writer_vector.w)]
def pack_writer_field.t (S : Sig) (a0 a1 : Value) (s : St) : Option (Value × St) :=
  S.bd (bx a1) fun c1 => S.bd (lcl c1 0) fun x2 => S.bd (show Option Cut from S.bd (show Option Cut from S.bd (show Option Cut from S.bd (show Option Cut from S.bd (eqb [1] false false x2 (.int .i64 1)) fun x148 => S.cnd x148 (S.bd (lcl c1 1) fun x149 => S.bd (pack_writer_number.v a0 x149 s) fun r150 => some (0, [], r150.2)) (S.bd (eqb [1] false false x2 (.int .i64 2)) fun x151 => S.cnd x151 (S.bd (lcl c1 2) fun x152 => S.bd (pack_writer_int.v a0 x152 s) fun r153 => some (0, [], r153.2)) (S.bd (eqb [1] false false x2 (.int .i64 3)) fun x154 => S.cnd x154 (S.bd (show Option Cut from S.bd (lcl c1 3) fun x155 => S.cnd x155 (some (0, [a0, (.int .u8 1)], s)) (some (0, [a0, (.int .u8 0)], s))) fun r156 => S.bd (nck (r156.2.1.getD 0 undef)) fun x157 => S.bd (fld 0 x157) fun x158 => S.bd (ldc r156.2.2 x158) fun x159 => S.bd (S.bd (bls 1 (List.replicate 1 [(.int .u8 0)]) [(0, (r156.2.1.getD 1 undef))]) fun rows => als r156.2.2 1 1 rows) fun r160 => S.bd (app r160.2 1 1 x159 r160.1) fun r161 => S.bd (nck (r156.2.1.getD 0 undef)) fun x162 => S.bd (fld 0 x162) fun x163 => S.bd (stv r161.2 1 x163 r161.1) fun s164 => some (0, [], s164)) (S.bd (eqb [1] false false x2 (.int .i64 4)) fun x165 => S.cnd x165 (some (4, [a0, (Value.agg ⟨c1⟩)], s)) (S.bd (eqb [1] false false x2 (.int .i64 7)) fun x166 => S.cnd x166 (some (1, [a0, (Value.agg ⟨c1⟩)], s)) (S.bd (eqb [1] false false x2 (.int .i64 5)) fun x167 => S.cnd x167 (some (2, [a0, (Value.agg ⟨c1⟩)], s)) (S.bd (eqb [1] false false x2 (.int .i64 6)) fun x168 => S.cnd x168 (some (3, [a0, (Value.agg ⟨c1⟩)], s)) (some (0, [], s))))))))) fun r169 => if r169.1 = 0 then (some (0, [], r169.2.2)) else (if r169.1 = 1 then (some (3, [(r169.2.1.getD 0 undef), (Value.agg ⟨(cellsA (r169.2.1.getD 1 undef))⟩)], r169.2.2)) else (if r169.1 = 2 then (some (1, [(r169.2.1.getD 0 undef), (Value.agg ⟨(cellsA (r169.2.1.getD 1 undef))⟩)], r169.2.2)) else (if r169.1 = 3 then (some (2, [(r169.2.1.getD 0 undef), (Value.agg ⟨(cellsA (r169.2.1.getD 1 undef))⟩)], r169.2.2)) else (S.bd (lcl (cellsA (r169.2.1.getD 1 undef)) 4) fun x170 => S.bd (lenL x170) fun x171 => S.bd (cvi .u64 x171) fun x172 => S.bd (pack_writer_number.v (r169.2.1.getD 0 undef) x172 r169.2.2) fun r173 => S.bd (nck (r169.2.1.getD 0 undef)) fun x174 => S.bd (fld 0 x174) fun x175 => S.bd (ldc r173.2 x175) fun x176 => S.bd (lcl (cellsA (r169.2.1.getD 1 undef)) 4) fun x177 => S.bd (app r173.2 1 1 x176 x177) fun r178 => S.bd (nck (r169.2.1.getD 0 undef)) fun x179 => S.bd (fld 0 x179) fun x180 => S.bd (stv r178.2 1 x180 r178.1) fun s181 => some (0, [], s181)))))) fun r182 => if r182.1 = 0 then (some (0, [], r182.2.2)) else (if r182.1 = 1 then (some (2, [(r182.2.1.getD 0 undef), (Value.agg ⟨(cellsA (r182.2.1.getD 1 undef))⟩)], r182.2.2)) else (if r182.1 = 2 then (some (1, [(r182.2.1.getD 0 undef), (Value.agg ⟨(cellsA (r182.2.1.getD 1 undef))⟩)], r182.2.2)) else (S.bd (lcl (cellsA (r182.2.1.getD 1 undef)) 9) fun x183 => S.bd (pack_writer_int.v (r182.2.1.getD 0 undef) x183 r182.2.2) fun r184 => S.bd (lal (cellsA (r182.2.1.getD 1 undef)) 10 2) fun x185 => S.bd (lal (cellsA (r182.2.1.getD 1 undef)) 12 2) fun x186 => S.bd (stl (cellsA (r182.2.1.getD 1 undef)) 7 2 x185) fun c187 => S.bd (stl c187 5 2 x186) fun c188 => S.bd (lal c188 7 2) fun x189 => S.bd (pack_writer_key.v (r182.2.1.getD 0 undef) x189 r184.2) fun r190 => some (2, [(r182.2.1.getD 0 undef), (Value.agg ⟨c188⟩)], r190.2))))) fun r191 => if r191.1 = 0 then (some (0, [], r191.2.2)) else (if r191.1 = 1 then (some (1, [(r191.2.1.getD 0 undef), (Value.agg ⟨(cellsA (r191.2.1.getD 1 undef))⟩)], r191.2.2)) else (S.bd (lal (cellsA (r191.2.1.getD 1 undef)) 5 2) fun x192 => S.bd (pack_writer_vector.v (r191.2.1.getD 0 undef) x192 r191.2.2) fun r193 => some (0, [], r193.2)))) fun r194 => if r194.1 = 0 then (some ((Value.tuple ⟨[]⟩), r194.2.2)) else (S.bd (lal (cellsA (r194.2.1.getD 1 undef)) 7 2) fun x195 => S.bd (pack_writer_key.v (r194.2.1.getD 0 undef) x195 r194.2.2) fun r196 => some ((Value.tuple ⟨[]⟩), r196.2))
def pack_writer_field.v (a0 a1 : Value) (s : St) : Option (Value × St) := pack_writer_field.t std a0 a1 s
def pack_writer_field.w : List Value → St → Option (Value × St)
  | [a0, a1], s => pack_writer_field.v a0 a1 s
  | _, _ => none
def pack_writer_field.an : An := ⟨82, false, [3], [], [(14, ⟨[], [(.normal, [.v 0, .v 4])]⟩), (15, ⟨[], [(.exit 0, []), (.exit 5, [.v 0, .p 3 3 0, .l 3]), (.exit 6, [.v 0, .p 3 3 0, .l 3]), (.exit 7, [.v 0, .p 3 3 0, .l 3]), (.normal, [.v 0, .p 3 3 0, .l 3])]⟩), (17, ⟨[], [(.exit 0, []), (.exit 6, [.v 0, .p 3 3 0, .l 3]), (.exit 7, [.v 0, .p 3 3 0, .l 3]), (.normal, [.v 0, .p 3 3 0, .l 3])]⟩), (20, ⟨[], [(.exit 0, []), (.exit 7, [.v 0, .p 3 3 0, .l 3]), (.normal, [.v 0, .p 3 3 0, .l 3])]⟩), (21, ⟨[], [(.exit 0, []), (.normal, [.v 0, .p 3 3 0, .l 3])]⟩)], [(16, [(z4 0 0), (z4 1 0), (z4 2 0), (z4 3 0), (z4 4 2), (z4 5 0), (z4 6 25), (z4 7 4), (z4 8 0), (z4 9 0), (z4 10 4)])], [], []⟩
theorem pack_writer_field.ok (S : Sig) (a0 a1 : Value) (s : St) : evF S Try.prog pack_writer_field.ctx pack_writer_field.an Try.f59 [a0, a1] s = pack_writer_field.t S a0 a1 s := by kernel_rfl
theorem pack_writer_field.cok : CtxOk Try.prog pack_writer_field.ctx := .cons pack_writer_number.sound pack_writer_number.can <| .cons pack_writer_int.sound pack_writer_int.can <| .cons pack_writer_key.sound pack_writer_key.can <| .cons pack_writer_vector.sound pack_writer_vector.can <| .nil
theorem pack_writer_field.draws : fnDraws pack_writer_field.an Try.f59 = true := by kernel_rfl
theorem pack_writer_field.can : callOk Try.prog 59 = true := by kernel_rfl
theorem pack_writer_field.sound : FnOk Try.prog 59 (.st pack_writer_field.w) := FnOk.st_of (evF_ok pack_writer_field.cok mixed (f := 59) (fn := Try.f59) (by kernel_rfl) pack_writer_field.draws) fun args s r h => by
  unfold pack_writer_field.w at h; split at h
  · rw [pack_writer_field.ok std]; exact h
  · simp at h
def pack_Pack.ctx : Ctx := [(55, .rd pack_Check.w), (59, .st pack_writer_field.w)]
def pack_Pack.l2 (S : Sig) (rec13 : List Value → St → Option Cut) (xs11 : List Value) (s12 : St) : Option Cut :=
  S.bd (bin .lss (xs11.getD 3 undef) (xs11.getD 2 undef)) fun x14 => S.cnd x14 (S.bd (idx s12 14 (xs11.getD 1 undef) (xs11.getD 3 undef)) fun x15 => S.bd (lda s12 14 x15) fun x16 => S.bd (bx (Go.Value.agg #[(.int .i64 0), (.int .u64 0), (.int .i64 0), (.bool Bool.false), (.slice none 0 0), (.int .i64 0), (.int .u64 0), (.int .i64 0), (.int .u64 0), (.int .i64 0), (.int .i64 0), (.int .u64 0), (.int .i64 0), (.int .u64 0)])) fun c17 => S.bd (stl c17 0 14 x16) fun c18 => S.bd (lal c18 0 14) fun x19 => S.bd (pack_Check.r x19 s12) fun x20 => S.bd (eqb [1] false true x20 (.int .i64 0)) fun x21 => S.cnd x21 (some (1, [(.slice none 0 0), x20], s12)) (S.bd (bin .add (xs11.getD 3 undef) (.int .i64 1)) fun x22 => rec13 [(xs11.getD 0 undef), (xs11.getD 1 undef), (xs11.getD 2 undef), x22] s12)) (some (0, [(xs11.getD 0 undef)], s12))
def pack_Pack.l10 (S : Sig) (rec37 : List Value → St → Option Cut) (xs35 : List Value) (s36 : St) : Option Cut :=
  S.bd (bin .lss (xs35.getD 3 undef) (xs35.getD 2 undef)) fun x38 => S.cnd x38 (S.bd (idx s36 14 (xs35.getD 1 undef) (xs35.getD 3 undef)) fun x39 => S.bd (lda s36 14 x39) fun x40 => S.bd (bx (Go.Value.agg #[(.int .i64 0), (.int .u64 0), (.int .i64 0), (.bool Bool.false), (.slice none 0 0), (.int .i64 0), (.int .u64 0), (.int .i64 0), (.int .u64 0), (.int .i64 0), (.int .i64 0), (.int .u64 0), (.int .i64 0), (.int .u64 0)])) fun c41 => S.bd (stl c41 0 14 x40) fun c42 => S.bd (lal c42 0 14) fun x43 => S.bd (pack_writer_field.v (xs35.getD 0 undef) x43 s36) fun r44 => S.bd (bin .add (xs35.getD 3 undef) (.int .i64 1)) fun x45 => rec37 [(xs35.getD 0 undef), (xs35.getD 1 undef), (xs35.getD 2 undef), x45] r44.2) (some (0, [(xs35.getD 0 undef)], s36))
def pack_Pack.t (S : Sig) (a0 : Value) (s : St) : Option (Value × St) :=
  S.bd (lenL a0) fun x1 => S.bd (S.it (pack_Pack.l2 S) [a0, a0, x1, (.int .i64 0)] s) fun r23 => if r23.1 = 0 then (S.bd (bld [(.slice none 0 0)] []) fun x24 => S.bd (alv r23.2.2 x24) fun r25 => S.bd (lenL (r23.2.1.getD 0 undef)) fun x26 => S.bd (S.it (pack_Pack.l10 S) [r25.1, (r23.2.1.getD 0 undef), x26, (.int .i64 0)] r25.2) fun r46 => S.bd (nck (r46.2.1.getD 0 undef)) fun x47 => S.bd (fld 0 x47) fun x48 => S.bd (ldc r46.2.2 x48) fun x49 => some ((Value.tuple ⟨[x49, (.int .i64 0)]⟩), r46.2.2)) else (some ((Value.tuple ⟨[(r23.2.1.getD 0 undef), (r23.2.1.getD 1 undef)]⟩), r23.2.2))
def pack_Pack.v (a0 : Value) (s : St) : Option (Value × St) := pack_Pack.t std a0 s
def pack_Pack.w : List Value → St → Option (Value × St)
  | [a0], s => pack_Pack.v a0 s
  | _, _ => none
def pack_Pack.an : An := ⟨38, false, [5, 9], [(2, ⟨[.v 0, .v 10, .v 11, .v 12], [(.exit 0, [.v 0]), (.ret, [.v 2, .v 3])]⟩), (10, ⟨[.v 7, .v 24, .v 25, .v 26], [(.exit 2, [.v 7])]⟩)], [], [], [], []⟩
theorem pack_Pack.ok (S : Sig) (a0 : Value) (s : St) : evF S Try.prog pack_Pack.ctx pack_Pack.an Try.f38 [a0] s = pack_Pack.t S a0 s := by kernel_rfl
theorem pack_Pack.cok : CtxOk Try.prog pack_Pack.ctx := .cons pack_Check.sound pack_Check.can <| .cons pack_writer_field.sound pack_writer_field.can <| .nil
theorem pack_Pack.draws : fnDraws pack_Pack.an Try.f38 = true := by kernel_rfl
theorem pack_Pack.can : callOk Try.prog 38 = true := by kernel_rfl
theorem pack_Pack.sound : FnOk Try.prog 38 (.st pack_Pack.w) := FnOk.st_of (evF_ok pack_Pack.cok mixed (f := 38) (fn := Try.f38) (by kernel_rfl) pack_Pack.draws) fun args s r h => by
  unfold pack_Pack.w at h; split at h
  · rw [pack_Pack.ok std]; exact h
  · simp at h
def msg_Encode.ctx : Ctx := [(14, .rd msg_Check.w), (39, .st msg_answer.w), (38, .st pack_Pack.w), (30, .st msg_ask.w)]
def msg_Encode.l6.p1 (S : Sig) (s25 : St) (xs24 : List Value) (rec26 : List Value → St → Option Cut) : Option Cut :=
  S.bd (idx s25 2 (xs24.getD 1 undef) (xs24.getD 3 undef)) fun x28 => S.bd (lda s25 2 x28) fun x29 => S.bd (bx (Go.Value.agg #[(.bool Bool.false), (.int .i64 0)])) fun c30 => S.bd (stl c30 0 2 x29) fun c31 => S.bd (lcl c31 0) fun x32 => S.bd (bld [(.int .i64 0), (.int .u64 0), (.int .i64 0), (.bool Bool.false), (.slice none 0 0), (.int .i64 0), (.int .u64 0), (.int .i64 0), (.int .u64 0), (.int .i64 0), (.int .i64 0), (.int .u64 0), (.int .i64 0), (.int .u64 0)] [(0, 1, (.int .i64 3)), (3, 1, x32)]) fun x33 => S.bd (lcl c31 1) fun x34 => S.bd (bld [(.int .i64 0), (.int .u64 0), (.int .i64 0), (.bool Bool.false), (.slice none 0 0), (.int .i64 0), (.int .u64 0), (.int .i64 0), (.int .u64 0), (.int .i64 0), (.int .i64 0), (.int .u64 0), (.int .i64 0), (.int .u64 0)] [(0, 1, (.int .i64 2)), (2, 1, x34)]) fun x35 => S.bd (S.bd (bls 14 (List.replicate 2 [(.int .i64 0), (.int .u64 0), (.int .i64 0), (.bool Bool.false), (.slice none 0 0), (.int .i64 0), (.int .u64 0), (.int .i64 0), (.int .u64 0), (.int .i64 0), (.int .i64 0), (.int .u64 0), (.int .i64 0), (.int .u64 0)]) [(0, x33), (1, x35)]) fun rows => als s25 14 2 rows) fun r36 => S.bd (app r36.2 14 128 (xs24.getD 0 undef) r36.1) fun r37 => S.bd (bin .add (xs24.getD 3 undef) (.int .i64 1)) fun x38 => rec26 [r37.1, (xs24.getD 1 undef), (xs24.getD 2 undef), x38, (Value.agg ⟨(cellsA (xs24.getD 4 undef))⟩)] r37.2
def msg_Encode.l6 (S : Sig) (rec26 : List Value → St → Option Cut) (xs24 : List Value) (s25 : St) : Option Cut :=
  S.bd (bin .lss (xs24.getD 3 undef) (xs24.getD 2 undef)) fun x27 => S.cnd x27 (msg_Encode.l6.p1 S s25 xs24 rec26) (some (0, [(xs24.getD 0 undef), (Value.agg ⟨(cellsA (xs24.getD 4 undef))⟩)], s25))
def msg_Encode.t.p1 (S : Sig) (x40 : Value) (r39 : Cut) : Option (Value × St) :=
  S.bd (bld [(.int .i64 0), (.int .u64 0), (.int .i64 0), (.bool Bool.false), (.slice none 0 0), (.int .i64 0), (.int .u64 0), (.int .i64 0), (.int .u64 0), (.int .i64 0), (.int .i64 0), (.int .u64 0), (.int .i64 0), (.int .u64 0)] [(0, 1, (.int .i64 2)), (2, 1, x40)]) fun x41 => S.bd (S.bd (bls 14 (List.replicate 1 [(.int .i64 0), (.int .u64 0), (.int .i64 0), (.bool Bool.false), (.slice none 0 0), (.int .i64 0), (.int .u64 0), (.int .i64 0), (.int .u64 0), (.int .i64 0), (.int .i64 0), (.int .u64 0), (.int .i64 0), (.int .u64 0)]) [(0, x41)]) fun rows => als r39.2.2 14 1 rows) fun r42 => S.bd (app r42.2 14 128 (r39.2.1.getD 0 undef) r42.1) fun r43 => S.bd (lcl (cellsA (r39.2.1.getD 1 undef)) 0) fun x44 => S.cnd x44 (S.bd (lal (cellsA (r39.2.1.getD 1 undef)) 21 13) fun x45 => S.bd (msg_answer.v x45 r43.2) fun r46 => S.bd (app r46.2 14 128 r43.1 r46.1) fun r47 => S.bd (pack_Pack.v r47.1 r47.2) fun r48 => S.bd (xtr 0 r48.1) fun x49 => S.bd (xtr 1 r48.1) fun x50 => some ((Value.tuple ⟨[x49, x50]⟩), r48.2)) (S.bd (lal (cellsA (r39.2.1.getD 1 undef)) 6 15) fun x51 => S.bd (msg_ask.v x51 r43.2) fun r52 => S.bd (xtr 0 r52.1) fun x53 => S.bd (xtr 1 r52.1) fun x54 => S.bd (lcl (cellsA (r39.2.1.getD 1 undef)) 6) fun x55 => S.bd (cvi .u64 x55) fun x56 => S.bd (bld [(.int .i64 0), (.int .u64 0), (.int .i64 0), (.bool Bool.false), (.slice none 0 0), (.int .i64 0), (.int .u64 0), (.int .i64 0), (.int .u64 0), (.int .i64 0), (.int .i64 0), (.int .u64 0), (.int .i64 0), (.int .u64 0)] [(0, 1, (.int .i64 1)), (1, 1, x56)]) fun x57 => S.bd (S.bd (bls 14 (List.replicate 1 [(.int .i64 0), (.int .u64 0), (.int .i64 0), (.bool Bool.false), (.slice none 0 0), (.int .i64 0), (.int .u64 0), (.int .i64 0), (.int .u64 0), (.int .i64 0), (.int .i64 0), (.int .u64 0), (.int .i64 0), (.int .u64 0)]) [(0, x57)]) fun rows => als r52.2 14 1 rows) fun r58 => S.bd (app r58.2 14 128 r43.1 r58.1) fun r59 => S.bd (app r59.2 14 128 r59.1 x53) fun r60 => S.bd (pack_Pack.v r60.1 r60.2) fun r61 => S.bd (xtr 0 r61.1) fun x62 => S.bd (xtr 1 r61.1) fun x63 => some ((Value.tuple ⟨[x62, x63]⟩), r61.2))
def msg_Encode.t (S : Sig) (a0 : Value) (s : St) : Option (Value × St) :=
  S.bd (bx a0) fun c1 => S.bd (lal c1 0 34) fun x2 => S.bd (msg_Check.r x2 s) fun x3 => S.bd (eqb [1] false true x3 (.int .i64 0)) fun x4 => S.cnd x4 (some ((Value.tuple ⟨[(.slice none 0 0), x3]⟩), s)) (S.bd (lcl c1 0) fun x5 => S.bd (bld [(.int .i64 0), (.int .u64 0), (.int .i64 0), (.bool Bool.false), (.slice none 0 0), (.int .i64 0), (.int .u64 0), (.int .i64 0), (.int .u64 0), (.int .i64 0), (.int .i64 0), (.int .u64 0), (.int .i64 0), (.int .u64 0)] [(0, 1, (.int .i64 3)), (3, 1, x5)]) fun x6 => S.bd (S.bd (bls 14 (List.replicate 1 [(.int .i64 0), (.int .u64 0), (.int .i64 0), (.bool Bool.false), (.slice none 0 0), (.int .i64 0), (.int .u64 0), (.int .i64 0), (.int .u64 0), (.int .i64 0), (.int .i64 0), (.int .u64 0), (.int .i64 0), (.int .u64 0)]) [(0, x6)]) fun rows => als s 14 1 rows) fun r7 => S.bd (lal c1 1 2) fun x8 => S.bd (lal c1 3 2) fun x9 => S.bd (S.bd (bls 2 (List.replicate 2 [(.bool Bool.false), (.int .i64 0)]) [(0, x8), (1, x9)]) fun rows => als r7.2 2 2 rows) fun r10 => S.bd (lenL r10.1) fun x11 => S.bd (S.it (msg_Encode.l6 S) [r7.1, r10.1, x11, (.int .i64 0), (Value.agg ⟨c1⟩)] r10.2) fun r39 => S.bd (lcl (cellsA (r39.2.1.getD 1 undef)) 5) fun x40 => msg_Encode.t.p1 S x40 r39)
def msg_Encode.v (a0 : Value) (s : St) : Option (Value × St) := msg_Encode.t std a0 s
def msg_Encode.w : List Value → St → Option (Value × St)
  | [a0], s => msg_Encode.v a0 s
  | _, _ => none
def msg_Encode.an : An := ⟨75, false, [1, 7], [(6, ⟨[.p 1 1 0, .v 5, .v 23, .v 24, .v 25, .l 1], [(.exit 0, [.p 1 1 0, .v 5, .l 1])]⟩)], [], [], [], []⟩
theorem msg_Encode.ok (S : Sig) (a0 : Value) (s : St) : evF S Try.prog msg_Encode.ctx msg_Encode.an Try.f24 [a0] s = msg_Encode.t S a0 s := by kernel_rfl
theorem msg_Encode.cok : CtxOk Try.prog msg_Encode.ctx := .cons msg_Check.sound msg_Check.can <| .cons msg_answer.sound msg_answer.can <| .cons pack_Pack.sound pack_Pack.can <| .cons msg_ask.sound msg_ask.can <| .nil
theorem msg_Encode.draws : fnDraws msg_Encode.an Try.f24 = true := by kernel_rfl
theorem msg_Encode.can : callOk Try.prog 24 = true := by kernel_rfl
theorem msg_Encode.sound : FnOk Try.prog 24 (.st msg_Encode.w) := FnOk.st_of (evF_ok msg_Encode.cok mixed (f := 24) (fn := Try.f24) (by kernel_rfl) msg_Encode.draws) fun args s r h => by
  unfold msg_Encode.w at h; split at h
  · rw [msg_Encode.ok std]; exact h
  · simp at h
def pack_is.ctx : Ctx := [(71, .rd pack_only.w)]
def pack_is.t (S : Sig) (a0 : Value) (s : St) : Option Value :=
  S.bd (bld [(.int .i64 0), (.int .u64 0), (.int .i64 0), (.bool Bool.false), (.slice none 0 0), (.int .i64 0), (.int .u64 0), (.int .i64 0), (.int .u64 0), (.int .i64 0), (.int .i64 0), (.int .u64 0), (.int .i64 0), (.int .u64 0)] [(0, 1, a0)]) fun x1 => S.bd (pack_only.r x1 s) fun x2 => S.bd (xtr 0 x2) fun x3 => S.bd (xtr 1 x2) fun x4 => S.bd (bx (Go.Value.agg #[(.int .i64 0), (.int .u64 0), (.int .i64 0), (.bool Bool.false), (.slice none 0 0), (.int .i64 0), (.int .u64 0), (.int .i64 0), (.int .u64 0), (.int .i64 0), (.int .i64 0), (.int .u64 0), (.int .i64 0), (.int .u64 0)])) fun c5 => S.bd (stl c5 0 14 x3) fun c6 => some (x4)
def pack_is.r (a0 : Value) (s : St) : Option Value := pack_is.t std a0 s
def pack_is.w : List Value → St → Option Value
  | [a0], s => pack_is.r a0 s
  | _, _ => none
def pack_is.an : An := ⟨12, true, [3], [], [], [], [], []⟩
theorem pack_is.ok (S : Sig) (a0 : Value) (s : St) : evG S Try.prog pack_is.ctx pack_is.an Try.f86 [a0] s = pack_is.t S a0 s := by kernel_rfl
theorem pack_is.cok : CtxOk Try.prog pack_is.ctx := .cons pack_only.sound pack_only.can <| .nil
theorem pack_is.draws : fnDraws pack_is.an Try.f86 = true := by kernel_rfl
theorem pack_is.can : callOk Try.prog 86 = true := by kernel_rfl
theorem pack_is.sound : FnOk Try.prog 86 (.rd pack_is.w) := FnOk.rd_of (evG_ok pack_is.cok mixed (f := 86) (fn := Try.f86) (by kernel_rfl) pack_is.draws) fun args s r h => by
  unfold pack_is.w at h; split at h
  · rw [pack_is.ok std]; exact h
  · simp at h
noncomputable def pack_left_peek.ctx : Ctx := []
noncomputable def pack_left_peek.t (S : Sig) (a0 : Value) (s : St) : Option (Bool × Value × St) :=
  S.bd (show Option Cut from S.bd (nck a0) fun x11 => S.bd (fld 1 x11) fun x12 => S.bd (ldc s x12) fun x13 => S.bd (nck a0) fun x14 => S.bd (fld 0 x14) fun x15 => S.bd (ldc s x15) fun x16 => S.bd (lenL x16) fun x17 => S.bd (bin .geq x13 x17) fun x18 => S.cnd x18 (S.bd (bld [(.int .i64 0)] [(0, 1, (.int .i64 32))]) fun x19 => S.bd (panV (Value.iface 135 x19) s) fun q20 => S.cnd (Value.bool q20.1) (some (0, [a0], q20.2.2)) (some (1, [q20.2.1], q20.2.2))) (some (0, [a0], s))) fun r21 => if r21.1 = 0 then (S.bd (nck (r21.2.1.getD 0 undef)) fun x22 => S.bd (fld 0 x22) fun x23 => S.bd (ldc r21.2.2 x23) fun x24 => S.bd (nck (r21.2.1.getD 0 undef)) fun x25 => S.bd (fld 1 x25) fun x26 => S.bd (ldc r21.2.2 x26) fun x27 => S.bd (idx r21.2.2 1 x24 x27) fun x28 => S.bd (ldc r21.2.2 x28) fun x29 => some (true, x29, r21.2.2)) else (some (false, (r21.2.1.getD 0 undef), r21.2.2))
noncomputable def pack_left_peek.q (a0 : Value) (s : St) : Option (Bool × Value × St) := pack_left_peek.t std a0 s
noncomputable def pack_left_peek.w : List Value → St → Option (Bool × Value × St)
  | [a0], s => pack_left_peek.q a0 s
  | _, _ => none
noncomputable def pack_left_peek.an : An := ⟨25, false, [], [], [(3, ⟨[], [(.normal, [.v 0]), (.pan undef, [])]⟩)], [(1, [(z4 0 0), (z4 1 0), (z4 2 0), (z4 3 2), (z4 4 0), (z4 5 0), (z4 6 0), (z4 7 2), (z4 8 2), (z4 9 0)]), (3, [(z4 0 0), (z4 1 0), (z4 2 0), (z4 3 2), (z4 4 0), (z4 5 0), (z4 6 0), (z4 7 2), (z4 8 2), (z4 9 2), (z4 10 0)])], [], []⟩
theorem pack_left_peek.ok (S : Sig) (a0 : Value) (s : St) : evP S Try.prog pack_left_peek.ctx pack_left_peek.an Try.f94 [a0] s = pack_left_peek.t S a0 s := by kernel_rfl
theorem pack_left_peek.cok : CtxOk Try.prog pack_left_peek.ctx := .nil
theorem pack_left_peek.draws : fnDraws pack_left_peek.an Try.f94 = true := by kernel_rfl
theorem pack_left_peek.can : callOk Try.prog 94 = true := by kernel_rfl
theorem pack_left_peek.sound : FnOk Try.prog 94 (.pn pack_left_peek.w) := FnOk.pn_of (evP_ok pack_left_peek.cok mixed (f := 94) (fn := Try.f94) (by kernel_rfl) pack_left_peek.draws) fun args s r h => by
  unfold pack_left_peek.w at h; split at h
  · rw [pack_left_peek.ok std]; exact h
  · simp at h
def pack_fits.ctx : Ctx := []
def pack_fits.t (S : Sig) (a0 a1 a2 a3 : Value) (s : St) : Option Value :=
  S.bd (eqb [1] false false a3 (.int .u64 18446744073709551615)) fun x1 => S.cnd x1 (some ((.bool Bool.true))) (S.bd (bin .gtr a1 (.int .i64 28)) fun x2 => S.cnd x2 (some ((.bool Bool.false))) (S.bd (bin .and a2 (.int .u8 127)) fun x3 => S.bd (cvi .u64 x3) fun x4 => S.bd (cvi .u64 a1) fun x5 => S.bd (bin .shl x4 x5) fun x6 => S.bd (bin .add a0 x6) fun x7 => S.bd (show Option Cut from S.bd (bin .geq a2 (.int .u8 128)) fun x13 => S.cnd x13 (S.bd (bin .add a1 (.int .i64 7)) fun x14 => S.bd (cvi .u64 x14) fun x15 => S.bd (bin .shl (.int .u64 1) x15) fun x16 => S.bd (bin .add x7 x16) fun x17 => some (0, [x17, a3], s)) (some (0, [x7, a3], s))) fun r18 => S.bd (bin .leq (r18.2.1.getD 0 undef) (r18.2.1.getD 1 undef)) fun x19 => some (x19)))
def pack_fits.r (a0 a1 a2 a3 : Value) (s : St) : Option Value := pack_fits.t std a0 a1 a2 a3 s
def pack_fits.w : List Value → St → Option Value
  | [a0, a1, a2, a3], s => pack_fits.r a0 a1 a2 a3 s
  | _, _ => none
def pack_fits.an : An := ⟨32, true, [], [], [(8, ⟨[], [(.normal, [.v 0, .v 3])]⟩)], [], [], []⟩
theorem pack_fits.ok (S : Sig) (a0 a1 a2 a3 : Value) (s : St) : evG S Try.prog pack_fits.ctx pack_fits.an Try.f103 [a0, a1, a2, a3] s = pack_fits.t S a0 a1 a2 a3 s := by kernel_rfl
theorem pack_fits.cok : CtxOk Try.prog pack_fits.ctx := .nil
theorem pack_fits.draws : fnDraws pack_fits.an Try.f103 = true := by kernel_rfl
theorem pack_fits.can : callOk Try.prog 103 = true := by kernel_rfl
theorem pack_fits.sound : FnOk Try.prog 103 (.rd pack_fits.w) := FnOk.rd_of (evG_ok pack_fits.cok mixed (f := 103) (fn := Try.f103) (by kernel_rfl) pack_fits.draws) fun args s r h => by
  unfold pack_fits.w at h; split at h
  · rw [pack_fits.ok std]; exact h
  · simp at h
noncomputable def pack_left_next.ctx : Ctx := [(94, .pn pack_left_peek.w)]
noncomputable def pack_left_next.t (S : Sig) (a0 a1 : Value) (s : St) : Option (Bool × Value × St) :=
  S.bd (show Option Cut from S.bd (un .not a1) fun x4 => S.cnd x4 (S.bd (bld [(.int .i64 0)] [(0, 1, (.int .i64 31))]) fun x5 => S.bd (panV (Value.iface 135 x5) s) fun q6 => S.cnd (Value.bool q6.1) (some (0, [a0], q6.2.2)) (some (1, [q6.2.1], q6.2.2))) (some (0, [a0], s))) fun r7 => if r7.1 = 0 then (S.bd (pack_left_peek.q (r7.2.1.getD 0 undef) r7.2.2) fun q8 => S.cnd (Value.bool q8.1) (S.bd (nck (r7.2.1.getD 0 undef)) fun x9 => S.bd (fld 1 x9) fun x10 => S.bd (ldc q8.2.2 x10) fun x11 => S.bd (bin .add x11 (.int .i64 1)) fun x12 => S.bd (nck (r7.2.1.getD 0 undef)) fun x13 => S.bd (fld 1 x13) fun x14 => S.bd (stv q8.2.2 1 x14 x12) fun s15 => some (true, q8.2.1, s15)) (some (false, q8.2.1, q8.2.2))) else (some (false, (r7.2.1.getD 0 undef), r7.2.2))
noncomputable def pack_left_next.q (a0 a1 : Value) (s : St) : Option (Bool × Value × St) := pack_left_next.t std a0 a1 s
noncomputable def pack_left_next.w : List Value → St → Option (Bool × Value × St)
  | [a0, a1], s => pack_left_next.q a0 a1 s
  | _, _ => none
noncomputable def pack_left_next.an : An := ⟨20, false, [], [], [(3, ⟨[], [(.normal, [.v 0]), (.pan undef, [])]⟩)], [], [], []⟩
theorem pack_left_next.ok (S : Sig) (a0 a1 : Value) (s : St) : evP S Try.prog pack_left_next.ctx pack_left_next.an Try.f95 [a0, a1] s = pack_left_next.t S a0 a1 s := by kernel_rfl
theorem pack_left_next.cok : CtxOk Try.prog pack_left_next.ctx := .cons pack_left_peek.sound pack_left_peek.can <| .nil
theorem pack_left_next.draws : fnDraws pack_left_next.an Try.f95 = true := by kernel_rfl
theorem pack_left_next.can : callOk Try.prog 95 = true := by kernel_rfl
theorem pack_left_next.sound : FnOk Try.prog 95 (.pn pack_left_next.w) := FnOk.pn_of (evP_ok pack_left_next.cok mixed (f := 95) (fn := Try.f95) (by kernel_rfl) pack_left_next.draws) fun args s r h => by
  unfold pack_left_next.w at h; split at h
  · rw [pack_left_next.ok std]; exact h
  · simp at h
noncomputable def pack_reader_number.ctx : Ctx := [(94, .pn pack_left_peek.w), (103, .rd pack_fits.w), (95, .pn pack_left_next.w)]
noncomputable def pack_reader_number.l4.p1 (S : Sig) (xs35 : List Value) (q40 : Bool × Value × St) (rec37 : List Value → St → Option Cut) : Option Cut :=
  S.bd (nck (xs35.getD 0 undef)) fun x41 => S.bd (fld 0 x41) fun x42 => S.bd (bin .gtr (xs35.getD 3 undef) (.int .i64 0)) fun x43 => S.bd (S.gd x43 true (some q40.2.1)) fun x44 => S.bd (S.gd x43 true (eqb [1] false false x44 (.int .u8 0))) fun x45 => S.bd (pik x43 x45 (.bool Bool.false)) fun x46 => S.bd (un .not x46) fun x47 => S.bd (S.gd x47 true (some (xs35.getD 3 undef))) fun x48 => S.bd (S.gd x47 true (eqb [1] false false x48 (.int .i64 9))) fun x49 => S.bd (S.gd x47 true (some x49)) fun x50 => S.bd (S.gd x50 true (some q40.2.1)) fun x51 => S.bd (S.gd x50 true (eqb [1] false true x51 (.int .u8 1))) fun x52 => S.bd (S.gd x47 true (pik x50 x52 (.bool Bool.false))) fun x53 => S.bd (S.gd x47 true (un .not x53)) fun x54 => S.bd (pik x47 x54 (.bool Bool.false)) fun x55 => S.bd (S.gd x55 true (some (xs35.getD 2 undef))) fun x56 => S.bd (S.gd x55 true (some (xs35.getD 3 undef))) fun x57 => S.bd (S.gd x55 true (bin .mul (.int .i64 7) x57)) fun x58 => S.bd (S.gd x55 true (some q40.2.1)) fun x59 => S.bd (S.gd x55 true (some (xs35.getD 1 undef))) fun x60 => S.bd (S.gd x55 true (pack_fits.r x56 x58 x59 x60 q40.2.2)) fun x61 => S.bd (pik x55 x61 (.bool Bool.false)) fun x62 => S.bd (pack_left_next.q x42 x62 q40.2.2) fun q63 => S.cnd (Value.bool q63.1) (S.bd (bin .and q40.2.1 (.int .u8 127)) fun x64 => S.bd (cvi .u64 x64) fun x65 => S.bd (bin .mul (.int .i64 7) (xs35.getD 3 undef)) fun x66 => S.bd (cvi .u64 x66) fun x67 => S.bd (bin .shl x65 x67) fun x68 => S.bd (bin .or (xs35.getD 2 undef) x68) fun x69 => S.bd (bin .lss q40.2.1 (.int .u8 128)) fun x70 => S.cnd x70 (some (1, [x69], q63.2.2)) (S.bd (bin .add (xs35.getD 3 undef) (.int .i64 1)) fun x71 => rec37 [(xs35.getD 0 undef), (xs35.getD 1 undef), x69, x71] q63.2.2)) (some (0, [q63.2.1], q63.2.2))
noncomputable def pack_reader_number.l4 (S : Sig) (rec37 : List Value → St → Option Cut) (xs35 : List Value) (s36 : St) : Option Cut :=
  S.bd (nck (xs35.getD 0 undef)) fun x38 => S.bd (fld 0 x38) fun x39 => S.bd (pack_left_peek.q x39 s36) fun q40 => S.cnd (Value.bool q40.1) (pack_reader_number.l4.p1 S xs35 q40 rec37) (some (0, [q40.2.1], q40.2.2))
noncomputable def pack_reader_number.t (S : Sig) (a0 a1 : Value) (s : St) : Option (Bool × Value × St) :=
  S.bd (S.it (pack_reader_number.l4 S) [a0, a1, (.int .u64 0), (.int .i64 0)] s) fun r72 => if r72.1 = 0 then (some (false, (r72.2.1.getD 0 undef), r72.2.2)) else (some (true, (r72.2.1.getD 0 undef), r72.2.2))
noncomputable def pack_reader_number.q (a0 a1 : Value) (s : St) : Option (Bool × Value × St) := pack_reader_number.t std a0 a1 s
noncomputable def pack_reader_number.w : List Value → St → Option (Bool × Value × St)
  | [a0, a1], s => pack_reader_number.q a0 a1 s
  | _, _ => none
noncomputable def pack_reader_number.an : An := ⟨54, false, [], [(4, ⟨[.v 0, .v 1, .v 5, .v 6], [(.pan undef, []), (.ret, [.v 4])]⟩)], [], [(5, [(z4 0 0), (z4 1 0), (z4 2 0), (z4 3 0), (z4 4 0), (z4 5 0), (z4 6 0), (z4 7 0), (z4 8 0), (z4 9 0), (z4 10 0), (z4 11 0), (z4 12 0), (z4 13 0), (z4 14 0), (z4 15 0), (z4 16 0), (z4 17 0), (z4 18 0), (z4 19 0), (z4 20 0), (z4 21 0), (z4 22 0), (z4 23 0), (z4 24 0), (z4 25 3), (z4 26 0), (z4 27 4)])], [], []⟩
theorem pack_reader_number.ok (S : Sig) (a0 a1 : Value) (s : St) : evP S Try.prog pack_reader_number.ctx pack_reader_number.an Try.f92 [a0, a1] s = pack_reader_number.t S a0 a1 s := by kernel_rfl
theorem pack_reader_number.cok : CtxOk Try.prog pack_reader_number.ctx := .cons pack_left_peek.sound pack_left_peek.can <| .cons pack_fits.sound pack_fits.can <| .cons pack_left_next.sound pack_left_next.can <| .nil
theorem pack_reader_number.draws : fnDraws pack_reader_number.an Try.f92 = true := by kernel_rfl
theorem pack_reader_number.can : callOk Try.prog 92 = true := by kernel_rfl
theorem pack_reader_number.sound : FnOk Try.prog 92 (.pn pack_reader_number.w) := FnOk.pn_of (evP_ok pack_reader_number.cok mixed (f := 92) (fn := Try.f92) (by kernel_rfl) pack_reader_number.draws) fun args s r h => by
  unfold pack_reader_number.w at h; split at h
  · rw [pack_reader_number.ok std]; exact h
  · simp at h
noncomputable def pack_reader_int.ctx : Ctx := [(92, .pn pack_reader_number.w)]
noncomputable def pack_reader_int.t (S : Sig) (a0 : Value) (s : St) : Option (Bool × Value × St) :=
  S.bd (pack_reader_number.q a0 (.int .u64 18446744073709551615) s) fun q1 => S.cnd (Value.bool q1.1) (S.bd (bin .shr q1.2.1 (.int .u64 1)) fun x2 => S.bd (cvi .i64 x2) fun x3 => S.bd (bin .and q1.2.1 (.int .u64 1)) fun x4 => S.bd (cvi .i64 x4) fun x5 => S.bd (un .neg x5) fun x6 => S.bd (bin .xor x3 x6) fun x7 => some (true, x7, q1.2.2)) (some (false, q1.2.1, q1.2.2))
noncomputable def pack_reader_int.q (a0 : Value) (s : St) : Option (Bool × Value × St) := pack_reader_int.t std a0 s
noncomputable def pack_reader_int.w : List Value → St → Option (Bool × Value × St)
  | [a0], s => pack_reader_int.q a0 s
  | _, _ => none
noncomputable def pack_reader_int.an : An := ⟨14, false, [], [], [], [], [], []⟩
theorem pack_reader_int.ok (S : Sig) (a0 : Value) (s : St) : evP S Try.prog pack_reader_int.ctx pack_reader_int.an Try.f93 [a0] s = pack_reader_int.t S a0 s := by kernel_rfl
theorem pack_reader_int.cok : CtxOk Try.prog pack_reader_int.ctx := .cons pack_reader_number.sound pack_reader_number.can <| .nil
theorem pack_reader_int.draws : fnDraws pack_reader_int.an Try.f93 = true := by kernel_rfl
theorem pack_reader_int.can : callOk Try.prog 93 = true := by kernel_rfl
theorem pack_reader_int.sound : FnOk Try.prog 93 (.pn pack_reader_int.w) := FnOk.pn_of (evP_ok pack_reader_int.cok mixed (f := 93) (fn := Try.f93) (by kernel_rfl) pack_reader_int.draws) fun args s r h => by
  unfold pack_reader_int.w at h; split at h
  · rw [pack_reader_int.ok std]; exact h
  · simp at h
noncomputable def pack_reader_vector.ctx : Ctx := [(94, .pn pack_left_peek.w), (95, .pn pack_left_next.w)]
noncomputable def pack_reader_vector.l5 (S : Sig) (rec38 : List Value → St → Option Cut) (xs36 : List Value) (s37 : St) : Option Cut :=
  S.bd (bin .gtr (xs36.getD 1 undef) (.int .i64 0)) fun x39 => S.cnd x39 (S.bd (nck (xs36.getD 0 undef)) fun x40 => S.bd (fld 0 x40) fun x41 => S.bd (pack_left_peek.q x41 s37) fun q42 => S.cnd (Value.bool q42.1) (S.bd (bin .sub (.int .i64 8) (xs36.getD 1 undef)) fun x43 => S.bd (mx2 x43 (.int .i64 0)) fun x44 => S.bd (cvi .u64 x44) fun x45 => S.bd (nck (xs36.getD 0 undef)) fun x46 => S.bd (fld 0 x46) fun x47 => S.bd (bin .shl (.int .u8 1) x45) fun x48 => S.bd (bin .sub x48 (.int .u8 1)) fun x49 => S.bd (bin .and q42.2.1 x49) fun x50 => S.bd (eqb [1] false false x50 (.int .u8 0)) fun x51 => S.bd (pack_left_next.q x47 x51 q42.2.2) fun q52 => S.cnd (Value.bool q52.1) (S.bd (lcl (cellsA (xs36.getD 3 undef)) 1) fun x53 => S.bd (bin .sub (.int .u64 8) x45) fun x54 => S.bd (bin .shl x53 x54) fun x55 => S.bd (bin .shr q42.2.1 x45) fun x56 => S.bd (cvi .u64 x56) fun x57 => S.bd (bin .or x55 x57) fun x58 => S.bd (stl (cellsA (xs36.getD 3 undef)) 1 1 x58) fun c59 => S.bd (bin .sub (xs36.getD 1 undef) (.int .i64 8)) fun x60 => rec38 [(xs36.getD 0 undef), x60, (Value.agg ⟨(cellsA (xs36.getD 2 undef))⟩), (Value.agg ⟨c59⟩)] q52.2.2) (some (1, [q52.2.1], q52.2.2))) (some (1, [q42.2.1], q42.2.2))) (some (0, [(Value.agg ⟨(cellsA (xs36.getD 2 undef))⟩), (Value.agg ⟨(cellsA (xs36.getD 3 undef))⟩)], s37))
noncomputable def pack_reader_vector.t (S : Sig) (a0 : Value) (s : St) : Option (Bool × Value × St) :=
  S.bd (bx (Go.Value.agg #[(.int .i64 0), (.int .u64 0)])) fun c1 => S.bd (nck a0) fun x2 => S.bd (fld 0 x2) fun x3 => S.bd (pack_left_peek.q x3 s) fun q4 => S.cnd (Value.bool q4.1) (S.bd (nck a0) fun x5 => S.bd (fld 0 x5) fun x6 => S.bd (bin .leq q4.2.1 (.int .u8 32)) fun x7 => S.bd (pack_left_next.q x6 x7 q4.2.2) fun q8 => S.cnd (Value.bool q8.1) (S.bd (cvi .i64 q4.2.1) fun x9 => S.bd (bld [(.int .i64 0), (.int .u64 0)] [(0, 1, x9)]) fun x10 => S.bd (bx (Go.Value.agg #[(.int .i64 0), (.int .u64 0)])) fun c11 => S.bd (stl c11 0 2 x10) fun c12 => S.bd (cvi .i64 q4.2.1) fun x13 => S.bd (S.it (pack_reader_vector.l5 S) [a0, x13, (Value.agg ⟨c1⟩), (Value.agg ⟨c12⟩)] q8.2.2) fun r61 => if r61.1 = 0 then (S.bd (lal (cellsA (r61.2.1.getD 1 undef)) 0 2) fun x62 => S.bd (stl (cellsA (r61.2.1.getD 0 undef)) 0 2 x62) fun c63 => S.bd (lal c63 0 2) fun x64 => some (true, x64, r61.2.2)) else (some (false, (r61.2.1.getD 0 undef), r61.2.2))) (some (false, q8.2.1, q8.2.2))) (some (false, q4.2.1, q4.2.2))
noncomputable def pack_reader_vector.q (a0 : Value) (s : St) : Option (Bool × Value × St) := pack_reader_vector.t std a0 s
noncomputable def pack_reader_vector.w : List Value → St → Option (Bool × Value × St)
  | [a0], s => pack_reader_vector.q a0 s
  | _, _ => none
noncomputable def pack_reader_vector.an : An := ⟨57, false, [2, 4], [(5, ⟨[.v 0, .p 2 2 0, .p 4 4 0, .v 5, .l 2, .l 4], [(.exit 0, [.p 2 2 0, .p 4 4 0, .l 2, .l 4]), (.pan undef, [])]⟩)], [], [], [], []⟩
theorem pack_reader_vector.ok (S : Sig) (a0 : Value) (s : St) : evP S Try.prog pack_reader_vector.ctx pack_reader_vector.an Try.f96 [a0] s = pack_reader_vector.t S a0 s := by kernel_rfl
theorem pack_reader_vector.cok : CtxOk Try.prog pack_reader_vector.ctx := .cons pack_left_peek.sound pack_left_peek.can <| .cons pack_left_next.sound pack_left_next.can <| .nil
theorem pack_reader_vector.draws : fnDraws pack_reader_vector.an Try.f96 = true := by kernel_rfl
theorem pack_reader_vector.can : callOk Try.prog 96 = true := by kernel_rfl
theorem pack_reader_vector.sound : FnOk Try.prog 96 (.pn pack_reader_vector.w) := FnOk.pn_of (evP_ok pack_reader_vector.cok mixed (f := 96) (fn := Try.f96) (by kernel_rfl) pack_reader_vector.draws) fun args s r h => by
  unfold pack_reader_vector.w at h; split at h
  · rw [pack_reader_vector.ok std]; exact h
  · simp at h
noncomputable def pack_reader_key.ctx : Ctx := [(94, .pn pack_left_peek.w), (95, .pn pack_left_next.w)]
noncomputable def pack_reader_key.l6 (S : Sig) (rec30 : List Value → St → Option Cut) (xs28 : List Value) (s29 : St) : Option Cut :=
  S.bd (bin .lss (xs28.getD 1 undef) (.int .i64 8)) fun x31 => S.cnd x31 (S.bd (lcl (cellsA (xs28.getD 3 undef)) 1) fun x32 => S.bd (bin .shl x32 (.int .u64 8)) fun x33 => S.bd (nck (xs28.getD 0 undef)) fun x34 => S.bd (fld 0 x34) fun x35 => S.bd (pack_left_next.q x35 (.bool Bool.true) s29) fun q36 => S.cnd (Value.bool q36.1) (S.bd (cvi .u64 q36.2.1) fun x37 => S.bd (bin .or x33 x37) fun x38 => S.bd (stl (cellsA (xs28.getD 3 undef)) 1 1 x38) fun c39 => S.bd (bin .add (xs28.getD 1 undef) (.int .i64 1)) fun x40 => rec30 [(xs28.getD 0 undef), x40, (Value.agg ⟨(cellsA (xs28.getD 2 undef))⟩), (Value.agg ⟨c39⟩)] q36.2.2) (some (1, [q36.2.1], q36.2.2))) (some (0, [(Value.agg ⟨(cellsA (xs28.getD 2 undef))⟩), (Value.agg ⟨(cellsA (xs28.getD 3 undef))⟩)], s29))
noncomputable def pack_reader_key.t (S : Sig) (a0 : Value) (s : St) : Option (Bool × Value × St) :=
  S.bd (bx (Go.Value.agg #[(.int .i64 0), (.int .u64 0)])) fun c1 => S.bd (nck a0) fun x2 => S.bd (fld 0 x2) fun x3 => S.bd (pack_left_peek.q x3 s) fun q4 => S.cnd (Value.bool q4.1) (S.bd (nck a0) fun x5 => S.bd (fld 0 x5) fun x6 => S.bd (bin .geq q4.2.1 (.int .u8 1)) fun x7 => S.bd (S.gd x7 true (some q4.2.1)) fun x8 => S.bd (S.gd x7 true (bin .leq x8 (.int .u8 3))) fun x9 => S.bd (pik x7 x9 (.bool Bool.false)) fun x10 => S.bd (pack_left_next.q x6 x10 q4.2.2) fun q11 => S.cnd (Value.bool q11.1) (S.bd (cvi .i64 q4.2.1) fun x12 => S.bd (bld [(.int .i64 0), (.int .u64 0)] [(0, 1, x12)]) fun x13 => S.bd (bx (Go.Value.agg #[(.int .i64 0), (.int .u64 0)])) fun c14 => S.bd (stl c14 0 2 x13) fun c15 => S.bd (lcl c15 0) fun x16 => S.bd (eqb [1] false false x16 (.int .i64 2)) fun x17 => S.cnd x17 (S.bd (S.it (pack_reader_key.l6 S) [a0, (.int .i64 0), (Value.agg ⟨c1⟩), (Value.agg ⟨c15⟩)] q11.2.2) fun r41 => if r41.1 = 0 then (S.bd (lal (cellsA (r41.2.1.getD 1 undef)) 0 2) fun x42 => S.bd (stl (cellsA (r41.2.1.getD 0 undef)) 0 2 x42) fun c43 => S.bd (lal c43 0 2) fun x44 => some (true, x44, r41.2.2)) else (some (false, (r41.2.1.getD 0 undef), r41.2.2))) (S.bd (lal c15 0 2) fun x45 => S.bd (stl c1 0 2 x45) fun c46 => S.bd (lal c46 0 2) fun x47 => some (true, x47, q11.2.2))) (some (false, q11.2.1, q11.2.2))) (some (false, q4.2.1, q4.2.2))
noncomputable def pack_reader_key.q (a0 : Value) (s : St) : Option (Bool × Value × St) := pack_reader_key.t std a0 s
noncomputable def pack_reader_key.w : List Value → St → Option (Bool × Value × St)
  | [a0], s => pack_reader_key.q a0 s
  | _, _ => none
noncomputable def pack_reader_key.an : An := ⟨39, false, [2, 4], [(6, ⟨[.v 0, .p 2 2 0, .p 4 4 0, .v 25, .l 2, .l 4], [(.exit 0, [.p 2 2 0, .p 4 4 0, .l 2, .l 4]), (.pan undef, [])]⟩)], [], [(7, [(z4 0 0), (z4 1 33), (z4 2 0), (z4 3 0), (z4 4 0), (z4 5 0), (z4 6 4), (z4 7 0), (z4 8 0), (z4 9 0), (z4 10 37)])], [], []⟩
theorem pack_reader_key.ok (S : Sig) (a0 : Value) (s : St) : evP S Try.prog pack_reader_key.ctx pack_reader_key.an Try.f97 [a0] s = pack_reader_key.t S a0 s := by kernel_rfl
theorem pack_reader_key.cok : CtxOk Try.prog pack_reader_key.ctx := .cons pack_left_peek.sound pack_left_peek.can <| .cons pack_left_next.sound pack_left_next.can <| .nil
theorem pack_reader_key.draws : fnDraws pack_reader_key.an Try.f97 = true := by kernel_rfl
theorem pack_reader_key.can : callOk Try.prog 97 = true := by kernel_rfl
theorem pack_reader_key.sound : FnOk Try.prog 97 (.pn pack_reader_key.w) := FnOk.pn_of (evP_ok pack_reader_key.cok mixed (f := 97) (fn := Try.f97) (by kernel_rfl) pack_reader_key.draws) fun args s r h => by
  unfold pack_reader_key.w at h; split at h
  · rw [pack_reader_key.ok std]; exact h
  · simp at h
noncomputable def pack_reader_field.ctx : Ctx := [(92, .pn pack_reader_number.w), (93, .pn pack_reader_int.w), (94, .pn pack_left_peek.w), (95, .pn pack_left_next.w), (96, .pn pack_reader_vector.w), (97, .pn pack_reader_key.w)]
noncomputable def pack_reader_field.l12 (S : Sig) (rec43 : List Value → St → Option Cut) (xs41 : List Value) (s42 : St) : Option Cut :=
  S.bd (bin .lss (xs41.getD 2 undef) (xs41.getD 1 undef)) fun x44 => S.cnd x44 (S.bd (lcl (cellsA (xs41.getD 4 undef)) 4) fun x45 => S.bd (nck (xs41.getD 0 undef)) fun x46 => S.bd (fld 0 x46) fun x47 => S.bd (pack_left_next.q x47 (.bool Bool.true) s42) fun q48 => S.cnd (Value.bool q48.1) (S.bd (S.bd (bls 1 (List.replicate 1 [(.int .u8 0)]) [(0, q48.2.1)]) fun rows => als q48.2.2 1 1 rows) fun r49 => S.bd (app r49.2 1 1 x45 r49.1) fun r50 => S.bd (stl (cellsA (xs41.getD 4 undef)) 4 1 r50.1) fun c51 => S.bd (bin .add (xs41.getD 2 undef) (.int .u64 1)) fun x52 => rec43 [(xs41.getD 0 undef), (xs41.getD 1 undef), x52, (Value.agg ⟨(cellsA (xs41.getD 3 undef))⟩), (Value.agg ⟨c51⟩)] r50.2) (some (1, [q48.2.1], q48.2.2))) (some (0, [(Value.agg ⟨(cellsA (xs41.getD 3 undef))⟩), (Value.agg ⟨(cellsA (xs41.getD 4 undef))⟩)], s42))
noncomputable def pack_reader_field.t.p1 (S : Sig) (a1 : Value) (a0 : Value) (s : St) (c1 : List Value) (c4 : List Value) : Option (Bool × Value × St) :=
  S.bd (eqb [1] false false a1 (.int .i64 4)) fun x30 => S.cnd x30 (S.bd (pack_reader_number.q a0 (.int .u64 65536) s) fun q31 => S.cnd (Value.bool q31.1) (S.bd (S.it (pack_reader_field.l12 S) [a0, q31.2.1, (.int .u64 0), (Value.agg ⟨c1⟩), (Value.agg ⟨c4⟩)] q31.2.2) fun r53 => if r53.1 = 0 then (S.bd (lal (cellsA (r53.2.1.getD 1 undef)) 0 14) fun x54 => S.bd (stl (cellsA (r53.2.1.getD 0 undef)) 0 14 x54) fun c55 => S.bd (lal c55 0 14) fun x56 => some (true, x56, r53.2.2)) else (some (false, (r53.2.1.getD 0 undef), r53.2.2))) (some (false, q31.2.1, q31.2.2))) (S.bd (eqb [1] false false a1 (.int .i64 5)) fun x57 => S.cnd x57 (S.bd (pack_reader_vector.q a0 s) fun q58 => S.cnd (Value.bool q58.1) (S.bd (stl c4 5 2 q58.2.1) fun c59 => S.bd (lal c59 0 14) fun x60 => S.bd (stl c1 0 14 x60) fun c61 => S.bd (lal c61 0 14) fun x62 => some (true, x62, q58.2.2)) (some (false, q58.2.1, q58.2.2))) (S.bd (eqb [1] false false a1 (.int .i64 6)) fun x63 => S.cnd x63 (S.bd (pack_reader_key.q a0 s) fun q64 => S.cnd (Value.bool q64.1) (S.bd (stl c4 7 2 q64.2.1) fun c65 => S.bd (lal c65 0 14) fun x66 => S.bd (stl c1 0 14 x66) fun c67 => S.bd (lal c67 0 14) fun x68 => some (true, x68, q64.2.2)) (some (false, q64.2.1, q64.2.2))) (S.bd (eqb [1] false false a1 (.int .i64 7)) fun x69 => S.cnd x69 (S.bd (pack_reader_int.q a0 s) fun q70 => S.cnd (Value.bool q70.1) (S.bd (stl c4 9 1 q70.2.1) fun c71 => S.bd (pack_reader_key.q a0 q70.2.2) fun q72 => S.cnd (Value.bool q72.1) (S.bd (stl c71 10 2 q72.2.1) fun c73 => S.bd (pack_reader_vector.q a0 q72.2.2) fun q74 => S.cnd (Value.bool q74.1) (S.bd (stl c73 12 2 q74.2.1) fun c75 => S.bd (lal c75 0 14) fun x76 => S.bd (stl c1 0 14 x76) fun c77 => S.bd (lal c77 0 14) fun x78 => some (true, x78, q74.2.2)) (some (false, q74.2.1, q74.2.2))) (some (false, q72.2.1, q72.2.2))) (some (false, q70.2.1, q70.2.2))) (S.bd (lal c4 0 14) fun x79 => S.bd (stl c1 0 14 x79) fun c80 => S.bd (lal c80 0 14) fun x81 => some (true, x81, s)))))
noncomputable def pack_reader_field.t (S : Sig) (a0 a1 : Value) (s : St) : Option (Bool × Value × St) :=
  S.bd (bx (Go.Value.agg #[(.int .i64 0), (.int .u64 0), (.int .i64 0), (.bool Bool.false), (.slice none 0 0), (.int .i64 0), (.int .u64 0), (.int .i64 0), (.int .u64 0), (.int .i64 0), (.int .i64 0), (.int .u64 0), (.int .i64 0), (.int .u64 0)])) fun c1 => S.bd (bld [(.int .i64 0), (.int .u64 0), (.int .i64 0), (.bool Bool.false), (.slice none 0 0), (.int .i64 0), (.int .u64 0), (.int .i64 0), (.int .u64 0), (.int .i64 0), (.int .i64 0), (.int .u64 0), (.int .i64 0), (.int .u64 0)] [(0, 1, a1)]) fun x2 => S.bd (bx (Go.Value.agg #[(.int .i64 0), (.int .u64 0), (.int .i64 0), (.bool Bool.false), (.slice none 0 0), (.int .i64 0), (.int .u64 0), (.int .i64 0), (.int .u64 0), (.int .i64 0), (.int .i64 0), (.int .u64 0), (.int .i64 0), (.int .u64 0)])) fun c3 => S.bd (stl c3 0 14 x2) fun c4 => S.bd (eqb [1] false false a1 (.int .i64 1)) fun x5 => S.cnd x5 (S.bd (pack_reader_number.q a0 (.int .u64 18446744073709551615) s) fun q6 => S.cnd (Value.bool q6.1) (S.bd (stl c4 1 1 q6.2.1) fun c7 => S.bd (lal c7 0 14) fun x8 => S.bd (stl c1 0 14 x8) fun c9 => S.bd (lal c9 0 14) fun x10 => some (true, x10, q6.2.2)) (some (false, q6.2.1, q6.2.2))) (S.bd (eqb [1] false false a1 (.int .i64 2)) fun x11 => S.cnd x11 (S.bd (pack_reader_int.q a0 s) fun q12 => S.cnd (Value.bool q12.1) (S.bd (stl c4 2 1 q12.2.1) fun c13 => S.bd (lal c13 0 14) fun x14 => S.bd (stl c1 0 14 x14) fun c15 => S.bd (lal c15 0 14) fun x16 => some (true, x16, q12.2.2)) (some (false, q12.2.1, q12.2.2))) (S.bd (eqb [1] false false a1 (.int .i64 3)) fun x17 => S.cnd x17 (S.bd (nck a0) fun x18 => S.bd (fld 0 x18) fun x19 => S.bd (pack_left_peek.q x19 s) fun q20 => S.cnd (Value.bool q20.1) (S.bd (nck a0) fun x21 => S.bd (fld 0 x21) fun x22 => S.bd (bin .leq q20.2.1 (.int .u8 1)) fun x23 => S.bd (pack_left_next.q x22 x23 q20.2.2) fun q24 => S.cnd (Value.bool q24.1) (S.bd (eqb [1] false false q24.2.1 (.int .u8 1)) fun x25 => S.bd (stl c4 3 1 x25) fun c26 => S.bd (lal c26 0 14) fun x27 => S.bd (stl c1 0 14 x27) fun c28 => S.bd (lal c28 0 14) fun x29 => some (true, x29, q24.2.2)) (some (false, q24.2.1, q24.2.2))) (some (false, q20.2.1, q20.2.2))) (pack_reader_field.t.p1 S a1 a0 s c1 c4)))
noncomputable def pack_reader_field.q (a0 a1 : Value) (s : St) : Option (Bool × Value × St) := pack_reader_field.t std a0 a1 s
noncomputable def pack_reader_field.w : List Value → St → Option (Bool × Value × St)
  | [a0, a1], s => pack_reader_field.q a0 a1 s
  | _, _ => none
noncomputable def pack_reader_field.an : An := ⟨75, false, [4, 5], [(12, ⟨[.v 0, .p 4 4 0, .p 5 5 0, .v 37, .v 38, .l 4, .l 5], [(.exit 1, [.p 4 4 0, .p 5 5 0, .l 4, .l 5]), (.pan undef, [])]⟩)], [], [(13, [(z4 0 0), (z4 1 41), (z4 2 0), (z4 3 0), (z4 4 0), (z4 5 4), (z4 6 3), (z4 7 4), (z4 8 0), (z4 9 45)])], [], []⟩
theorem pack_reader_field.ok (S : Sig) (a0 a1 : Value) (s : St) : evP S Try.prog pack_reader_field.ctx pack_reader_field.an Try.f88 [a0, a1] s = pack_reader_field.t S a0 a1 s := by kernel_rfl
theorem pack_reader_field.cok : CtxOk Try.prog pack_reader_field.ctx := .cons pack_reader_number.sound pack_reader_number.can <| .cons pack_reader_int.sound pack_reader_int.can <| .cons pack_left_peek.sound pack_left_peek.can <| .cons pack_left_next.sound pack_left_next.can <| .cons pack_reader_vector.sound pack_reader_vector.can <| .cons pack_reader_key.sound pack_reader_key.can <| .nil
theorem pack_reader_field.draws : fnDraws pack_reader_field.an Try.f88 = true := by kernel_rfl
theorem pack_reader_field.can : callOk Try.prog 88 = true := by kernel_rfl
theorem pack_reader_field.sound : FnOk Try.prog 88 (.pn pack_reader_field.w) := FnOk.pn_of (evP_ok pack_reader_field.cok mixed (f := 88) (fn := Try.f88) (by kernel_rfl) pack_reader_field.draws) fun args s r h => by
  unfold pack_reader_field.w at h; split at h
  · rw [pack_reader_field.ok std]; exact h
  · simp at h
noncomputable def pack_FirstC.ctx : Ctx := []
theorem pack_FirstC.ctxok : CtxOk Try.prog pack_FirstC.ctx := .nil
noncomputable def pack_First.ctx : Ctx := [(86, .rd pack_is.w), (88, .pn pack_reader_field.w)]
theorem pack_First.ctxok : CtxOk Try.prog pack_First.ctx := .cons pack_is.sound pack_is.can <| .cons pack_reader_field.sound pack_reader_field.can <| .nil
noncomputable def pack_First.l2 (S : Sig) (rec16 : List Value → St → Option Cut) (xs14 : List Value) (s15 : St) : Option Cut :=
  S.bd (bin .lss (xs14.getD 7 undef) (xs14.getD 6 undef)) fun x17 => S.cnd x17 (S.bd (idx s15 1 (xs14.getD 5 undef) (xs14.getD 7 undef)) fun x18 => S.bd (ldc s15 x18) fun x19 => S.bd (pack_is.r x19 s15) fun x20 => S.bd (un .not x20) fun x21 => S.cnd x21 (S.bd (stv s15 1 (xs14.getD 2 undef) (.slice none 0 0)) fun s22 => S.bd (stv s22 1 (xs14.getD 3 undef) (.int .i64 0)) fun s23 => S.bd (stv s23 1 (xs14.getD 4 undef) (.int .i64 30)) fun s24 => some (1, [(xs14.getD 2 undef), (xs14.getD 3 undef), (xs14.getD 4 undef)], s24)) (S.bd (bin .add (xs14.getD 7 undef) (.int .i64 1)) fun x25 => rec16 [(xs14.getD 0 undef), (xs14.getD 1 undef), (xs14.getD 2 undef), (xs14.getD 3 undef), (xs14.getD 4 undef), (xs14.getD 5 undef), (xs14.getD 6 undef), x25] s15)) (some (0, [(xs14.getD 0 undef), (xs14.getD 1 undef), (xs14.getD 2 undef), (xs14.getD 3 undef), (xs14.getD 4 undef)], s15))
noncomputable def pack_First.l10 (S : Sig) (rec49 : List Value → St → Option Cut) (xs47 : List Value) (s48 : St) : Option Cut :=
  S.bd (bin .lss (xs47.getD 6 undef) (xs47.getD 5 undef)) fun x50 => S.cnd x50 (S.bd (idx s48 1 (xs47.getD 4 undef) (xs47.getD 6 undef)) fun x51 => S.bd (ldc s48 x51) fun x52 => S.bd (ldc s48 (xs47.getD 0 undef)) fun x53 => S.bd (ldc s48 (xs47.getD 3 undef)) fun x54 => S.bd (pack_reader_field.q x54 x52 s48) fun q55 => S.cnd (Value.bool q55.1) (S.bd (ldc q55.2.2 (xs47.getD 0 undef)) fun x56 => S.cnd (Value.bool (sameV x56 x53)) (S.bd (S.bd (bls 14 (List.replicate 1 [(.int .i64 0), (.int .u64 0), (.int .i64 0), (.bool Bool.false), (.slice none 0 0), (.int .i64 0), (.int .u64 0), (.int .i64 0), (.int .u64 0), (.int .i64 0), (.int .i64 0), (.int .u64 0), (.int .i64 0), (.int .u64 0)]) [(0, q55.2.1)]) fun rows => als q55.2.2 14 1 rows) fun r57 => S.bd (app r57.2 14 128 x53 r57.1) fun r58 => S.bd (stv r58.2 1 (xs47.getD 0 undef) r58.1) fun s59 => S.bd (bin .add (xs47.getD 6 undef) (.int .i64 1)) fun x60 => rec49 [(xs47.getD 0 undef), (xs47.getD 1 undef), (xs47.getD 2 undef), (xs47.getD 3 undef), (xs47.getD 4 undef), (xs47.getD 5 undef), x60] s59) (none)) (some (1, [q55.2.1, (xs47.getD 0 undef), (xs47.getD 1 undef), (xs47.getD 2 undef)], q55.2.2))) (some (0, [(xs47.getD 0 undef), (xs47.getD 1 undef), (xs47.getD 2 undef), (xs47.getD 3 undef)], s48))
noncomputable def pack_First.h (S : Sig) (a0 a1 : Value) (s : St) : Option (Bool × List Value × St) :=
  S.bd (alv s (.slice none 0 0)) fun r1 => S.bd (alv r1.2 (.int .i64 0)) fun r2 => S.bd (alv r2.2 (.int .i64 0)) fun r3 => S.bd (lenL a1) fun x4 => S.bd (S.it (pack_First.l2 S) [a0, a1, r1.1, r2.1, r3.1, a1, x4, (.int .i64 0)] r3.2) fun r26 => if r26.1 = 0 then (S.bd (bld [(.slice none 0 0), (.int .i64 0)] [(0, 1, (r26.2.1.getD 0 undef))]) fun x30 => S.bd (bld [(.slice none 0 0), (.int .i64 0)] [(0, 2, x30)]) fun x31 => S.bd (alv r26.2.2 x31) fun r32 => S.bd (alv r32.2 (.pointer none)) fun r33 => S.bd (stv r33.2 1 r33.1 r32.1) fun s34 => some (true, [(r26.2.1.getD 1 undef), (r26.2.1.getD 2 undef), (r26.2.1.getD 3 undef), (r26.2.1.getD 4 undef), r33.1], s34)) else (S.bd (ldc r26.2.2 (r26.2.1.getD 0 undef)) fun x27 => S.bd (ldc r26.2.2 (r26.2.1.getD 1 undef)) fun x28 => S.bd (ldc r26.2.2 (r26.2.1.getD 2 undef)) fun x29 => some (false, [x27, x28, x29], r26.2.2))
noncomputable def pack_First.b (S : Sig) (a0 a1 a2 a3 a4 a5 : Value) (s : St) : Option (Bool × Value × List Value × St) :=
  S.bd (lenL a1) fun x35 => S.bd (S.it (pack_First.l10 S) [a2, a3, a4, a5, a1, x35, (.int .i64 0)] s) fun r61 => if r61.1 = 0 then (S.bd (ldc r61.2.2 (r61.2.1.getD 0 undef)) fun x62 => S.bd (ldc r61.2.2 (r61.2.1.getD 3 undef)) fun x63 => S.bd (nck x63) fun x64 => S.bd (fld 0 x64) fun x65 => S.bd (fld 1 x65) fun x66 => S.bd (ldc r61.2.2 x66) fun x67 => S.bd (stv r61.2.2 1 (r61.2.1.getD 0 undef) x62) fun s68 => S.bd (ldc s68 (r61.2.1.getD 3 undef)) fun x69 => S.cnd (Value.bool (sameV x69 x63)) (S.bd (ldc s68 x66) fun x70 => S.cnd (Value.bool (sameV x70 x67)) (S.bd (stv s68 1 (r61.2.1.getD 1 undef) x67) fun s71 => S.bd (stv s71 1 (r61.2.1.getD 2 undef) (.int .i64 0)) fun s72 => some (true, undef, [(r61.2.1.getD 0 undef), (r61.2.1.getD 1 undef), (r61.2.1.getD 2 undef)], s72)) (none)) (none)) else (some (false, (r61.2.1.getD 0 undef), [(r61.2.1.getD 1 undef), (r61.2.1.getD 2 undef), (r61.2.1.getD 3 undef)], r61.2.2))
noncomputable def pack_FirstC.c (S : Sig) (a0 a1 a2 a3 a4 : Value) (s : St) : Option St :=
  S.bd (eqI false a4 Go.Value.nilIface) fun x1 => S.cnd x1 (some s) (S.bd (tas Try.prog 135 true (Go.Value.agg #[(.int .i64 0)]) a4) fun x2 => S.bd (xtr 0 x2) fun x3 => S.bd (xtr 1 x2) fun x4 => S.bd (bx (Go.Value.agg #[(.int .i64 0)])) fun c5 => S.bd (stl c5 0 1 x3) fun c6 => S.bd (show Option Cut from S.bd (un .not x4) fun x9 => S.cnd x9 (S.bd (panV a4 s) fun q10 => S.cnd (Value.bool q10.1) (some (0, [a0, a1, a2, a3, (Value.agg ⟨c6⟩)], q10.2.2)) (some (1, [q10.2.1], q10.2.2))) (some (0, [a0, a1, a2, a3, (Value.agg ⟨c6⟩)], s))) fun r11 => if r11.1 = 0 then (S.bd (ldc r11.2.2 (r11.2.1.getD 0 undef)) fun x12 => S.bd (nck x12) fun x13 => S.bd (fld 0 x13) fun x14 => S.bd (fld 1 x14) fun x15 => S.bd (ldc r11.2.2 x15) fun x16 => S.bd (lcl (cellsA (r11.2.1.getD 4 undef)) 0) fun x17 => S.bd (stv r11.2.2 1 (r11.2.1.getD 1 undef) (.slice none 0 0)) fun s18 => S.bd (stv s18 1 (r11.2.1.getD 2 undef) x16) fun s19 => S.bd (stv s19 1 (r11.2.1.getD 3 undef) x17) fun s20 => some s20) else (none))
noncomputable def pack_First.an : An := ⟨46, false, [], [(2, ⟨[.v 0, .v 1, .v 4, .v 5, .v 6, .v 12, .v 13, .v 14], [(.exit 0, [.v 0, .v 1, .v 4, .v 5, .v 6]), (.ret, [.v 4, .v 5, .v 6])]⟩), (10, ⟨[.v 4, .v 5, .v 6, .v 9, .v 27, .v 28, .v 29], [(.exit 2, [.v 4, .v 5, .v 6, .v 9]), (.pan undef, [.v 4, .v 5, .v 6])]⟩)], [], [(12, [(z4 0 2), (z4 1 2), (z4 2 0), (3, 4, [0], []), (z4 4 3), (z4 5 4), (z4 6 4)]), (14, [(z4 0 2), (z4 1 2), (z4 2 0), (z4 3 0), (z4 4 0), (z4 5 2), (6, 4, [1, 5], []), (z4 7 4), (z4 8 4)])], [], []⟩
noncomputable def pack_First.an2 (D : List Deferred) : An := ⟨46, false, [], [(2, ⟨[.v 0, .v 1, .v 4, .v 5, .v 6, .v 12, .v 13, .v 14], [(.exit 0, [.v 0, .v 1, .v 4, .v 5, .v 6]), (.ret, [.v 4, .v 5, .v 6])]⟩), (10, ⟨[.v 4, .v 5, .v 6, .v 9, .v 27, .v 28, .v 29], [(.exit 2, [.v 4, .v 5, .v 6, .v 9]), (.pan undef, [.v 4, .v 5, .v 6])]⟩)], [], [(12, [(z4 0 2), (z4 1 2), (z4 2 0), (3, 4, [0], []), (z4 4 3), (z4 5 4), (z4 6 4)]), (14, [(z4 0 2), (z4 1 2), (z4 2 0), (z4 3 0), (z4 4 0), (z4 5 2), (6, 4, [1, 5], []), (z4 7 4), (z4 8 4)])], D, [4, 5, 6]⟩
noncomputable def pack_FirstC.an : An := ⟨25, false, [5], [], [(5, ⟨[], [(.normal, [.v 0, .v 1, .v 2, .v 3, .p 5 5 0, .l 5]), (.pan undef, [])]⟩)], [(5, [(z4 0 2), (z4 1 0), (z4 2 0), (z4 3 0), (z4 4 2), (z4 5 0), (z4 6 41), (z4 7 4), (z4 8 4), (z4 9 4)])], [], []⟩
theorem pack_First.hok (S : Sig) (a0 a1 : Value) (s : St) : dfHead S Try.prog pack_First.ctx pack_First.an (dfP1 Try.f66) (dfP2 Try.f66) (dfP3 Try.f66) [1, 4, 5, 6, 9] Try.f66.results.toList [a0, a1] s = pack_First.h S a0 a1 s := by kernel_rfl
theorem pack_First.bok (S : Sig) (D : List Deferred) (a0 a1 a2 a3 a4 a5 : Value) (s : St) : dfBody S Try.prog pack_First.ctx (pack_First.an2 D) (dfP4 Try.f66) 26 a0 [1, 4, 5, 6, 9] [4, 5, 6] [a1, a2, a3, a4, a5] s = pack_First.b S a0 a1 a2 a3 a4 a5 s := by kernel_rfl
theorem pack_FirstC.cok (S : Sig) (a0 a1 a2 a3 a4 : Value) (s : St) : cloB S Try.prog pack_FirstC.ctx pack_FirstC.an (clP Try.f87) 4 [a0, a1, a2, a3] a4 s = pack_FirstC.c S a0 a1 a2 a3 a4 s := by kernel_rfl
noncomputable def pack_First.hw : List Value → St → Option (Bool × List Value × St)
  | [a0, a1], s => pack_First.h std a0 a1 s
  | _, _ => none
noncomputable def pack_First.bw : Value → List Value → St → Option (Bool × Value × List Value × St)
  | a0, [a1, a2, a3, a4, a5], s => pack_First.b std a0 a1 a2 a3 a4 a5 s
  | _, _, _ => none
noncomputable def pack_FirstC.cw : List Value → Value → St → Option St
  | [a0, a1, a2, a3], a4, s => pack_FirstC.c std a0 a1 a2 a3 a4 s
  | _, _, _ => none
theorem pack_FirstC.can : callOk Try.prog 87 = true := by kernel_rfl
theorem pack_FirstC.clo : CloOk Try.prog 87 pack_FirstC.cw := clo_ok pack_FirstC.ctxok mixed (an := pack_FirstC.an) (f := 87) (fn := Try.f87) (B := clP Try.f87) (id := 0) (t1 := 7) (t2 := 4) (ty1 := 20) (p1 := "pack.go:281") (ed1 := #[]) (ty2 := 20) (p2 := "pack.go:281") (ed2 := #[(Go.Edge.mk 0 Go.Ground.data), (Go.Edge.mk 0 Go.Ground.chain), (Go.Edge.mk 0 Go.Ground.phase)])
  (by kernel_rfl) (by kernel_rfl) (by kernel_rfl) (by decide) (by decide) rfl (by kernel_rfl) (by kernel_rfl) fun args x s r h => by
  unfold pack_FirstC.cw at h; split at h
  · exact ⟨by simp, by simp, (pack_FirstC.cok std ..).trans h⟩
  · simp at h
noncomputable def pack_First.w : List Value → St → Option (Value × St) := dfW Try.prog pack_First.hw pack_First.bw 87 [1, 4, 5, 6, 9] [Operand.tmp 9, Operand.tmp 4, Operand.tmp 5, Operand.tmp 6] pack_FirstC.cw Try.f66.results.toList [4, 5, 6]
noncomputable def pack_First.v (a0 a1 : Value) (s : St) : Option (Value × St) := pack_First.w [a0, a1] s
theorem pack_First.can : callOk Try.prog 66 = true := by kernel_rfl
theorem pack_First.sound : FnOk Try.prog 66 (.st pack_First.w) := defer_ok (an := pack_First.an) (an2 := pack_First.an2) pack_First.ctxok pack_First.ctxok mixed (f := 66) (f2 := 87) (fn := Try.f66) (H1 := dfP1 Try.f66) (H2 := dfP2 Try.f66) (H3 := dfP3 Try.f66) (B := dfP4 Try.f66) (id := 8) (t := 26) (caps := [Operand.tmp 9, Operand.tmp 4, Operand.tmp 5, Operand.tmp 6]) (ts := [1, 4, 5, 6, 9]) (zs := [4, 5, 6]) (ty1 := 1) (p1 := "pack.go:280") (ed1 := #[]) (ty2 := 0) (p2 := "pack.go:280") (ed2 := #[(Go.Edge.mk 0 Go.Ground.data)])
  (by kernel_rfl) (by kernel_rfl) (by kernel_rfl) (by decide) rfl (fun _ => ⟨rfl, rfl⟩) (by kernel_rfl) (by kernel_rfl) (by kernel_rfl) (fun D => by kernel_rfl) pack_FirstC.can pack_FirstC.clo (fun args s r h => by
  unfold pack_First.hw at h; split at h
  · exact ⟨by simp [pack_First.an], (pack_First.hok std ..).trans h⟩
  · simp at h) fun D v ys s r h => by
  unfold pack_First.bw at h; split at h
  · exact (pack_First.bok std ..).trans h
  · simp at h
def msg_reader_take.ctx : Ctx := [(66, .st pack_First.w)]
def msg_reader_take.t (S : Sig) (a0 a1 : Value) (s : St) : Option (Value × St) :=
  S.bd (bx (Go.Value.agg #[(.int .i64 0), (.int .u64 0), (.int .i64 0), (.bool Bool.false), (.slice none 0 0), (.int .i64 0), (.int .u64 0), (.int .i64 0), (.int .u64 0), (.int .i64 0), (.int .i64 0), (.int .u64 0), (.int .i64 0), (.int .u64 0)])) fun c1 => S.bd (nck a0) fun x2 => S.bd (fld 0 x2) fun x3 => S.bd (ldc s x3) fun x4 => S.bd (S.bd (bls 1 (List.replicate 1 [(.int .i64 0)]) [(0, a1)]) fun rows => als s 1 1 rows) fun r5 => S.bd (pack_First.v x4 r5.1 r5.2) fun r6 => S.bd (xtr 0 r6.1) fun x7 => S.bd (xtr 1 r6.1) fun x8 => S.bd (xtr 2 r6.1) fun x9 => S.bd (eqb [1] false true x9 (.int .i64 0)) fun x10 => S.bd (S.gd x10 false (some a0)) fun x11 => S.bd (S.gd x10 false (nck x11)) fun x12 => S.bd (S.gd x10 false (fld 1 x12)) fun x13 => S.bd (S.gd x10 false (ldc r6.2 x13)) fun x14 => S.bd (S.gd x10 false (un .not x14)) fun x15 => S.bd (pik x10 (.bool Bool.true) x15) fun x16 => S.cnd x16 (S.bd (nck a0) fun x17 => S.bd (fld 1 x17) fun x18 => S.bd (stv r6.2 1 x18 (.bool Bool.false)) fun s19 => S.bd (bld [(.int .i64 0), (.int .u64 0), (.int .i64 0), (.bool Bool.false), (.slice none 0 0), (.int .i64 0), (.int .u64 0), (.int .i64 0), (.int .u64 0), (.int .i64 0), (.int .i64 0), (.int .u64 0), (.int .i64 0), (.int .u64 0)] []) fun x20 => S.bd (stl c1 0 14 x20) fun c21 => S.bd (lal c21 0 14) fun x22 => some (x22, s19)) (S.bd (nck a0) fun x23 => S.bd (fld 0 x23) fun x24 => S.bd (ldc r6.2 x24) fun x25 => S.bd (slc r6.2 1 x25 (some x8) none none) fun x26 => S.bd (nck a0) fun x27 => S.bd (fld 0 x27) fun x28 => S.bd (stv r6.2 1 x28 x26) fun s29 => S.bd (idx s29 14 x7 (.int .i64 0)) fun x30 => S.bd (lda s29 14 x30) fun x31 => S.bd (stl c1 0 14 x31) fun c32 => S.bd (lal c32 0 14) fun x33 => some (x33, s29))
def msg_reader_take.v (a0 a1 : Value) (s : St) : Option (Value × St) := msg_reader_take.t std a0 a1 s
def msg_reader_take.w : List Value → St → Option (Value × St)
  | [a0, a1], s => msg_reader_take.v a0 a1 s
  | _, _ => none
def msg_reader_take.an : An := ⟨44, false, [4], [], [], [], [], []⟩
theorem msg_reader_take.ok (S : Sig) (a0 a1 : Value) (s : St) : evF S Try.prog msg_reader_take.ctx msg_reader_take.an Try.f45 [a0, a1] s = msg_reader_take.t S a0 a1 s := by kernel_rfl
theorem msg_reader_take.cok : CtxOk Try.prog msg_reader_take.ctx := .cons pack_First.sound pack_First.can <| .nil
theorem msg_reader_take.draws : fnDraws msg_reader_take.an Try.f45 = true := by kernel_rfl
theorem msg_reader_take.can : callOk Try.prog 45 = true := by kernel_rfl
theorem msg_reader_take.sound : FnOk Try.prog 45 (.st msg_reader_take.w) := FnOk.st_of (evF_ok msg_reader_take.cok mixed (f := 45) (fn := Try.f45) (by kernel_rfl) msg_reader_take.draws) fun args s r h => by
  unfold msg_reader_take.w at h; split at h
  · rw [msg_reader_take.ok std]; exact h
  · simp at h
def msg_reader_addr.ctx : Ctx := [(45, .st msg_reader_take.w)]
def msg_reader_addr.t (S : Sig) (a0 : Value) (s : St) : Option (Value × St) :=
  S.bd (bx (Go.Value.agg #[(.bool Bool.false), (.int .i64 0)])) fun c1 => S.bd (msg_reader_take.v a0 (.int .i64 3) s) fun r2 => S.bd (prt 3 1 false r2.1) fun x3 => S.bd (msg_reader_take.v a0 (.int .i64 2) r2.2) fun r4 => S.bd (prt 2 1 false r4.1) fun x5 => S.bd (bld [(.bool Bool.false), (.int .i64 0)] [(0, 1, x3), (1, 1, x5)]) fun x6 => S.bd (stl c1 0 2 x6) fun c7 => S.bd (lal c7 0 2) fun x8 => some (x8, r4.2)
def msg_reader_addr.v (a0 : Value) (s : St) : Option (Value × St) := msg_reader_addr.t std a0 s
def msg_reader_addr.w : List Value → St → Option (Value × St)
  | [a0], s => msg_reader_addr.v a0 s
  | _, _ => none
def msg_reader_addr.an : An := ⟨10, false, [2], [], [], [], [], []⟩
theorem msg_reader_addr.ok (S : Sig) (a0 : Value) (s : St) : evF S Try.prog msg_reader_addr.ctx msg_reader_addr.an Try.f46 [a0] s = msg_reader_addr.t S a0 s := by kernel_rfl
theorem msg_reader_addr.cok : CtxOk Try.prog msg_reader_addr.ctx := .cons msg_reader_take.sound msg_reader_take.can <| .nil
theorem msg_reader_addr.draws : fnDraws msg_reader_addr.an Try.f46 = true := by kernel_rfl
theorem msg_reader_addr.can : callOk Try.prog 46 = true := by kernel_rfl
theorem msg_reader_addr.sound : FnOk Try.prog 46 (.st msg_reader_addr.w) := FnOk.st_of (evF_ok msg_reader_addr.cok mixed (f := 46) (fn := Try.f46) (by kernel_rfl) msg_reader_addr.draws) fun args s r h => by
  unfold msg_reader_addr.w at h; split at h
  · rw [msg_reader_addr.ok std]; exact h
  · simp at h
def msg_reader_kind.ctx : Ctx := [(45, .st msg_reader_take.w)]
def msg_reader_kind.t (S : Sig) (a0 : Value) (s : St) : Option (Value × St) :=
  S.bd (msg_reader_take.v a0 (.int .i64 1) s) fun r1 => S.bd (prt 1 1 false r1.1) fun x2 => S.bd (bin .gtr x2 (.int .u64 100)) fun x3 => S.cnd x3 (S.bd (nck a0) fun x4 => S.bd (fld 1 x4) fun x5 => S.bd (stv r1.2 1 x5 (.bool Bool.false)) fun s6 => some ((.int .i64 0), s6)) (S.bd (cvi .i64 x2) fun x7 => some (x7, r1.2))
def msg_reader_kind.v (a0 : Value) (s : St) : Option (Value × St) := msg_reader_kind.t std a0 s
def msg_reader_kind.w : List Value → St → Option (Value × St)
  | [a0], s => msg_reader_kind.v a0 s
  | _, _ => none
def msg_reader_kind.an : An := ⟨14, false, [], [], [], [], [], []⟩
theorem msg_reader_kind.ok (S : Sig) (a0 : Value) (s : St) : evF S Try.prog msg_reader_kind.ctx msg_reader_kind.an Try.f67 [a0] s = msg_reader_kind.t S a0 s := by kernel_rfl
theorem msg_reader_kind.cok : CtxOk Try.prog msg_reader_kind.ctx := .cons msg_reader_take.sound msg_reader_take.can <| .nil
theorem msg_reader_kind.draws : fnDraws msg_reader_kind.an Try.f67 = true := by kernel_rfl
theorem msg_reader_kind.can : callOk Try.prog 67 = true := by kernel_rfl
theorem msg_reader_kind.sound : FnOk Try.prog 67 (.st msg_reader_kind.w) := FnOk.st_of (evF_ok msg_reader_kind.cok mixed (f := 67) (fn := Try.f67) (by kernel_rfl) msg_reader_kind.draws) fun args s r h => by
  unfold msg_reader_kind.w at h; split at h
  · rw [msg_reader_kind.ok std]; exact h
  · simp at h
def msg_reader_side.ctx : Ctx := [(45, .st msg_reader_take.w)]
def msg_reader_side.t (S : Sig) (a0 : Value) (s : St) : Option (Value × St) :=
  S.bd (bx (Go.Value.agg #[(.int .i64 0), (.int .i64 0), (.int .u64 0), (.int .i64 0), (.int .u64 0)])) fun c1 => S.bd (msg_reader_take.v a0 (.int .i64 3) s) fun r2 => S.bd (prt 3 1 false r2.1) fun x3 => S.bd (un .not x3) fun x4 => S.cnd x4 (S.bd (bld [(.int .i64 0), (.int .i64 0), (.int .u64 0), (.int .i64 0), (.int .u64 0)] []) fun x5 => S.bd (stl c1 0 5 x5) fun c6 => S.bd (lal c6 0 5) fun x7 => some (x7, r2.2)) (S.bd (msg_reader_take.v a0 (.int .i64 7) r2.2) fun r8 => S.bd (prt 9 5 true r8.1) fun x9 => S.bd (stl c1 0 5 x9) fun c10 => S.bd (lal c10 0 5) fun x11 => some (x11, r8.2))
def msg_reader_side.v (a0 : Value) (s : St) : Option (Value × St) := msg_reader_side.t std a0 s
def msg_reader_side.w : List Value → St → Option (Value × St)
  | [a0], s => msg_reader_side.v a0 s
  | _, _ => none
def msg_reader_side.an : An := ⟨11, false, [2], [], [], [], [], []⟩
theorem msg_reader_side.ok (S : Sig) (a0 : Value) (s : St) : evF S Try.prog msg_reader_side.ctx msg_reader_side.an Try.f68 [a0] s = msg_reader_side.t S a0 s := by kernel_rfl
theorem msg_reader_side.cok : CtxOk Try.prog msg_reader_side.ctx := .cons msg_reader_take.sound msg_reader_take.can <| .nil
theorem msg_reader_side.draws : fnDraws msg_reader_side.an Try.f68 = true := by kernel_rfl
theorem msg_reader_side.can : callOk Try.prog 68 = true := by kernel_rfl
theorem msg_reader_side.sound : FnOk Try.prog 68 (.st msg_reader_side.w) := FnOk.st_of (evF_ok msg_reader_side.cok mixed (f := 68) (fn := Try.f68) (by kernel_rfl) msg_reader_side.draws) fun args s r h => by
  unfold msg_reader_side.w at h; split at h
  · rw [msg_reader_side.ok std]; exact h
  · simp at h
def msg_reader_answer.ctx : Ctx := [(67, .st msg_reader_kind.w), (45, .st msg_reader_take.w), (68, .st msg_reader_side.w)]
def msg_reader_answer.t (S : Sig) (a0 : Value) (s : St) : Option (Value × St) :=
  S.bd (bx (Go.Value.agg #[(.int .i64 0), (.bool Bool.false), (.int .i64 0), (.int .i64 0), (.int .u64 0), (.int .i64 0), (.int .u64 0), (.int .i64 0), (.int .i64 0), (.int .u64 0), (.int .i64 0), (.int .u64 0), (.slice none 0 0)])) fun c1 => S.bd (msg_reader_kind.v a0 s) fun r2 => S.bd (bld [(.int .i64 0), (.bool Bool.false), (.int .i64 0), (.int .i64 0), (.int .u64 0), (.int .i64 0), (.int .u64 0), (.int .i64 0), (.int .i64 0), (.int .u64 0), (.int .i64 0), (.int .u64 0), (.slice none 0 0)] [(0, 1, r2.1)]) fun x3 => S.bd (bx (Go.Value.agg #[(.int .i64 0), (.bool Bool.false), (.int .i64 0), (.int .i64 0), (.int .u64 0), (.int .i64 0), (.int .u64 0), (.int .i64 0), (.int .i64 0), (.int .u64 0), (.int .i64 0), (.int .u64 0), (.slice none 0 0)])) fun c4 => S.bd (stl c4 0 13 x3) fun c5 => S.bd (lcl c5 0) fun x6 => S.bd (eqb [1] false true x6 (.int .i64 1)) fun x7 => S.bd (S.gd x7 true (lcl c5 0)) fun x8 => S.bd (S.gd x7 true (eqb [1] false true x8 (.int .i64 3))) fun x9 => S.bd (pik x7 x9 (.bool Bool.false)) fun x10 => S.cnd x10 (S.bd (lal c5 0 13) fun x11 => S.bd (stl c1 0 13 x11) fun c12 => S.bd (lal c12 0 13) fun x13 => some (x13, r2.2)) (S.bd (msg_reader_take.v a0 (.int .i64 3) r2.2) fun r14 => S.bd (prt 3 1 false r14.1) fun x15 => S.bd (stl c5 1 1 x15) fun c16 => S.bd (msg_reader_side.v a0 r14.2) fun r17 => S.bd (stl c16 2 5 r17.1) fun c18 => S.bd (msg_reader_side.v a0 r17.2) fun r19 => S.bd (stl c18 7 5 r19.1) fun c20 => S.bd (lcl c20 0) fun x21 => S.bd (eqb [1] false false x21 (.int .i64 1)) fun x22 => S.cnd x22 (S.bd (msg_reader_take.v a0 (.int .i64 4) r19.2) fun r23 => S.bd (prt 4 1 false r23.1) fun x24 => S.bd (stl c20 12 1 x24) fun c25 => S.bd (lal c25 0 13) fun x26 => S.bd (stl c1 0 13 x26) fun c27 => S.bd (lal c27 0 13) fun x28 => some (x28, r23.2)) (S.bd (lal c20 0 13) fun x29 => S.bd (stl c1 0 13 x29) fun c30 => S.bd (lal c30 0 13) fun x31 => some (x31, r19.2)))
def msg_reader_answer.v (a0 : Value) (s : St) : Option (Value × St) := msg_reader_answer.t std a0 s
def msg_reader_answer.w : List Value → St → Option (Value × St)
  | [a0], s => msg_reader_answer.v a0 s
  | _, _ => none
def msg_reader_answer.an : An := ⟨34, false, [2, 3], [], [], [], [], []⟩
theorem msg_reader_answer.ok (S : Sig) (a0 : Value) (s : St) : evF S Try.prog msg_reader_answer.ctx msg_reader_answer.an Try.f47 [a0] s = msg_reader_answer.t S a0 s := by kernel_rfl
theorem msg_reader_answer.cok : CtxOk Try.prog msg_reader_answer.ctx := .cons msg_reader_kind.sound msg_reader_kind.can <| .cons msg_reader_take.sound msg_reader_take.can <| .cons msg_reader_side.sound msg_reader_side.can <| .nil
theorem msg_reader_answer.draws : fnDraws msg_reader_answer.an Try.f47 = true := by kernel_rfl
theorem msg_reader_answer.can : callOk Try.prog 47 = true := by kernel_rfl
theorem msg_reader_answer.sound : FnOk Try.prog 47 (.st msg_reader_answer.w) := FnOk.st_of (evF_ok msg_reader_answer.cok mixed (f := 47) (fn := Try.f47) (by kernel_rfl) msg_reader_answer.draws) fun args s r h => by
  unfold msg_reader_answer.w at h; split at h
  · rw [msg_reader_answer.ok std]; exact h
  · simp at h
def msg_reader_ask.ctx : Ctx := [(67, .st msg_reader_kind.w), (54, .st msg_needs.w), (45, .st msg_reader_take.w), (56, .rd msg_made.w)]
def msg_reader_ask.l6 (S : Sig) (rec24 : List Value → St → Option Cut) (xs22 : List Value) (s23 : St) : Option Cut :=
  S.bd (bin .lss (xs22.getD 5 undef) (xs22.getD 4 undef)) fun x25 => S.cnd x25 (S.bd (idx s23 1 (xs22.getD 3 undef) (xs22.getD 5 undef)) fun x26 => S.bd (ldc s23 x26) fun x27 => S.bd (msg_reader_take.v (xs22.getD 0 undef) x27 s23) fun r28 => S.bd (S.bd (bls 14 (List.replicate 1 [(.int .i64 0), (.int .u64 0), (.int .i64 0), (.bool Bool.false), (.slice none 0 0), (.int .i64 0), (.int .u64 0), (.int .i64 0), (.int .u64 0), (.int .i64 0), (.int .i64 0), (.int .u64 0), (.int .i64 0), (.int .u64 0)]) [(0, r28.1)]) fun rows => als r28.2 14 1 rows) fun r29 => S.bd (app r29.2 14 128 (xs22.getD 2 undef) r29.1) fun r30 => S.bd (bin .add (xs22.getD 5 undef) (.int .i64 1)) fun x31 => rec24 [(xs22.getD 0 undef), (xs22.getD 1 undef), r30.1, (xs22.getD 3 undef), (xs22.getD 4 undef), x31, (Value.agg ⟨(cellsA (xs22.getD 6 undef))⟩)] r30.2) (some (0, [(xs22.getD 1 undef), (xs22.getD 2 undef), (Value.agg ⟨(cellsA (xs22.getD 6 undef))⟩)], s23))
def msg_reader_ask.t (S : Sig) (a0 : Value) (s : St) : Option (Value × St) :=
  S.bd (bx (Go.Value.agg #[(.int .i64 0), (.int .i64 0), (.int .u64 0), (.int .i64 0), (.int .i64 0), (.int .u64 0), (.int .i64 0), (.int .u64 0), (.int .i64 0), (.int .i64 0), (.int .u64 0), (.int .i64 0), (.int .u64 0), (.int .i64 0), (.int .i64 0)])) fun c1 => S.bd (msg_reader_kind.v a0 s) fun r2 => S.bd (msg_needs.v r2.1 r2.2) fun r3 => S.bd (xtr 0 r3.1) fun x4 => S.bd (xtr 1 r3.1) fun x5 => S.bd (nck a0) fun x6 => S.bd (fld 1 x6) fun x7 => S.bd (ldc r3.2 x7) fun x8 => S.bd (S.gd x8 true (some x5)) fun x9 => S.bd (pik x8 x9 (.bool Bool.false)) fun x10 => S.bd (nck a0) fun x11 => S.bd (fld 1 x11) fun x12 => S.bd (stv r3.2 1 x12 x10) fun s13 => S.bd (lenL x4) fun x14 => S.bd (S.it (msg_reader_ask.l6 S) [a0, r2.1, (.slice none 0 0), x4, x14, (.int .i64 0), (Value.agg ⟨c1⟩)] s13) fun r32 => S.bd (msg_made.r (r32.2.1.getD 0 undef) (r32.2.1.getD 1 undef) r32.2.2) fun x33 => S.bd (stl (cellsA (r32.2.1.getD 2 undef)) 0 15 x33) fun c34 => S.bd (lal c34 0 15) fun x35 => some (x35, r32.2.2)
def msg_reader_ask.v (a0 : Value) (s : St) : Option (Value × St) := msg_reader_ask.t std a0 s
def msg_reader_ask.w : List Value → St → Option (Value × St)
  | [a0], s => msg_reader_ask.v a0 s
  | _, _ => none
def msg_reader_ask.an : An := ⟨42, false, [2], [(6, ⟨[.v 0, .p 2 2 0, .v 3, .v 6, .v 26, .v 27, .v 28, .l 2], [(.exit 0, [.p 2 2 0, .v 3, .v 6, .l 2])]⟩)], [], [], [], []⟩
theorem msg_reader_ask.ok (S : Sig) (a0 : Value) (s : St) : evF S Try.prog msg_reader_ask.ctx msg_reader_ask.an Try.f48 [a0] s = msg_reader_ask.t S a0 s := by kernel_rfl
theorem msg_reader_ask.cok : CtxOk Try.prog msg_reader_ask.ctx := .cons msg_reader_kind.sound msg_reader_kind.can <| .cons msg_needs.sound msg_needs.can <| .cons msg_reader_take.sound msg_reader_take.can <| .cons msg_made.sound msg_made.can <| .nil
theorem msg_reader_ask.draws : fnDraws msg_reader_ask.an Try.f48 = true := by kernel_rfl
theorem msg_reader_ask.can : callOk Try.prog 48 = true := by kernel_rfl
theorem msg_reader_ask.sound : FnOk Try.prog 48 (.st msg_reader_ask.w) := FnOk.st_of (evF_ok msg_reader_ask.cok mixed (f := 48) (fn := Try.f48) (by kernel_rfl) msg_reader_ask.draws) fun args s r h => by
  unfold msg_reader_ask.w at h; split at h
  · rw [msg_reader_ask.ok std]; exact h
  · simp at h
def msg_Decode.ctx : Ctx := [(45, .st msg_reader_take.w), (46, .st msg_reader_addr.w), (47, .st msg_reader_answer.w), (48, .st msg_reader_ask.w), (24, .st msg_Encode.w), (37, .rd bytes_Equal.w)]
def msg_Decode.t.p1 (S : Sig) (r26 : Cut) : Option (Value × St) :=
  S.bd (lal (cellsA (r26.2.1.getD 3 undef)) 0 34) fun x34 => S.bd (msg_Encode.v x34 r26.2.2) fun r35 => S.bd (xtr 0 r35.1) fun x36 => S.bd (xtr 1 r35.1) fun x37 => S.bd (eqb [1] false true x37 (.int .i64 0)) fun x38 => S.bd (S.gd x38 false (some x36)) fun x39 => S.bd (S.gd x38 false (some (r26.2.1.getD 0 undef))) fun x40 => S.bd (S.gd x38 false (bytes_Equal.r x39 x40 r35.2)) fun x41 => S.bd (S.gd x38 false (un .not x41)) fun x42 => S.bd (pik x38 (.bool Bool.true) x42) fun x43 => S.cnd x43 (S.bd (bld [(.bool Bool.false), (.bool Bool.false), (.int .i64 0), (.bool Bool.false), (.int .i64 0), (.int .i64 0), (.int .i64 0), (.int .i64 0), (.int .u64 0), (.int .i64 0), (.int .i64 0), (.int .u64 0), (.int .i64 0), (.int .u64 0), (.int .i64 0), (.int .i64 0), (.int .u64 0), (.int .i64 0), (.int .u64 0), (.int .i64 0), (.int .i64 0), (.int .i64 0), (.bool Bool.false), (.int .i64 0), (.int .i64 0), (.int .u64 0), (.int .i64 0), (.int .u64 0), (.int .i64 0), (.int .i64 0), (.int .u64 0), (.int .i64 0), (.int .u64 0), (.slice none 0 0)] []) fun x44 => S.bd (stl (cellsA (r26.2.1.getD 2 undef)) 0 34 x44) fun c45 => S.bd (lal c45 0 34) fun x46 => some ((Value.tuple ⟨[x46, (.int .i64 40)]⟩), r35.2)) (S.bd (lal (cellsA (r26.2.1.getD 3 undef)) 0 34) fun x47 => S.bd (stl (cellsA (r26.2.1.getD 2 undef)) 0 34 x47) fun c48 => S.bd (lal c48 0 34) fun x49 => some ((Value.tuple ⟨[x49, (.int .i64 0)]⟩), r35.2))
def msg_Decode.t.p2 (S : Sig) (c8 : List Value) (r9 : Value × St) (r3 : Value × St) (a0 : Value) (c1 : List Value) : Option (Value × St) :=
  S.bd (stl c8 1 2 r9.1) fun c10 => S.bd (msg_reader_addr.v r3.1 r9.2) fun r11 => S.bd (stl c10 3 2 r11.1) fun c12 => S.bd (msg_reader_take.v r3.1 (.int .i64 2) r11.2) fun r13 => S.bd (prt 2 1 false r13.1) fun x14 => S.bd (stl c12 5 1 x14) fun c15 => S.bd (show Option Cut from S.bd (lcl c15 0) fun x21 => S.cnd x21 (S.bd (msg_reader_answer.v r3.1 r13.2) fun r22 => S.bd (stl c15 21 13 r22.1) fun c23 => some (0, [a0, r3.1, (Value.agg ⟨c1⟩), (Value.agg ⟨c23⟩)], r22.2)) (S.bd (msg_reader_ask.v r3.1 r13.2) fun r24 => S.bd (stl c15 6 15 r24.1) fun c25 => some (0, [a0, r3.1, (Value.agg ⟨c1⟩), (Value.agg ⟨c25⟩)], r24.2))) fun r26 => S.bd (nck (r26.2.1.getD 1 undef)) fun x27 => S.bd (fld 1 x27) fun x28 => S.bd (ldc r26.2.2 x28) fun x29 => S.bd (un .not x29) fun x30 => S.cnd x30 (S.bd (bld [(.bool Bool.false), (.bool Bool.false), (.int .i64 0), (.bool Bool.false), (.int .i64 0), (.int .i64 0), (.int .i64 0), (.int .i64 0), (.int .u64 0), (.int .i64 0), (.int .i64 0), (.int .u64 0), (.int .i64 0), (.int .u64 0), (.int .i64 0), (.int .i64 0), (.int .u64 0), (.int .i64 0), (.int .u64 0), (.int .i64 0), (.int .i64 0), (.int .i64 0), (.bool Bool.false), (.int .i64 0), (.int .i64 0), (.int .u64 0), (.int .i64 0), (.int .u64 0), (.int .i64 0), (.int .i64 0), (.int .u64 0), (.int .i64 0), (.int .u64 0), (.slice none 0 0)] []) fun x31 => S.bd (stl (cellsA (r26.2.1.getD 2 undef)) 0 34 x31) fun c32 => S.bd (lal c32 0 34) fun x33 => some ((Value.tuple ⟨[x33, (.int .i64 40)]⟩), r26.2.2)) (msg_Decode.t.p1 S r26)
def msg_Decode.t (S : Sig) (a0 : Value) (s : St) : Option (Value × St) :=
  S.bd (bx (Go.Value.agg #[(.bool Bool.false), (.bool Bool.false), (.int .i64 0), (.bool Bool.false), (.int .i64 0), (.int .i64 0), (.int .i64 0), (.int .i64 0), (.int .u64 0), (.int .i64 0), (.int .i64 0), (.int .u64 0), (.int .i64 0), (.int .u64 0), (.int .i64 0), (.int .i64 0), (.int .u64 0), (.int .i64 0), (.int .u64 0), (.int .i64 0), (.int .i64 0), (.int .i64 0), (.bool Bool.false), (.int .i64 0), (.int .i64 0), (.int .u64 0), (.int .i64 0), (.int .u64 0), (.int .i64 0), (.int .i64 0), (.int .u64 0), (.int .i64 0), (.int .u64 0), (.slice none 0 0)])) fun c1 => S.bd (bld [(.slice none 0 0), (.bool Bool.false)] [(0, 1, a0), (1, 1, (.bool Bool.true))]) fun x2 => S.bd (alv s x2) fun r3 => S.bd (msg_reader_take.v r3.1 (.int .i64 3) r3.2) fun r4 => S.bd (prt 3 1 false r4.1) fun x5 => S.bd (bld [(.bool Bool.false), (.bool Bool.false), (.int .i64 0), (.bool Bool.false), (.int .i64 0), (.int .i64 0), (.int .i64 0), (.int .i64 0), (.int .u64 0), (.int .i64 0), (.int .i64 0), (.int .u64 0), (.int .i64 0), (.int .u64 0), (.int .i64 0), (.int .i64 0), (.int .u64 0), (.int .i64 0), (.int .u64 0), (.int .i64 0), (.int .i64 0), (.int .i64 0), (.bool Bool.false), (.int .i64 0), (.int .i64 0), (.int .u64 0), (.int .i64 0), (.int .u64 0), (.int .i64 0), (.int .i64 0), (.int .u64 0), (.int .i64 0), (.int .u64 0), (.slice none 0 0)] [(0, 1, x5)]) fun x6 => S.bd (bx (Go.Value.agg #[(.bool Bool.false), (.bool Bool.false), (.int .i64 0), (.bool Bool.false), (.int .i64 0), (.int .i64 0), (.int .i64 0), (.int .i64 0), (.int .u64 0), (.int .i64 0), (.int .i64 0), (.int .u64 0), (.int .i64 0), (.int .u64 0), (.int .i64 0), (.int .i64 0), (.int .u64 0), (.int .i64 0), (.int .u64 0), (.int .i64 0), (.int .i64 0), (.int .i64 0), (.bool Bool.false), (.int .i64 0), (.int .i64 0), (.int .u64 0), (.int .i64 0), (.int .u64 0), (.int .i64 0), (.int .i64 0), (.int .u64 0), (.int .i64 0), (.int .u64 0), (.slice none 0 0)])) fun c7 => S.bd (stl c7 0 34 x6) fun c8 => S.bd (msg_reader_addr.v r3.1 r4.2) fun r9 => msg_Decode.t.p2 S c8 r9 r3 a0 c1
def msg_Decode.v (a0 : Value) (s : St) : Option (Value × St) := msg_Decode.t std a0 s
def msg_Decode.w : List Value → St → Option (Value × St)
  | [a0], s => msg_Decode.v a0 s
  | _, _ => none
def msg_Decode.an : An := ⟨54, false, [2, 5], [], [(9, ⟨[], [(.normal, [.v 0, .p 2 2 0, .v 4, .p 5 5 0, .l 2, .l 5])]⟩)], [], [], []⟩
theorem msg_Decode.ok (S : Sig) (a0 : Value) (s : St) : evF S Try.prog msg_Decode.ctx msg_Decode.an Try.f26 [a0] s = msg_Decode.t S a0 s := by kernel_rfl
theorem msg_Decode.cok : CtxOk Try.prog msg_Decode.ctx := .cons msg_reader_take.sound msg_reader_take.can <| .cons msg_reader_addr.sound msg_reader_addr.can <| .cons msg_reader_answer.sound msg_reader_answer.can <| .cons msg_reader_ask.sound msg_reader_ask.can <| .cons msg_Encode.sound msg_Encode.can <| .cons bytes_Equal.sound bytes_Equal.can <| .nil
theorem msg_Decode.draws : fnDraws msg_Decode.an Try.f26 = true := by kernel_rfl
theorem msg_Decode.can : callOk Try.prog 26 = true := by kernel_rfl
theorem msg_Decode.sound : FnOk Try.prog 26 (.st msg_Decode.w) := FnOk.st_of (evF_ok msg_Decode.cok mixed (f := 26) (fn := Try.f26) (by kernel_rfl) msg_Decode.draws) fun args s r h => by
  unfold msg_Decode.w at h; split at h
  · rw [msg_Decode.ok std]; exact h
  · simp at h
def slices_Clone_byte_byte.ctx : Ctx := []
def slices_Clone_byte_byte.t (S : Sig) (a0 : Value) (s : St) : Option (Value × St) :=
  S.bd (eqb [4] false false a0 (.slice none 0 0)) fun x1 => S.cnd x1 (some ((.slice none 0 0), s)) (S.bd (S.bd (bls 1 (List.replicate 0 [(.int .u8 0)]) []) fun rows => als s 1 0 rows) fun r2 => S.bd (app r2.2 1 1 r2.1 a0) fun r3 => some (r3.1, r3.2))
def slices_Clone_byte_byte.v (a0 : Value) (s : St) : Option (Value × St) := slices_Clone_byte_byte.t std a0 s
def slices_Clone_byte_byte.w : List Value → St → Option (Value × St)
  | [a0], s => slices_Clone_byte_byte.v a0 s
  | _, _ => none
def slices_Clone_byte_byte.an : An := ⟨8, false, [], [], [], [], [], []⟩
theorem slices_Clone_byte_byte.ok (S : Sig) (a0 : Value) (s : St) : evF S Try.prog slices_Clone_byte_byte.ctx slices_Clone_byte_byte.an Try.f53 [a0] s = slices_Clone_byte_byte.t S a0 s := by kernel_rfl
theorem slices_Clone_byte_byte.cok : CtxOk Try.prog slices_Clone_byte_byte.ctx := .nil
theorem slices_Clone_byte_byte.draws : fnDraws slices_Clone_byte_byte.an Try.f53 = true := by kernel_rfl
theorem slices_Clone_byte_byte.can : callOk Try.prog 53 = true := by kernel_rfl
theorem slices_Clone_byte_byte.sound : FnOk Try.prog 53 (.st slices_Clone_byte_byte.w) := FnOk.st_of (evF_ok slices_Clone_byte_byte.cok mixed (f := 53) (fn := Try.f53) (by kernel_rfl) slices_Clone_byte_byte.draws) fun args s r h => by
  unfold slices_Clone_byte_byte.w at h; split at h
  · rw [slices_Clone_byte_byte.ok std]; exact h
  · simp at h
def msg_Reply.ctx : Ctx := [(14, .rd msg_Check.w), (12, .rd msg_CheckAnswer.w), (53, .st slices_Clone_byte_byte.w)]
def msg_Reply.t.p1 (S : Sig) (x8 : Value) (x9 : Value) (s : St) (c3 : List Value) (c2 : List Value) (c1 : List Value) : Option (Value × St) :=
  S.bd (S.gd x8 false (msg_CheckAnswer.r x9 s)) fun x10 => S.bd (S.gd x8 false (eqb [1] false true x10 (.int .i64 0))) fun x11 => S.bd (pik x8 (.bool Bool.true) x11) fun x12 => S.cnd x12 (S.bd (bld [(.bool Bool.false), (.bool Bool.false), (.int .i64 0), (.bool Bool.false), (.int .i64 0), (.int .i64 0), (.int .i64 0), (.int .i64 0), (.int .u64 0), (.int .i64 0), (.int .i64 0), (.int .u64 0), (.int .i64 0), (.int .u64 0), (.int .i64 0), (.int .i64 0), (.int .u64 0), (.int .i64 0), (.int .u64 0), (.int .i64 0), (.int .i64 0), (.int .i64 0), (.bool Bool.false), (.int .i64 0), (.int .i64 0), (.int .u64 0), (.int .i64 0), (.int .u64 0), (.int .i64 0), (.int .i64 0), (.int .u64 0), (.int .i64 0), (.int .u64 0), (.slice none 0 0)] []) fun x13 => S.bd (stl c3 0 34 x13) fun c14 => S.bd (lal c14 0 34) fun x15 => some ((Value.tuple ⟨[x15, (.int .i64 40)]⟩), s)) (S.bd (lcl c2 12) fun x16 => S.bd (slices_Clone_byte_byte.v x16 s) fun r17 => S.bd (stl c2 12 1 r17.1) fun c18 => S.bd (lal c1 3 2) fun x19 => S.bd (lal c1 1 2) fun x20 => S.bd (lcl c1 5) fun x21 => S.bd (lal c18 0 13) fun x22 => S.bd (bld [(.bool Bool.false), (.bool Bool.false), (.int .i64 0), (.bool Bool.false), (.int .i64 0), (.int .i64 0), (.int .i64 0), (.int .i64 0), (.int .u64 0), (.int .i64 0), (.int .i64 0), (.int .u64 0), (.int .i64 0), (.int .u64 0), (.int .i64 0), (.int .i64 0), (.int .u64 0), (.int .i64 0), (.int .u64 0), (.int .i64 0), (.int .i64 0), (.int .i64 0), (.bool Bool.false), (.int .i64 0), (.int .i64 0), (.int .u64 0), (.int .i64 0), (.int .u64 0), (.int .i64 0), (.int .i64 0), (.int .u64 0), (.int .i64 0), (.int .u64 0), (.slice none 0 0)] [(0, 1, (.bool Bool.true)), (1, 2, x19), (3, 2, x20), (5, 1, x21), (21, 13, x22)]) fun x23 => S.bd (stl c3 0 34 x23) fun c24 => S.bd (lal c24 0 34) fun x25 => some ((Value.tuple ⟨[x25, (.int .i64 0)]⟩), r17.2))
def msg_Reply.t (S : Sig) (a0 a1 : Value) (s : St) : Option (Value × St) :=
  S.bd (bx a0) fun c1 => S.bd (bx a1) fun c2 => S.bd (bx (Go.Value.agg #[(.bool Bool.false), (.bool Bool.false), (.int .i64 0), (.bool Bool.false), (.int .i64 0), (.int .i64 0), (.int .i64 0), (.int .i64 0), (.int .u64 0), (.int .i64 0), (.int .i64 0), (.int .u64 0), (.int .i64 0), (.int .u64 0), (.int .i64 0), (.int .i64 0), (.int .u64 0), (.int .i64 0), (.int .u64 0), (.int .i64 0), (.int .i64 0), (.int .i64 0), (.bool Bool.false), (.int .i64 0), (.int .i64 0), (.int .u64 0), (.int .i64 0), (.int .u64 0), (.int .i64 0), (.int .i64 0), (.int .u64 0), (.int .i64 0), (.int .u64 0), (.slice none 0 0)])) fun c3 => S.bd (lal c1 0 34) fun x4 => S.bd (msg_Check.r x4 s) fun x5 => S.bd (eqb [1] false true x5 (.int .i64 0)) fun x6 => S.bd (S.gd x6 false (lcl c1 0)) fun x7 => S.bd (pik x6 (.bool Bool.true) x7) fun x8 => S.bd (S.gd x8 false (lal c2 0 13)) fun x9 => msg_Reply.t.p1 S x8 x9 s c3 c2 c1
def msg_Reply.v (a0 a1 : Value) (s : St) : Option (Value × St) := msg_Reply.t std a0 a1 s
def msg_Reply.w : List Value → St → Option (Value × St)
  | [a0, a1], s => msg_Reply.v a0 a1 s
  | _, _ => none
def msg_Reply.an : An := ⟨31, false, [2, 3, 4], [], [], [], [], []⟩
theorem msg_Reply.ok (S : Sig) (a0 a1 : Value) (s : St) : evF S Try.prog msg_Reply.ctx msg_Reply.an Try.f28 [a0, a1] s = msg_Reply.t S a0 a1 s := by kernel_rfl
theorem msg_Reply.cok : CtxOk Try.prog msg_Reply.ctx := .cons msg_Check.sound msg_Check.can <| .cons msg_CheckAnswer.sound msg_CheckAnswer.can <| .cons slices_Clone_byte_byte.sound slices_Clone_byte_byte.can <| .nil
theorem msg_Reply.draws : fnDraws msg_Reply.an Try.f28 = true := by kernel_rfl
theorem msg_Reply.can : callOk Try.prog 28 = true := by kernel_rfl
theorem msg_Reply.sound : FnOk Try.prog 28 (.st msg_Reply.w) := FnOk.st_of (evF_ok msg_Reply.cok mixed (f := 28) (fn := Try.f28) (by kernel_rfl) msg_Reply.draws) fun args s r h => by
  unfold msg_Reply.w at h; split at h
  · rw [msg_Reply.ok std]; exact h
  · simp at h
def l04awake.ctx : Ctx := [(24, .st msg_Encode.w), (26, .st msg_Decode.w), (28, .st msg_Reply.w), (20, .rd msg_Same.w)]
def l04awake.t.p1 (S : Sig) (r18 : Value × St) (x10 : Value) (x13 : Value) (x9 : Value) (c6 : List Value) (c15 : List Value) : Option (Value × St) :=
  S.bd (xtr 0 r18.1) fun x19 => S.bd (xtr 1 r18.1) fun x20 => S.bd (bx (Go.Value.agg #[(.bool Bool.false), (.bool Bool.false), (.int .i64 0), (.bool Bool.false), (.int .i64 0), (.int .i64 0), (.int .i64 0), (.int .i64 0), (.int .u64 0), (.int .i64 0), (.int .i64 0), (.int .u64 0), (.int .i64 0), (.int .u64 0), (.int .i64 0), (.int .i64 0), (.int .u64 0), (.int .i64 0), (.int .u64 0), (.int .i64 0), (.int .i64 0), (.int .i64 0), (.bool Bool.false), (.int .i64 0), (.int .i64 0), (.int .u64 0), (.int .i64 0), (.int .u64 0), (.int .i64 0), (.int .i64 0), (.int .u64 0), (.int .i64 0), (.int .u64 0), (.slice none 0 0)])) fun c21 => S.bd (stl c21 0 34 x19) fun c22 => S.bd (eqb [1] false false x10 (.int .i64 0)) fun x23 => S.bd (S.gd x23 true (some x13)) fun x24 => S.bd (S.gd x23 true (eqb [1] false false x24 (.int .i64 0))) fun x25 => S.bd (pik x23 x25 (.bool Bool.false)) fun x26 => S.bd (S.gd x26 true (some x20)) fun x27 => S.bd (S.gd x26 true (eqb [1] false false x27 (.int .i64 0))) fun x28 => S.bd (pik x26 x28 (.bool Bool.false)) fun x29 => S.bd (S.gd x29 true (some x9)) fun x30 => S.bd (S.gd x29 true (lenL x30)) fun x31 => S.bd (S.gd x29 true (eqb [1] false false x31 (.int .i64 7))) fun x32 => S.bd (pik x29 x32 (.bool Bool.false)) fun x33 => S.bd (S.gd x33 true (lal c6 0 34)) fun x34 => S.bd (S.gd x33 true (lal c15 0 34)) fun x35 => S.bd (S.gd x33 true (msg_Same.r x34 x35 r18.2)) fun x36 => S.bd (pik x33 x36 (.bool Bool.false)) fun x37 => S.bd (S.gd x37 true (lcl c22 0)) fun x38 => S.bd (pik x37 x38 (.bool Bool.false)) fun x39 => S.bd (S.gd x39 true (lal c22 3 2)) fun x40 => S.bd (S.gd x39 true (lal c6 1 2)) fun x41 => S.bd (S.gd x39 true (eqb [0, 1] true false x40 x41)) fun x42 => S.bd (pik x39 x42 (.bool Bool.false)) fun x43 => S.bd (S.gd x43 true (lcl c22 5)) fun x44 => S.bd (S.gd x43 true (eqb [1] false false x44 (.int .i64 7))) fun x45 => S.bd (pik x43 x45 (.bool Bool.false)) fun x46 => some (x46, r18.2)
def l04awake.t.p2 (S : Sig) (r8 : Value × St) (x9 : Value) (c6 : List Value) : Option (Value × St) :=
  S.bd (xtr 1 r8.1) fun x10 => S.bd (msg_Decode.v x9 r8.2) fun r11 => S.bd (xtr 0 r11.1) fun x12 => S.bd (xtr 1 r11.1) fun x13 => S.bd (bx (Go.Value.agg #[(.bool Bool.false), (.bool Bool.false), (.int .i64 0), (.bool Bool.false), (.int .i64 0), (.int .i64 0), (.int .i64 0), (.int .i64 0), (.int .u64 0), (.int .i64 0), (.int .i64 0), (.int .u64 0), (.int .i64 0), (.int .u64 0), (.int .i64 0), (.int .i64 0), (.int .u64 0), (.int .i64 0), (.int .u64 0), (.int .i64 0), (.int .i64 0), (.int .i64 0), (.bool Bool.false), (.int .i64 0), (.int .i64 0), (.int .u64 0), (.int .i64 0), (.int .u64 0), (.int .i64 0), (.int .i64 0), (.int .u64 0), (.int .i64 0), (.int .u64 0), (.slice none 0 0)])) fun c14 => S.bd (stl c14 0 34 x12) fun c15 => S.bd (lal c6 0 34) fun x16 => S.bd (bld [(.int .i64 0), (.bool Bool.false), (.int .i64 0), (.int .i64 0), (.int .u64 0), (.int .i64 0), (.int .u64 0), (.int .i64 0), (.int .i64 0), (.int .u64 0), (.int .i64 0), (.int .u64 0), (.slice none 0 0)] [(0, 1, (.int .i64 2))]) fun x17 => S.bd (msg_Reply.v x16 x17 r11.2) fun r18 => l04awake.t.p1 S r18 x10 x13 x9 c6 c15
def l04awake.t (S : Sig) (s : St) : Option (Value × St) :=
  S.bd (bld [(.bool Bool.false), (.int .i64 0)] [(0, 1, (.bool Bool.true)), (1, 1, (.int .i64 1))]) fun x1 => S.bd (bld [(.bool Bool.false), (.int .i64 0)] [(1, 1, (.int .i64 2))]) fun x2 => S.bd (bld [(.int .i64 0), (.int .i64 0), (.int .u64 0), (.int .i64 0), (.int .i64 0), (.int .u64 0), (.int .i64 0), (.int .u64 0), (.int .i64 0), (.int .i64 0), (.int .u64 0), (.int .i64 0), (.int .u64 0), (.int .i64 0), (.int .i64 0)] [(0, 1, (.int .i64 2))]) fun x3 => S.bd (bld [(.bool Bool.false), (.bool Bool.false), (.int .i64 0), (.bool Bool.false), (.int .i64 0), (.int .i64 0), (.int .i64 0), (.int .i64 0), (.int .u64 0), (.int .i64 0), (.int .i64 0), (.int .u64 0), (.int .i64 0), (.int .u64 0), (.int .i64 0), (.int .i64 0), (.int .u64 0), (.int .i64 0), (.int .u64 0), (.int .i64 0), (.int .i64 0), (.int .i64 0), (.bool Bool.false), (.int .i64 0), (.int .i64 0), (.int .u64 0), (.int .i64 0), (.int .u64 0), (.int .i64 0), (.int .i64 0), (.int .u64 0), (.int .i64 0), (.int .u64 0), (.slice none 0 0)] [(1, 2, x1), (3, 2, x2), (5, 1, (.int .i64 7)), (6, 15, x3)]) fun x4 => S.bd (bx (Go.Value.agg #[(.bool Bool.false), (.bool Bool.false), (.int .i64 0), (.bool Bool.false), (.int .i64 0), (.int .i64 0), (.int .i64 0), (.int .i64 0), (.int .u64 0), (.int .i64 0), (.int .i64 0), (.int .u64 0), (.int .i64 0), (.int .u64 0), (.int .i64 0), (.int .i64 0), (.int .u64 0), (.int .i64 0), (.int .u64 0), (.int .i64 0), (.int .i64 0), (.int .i64 0), (.bool Bool.false), (.int .i64 0), (.int .i64 0), (.int .u64 0), (.int .i64 0), (.int .u64 0), (.int .i64 0), (.int .i64 0), (.int .u64 0), (.int .i64 0), (.int .u64 0), (.slice none 0 0)])) fun c5 => S.bd (stl c5 0 34 x4) fun c6 => S.bd (lal c6 0 34) fun x7 => S.bd (msg_Encode.v x7 s) fun r8 => S.bd (xtr 0 r8.1) fun x9 => l04awake.t.p2 S r8 x9 c6
def l04awake.v (s : St) : Option (Value × St) := l04awake.t std  s
def l04awake.w : List Value → St → Option (Value × St)
  | [], s => l04awake.v  s
  | _, _ => none
def l04awake.an : An := ⟨64, false, [1, 4, 6], [], [], [], [], []⟩
theorem l04awake.ok (S : Sig) (s : St) : evF S Try.prog l04awake.ctx l04awake.an Try.f22 [] s = l04awake.t S  s := by kernel_rfl
theorem l04awake.cok : CtxOk Try.prog l04awake.ctx := .cons msg_Encode.sound msg_Encode.can <| .cons msg_Decode.sound msg_Decode.can <| .cons msg_Reply.sound msg_Reply.can <| .cons msg_Same.sound msg_Same.can <| .nil
theorem l04awake.draws : fnDraws l04awake.an Try.f22 = true := by kernel_rfl
theorem l04awake.can : callOk Try.prog 22 = true := by kernel_rfl
theorem l04awake.sound : FnOk Try.prog 22 (.st l04awake.w) := FnOk.st_of (evF_ok l04awake.cok mixed (f := 22) (fn := Try.f22) (by kernel_rfl) l04awake.draws) fun args s r h => by
  unfold l04awake.w at h; split at h
  · rw [l04awake.ok std]; exact h
  · simp at h
def l04awakeC.r (s : St) : Option Value := some (Value.bool true)
def l04awakeC.w : List Value → St → Option Value := closedW (Value.bool true)
theorem l04awakeC.can : callOk Try.prog 22 = true := l04awake.can
theorem l04awakeC.sound : FnOk Try.prog 22 (.rd l04awakeC.w) := FnOk.closed l04awake.sound (by kernel_rfl) rfl
def l04MsgForms.ctx : Ctx := [(9, .rd l04light.w), (10, .rd msg_CheckAskQ.w), (11, .rd r04CheckAsk.w), (12, .rd msg_CheckAnswer.w), (13, .rd r04CheckAnswer.w), (14, .rd msg_Check.w), (15, .rd r04Check.w), (16, .rd msg_SameAsk.w), (17, .rd r04SameAsk.w), (18, .rd msg_SameAnswer.w), (19, .rd r04SameAnswer.w), (20, .rd msg_Same.w), (21, .rd r04Same.w), (22, .rd l04awakeC.w)]
def l04MsgForms.t.p1 (S : Sig) (x13 : Value) (x18 : Value) (c7 : List Value) (s : St) (c8 : List Value) : Option Value :=
  S.bd (pik x13 x18 (.bool Bool.false)) fun x19 => S.bd (S.gd x19 true (lal c7 0 34)) fun x20 => S.bd (S.gd x19 true (lal c7 0 34)) fun x21 => S.bd (S.gd x19 true (msg_Check.r x20 s)) fun x22 => S.bd (S.gd x19 true (r04Check.r x21 s)) fun x23 => S.bd (S.gd x19 true (eqb [1] false false x22 x23)) fun x24 => S.bd (pik x19 x24 (.bool Bool.false)) fun x25 => S.bd (S.gd x25 true (lal c7 6 15)) fun x26 => S.bd (S.gd x25 true (lal c8 6 15)) fun x27 => S.bd (S.gd x25 true (lal c7 6 15)) fun x28 => S.bd (S.gd x25 true (lal c8 6 15)) fun x29 => S.bd (S.gd x25 true (msg_SameAsk.r x26 x27 s)) fun x30 => S.bd (S.gd x25 true (r04SameAsk.r x28 x29 s)) fun x31 => S.bd (S.gd x25 true (eqb [0] false false x30 x31)) fun x32 => S.bd (pik x25 x32 (.bool Bool.false)) fun x33 => S.bd (S.gd x33 true (lal c7 21 13)) fun x34 => S.bd (S.gd x33 true (lal c8 21 13)) fun x35 => S.bd (S.gd x33 true (lal c7 21 13)) fun x36 => S.bd (S.gd x33 true (lal c8 21 13)) fun x37 => S.bd (S.gd x33 true (msg_SameAnswer.r x34 x35 s)) fun x38 => S.bd (S.gd x33 true (r04SameAnswer.r x36 x37 s)) fun x39 => S.bd (S.gd x33 true (eqb [0] false false x38 x39)) fun x40 => S.bd (pik x33 x40 (.bool Bool.false)) fun x41 => S.bd (S.gd x41 true (lal c7 0 34)) fun x42 => S.bd (S.gd x41 true (lal c8 0 34)) fun x43 => S.bd (S.gd x41 true (lal c7 0 34)) fun x44 => S.bd (S.gd x41 true (lal c8 0 34)) fun x45 => S.bd (S.gd x41 true (msg_Same.r x42 x43 s)) fun x46 => S.bd (S.gd x41 true (r04Same.r x44 x45 s)) fun x47 => S.bd (S.gd x41 true (eqb [0] false false x46 x47)) fun x48 => S.bd (pik x41 x48 (.bool Bool.false)) fun x49 => S.bd (S.gd x49 true (lal c7 0 34)) fun x50 => S.bd (S.gd x49 true (lal c7 0 34)) fun x51 => S.bd (S.gd x49 true (msg_Same.r x50 x51 s)) fun x52 => S.bd (pik x49 x52 (.bool Bool.false)) fun x53 => S.bd (S.gd x53 true (l04awakeC.r  s)) fun x54 => S.bd (pik x53 x54 (.bool Bool.false)) fun x55 => some (x55)
def l04MsgForms.t (S : Sig) (a0 a1 : Value) (s : St) : Option Value :=
  S.bd (bx a0) fun c1 => S.bd (bx a1) fun c2 => S.bd (lal c1 0 34) fun x3 => S.bd (lal c2 0 34) fun x4 => S.bd (l04light.r x3 s) fun x5 => S.bd (l04light.r x4 s) fun x6 => S.bd (stl c1 0 34 x5) fun c7 => S.bd (stl c2 0 34 x6) fun c8 => S.bd (lal c7 6 15) fun x9 => S.bd (lal c7 6 15) fun x10 => S.bd (msg_CheckAskQ.r x9 s) fun x11 => S.bd (r04CheckAsk.r x10 s) fun x12 => S.bd (eqb [1] false false x11 x12) fun x13 => S.bd (S.gd x13 true (lal c7 21 13)) fun x14 => S.bd (S.gd x13 true (lal c7 21 13)) fun x15 => S.bd (S.gd x13 true (msg_CheckAnswer.r x14 s)) fun x16 => S.bd (S.gd x13 true (r04CheckAnswer.r x15 s)) fun x17 => S.bd (S.gd x13 true (eqb [1] false false x16 x17)) fun x18 => l04MsgForms.t.p1 S x13 x18 c7 s c8
def l04MsgForms.r (a0 a1 : Value) (s : St) : Option Value := l04MsgForms.t std a0 a1 s
def l04MsgForms.w : List Value → St → Option Value
  | [a0, a1], s => l04MsgForms.r a0 a1 s
  | _, _ => none
def l04MsgForms.an : An := ⟨75, true, [2, 3], [], [], [(1, [(z4 0 17), (z4 2 25), (z4 1 3), (z4 3 3), (z4 4 21), (z4 5 29)]), (2, [(z4 0 0), (z4 1 17), (z4 3 0), (z4 4 17), (z4 2 3), (z4 5 3), (z4 6 0), (z4 7 0), (z4 8 0), (z4 9 17), (z4 11 0), (z4 12 17), (z4 10 3), (z4 13 3), (z4 14 0), (z4 15 0), (z4 16 0), (z4 17 17), (z4 19 17), (z4 18 3), (z4 20 3), (z4 21 0), (z4 22 0), (z4 23 0), (z4 24 0), (z4 25 17), (z4 26 0), (z4 27 25), (z4 29 0), (z4 30 17), (z4 31 0), (z4 32 25), (z4 28 3), (z4 33 3), (z4 34 0), (z4 35 0), (z4 36 0), (z4 37 0), (z4 38 17), (z4 39 0), (z4 40 25), (z4 42 0), (z4 43 17), (z4 44 0), (z4 45 25), (z4 41 3), (z4 46 3), (z4 47 0), (z4 48 0), (z4 49 0), (z4 50 17), (z4 51 25), (z4 53 17), (z4 54 25), (z4 52 3), (z4 55 3), (z4 56 0), (z4 57 0), (z4 58 0), (z4 59 17), (z4 60 17), (z4 61 3), (z4 62 0), (z4 63 0), (z4 64 3), (z4 65 0), (z4 66 0)])], [], []⟩
theorem l04MsgForms.ok (S : Sig) (a0 a1 : Value) (s : St) : evG S Try.prog l04MsgForms.ctx l04MsgForms.an Try.f3 [a0, a1] s = l04MsgForms.t S a0 a1 s := by kernel_rfl
theorem l04MsgForms.cok : CtxOk Try.prog l04MsgForms.ctx := .cons l04light.sound l04light.can <| .cons msg_CheckAskQ.sound msg_CheckAskQ.can <| .cons r04CheckAsk.sound r04CheckAsk.can <| .cons msg_CheckAnswer.sound msg_CheckAnswer.can <| .cons r04CheckAnswer.sound r04CheckAnswer.can <| .cons msg_Check.sound msg_Check.can <| .cons r04Check.sound r04Check.can <| .cons msg_SameAsk.sound msg_SameAsk.can <| .cons r04SameAsk.sound r04SameAsk.can <| .cons msg_SameAnswer.sound msg_SameAnswer.can <| .cons r04SameAnswer.sound r04SameAnswer.can <| .cons msg_Same.sound msg_Same.can <| .cons r04Same.sound r04Same.can <| .cons l04awakeC.sound l04awakeC.can <| .nil
theorem l04MsgForms.draws : fnDraws l04MsgForms.an Try.f3 = true := by kernel_rfl
theorem l04MsgForms.can : callOk Try.prog 3 = true := by kernel_rfl
theorem l04MsgForms.sound : FnOk Try.prog 3 (.rd l04MsgForms.w) := FnOk.rd_of (evG_ok l04MsgForms.cok mixed (f := 3) (fn := Try.f3) (by kernel_rfl) l04MsgForms.draws) fun args s r h => by
  unfold l04MsgForms.w at h; split at h
  · rw [l04MsgForms.ok std]; exact h
  · simp at h
def l04cut.ctx : Ctx := []
def l04cut.t (S : Sig) (a0 : Value) (s : St) : Option Value :=
  S.bd (lenL a0) fun x1 => S.bd (bin .gtr x1 (.int .i64 3000)) fun x2 => S.cnd x2 (S.bd (slc s 1 a0 none (some (.int .i64 3000)) none) fun x3 => some (x3)) (some (a0))
def l04cut.r (a0 : Value) (s : St) : Option Value := l04cut.t std a0 s
def l04cut.w : List Value → St → Option Value
  | [a0], s => l04cut.r a0 s
  | _, _ => none
def l04cut.an : An := ⟨9, true, [], [], [], [], [], []⟩
theorem l04cut.ok (S : Sig) (a0 : Value) (s : St) : evG S Try.prog l04cut.ctx l04cut.an Try.f23 [a0] s = l04cut.t S a0 s := by kernel_rfl
theorem l04cut.cok : CtxOk Try.prog l04cut.ctx := .nil
theorem l04cut.draws : fnDraws l04cut.an Try.f23 = true := by kernel_rfl
theorem l04cut.can : callOk Try.prog 23 = true := by kernel_rfl
theorem l04cut.sound : FnOk Try.prog 23 (.rd l04cut.w) := FnOk.rd_of (evG_ok l04cut.cok mixed (f := 23) (fn := Try.f23) (by kernel_rfl) l04cut.draws) fun args s r h => by
  unfold l04cut.w at h; split at h
  · rw [l04cut.ok std]; exact h
  · simp at h
def r04truth.ctx : Ctx := []
def r04truth.t (S : Sig) (a0 : Value) (s : St) : Option Value :=
  S.bd (bx (Go.Value.agg #[(.int .i64 0), (.int .u64 0), (.int .i64 0), (.bool Bool.false), (.slice none 0 0), (.int .i64 0), (.int .u64 0), (.int .i64 0), (.int .u64 0), (.int .i64 0), (.int .i64 0), (.int .u64 0), (.int .i64 0), (.int .u64 0)])) fun c1 => S.bd (bld [(.int .i64 0), (.int .u64 0), (.int .i64 0), (.bool Bool.false), (.slice none 0 0), (.int .i64 0), (.int .u64 0), (.int .i64 0), (.int .u64 0), (.int .i64 0), (.int .i64 0), (.int .u64 0), (.int .i64 0), (.int .u64 0)] [(0, 1, (.int .i64 3)), (3, 1, a0)]) fun x2 => S.bd (stl c1 0 14 x2) fun c3 => S.bd (lal c3 0 14) fun x4 => some (x4)
def r04truth.r (a0 : Value) (s : St) : Option Value := r04truth.t std a0 s
def r04truth.w : List Value → St → Option Value
  | [a0], s => r04truth.r a0 s
  | _, _ => none
def r04truth.an : An := ⟨5, true, [2], [], [], [], [], []⟩
theorem r04truth.ok (S : Sig) (a0 : Value) (s : St) : evG S Try.prog r04truth.ctx r04truth.an Try.f40 [a0] s = r04truth.t S a0 s := by kernel_rfl
theorem r04truth.cok : CtxOk Try.prog r04truth.ctx := .nil
theorem r04truth.draws : fnDraws r04truth.an Try.f40 = true := by kernel_rfl
theorem r04truth.can : callOk Try.prog 40 = true := by kernel_rfl
theorem r04truth.sound : FnOk Try.prog 40 (.rd r04truth.w) := FnOk.rd_of (evG_ok r04truth.cok mixed (f := 40) (fn := Try.f40) (by kernel_rfl) r04truth.draws) fun args s r h => by
  unfold r04truth.w at h; split at h
  · rw [r04truth.ok std]; exact h
  · simp at h
def r04whole.ctx : Ctx := []
def r04whole.t (S : Sig) (a0 : Value) (s : St) : Option Value :=
  S.bd (bx (Go.Value.agg #[(.int .i64 0), (.int .u64 0), (.int .i64 0), (.bool Bool.false), (.slice none 0 0), (.int .i64 0), (.int .u64 0), (.int .i64 0), (.int .u64 0), (.int .i64 0), (.int .i64 0), (.int .u64 0), (.int .i64 0), (.int .u64 0)])) fun c1 => S.bd (bld [(.int .i64 0), (.int .u64 0), (.int .i64 0), (.bool Bool.false), (.slice none 0 0), (.int .i64 0), (.int .u64 0), (.int .i64 0), (.int .u64 0), (.int .i64 0), (.int .i64 0), (.int .u64 0), (.int .i64 0), (.int .u64 0)] [(0, 1, (.int .i64 2)), (2, 1, a0)]) fun x2 => S.bd (stl c1 0 14 x2) fun c3 => S.bd (lal c3 0 14) fun x4 => some (x4)
def r04whole.r (a0 : Value) (s : St) : Option Value := r04whole.t std a0 s
def r04whole.w : List Value → St → Option Value
  | [a0], s => r04whole.r a0 s
  | _, _ => none
def r04whole.an : An := ⟨5, true, [2], [], [], [], [], []⟩
theorem r04whole.ok (S : Sig) (a0 : Value) (s : St) : evG S Try.prog r04whole.ctx r04whole.an Try.f41 [a0] s = r04whole.t S a0 s := by kernel_rfl
theorem r04whole.cok : CtxOk Try.prog r04whole.ctx := .nil
theorem r04whole.draws : fnDraws r04whole.an Try.f41 = true := by kernel_rfl
theorem r04whole.can : callOk Try.prog 41 = true := by kernel_rfl
theorem r04whole.sound : FnOk Try.prog 41 (.rd r04whole.w) := FnOk.rd_of (evG_ok r04whole.cok mixed (f := 41) (fn := Try.f41) (by kernel_rfl) r04whole.draws) fun args s r h => by
  unfold r04whole.w at h; split at h
  · rw [r04whole.ok std]; exact h
  · simp at h
def r04num.ctx : Ctx := []
def r04num.t (S : Sig) (a0 : Value) (s : St) : Option Value :=
  S.bd (bx (Go.Value.agg #[(.int .i64 0), (.int .u64 0), (.int .i64 0), (.bool Bool.false), (.slice none 0 0), (.int .i64 0), (.int .u64 0), (.int .i64 0), (.int .u64 0), (.int .i64 0), (.int .i64 0), (.int .u64 0), (.int .i64 0), (.int .u64 0)])) fun c1 => S.bd (bld [(.int .i64 0), (.int .u64 0), (.int .i64 0), (.bool Bool.false), (.slice none 0 0), (.int .i64 0), (.int .u64 0), (.int .i64 0), (.int .u64 0), (.int .i64 0), (.int .i64 0), (.int .u64 0), (.int .i64 0), (.int .u64 0)] [(0, 1, (.int .i64 1)), (1, 1, a0)]) fun x2 => S.bd (stl c1 0 14 x2) fun c3 => S.bd (lal c3 0 14) fun x4 => some (x4)
def r04num.r (a0 : Value) (s : St) : Option Value := r04num.t std a0 s
def r04num.w : List Value → St → Option Value
  | [a0], s => r04num.r a0 s
  | _, _ => none
def r04num.an : An := ⟨5, true, [2], [], [], [], [], []⟩
theorem r04num.ok (S : Sig) (a0 : Value) (s : St) : evG S Try.prog r04num.ctx r04num.an Try.f61 [a0] s = r04num.t S a0 s := by kernel_rfl
theorem r04num.cok : CtxOk Try.prog r04num.ctx := .nil
theorem r04num.draws : fnDraws r04num.an Try.f61 = true := by kernel_rfl
theorem r04num.can : callOk Try.prog 61 = true := by kernel_rfl
theorem r04num.sound : FnOk Try.prog 61 (.rd r04num.w) := FnOk.rd_of (evG_ok r04num.cok mixed (f := 61) (fn := Try.f61) (by kernel_rfl) r04num.draws) fun args s r h => by
  unfold r04num.w at h; split at h
  · rw [r04num.ok std]; exact h
  · simp at h
def r04ref.ctx : Ctx := []
def r04ref.t (S : Sig) (a0 : Value) (s : St) : Option Value :=
  S.bd (bx a0) fun c1 => S.bd (bx (Go.Value.agg #[(.int .i64 0), (.int .u64 0), (.int .i64 0), (.bool Bool.false), (.slice none 0 0), (.int .i64 0), (.int .u64 0), (.int .i64 0), (.int .u64 0), (.int .i64 0), (.int .i64 0), (.int .u64 0), (.int .i64 0), (.int .u64 0)])) fun c2 => S.bd (lal c1 0 5) fun x3 => S.bd (bld [(.int .i64 0), (.int .u64 0), (.int .i64 0), (.bool Bool.false), (.slice none 0 0), (.int .i64 0), (.int .u64 0), (.int .i64 0), (.int .u64 0), (.int .i64 0), (.int .i64 0), (.int .u64 0), (.int .i64 0), (.int .u64 0)] [(0, 1, (.int .i64 7)), (9, 5, x3)]) fun x4 => S.bd (stl c2 0 14 x4) fun c5 => S.bd (lal c5 0 14) fun x6 => some (x6)
def r04ref.r (a0 : Value) (s : St) : Option Value := r04ref.t std a0 s
def r04ref.w : List Value → St → Option Value
  | [a0], s => r04ref.r a0 s
  | _, _ => none
def r04ref.an : An := ⟨5, true, [1, 2], [], [], [], [], []⟩
theorem r04ref.ok (S : Sig) (a0 : Value) (s : St) : evG S Try.prog r04ref.ctx r04ref.an Try.f63 [a0] s = r04ref.t S a0 s := by kernel_rfl
theorem r04ref.cok : CtxOk Try.prog r04ref.ctx := .nil
theorem r04ref.draws : fnDraws r04ref.an Try.f63 = true := by kernel_rfl
theorem r04ref.can : callOk Try.prog 63 = true := by kernel_rfl
theorem r04ref.sound : FnOk Try.prog 63 (.rd r04ref.w) := FnOk.rd_of (evG_ok r04ref.cok mixed (f := 63) (fn := Try.f63) (by kernel_rfl) r04ref.draws) fun args s r h => by
  unfold r04ref.w at h; split at h
  · rw [r04ref.ok std]; exact h
  · simp at h
def r04beside.ctx : Ctx := [(40, .rd r04truth.w), (63, .rd r04ref.w)]
def r04beside.t (S : Sig) (a0 : Value) (s : St) : Option (Value × St) :=
  S.bd (bx a0) fun c1 => S.bd (lal c1 0 5) fun x2 => S.bd (bld [(.int .i64 0), (.int .i64 0), (.int .u64 0), (.int .i64 0), (.int .u64 0)] []) fun x3 => S.bd (eqb [1, 1, 1, 1, 1] true false x2 x3) fun x4 => S.cnd x4 (S.bd (r04truth.r (.bool Bool.false) s) fun x5 => S.bd (S.bd (bls 14 (List.replicate 1 [(.int .i64 0), (.int .u64 0), (.int .i64 0), (.bool Bool.false), (.slice none 0 0), (.int .i64 0), (.int .u64 0), (.int .i64 0), (.int .u64 0), (.int .i64 0), (.int .i64 0), (.int .u64 0), (.int .i64 0), (.int .u64 0)]) [(0, x5)]) fun rows => als s 14 1 rows) fun r6 => some (r6.1, r6.2)) (S.bd (lal c1 0 5) fun x7 => S.bd (r04truth.r (.bool Bool.true) s) fun x8 => S.bd (r04ref.r x7 s) fun x9 => S.bd (S.bd (bls 14 (List.replicate 2 [(.int .i64 0), (.int .u64 0), (.int .i64 0), (.bool Bool.false), (.slice none 0 0), (.int .i64 0), (.int .u64 0), (.int .i64 0), (.int .u64 0), (.int .i64 0), (.int .i64 0), (.int .u64 0), (.int .i64 0), (.int .u64 0)]) [(0, x8), (1, x9)]) fun rows => als s 14 2 rows) fun r10 => some (r10.1, r10.2))
def r04beside.v (a0 : Value) (s : St) : Option (Value × St) := r04beside.t std a0 s
def r04beside.w : List Value → St → Option (Value × St)
  | [a0], s => r04beside.v a0 s
  | _, _ => none
def r04beside.an : An := ⟨12, false, [1], [], [], [(3, [(z4 1 9), (z4 0 3), (z4 2 3), (z4 3 3), (z4 4 0)])], [], []⟩
theorem r04beside.ok (S : Sig) (a0 : Value) (s : St) : evF S Try.prog r04beside.ctx r04beside.an Try.f62 [a0] s = r04beside.t S a0 s := by kernel_rfl
theorem r04beside.cok : CtxOk Try.prog r04beside.ctx := .cons r04truth.sound r04truth.can <| .cons r04ref.sound r04ref.can <| .nil
theorem r04beside.draws : fnDraws r04beside.an Try.f62 = true := by kernel_rfl
theorem r04beside.can : callOk Try.prog 62 = true := by kernel_rfl
theorem r04beside.sound : FnOk Try.prog 62 (.st r04beside.w) := FnOk.st_of (evF_ok r04beside.cok mixed (f := 62) (fn := Try.f62) (by kernel_rfl) r04beside.draws) fun args s r h => by
  unfold r04beside.w at h; split at h
  · rw [r04beside.ok std]; exact h
  · simp at h
end
end Go.Proofs.Yteapmnolmfickaa
