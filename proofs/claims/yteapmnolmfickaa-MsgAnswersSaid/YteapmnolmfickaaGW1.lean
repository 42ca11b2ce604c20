/-
  What the functions answer that MsgForms, MsgReplies, MsgBytes, MsgBack, MsgApart, MsgAnswers reaches (part 1): for each function of the program a plain function over abstract values, and that the model answers as it does.
-/
import Derived.Test.YteapmnolmfickaaGW0
set_option linter.unusedVariables false
set_option maxRecDepth 100000
namespace Go.Proofs.Yteapmnolmfickaa
open Go.Sim
noncomputable section
def r04answer.ctx : Ctx := [(61, .rd r04num.w), (40, .rd r04truth.w), (62, .st r04beside.w)]
def r04answer.t (S : Sig) (a0 : Value) (s : St) : Option (Value × St) :=
  S.bd (bx a0) fun c1 => S.bd (lcl c1 0) fun x2 => S.bd (cvi .u64 x2) fun x3 => S.bd (r04num.r x3 s) fun x4 => S.bd (S.bd (bls 14 (List.replicate 1 [(.int .i64 0), (.int .u64 0), (.int .i64 0), (.bool Bool.false), (.slice none 0 0), (.int .i64 0), (.int .u64 0), (.int .i64 0), (.int .u64 0), (.int .i64 0), (.int .i64 0), (.int .u64 0), (.int .i64 0), (.int .u64 0)]) [(0, x4)]) fun rows => als s 14 1 rows) fun r5 => S.bd (show Option Cut from S.bd (lcl c1 0) fun x21 => S.bd (eqb [1] false false x21 (.int .i64 1)) fun x22 => S.bd (S.gd x22 false (lcl c1 0)) fun x23 => S.bd (S.gd x22 false (eqb [1] false false x23 (.int .i64 3))) fun x24 => S.bd (pik x22 (.bool Bool.true) x24) fun x25 => S.cnd x25 (S.bd (lcl c1 1) fun x26 => S.bd (r04truth.r x26 r5.2) fun x27 => S.bd (S.bd (bls 14 (List.replicate 1 [(.int .i64 0), (.int .u64 0), (.int .i64 0), (.bool Bool.false), (.slice none 0 0), (.int .i64 0), (.int .u64 0), (.int .i64 0), (.int .u64 0), (.int .i64 0), (.int .i64 0), (.int .u64 0), (.int .i64 0), (.int .u64 0)]) [(0, x27)]) fun rows => als r5.2 14 1 rows) fun r28 => S.bd (app r28.2 14 128 r5.1 r28.1) fun r29 => S.bd (lal c1 2 5) fun x30 => S.bd (lal c1 7 5) fun x31 => S.bd (r04beside.v x30 r29.2) fun r32 => S.bd (app r32.2 14 128 r29.1 r32.1) fun r33 => S.bd (r04beside.v x31 r33.2) fun r34 => S.bd (app r34.2 14 128 r33.1 r34.1) fun r35 => some (0, [r35.1, (Value.agg ⟨c1⟩)], r35.2)) (some (0, [r5.1, (Value.agg ⟨c1⟩)], r5.2))) fun r36 => S.bd (lcl (cellsA (r36.2.1.getD 1 undef)) 0) fun x37 => S.bd (eqb [1] false false x37 (.int .i64 1)) fun x38 => S.cnd x38 (S.bd (lcl (cellsA (r36.2.1.getD 1 undef)) 12) fun x39 => S.bd (bld [(.int .i64 0), (.int .u64 0), (.int .i64 0), (.bool Bool.false), (.slice none 0 0), (.int .i64 0), (.int .u64 0), (.int .i64 0), (.int .u64 0), (.int .i64 0), (.int .i64 0), (.int .u64 0), (.int .i64 0), (.int .u64 0)] [(0, 1, (.int .i64 4)), (4, 1, x39)]) fun x40 => S.bd (S.bd (bls 14 (List.replicate 1 [(.int .i64 0), (.int .u64 0), (.int .i64 0), (.bool Bool.false), (.slice none 0 0), (.int .i64 0), (.int .u64 0), (.int .i64 0), (.int .u64 0), (.int .i64 0), (.int .i64 0), (.int .u64 0), (.int .i64 0), (.int .u64 0)]) [(0, x40)]) fun rows => als r36.2.2 14 1 rows) fun r41 => S.bd (app r41.2 14 128 (r36.2.1.getD 0 undef) r41.1) fun r42 => some (r42.1, r42.2)) (some ((r36.2.1.getD 0 undef), r36.2.2))
def r04answer.v (a0 : Value) (s : St) : Option (Value × St) := r04answer.t std a0 s
def r04answer.w : List Value → St → Option (Value × St)
  | [a0], s => r04answer.v a0 s
  | _, _ => none
def r04answer.an : An := ⟨42, false, [1], [], [(5, ⟨[], [(.normal, [.p 1 1 0, .v 3, .l 1])]⟩)], [(4, [(z4 0 0), (z4 1 0), (z4 2 9), (z4 5 0), (z4 6 9), (z4 3 4), (z4 4 4), (z4 7 4), (z4 8 4), (z4 9 0)])], [], []⟩
theorem r04answer.ok (S : Sig) (a0 : Value) (s : St) : evF S Try.prog r04answer.ctx r04answer.an Try.f42 [a0] s = r04answer.t S a0 s := by kernel_rfl
theorem r04answer.cok : CtxOk Try.prog r04answer.ctx := .cons r04num.sound r04num.can <| .cons r04truth.sound r04truth.can <| .cons r04beside.sound r04beside.can <| .nil
theorem r04answer.draws : fnDraws r04answer.an Try.f42 = true := by kernel_rfl
theorem r04answer.can : callOk Try.prog 42 = true := by kernel_rfl
theorem r04answer.sound : FnOk Try.prog 42 (.st r04answer.w) := FnOk.st_of (evF_ok r04answer.cok mixed (f := 42) (fn := Try.f42) (by kernel_rfl) r04answer.draws) fun args s r h => by
  unfold r04answer.w at h; split at h
  · rw [r04answer.ok std]; exact h
  · simp at h
def r04ask.ctx : Ctx := [(61, .rd r04num.w), (31, .rd r04has.w), (63, .rd r04ref.w), (41, .rd r04whole.w)]
def r04ask.t.p1 (S : Sig) (x7 : Value) (x8 : Value) (c1 : List Value) (r5 : Value × St) (x9 : Value) : Option (Value × St) :=
  S.bd (xtr 2 x7) fun x10 => S.bd (xtr 3 x7) fun x11 => S.bd (show Option Cut from S.cnd x8 (S.bd (lal c1 1 2) fun x16 => S.bd (bld [(.int .i64 0), (.int .u64 0), (.int .i64 0), (.bool Bool.false), (.slice none 0 0), (.int .i64 0), (.int .u64 0), (.int .i64 0), (.int .u64 0), (.int .i64 0), (.int .i64 0), (.int .u64 0), (.int .i64 0), (.int .u64 0)] [(0, 1, (.int .i64 5)), (5, 2, x16)]) fun x17 => S.bd (S.bd (bls 14 (List.replicate 1 [(.int .i64 0), (.int .u64 0), (.int .i64 0), (.bool Bool.false), (.slice none 0 0), (.int .i64 0), (.int .u64 0), (.int .i64 0), (.int .u64 0), (.int .i64 0), (.int .i64 0), (.int .u64 0), (.int .i64 0), (.int .u64 0)]) [(0, x17)]) fun rows => als r5.2 14 1 rows) fun r18 => S.bd (app r18.2 14 128 r5.1 r18.1) fun r19 => some (0, [r19.1, x9, x10, x11, (Value.agg ⟨c1⟩)], r19.2)) (some (0, [r5.1, x9, x10, x11, (Value.agg ⟨c1⟩)], r5.2))) fun r20 => S.bd (show Option Cut from S.cnd (r20.2.1.getD 1 undef) (S.bd (lal (cellsA (r20.2.1.getD 4 undef)) 3 5) fun x25 => S.bd (r04ref.r x25 r20.2.2) fun x26 => S.bd (S.bd (bls 14 (List.replicate 1 [(.int .i64 0), (.int .u64 0), (.int .i64 0), (.bool Bool.false), (.slice none 0 0), (.int .i64 0), (.int .u64 0), (.int .i64 0), (.int .u64 0), (.int .i64 0), (.int .i64 0), (.int .u64 0), (.int .i64 0), (.int .u64 0)]) [(0, x26)]) fun rows => als r20.2.2 14 1 rows) fun r27 => S.bd (app r27.2 14 128 (r20.2.1.getD 0 undef) r27.1) fun r28 => some (0, [r28.1, (r20.2.1.getD 2 undef), (r20.2.1.getD 3 undef), (Value.agg ⟨(cellsA (r20.2.1.getD 4 undef))⟩)], r28.2)) (some (0, [(r20.2.1.getD 0 undef), (r20.2.1.getD 2 undef), (r20.2.1.getD 3 undef), (Value.agg ⟨(cellsA (r20.2.1.getD 4 undef))⟩)], r20.2.2))) fun r29 => S.bd (show Option Cut from S.cnd (r29.2.1.getD 1 undef) (S.bd (lal (cellsA (r29.2.1.getD 3 undef)) 8 5) fun x34 => S.bd (r04ref.r x34 r29.2.2) fun x35 => S.bd (S.bd (bls 14 (List.replicate 1 [(.int .i64 0), (.int .u64 0), (.int .i64 0), (.bool Bool.false), (.slice none 0 0), (.int .i64 0), (.int .u64 0), (.int .i64 0), (.int .u64 0), (.int .i64 0), (.int .i64 0), (.int .u64 0), (.int .i64 0), (.int .u64 0)]) [(0, x35)]) fun rows => als r29.2.2 14 1 rows) fun r36 => S.bd (app r36.2 14 128 (r29.2.1.getD 0 undef) r36.1) fun r37 => some (0, [r37.1, (r29.2.1.getD 2 undef), (Value.agg ⟨(cellsA (r29.2.1.getD 3 undef))⟩)], r37.2)) (some (0, [(r29.2.1.getD 0 undef), (r29.2.1.getD 2 undef), (Value.agg ⟨(cellsA (r29.2.1.getD 3 undef))⟩)], r29.2.2))) fun r38 => S.cnd (r38.2.1.getD 1 undef) (S.bd (lcl (cellsA (r38.2.1.getD 2 undef)) 13) fun x39 => S.bd (lcl (cellsA (r38.2.1.getD 2 undef)) 14) fun x40 => S.bd (r04whole.r x39 r38.2.2) fun x41 => S.bd (r04whole.r x40 r38.2.2) fun x42 => S.bd (S.bd (bls 14 (List.replicate 2 [(.int .i64 0), (.int .u64 0), (.int .i64 0), (.bool Bool.false), (.slice none 0 0), (.int .i64 0), (.int .u64 0), (.int .i64 0), (.int .u64 0), (.int .i64 0), (.int .i64 0), (.int .u64 0), (.int .i64 0), (.int .u64 0)]) [(0, x41), (1, x42)]) fun rows => als r38.2.2 14 2 rows) fun r43 => S.bd (app r43.2 14 128 (r38.2.1.getD 0 undef) r43.1) fun r44 => some (r44.1, r44.2)) (some ((r38.2.1.getD 0 undef), r38.2.2))
def r04ask.t (S : Sig) (a0 : Value) (s : St) : Option (Value × St) :=
  S.bd (bx a0) fun c1 => S.bd (lcl c1 0) fun x2 => S.bd (cvi .u64 x2) fun x3 => S.bd (r04num.r x3 s) fun x4 => S.bd (S.bd (bls 14 (List.replicate 1 [(.int .i64 0), (.int .u64 0), (.int .i64 0), (.bool Bool.false), (.slice none 0 0), (.int .i64 0), (.int .u64 0), (.int .i64 0), (.int .u64 0), (.int .i64 0), (.int .i64 0), (.int .u64 0), (.int .i64 0), (.int .u64 0)]) [(0, x4)]) fun rows => als s 14 1 rows) fun r5 => S.bd (lcl c1 0) fun x6 => S.bd (r04has.r x6 r5.2) fun x7 => S.bd (xtr 0 x7) fun x8 => S.bd (xtr 1 x7) fun x9 => r04ask.t.p1 S x7 x8 c1 r5 x9
def r04ask.v (a0 : Value) (s : St) : Option (Value × St) := r04ask.t std a0 s
def r04ask.w : List Value → St → Option (Value × St)
  | [a0], s => r04ask.v a0 s
  | _, _ => none
def r04ask.an : An := ⟨55, false, [1], [], [(5, ⟨[], [(.normal, [.p 1 1 0, .v 3, .v 5, .v 6, .v 7, .l 1])]⟩), (7, ⟨[], [(.normal, [.p 1 1 0, .v 3, .v 6, .v 7, .l 1])]⟩), (9, ⟨[], [(.normal, [.p 1 1 0, .v 3, .v 7, .l 1])]⟩)], [(10, [(z4 0 0), (z4 1 0), (z4 2 0), (z4 3 9), (z4 5 0), (z4 6 0), (z4 7 9), (z4 4 3), (z4 8 3), (z4 9 3), (z4 10 4), (z4 11 0)])], [], []⟩
theorem r04ask.ok (S : Sig) (a0 : Value) (s : St) : evF S Try.prog r04ask.ctx r04ask.an Try.f43 [a0] s = r04ask.t S a0 s := by kernel_rfl
theorem r04ask.cok : CtxOk Try.prog r04ask.ctx := .cons r04num.sound r04num.can <| .cons r04has.sound r04has.can <| .cons r04ref.sound r04ref.can <| .cons r04whole.sound r04whole.can <| .nil
theorem r04ask.draws : fnDraws r04ask.an Try.f43 = true := by kernel_rfl
theorem r04ask.can : callOk Try.prog 43 = true := by kernel_rfl
theorem r04ask.sound : FnOk Try.prog 43 (.st r04ask.w) := FnOk.st_of (evF_ok r04ask.cok mixed (f := 43) (fn := Try.f43) (by kernel_rfl) r04ask.draws) fun args s r h => by
  unfold r04ask.w at h; split at h
  · rw [r04ask.ok std]; exact h
  · simp at h
def r03IsKind.ctx : Ctx := []
def r03IsKind.t (S : Sig) (a0 : Value) (s : St) : Option Value :=
  S.bd (bin .geq a0 (.int .i64 1)) fun x1 => S.bd (S.gd x1 true (some a0)) fun x2 => S.bd (S.gd x1 true (bin .leq x2 (.int .i64 7))) fun x3 => S.bd (pik x1 x3 (.bool Bool.false)) fun x4 => some (x4)
def r03IsKind.r (a0 : Value) (s : St) : Option Value := r03IsKind.t std a0 s
def r03IsKind.w : List Value → St → Option Value
  | [a0], s => r03IsKind.r a0 s
  | _, _ => none
def r03IsKind.an : An := ⟨9, true, [], [], [], [], [], []⟩
theorem r03IsKind.ok (S : Sig) (a0 : Value) (s : St) : evG S Try.prog r03IsKind.ctx r03IsKind.an Try.f79 [a0] s = r03IsKind.t S a0 s := by kernel_rfl
theorem r03IsKind.cok : CtxOk Try.prog r03IsKind.ctx := .nil
theorem r03IsKind.draws : fnDraws r03IsKind.an Try.f79 = true := by kernel_rfl
theorem r03IsKind.can : callOk Try.prog 79 = true := by kernel_rfl
theorem r03IsKind.sound : FnOk Try.prog 79 (.rd r03IsKind.w) := FnOk.rd_of (evG_ok r03IsKind.cok mixed (f := 79) (fn := Try.f79) (by kernel_rfl) r03IsKind.draws) fun args s r h => by
  unfold r03IsKind.w at h; split at h
  · rw [r03IsKind.ok std]; exact h
  · simp at h
def r03only.ctx : Ctx := []
def r03only.t (S : Sig) (a0 : Value) (s : St) : Option Value :=
  S.bd (bx a0) fun c1 => S.bd (bx (Go.Value.agg #[(.int .i64 0), (.int .u64 0), (.int .i64 0), (.bool Bool.false), (.slice none 0 0), (.int .i64 0), (.int .u64 0), (.int .i64 0), (.int .u64 0), (.int .i64 0), (.int .i64 0), (.int .u64 0), (.int .i64 0), (.int .u64 0)])) fun c2 => S.bd (lcl c1 0) fun x3 => S.bd (bld [(.int .i64 0), (.int .u64 0), (.int .i64 0), (.bool Bool.false), (.slice none 0 0), (.int .i64 0), (.int .u64 0), (.int .i64 0), (.int .u64 0), (.int .i64 0), (.int .i64 0), (.int .u64 0), (.int .i64 0), (.int .u64 0)] [(0, 1, x3)]) fun x4 => S.bd (bx (Go.Value.agg #[(.int .i64 0), (.int .u64 0), (.int .i64 0), (.bool Bool.false), (.slice none 0 0), (.int .i64 0), (.int .u64 0), (.int .i64 0), (.int .u64 0), (.int .i64 0), (.int .i64 0), (.int .u64 0), (.int .i64 0), (.int .u64 0)])) fun c5 => S.bd (stl c5 0 14 x4) fun c6 => S.bd (lcl c1 0) fun x7 => S.bd (eqb [1] false false x7 (.int .i64 1)) fun x8 => S.cnd x8 (S.bd (lcl c1 1) fun x9 => S.bd (stl c6 1 1 x9) fun c10 => S.bd (lal c10 0 14) fun x11 => S.bd (stl c2 0 14 x11) fun c12 => S.bd (lal c12 0 14) fun x13 => some (x13)) (S.bd (eqb [1] false false x7 (.int .i64 2)) fun x14 => S.cnd x14 (S.bd (lcl c1 2) fun x15 => S.bd (stl c6 2 1 x15) fun c16 => S.bd (lal c16 0 14) fun x17 => S.bd (stl c2 0 14 x17) fun c18 => S.bd (lal c18 0 14) fun x19 => some (x19)) (S.bd (eqb [1] false false x7 (.int .i64 3)) fun x20 => S.cnd x20 (S.bd (lcl c1 3) fun x21 => S.bd (stl c6 3 1 x21) fun c22 => S.bd (lal c22 0 14) fun x23 => S.bd (stl c2 0 14 x23) fun c24 => S.bd (lal c24 0 14) fun x25 => some (x25)) (S.bd (eqb [1] false false x7 (.int .i64 4)) fun x26 => S.cnd x26 (S.bd (lcl c1 4) fun x27 => S.bd (stl c6 4 1 x27) fun c28 => S.bd (lal c28 0 14) fun x29 => S.bd (stl c2 0 14 x29) fun c30 => S.bd (lal c30 0 14) fun x31 => some (x31)) (S.bd (eqb [1] false false x7 (.int .i64 5)) fun x32 => S.cnd x32 (S.bd (lal c1 5 2) fun x33 => S.bd (stl c6 5 2 x33) fun c34 => S.bd (lal c34 0 14) fun x35 => S.bd (stl c2 0 14 x35) fun c36 => S.bd (lal c36 0 14) fun x37 => some (x37)) (S.bd (eqb [1] false false x7 (.int .i64 6)) fun x38 => S.cnd x38 (S.bd (lal c1 7 2) fun x39 => S.bd (stl c6 7 2 x39) fun c40 => S.bd (lal c40 0 14) fun x41 => S.bd (stl c2 0 14 x41) fun c42 => S.bd (lal c42 0 14) fun x43 => some (x43)) (S.bd (eqb [1] false false x7 (.int .i64 7)) fun x44 => S.cnd x44 (S.bd (lal c1 9 5) fun x45 => S.bd (stl c6 9 5 x45) fun c46 => S.bd (lal c46 0 14) fun x47 => S.bd (stl c2 0 14 x47) fun c48 => S.bd (lal c48 0 14) fun x49 => some (x49)) (S.bd (lal c6 0 14) fun x50 => S.bd (stl c2 0 14 x50) fun c51 => S.bd (lal c51 0 14) fun x52 => some (x52))))))))
def r03only.r (a0 : Value) (s : St) : Option Value := r03only.t std a0 s
def r03only.w : List Value → St → Option Value
  | [a0], s => r03only.r a0 s
  | _, _ => none
def r03only.an : An := ⟨45, true, [1, 2, 3], [], [], [], [], []⟩
theorem r03only.ok (S : Sig) (a0 : Value) (s : St) : evG S Try.prog r03only.ctx r03only.an Try.f81 [a0] s = r03only.t S a0 s := by kernel_rfl
theorem r03only.cok : CtxOk Try.prog r03only.ctx := .nil
theorem r03only.draws : fnDraws r03only.an Try.f81 = true := by kernel_rfl
theorem r03only.can : callOk Try.prog 81 = true := by kernel_rfl
theorem r03only.sound : FnOk Try.prog 81 (.rd r03only.w) := FnOk.rd_of (evG_ok r03only.cok mixed (f := 81) (fn := Try.f81) (by kernel_rfl) r03only.draws) fun args s r h => by
  unfold r03only.w at h; split at h
  · rw [r03only.ok std]; exact h
  · simp at h
def r03Same.ctx : Ctx := []
def r03Same.t (S : Sig) (a0 a1 : Value) (s : St) : Option Value :=
  S.bd (bx a0) fun c1 => S.bd (bx a1) fun c2 => S.bd (lcl c1 0) fun x3 => S.bd (lcl c2 0) fun x4 => S.bd (eqb [1] false false x3 x4) fun x5 => S.bd (S.gd x5 true (lcl c1 1)) fun x6 => S.bd (S.gd x5 true (lcl c2 1)) fun x7 => S.bd (S.gd x5 true (eqb [1] false false x6 x7)) fun x8 => S.bd (pik x5 x8 (.bool Bool.false)) fun x9 => S.bd (S.gd x9 true (lcl c1 2)) fun x10 => S.bd (S.gd x9 true (lcl c2 2)) fun x11 => S.bd (S.gd x9 true (eqb [1] false false x10 x11)) fun x12 => S.bd (pik x9 x12 (.bool Bool.false)) fun x13 => S.bd (S.gd x13 true (lcl c1 3)) fun x14 => S.bd (S.gd x13 true (lcl c2 3)) fun x15 => S.bd (S.gd x13 true (eqb [0] false false x14 x15)) fun x16 => S.bd (pik x13 x16 (.bool Bool.false)) fun x17 => S.bd (S.gd x17 true (lcl c1 4)) fun x18 => S.bd (S.gd x17 true (b2s s x18)) fun x19 => S.bd (S.gd x17 true (lcl c2 4)) fun x20 => S.bd (S.gd x17 true (b2s s x20)) fun x21 => S.bd (S.gd x17 true (eqb [2] false false x19 x21)) fun x22 => S.bd (pik x17 x22 (.bool Bool.false)) fun x23 => S.bd (S.gd x23 true (lal c1 5 2)) fun x24 => S.bd (S.gd x23 true (lal c2 5 2)) fun x25 => S.bd (S.gd x23 true (eqb [1, 1] true false x24 x25)) fun x26 => S.bd (pik x23 x26 (.bool Bool.false)) fun x27 => S.bd (S.gd x27 true (lal c1 7 2)) fun x28 => S.bd (S.gd x27 true (lal c2 7 2)) fun x29 => S.bd (S.gd x27 true (eqb [1, 1] true false x28 x29)) fun x30 => S.bd (pik x27 x30 (.bool Bool.false)) fun x31 => S.bd (S.gd x31 true (lal c1 9 5)) fun x32 => S.bd (S.gd x31 true (lal c2 9 5)) fun x33 => S.bd (S.gd x31 true (eqb [1, 1, 1, 1, 1] true false x32 x33)) fun x34 => S.bd (pik x31 x34 (.bool Bool.false)) fun x35 => some (x35)
def r03Same.r (a0 a1 : Value) (s : St) : Option Value := r03Same.t std a0 a1 s
def r03Same.w : List Value → St → Option Value
  | [a0, a1], s => r03Same.r a0 a1 s
  | _, _ => none
def r03Same.an : An := ⟨61, true, [2, 3], [], [], [], [], []⟩
theorem r03Same.ok (S : Sig) (a0 a1 : Value) (s : St) : evG S Try.prog r03Same.ctx r03Same.an Try.f80 [a0, a1] s = r03Same.t S a0 a1 s := by kernel_rfl
theorem r03Same.cok : CtxOk Try.prog r03Same.ctx := .nil
theorem r03Same.draws : fnDraws r03Same.an Try.f80 = true := by kernel_rfl
theorem r03Same.can : callOk Try.prog 80 = true := by kernel_rfl
theorem r03Same.sound : FnOk Try.prog 80 (.rd r03Same.w) := FnOk.rd_of (evG_ok r03Same.cok mixed (f := 80) (fn := Try.f80) (by kernel_rfl) r03Same.draws) fun args s r h => by
  unfold r03Same.w at h; split at h
  · rw [r03Same.ok std]; exact h
  · simp at h
def r03Check.ctx : Ctx := [(79, .rd r03IsKind.w), (81, .rd r03only.w), (80, .rd r03Same.w), (33, .rd r01Right.w), (58, .rd r03IsKey.w)]
def r03Check.t (S : Sig) (a0 : Value) (s : St) : Option Value :=
  S.bd (bx a0) fun c1 => S.bd (lcl c1 0) fun x2 => S.bd (r03IsKind.r x2 s) fun x3 => S.bd (un .not x3) fun x4 => S.bd (S.gd x4 false (lal c1 0 14)) fun x5 => S.bd (S.gd x4 false (lal c1 0 14)) fun x6 => S.bd (S.gd x4 false (r03only.r x5 s)) fun x7 => S.bd (S.gd x4 false (r03Same.r x7 x6 s)) fun x8 => S.bd (S.gd x4 false (un .not x8)) fun x9 => S.bd (pik x4 (.bool Bool.true) x9) fun x10 => S.cnd x10 (some ((.int .i64 30))) (S.bd (show Option Cut from S.bd (lcl c1 0) fun x28 => S.bd (eqb [1] false false x28 (.int .i64 4)) fun x29 => S.cnd x29 (S.bd (lcl c1 4) fun x30 => S.bd (lenL x30) fun x31 => S.bd (bin .leq x31 (.int .i64 65536)) fun x32 => some (0, [x32], s)) (S.bd (eqb [1] false false x28 (.int .i64 5)) fun x33 => S.cnd x33 (S.bd (lal c1 5 2) fun x34 => S.bd (r01Right.r x34 s) fun x35 => some (0, [x35], s)) (S.bd (eqb [1] false false x28 (.int .i64 6)) fun x36 => S.cnd x36 (S.bd (lal c1 7 2) fun x37 => S.bd (r03IsKey.r x37 s) fun x38 => some (0, [x38], s)) (S.bd (eqb [1] false false x28 (.int .i64 7)) fun x39 => S.cnd x39 (S.bd (lal c1 10 2) fun x40 => S.bd (r03IsKey.r x40 s) fun x41 => S.bd (S.gd x41 true (lal c1 12 2)) fun x42 => S.bd (S.gd x41 true (r01Right.r x42 s)) fun x43 => S.bd (pik x41 x43 (.bool Bool.false)) fun x44 => some (0, [x44], s)) (some (0, [(.bool Bool.true)], s)))))) fun r45 => S.bd (un .not (r45.2.1.getD 0 undef)) fun x46 => S.cnd x46 (some ((.int .i64 30))) (some ((.int .i64 0))))
def r03Check.r (a0 : Value) (s : St) : Option Value := r03Check.t std a0 s
def r03Check.w : List Value → St → Option Value
  | [a0], s => r03Check.r a0 s
  | _, _ => none
def r03Check.an : An := ⟨47, true, [1], [], [(14, ⟨[], [(.normal, [.v 3])]⟩)], [(1, [(z4 0 0), (z4 1 9), (z4 2 3), (z4 3 0), (z4 4 0), (z4 5 9), (z4 7 9), (z4 6 3), (z4 8 3), (z4 9 0), (z4 10 0)])], [], []⟩
theorem r03Check.ok (S : Sig) (a0 : Value) (s : St) : evG S Try.prog r03Check.ctx r03Check.an Try.f64 [a0] s = r03Check.t S a0 s := by kernel_rfl
theorem r03Check.cok : CtxOk Try.prog r03Check.ctx := .cons r03IsKind.sound r03IsKind.can <| .cons r03only.sound r03only.can <| .cons r03Same.sound r03Same.can <| .cons r01Right.sound r01Right.can <| .cons r03IsKey.sound r03IsKey.can <| .nil
theorem r03Check.draws : fnDraws r03Check.an Try.f64 = true := by kernel_rfl
theorem r03Check.can : callOk Try.prog 64 = true := by kernel_rfl
theorem r03Check.sound : FnOk Try.prog 64 (.rd r03Check.w) := FnOk.rd_of (evG_ok r03Check.cok mixed (f := 64) (fn := Try.f64) (by kernel_rfl) r03Check.draws) fun args s r h => by
  unfold r03Check.w at h; split at h
  · rw [r03Check.ok std]; exact h
  · simp at h
def r03number.ctx : Ctx := []
def r03number.l2 (S : Sig) (rec10 : List Value → St → Option Cut) (xs8 : List Value) (s9 : St) : Option Cut :=
  S.bd (bin .geq (xs8.getD 0 undef) (.int .u64 128)) fun x11 => S.cnd x11 (S.bd (bin .rem (xs8.getD 0 undef) (.int .u64 128)) fun x12 => S.bd (cvi .u8 x12) fun x13 => S.bd (bin .add x13 (.int .u8 128)) fun x14 => S.bd (S.bd (bls 1 (List.replicate 1 [(.int .u8 0)]) [(0, x14)]) fun rows => als s9 1 1 rows) fun r15 => S.bd (app r15.2 1 1 (xs8.getD 1 undef) r15.1) fun r16 => S.bd (bin .quo (xs8.getD 0 undef) (.int .u64 128)) fun x17 => rec10 [x17, r16.1] r16.2) (some (0, [(xs8.getD 0 undef), (xs8.getD 1 undef)], s9))
def r03number.t (S : Sig) (a0 : Value) (s : St) : Option (Value × St) :=
  S.bd (S.it (r03number.l2 S) [a0, (.slice none 0 0)] s) fun r18 => S.bd (cvi .u8 (r18.2.1.getD 0 undef)) fun x19 => S.bd (S.bd (bls 1 (List.replicate 1 [(.int .u8 0)]) [(0, x19)]) fun rows => als r18.2.2 1 1 rows) fun r20 => S.bd (app r20.2 1 1 (r18.2.1.getD 1 undef) r20.1) fun r21 => some (r21.1, r21.2)
def r03number.v (a0 : Value) (s : St) : Option (Value × St) := r03number.t std a0 s
def r03number.w : List Value → St → Option (Value × St)
  | [a0], s => r03number.v a0 s
  | _, _ => none
def r03number.an : An := ⟨20, false, [], [(2, ⟨[.v 0, .v 3], [(.exit 0, [.v 0, .v 3])]⟩)], [], [], [], []⟩
theorem r03number.ok (S : Sig) (a0 : Value) (s : St) : evF S Try.prog r03number.ctx r03number.an Try.f82 [a0] s = r03number.t S a0 s := by kernel_rfl
theorem r03number.cok : CtxOk Try.prog r03number.ctx := .nil
theorem r03number.draws : fnDraws r03number.an Try.f82 = true := by kernel_rfl
theorem r03number.can : callOk Try.prog 82 = true := by kernel_rfl
theorem r03number.sound : FnOk Try.prog 82 (.st r03number.w) := FnOk.st_of (evF_ok r03number.cok mixed (f := 82) (fn := Try.f82) (by kernel_rfl) r03number.draws) fun args s r h => by
  unfold r03number.w at h; split at h
  · rw [r03number.ok std]; exact h
  · simp at h
def r03whole.ctx : Ctx := [(82, .st r03number.w)]
def r03whole.t (S : Sig) (a0 : Value) (s : St) : Option (Value × St) :=
  S.bd (bin .lss a0 (.int .i64 0)) fun x1 => S.cnd x1 (S.bd (bin .add a0 (.int .i64 1)) fun x2 => S.bd (un .neg x2) fun x3 => S.bd (cvi .u64 x3) fun x4 => S.bd (bin .mul x4 (.int .u64 2)) fun x5 => S.bd (bin .add x5 (.int .u64 1)) fun x6 => S.bd (r03number.v x6 s) fun r7 => some (r7.1, r7.2)) (S.bd (cvi .u64 a0) fun x8 => S.bd (bin .mul x8 (.int .u64 2)) fun x9 => S.bd (r03number.v x9 s) fun r10 => some (r10.1, r10.2))
def r03whole.v (a0 : Value) (s : St) : Option (Value × St) := r03whole.t std a0 s
def r03whole.w : List Value → St → Option (Value × St)
  | [a0], s => r03whole.v a0 s
  | _, _ => none
def r03whole.an : An := ⟨16, false, [], [], [], [], [], []⟩
theorem r03whole.ok (S : Sig) (a0 : Value) (s : St) : evF S Try.prog r03whole.ctx r03whole.an Try.f83 [a0] s = r03whole.t S a0 s := by kernel_rfl
theorem r03whole.cok : CtxOk Try.prog r03whole.ctx := .cons r03number.sound r03number.can <| .nil
theorem r03whole.draws : fnDraws r03whole.an Try.f83 = true := by kernel_rfl
theorem r03whole.can : callOk Try.prog 83 = true := by kernel_rfl
theorem r03whole.sound : FnOk Try.prog 83 (.st r03whole.w) := FnOk.st_of (evF_ok r03whole.cok mixed (f := 83) (fn := Try.f83) (by kernel_rfl) r03whole.draws) fun args s r h => by
  unfold r03whole.w at h; split at h
  · rw [r03whole.ok std]; exact h
  · simp at h
def r01Bits.ctx : Ctx := []
def r01Bits.l4 (S : Sig) (rec16 : List Value → St → Option Cut) (xs14 : List Value) (s15 : St) : Option Cut :=
  S.bd (bin .geq (xs14.getD 2 undef) (.int .i64 0)) fun x17 => S.cnd x17 (S.bd (bin .rem (xs14.getD 1 undef) (.int .u64 2)) fun x18 => S.bd (cvi .i64 x18) fun x19 => S.bd (idx s15 1 (xs14.getD 0 undef) (xs14.getD 2 undef)) fun x20 => S.bd (stv s15 1 x20 x19) fun s21 => S.bd (bin .quo (xs14.getD 1 undef) (.int .u64 2)) fun x22 => S.bd (bin .sub (xs14.getD 2 undef) (.int .i64 1)) fun x23 => rec16 [(xs14.getD 0 undef), x22, x23] s21) (some (0, [(xs14.getD 0 undef)], s15))
def r01Bits.t (S : Sig) (a0 : Value) (s : St) : Option (Value × St) :=
  S.bd (bx a0) fun c1 => S.bd (lcl c1 0) fun x2 => S.bd (mks s 1 8 [(.int .i64 0)] x2 x2) fun r3 => S.bd (lcl c1 1) fun x4 => S.bd (lcl c1 0) fun x5 => S.bd (bin .sub x5 (.int .i64 1)) fun x6 => S.bd (S.it (r01Bits.l4 S) [r3.1, x4, x6] r3.2) fun r24 => some ((r24.2.1.getD 0 undef), r24.2.2)
def r01Bits.v (a0 : Value) (s : St) : Option (Value × St) := r01Bits.t std a0 s
def r01Bits.w : List Value → St → Option (Value × St)
  | [a0], s => r01Bits.v a0 s
  | _, _ => none
def r01Bits.an : An := ⟨27, false, [1], [(4, ⟨[.v 3, .v 4, .v 5], [(.exit 0, [.v 3])]⟩)], [], [], [], []⟩
theorem r01Bits.ok (S : Sig) (a0 : Value) (s : St) : evF S Try.prog r01Bits.ctx r01Bits.an Try.f91 [a0] s = r01Bits.t S a0 s := by kernel_rfl
theorem r01Bits.cok : CtxOk Try.prog r01Bits.ctx := .nil
theorem r01Bits.draws : fnDraws r01Bits.an Try.f91 = true := by kernel_rfl
theorem r01Bits.can : callOk Try.prog 91 = true := by kernel_rfl
theorem r01Bits.sound : FnOk Try.prog 91 (.st r01Bits.w) := FnOk.st_of (evF_ok r01Bits.cok mixed (f := 91) (fn := Try.f91) (by kernel_rfl) r01Bits.draws) fun args s r h => by
  unfold r01Bits.w at h; split at h
  · rw [r01Bits.ok std]; exact h
  · simp at h
def r03vector.ctx : Ctx := [(91, .st r01Bits.w)]
def r03vector.l8 (S : Sig) (rec47 : List Value → St → Option Cut) (xs45 : List Value) (s46 : St) : Option Cut :=
  S.bd (bin .lss (xs45.getD 4 undef) (.int .i64 8)) fun x48 => S.cnd x48 (S.bd (bin .mul (xs45.getD 3 undef) (.int .u8 2)) fun x49 => S.bd (bin .add (xs45.getD 2 undef) (xs45.getD 4 undef)) fun x50 => S.bd (lenL (xs45.getD 1 undef)) fun x51 => S.bd (bin .lss x50 x51) fun x52 => S.cnd x52 (S.bd (bin .add (xs45.getD 2 undef) (xs45.getD 4 undef)) fun x53 => S.bd (idx s46 1 (xs45.getD 1 undef) x53) fun x54 => S.bd (ldc s46 x54) fun x55 => S.bd (cvi .u8 x55) fun x56 => S.bd (bin .add x49 x56) fun x57 => S.bd (bin .add (xs45.getD 4 undef) (.int .i64 1)) fun x58 => rec47 [(xs45.getD 0 undef), (xs45.getD 1 undef), (xs45.getD 2 undef), x57, x58] s46) (S.bd (bin .add (xs45.getD 4 undef) (.int .i64 1)) fun x59 => rec47 [(xs45.getD 0 undef), (xs45.getD 1 undef), (xs45.getD 2 undef), x49, x59] s46)) (some (0, [(xs45.getD 0 undef), (xs45.getD 1 undef), (xs45.getD 2 undef), (xs45.getD 3 undef)], s46))
def r03vector.l4 (S : Sig) (rec42 : List Value → St → Option Cut) (xs40 : List Value) (s41 : St) : Option Cut :=
  S.bd (lenL (xs40.getD 1 undef)) fun x43 => S.bd (bin .lss (xs40.getD 2 undef) x43) fun x44 => S.cnd x44 (S.bd (S.it (r03vector.l8 S) [(xs40.getD 0 undef), (xs40.getD 1 undef), (xs40.getD 2 undef), (.int .u8 0), (.int .i64 0)] s41) fun r60 => S.bd (S.bd (bls 1 (List.replicate 1 [(.int .u8 0)]) [(0, (r60.2.1.getD 3 undef))]) fun rows => als r60.2.2 1 1 rows) fun r61 => S.bd (app r61.2 1 1 (r60.2.1.getD 0 undef) r61.1) fun r62 => S.bd (bin .add (r60.2.1.getD 2 undef) (.int .i64 8)) fun x63 => rec42 [r62.1, (r60.2.1.getD 1 undef), x63] r62.2) (some (0, [(xs40.getD 0 undef)], s41))
def r03vector.t (S : Sig) (a0 : Value) (s : St) : Option (Value × St) :=
  S.bd (bx a0) fun c1 => S.bd (lcl c1 0) fun x2 => S.bd (cvi .u8 x2) fun x3 => S.bd (S.bd (bls 1 (List.replicate 1 [(.int .u8 0)]) [(0, x3)]) fun rows => als s 1 1 rows) fun r4 => S.bd (lal c1 0 2) fun x5 => S.bd (r01Bits.v x5 r4.2) fun r6 => S.bd (S.it (r03vector.l4 S) [r4.1, r6.1, (.int .i64 0)] r6.2) fun r64 => some ((r64.2.1.getD 0 undef), r64.2.2)
def r03vector.v (a0 : Value) (s : St) : Option (Value × St) := r03vector.t std a0 s
def r03vector.w : List Value → St → Option (Value × St)
  | [a0], s => r03vector.v a0 s
  | _, _ => none
def r03vector.an : An := ⟨46, false, [1], [(8, ⟨[.v 3, .v 4, .v 5, .v 6, .v 7], [(.exit 2, [.v 3, .v 4, .v 5, .v 6])]⟩), (4, ⟨[.v 3, .v 4, .v 5], [(.exit 0, [.v 3])]⟩)], [], [], [], []⟩
theorem r03vector.ok (S : Sig) (a0 : Value) (s : St) : evF S Try.prog r03vector.ctx r03vector.an Try.f84 [a0] s = r03vector.t S a0 s := by kernel_rfl
theorem r03vector.cok : CtxOk Try.prog r03vector.ctx := .cons r01Bits.sound r01Bits.can <| .nil
theorem r03vector.draws : fnDraws r03vector.an Try.f84 = true := by kernel_rfl
theorem r03vector.can : callOk Try.prog 84 = true := by kernel_rfl
theorem r03vector.sound : FnOk Try.prog 84 (.st r03vector.w) := FnOk.st_of (evF_ok r03vector.cok mixed (f := 84) (fn := Try.f84) (by kernel_rfl) r03vector.draws) fun args s r h => by
  unfold r03vector.w at h; split at h
  · rw [r03vector.ok std]; exact h
  · simp at h
def r03KeyBytes.ctx : Ctx := [(57, .rd r01Power.w)]
def r03KeyBytes.l4 (S : Sig) (rec18 : List Value → St → Option Cut) (xs16 : List Value) (s17 : St) : Option Cut :=
  S.bd (bin .geq (xs16.getD 1 undef) (.int .i64 0)) fun x19 => S.cnd x19 (S.bd (lcl (cellsA (xs16.getD 2 undef)) 1) fun x20 => S.bd (bin .mul (.int .i64 8) (xs16.getD 1 undef)) fun x21 => S.bd (r01Power.r x21 s17) fun x22 => S.bd (bin .quo x20 x22) fun x23 => S.bd (cvi .u8 x23) fun x24 => S.bd (S.bd (bls 1 (List.replicate 1 [(.int .u8 0)]) [(0, x24)]) fun rows => als s17 1 1 rows) fun r25 => S.bd (app r25.2 1 1 (xs16.getD 0 undef) r25.1) fun r26 => S.bd (bin .sub (xs16.getD 1 undef) (.int .i64 1)) fun x27 => rec18 [r26.1, x27, (Value.agg ⟨(cellsA (xs16.getD 2 undef))⟩)] r26.2) (some (0, [(xs16.getD 0 undef)], s17))
def r03KeyBytes.t (S : Sig) (a0 : Value) (s : St) : Option (Value × St) :=
  S.bd (bx a0) fun c1 => S.bd (lcl c1 0) fun x2 => S.bd (cvi .u8 x2) fun x3 => S.bd (S.bd (bls 1 (List.replicate 1 [(.int .u8 0)]) [(0, x3)]) fun rows => als s 1 1 rows) fun r4 => S.bd (lcl c1 0) fun x5 => S.bd (eqb [1] false false x5 (.int .i64 2)) fun x6 => S.cnd x6 (S.bd (S.it (r03KeyBytes.l4 S) [r4.1, (.int .i64 7), (Value.agg ⟨c1⟩)] r4.2) fun r28 => some ((r28.2.1.getD 0 undef), r28.2.2)) (some (r4.1, r4.2))
def r03KeyBytes.v (a0 : Value) (s : St) : Option (Value × St) := r03KeyBytes.t std a0 s
def r03KeyBytes.w : List Value → St → Option (Value × St)
  | [a0], s => r03KeyBytes.v a0 s
  | _, _ => none
def r03KeyBytes.an : An := ⟨27, false, [1], [(4, ⟨[.p 1 1 0, .v 3, .v 4, .l 1], [(.exit 0, [.v 3])]⟩)], [], [(6, [(z4 0 0), (z4 1 0), (z4 2 9), (z4 3 0), (z4 4 0), (z4 5 3), (z4 6 0), (z4 7 0), (z4 8 3), (z4 9 4), (z4 10 0)])], [], []⟩
theorem r03KeyBytes.ok (S : Sig) (a0 : Value) (s : St) : evF S Try.prog r03KeyBytes.ctx r03KeyBytes.an Try.f85 [a0] s = r03KeyBytes.t S a0 s := by kernel_rfl
theorem r03KeyBytes.cok : CtxOk Try.prog r03KeyBytes.ctx := .cons r01Power.sound r01Power.can <| .nil
theorem r03KeyBytes.draws : fnDraws r03KeyBytes.an Try.f85 = true := by kernel_rfl
theorem r03KeyBytes.can : callOk Try.prog 85 = true := by kernel_rfl
theorem r03KeyBytes.sound : FnOk Try.prog 85 (.st r03KeyBytes.w) := FnOk.st_of (evF_ok r03KeyBytes.cok mixed (f := 85) (fn := Try.f85) (by kernel_rfl) r03KeyBytes.draws) fun args s r h => by
  unfold r03KeyBytes.w at h; split at h
  · rw [r03KeyBytes.ok std]; exact h
  · simp at h
def r03one.ctx : Ctx := [(82, .st r03number.w), (83, .st r03whole.w), (84, .st r03vector.w), (85, .st r03KeyBytes.w)]
def r03one.t.p1 (S : Sig) (x2 : Value) (c1 : List Value) (s : St) : Option (Value × St) :=
  S.bd (eqb [1] false false x2 (.int .i64 2)) fun x6 => S.cnd x6 (S.bd (lcl c1 2) fun x7 => S.bd (r03whole.v x7 s) fun r8 => some (r8.1, r8.2)) (S.bd (eqb [1] false false x2 (.int .i64 3)) fun x9 => S.cnd x9 (S.bd (lcl c1 3) fun x10 => S.cnd x10 (S.bd (S.bd (bls 1 (List.replicate 1 [(.int .u8 0)]) [(0, (.int .u8 1))]) fun rows => als s 1 1 rows) fun r11 => some (r11.1, r11.2)) (S.bd (S.bd (bls 1 (List.replicate 1 [(.int .u8 0)]) [(0, (.int .u8 0))]) fun rows => als s 1 1 rows) fun r12 => some (r12.1, r12.2))) (S.bd (eqb [1] false false x2 (.int .i64 4)) fun x13 => S.cnd x13 (S.bd (lcl c1 4) fun x14 => S.bd (lenL x14) fun x15 => S.bd (cvi .u64 x15) fun x16 => S.bd (lcl c1 4) fun x17 => S.bd (r03number.v x16 s) fun r18 => S.bd (lenL x14) fun x19 => S.cnd (Value.bool (sameV x19 x15)) (S.bd (app r18.2 1 1 r18.1 x17) fun r20 => S.bd (lenL x14) fun x21 => S.cnd (Value.bool (sameV x21 x15)) (some (r20.1, r20.2)) (none)) (none)) (S.bd (eqb [1] false false x2 (.int .i64 5)) fun x22 => S.cnd x22 (S.bd (lal c1 5 2) fun x23 => S.bd (r03vector.v x23 s) fun r24 => some (r24.1, r24.2)) (S.bd (eqb [1] false false x2 (.int .i64 6)) fun x25 => S.cnd x25 (S.bd (lal c1 7 2) fun x26 => S.bd (r03KeyBytes.v x26 s) fun r27 => some (r27.1, r27.2)) (S.bd (lcl c1 9) fun x28 => S.bd (lal c1 10 2) fun x29 => S.bd (lal c1 12 2) fun x30 => S.bd (r03whole.v x28 s) fun r31 => S.bd (r03KeyBytes.v x29 r31.2) fun r32 => S.bd (app r32.2 1 1 r31.1 r32.1) fun r33 => S.bd (r03vector.v x30 r33.2) fun r34 => S.bd (app r34.2 1 1 r33.1 r34.1) fun r35 => some (r35.1, r35.2))))))
def r03one.t (S : Sig) (a0 : Value) (s : St) : Option (Value × St) :=
  S.bd (bx a0) fun c1 => S.bd (lcl c1 0) fun x2 => S.bd (eqb [1] false false x2 (.int .i64 1)) fun x3 => S.cnd x3 (S.bd (lcl c1 1) fun x4 => S.bd (r03number.v x4 s) fun r5 => some (r5.1, r5.2)) (r03one.t.p1 S x2 c1 s)
def r03one.v (a0 : Value) (s : St) : Option (Value × St) := r03one.t std a0 s
def r03one.w : List Value → St → Option (Value × St)
  | [a0], s => r03one.v a0 s
  | _, _ => none
def r03one.an : An := ⟨55, false, [1], [], [], [(11, [(z4 0 0), (z4 1 9), (z4 2 2), (z4 3 0), (z4 5 0), (z4 6 9), (4, 4, [2], []), (7, 4, [2], []), (z4 8 0)]), (16, [(z4 0 0), (z4 1 0), (z4 2 9), (z4 4 0), (z4 5 0), (z4 6 9), (z4 9 0), (z4 10 0), (z4 11 9), (z4 3 4), (z4 7 4), (z4 8 4), (z4 12 4), (z4 13 4), (z4 14 0)])], [], []⟩
theorem r03one.ok (S : Sig) (a0 : Value) (s : St) : evF S Try.prog r03one.ctx r03one.an Try.f65 [a0] s = r03one.t S a0 s := by kernel_rfl
theorem r03one.cok : CtxOk Try.prog r03one.ctx := .cons r03number.sound r03number.can <| .cons r03whole.sound r03whole.can <| .cons r03vector.sound r03vector.can <| .cons r03KeyBytes.sound r03KeyBytes.can <| .nil
theorem r03one.draws : fnDraws r03one.an Try.f65 = true := by kernel_rfl
theorem r03one.can : callOk Try.prog 65 = true := by kernel_rfl
theorem r03one.sound : FnOk Try.prog 65 (.st r03one.w) := FnOk.st_of (evF_ok r03one.cok mixed (f := 65) (fn := Try.f65) (by kernel_rfl) r03one.draws) fun args s r h => by
  unfold r03one.w at h; split at h
  · rw [r03one.ok std]; exact h
  · simp at h
def r03Pack.ctx : Ctx := [(64, .rd r03Check.w), (65, .st r03one.w)]
def r03Pack.l2 (S : Sig) (rec10 : List Value → St → Option Cut) (xs8 : List Value) (s9 : St) : Option Cut :=
  S.bd (lenL (xs8.getD 0 undef)) fun x11 => S.bd (bin .lss (xs8.getD 1 undef) x11) fun x12 => S.cnd x12 (S.bd (idx s9 14 (xs8.getD 0 undef) (xs8.getD 1 undef)) fun x13 => S.bd (lda s9 14 x13) fun x14 => S.bd (r03Check.r x14 s9) fun x15 => S.bd (eqb [1] false true x15 (.int .i64 0)) fun x16 => S.cnd x16 (some (1, [(.slice none 0 0), (.int .i64 30)], s9)) (S.bd (bin .add (xs8.getD 1 undef) (.int .i64 1)) fun x17 => rec10 [(xs8.getD 0 undef), x17] s9)) (some (0, [(xs8.getD 0 undef)], s9))
def r03Pack.l8 (S : Sig) (rec28 : List Value → St → Option Cut) (xs26 : List Value) (s27 : St) : Option Cut :=
  S.bd (lenL (xs26.getD 0 undef)) fun x29 => S.bd (bin .lss (xs26.getD 2 undef) x29) fun x30 => S.cnd x30 (S.bd (idx s27 14 (xs26.getD 0 undef) (xs26.getD 2 undef)) fun x31 => S.bd (lda s27 14 x31) fun x32 => S.bd (r03one.v x32 s27) fun r33 => S.bd (app r33.2 1 1 (xs26.getD 1 undef) r33.1) fun r34 => S.bd (bin .add (xs26.getD 2 undef) (.int .i64 1)) fun x35 => rec28 [(xs26.getD 0 undef), r34.1, x35] r34.2) (some (0, [(xs26.getD 1 undef)], s27))
def r03Pack.t (S : Sig) (a0 : Value) (s : St) : Option (Value × St) :=
  S.bd (S.it (r03Pack.l2 S) [a0, (.int .i64 0)] s) fun r18 => if r18.1 = 0 then (S.bd (S.it (r03Pack.l8 S) [(r18.2.1.getD 0 undef), (.slice none 0 0), (.int .i64 0)] r18.2.2) fun r36 => some ((Value.tuple ⟨[(r36.2.1.getD 0 undef), (.int .i64 0)]⟩), r36.2.2)) else (some ((Value.tuple ⟨[(r18.2.1.getD 0 undef), (r18.2.1.getD 1 undef)]⟩), r18.2.2))
def r03Pack.v (a0 : Value) (s : St) : Option (Value × St) := r03Pack.t std a0 s
def r03Pack.w : List Value → St → Option (Value × St)
  | [a0], s => r03Pack.v a0 s
  | _, _ => none
def r03Pack.an : An := ⟨33, false, [], [(2, ⟨[.v 0, .v 4], [(.exit 0, [.v 0]), (.ret, [.v 2, .v 3])]⟩), (8, ⟨[.v 0, .v 5, .v 6], [(.exit 2, [.v 5])]⟩)], [], [], [], []⟩
theorem r03Pack.ok (S : Sig) (a0 : Value) (s : St) : evF S Try.prog r03Pack.ctx r03Pack.an Try.f44 [a0] s = r03Pack.t S a0 s := by kernel_rfl
theorem r03Pack.cok : CtxOk Try.prog r03Pack.ctx := .cons r03Check.sound r03Check.can <| .cons r03one.sound r03one.can <| .nil
theorem r03Pack.draws : fnDraws r03Pack.an Try.f44 = true := by kernel_rfl
theorem r03Pack.can : callOk Try.prog 44 = true := by kernel_rfl
theorem r03Pack.sound : FnOk Try.prog 44 (.st r03Pack.w) := FnOk.st_of (evF_ok r03Pack.cok mixed (f := 44) (fn := Try.f44) (by kernel_rfl) r03Pack.draws) fun args s r h => by
  unfold r03Pack.w at h; split at h
  · rw [r03Pack.ok std]; exact h
  · simp at h
def r04Encode.ctx : Ctx := [(15, .rd r04Check.w), (40, .rd r04truth.w), (41, .rd r04whole.w), (42, .st r04answer.w), (43, .st r04ask.w), (44, .st r03Pack.w)]
def r04Encode.t.p1 (S : Sig) (c1 : List Value) (s : St) : Option (Value × St) :=
  S.bd (lcl c1 0) fun x5 => S.bd (lcl c1 1) fun x6 => S.bd (lcl c1 2) fun x7 => S.bd (lcl c1 3) fun x8 => S.bd (lcl c1 4) fun x9 => S.bd (lcl c1 5) fun x10 => S.bd (r04truth.r x5 s) fun x11 => S.bd (r04truth.r x6 s) fun x12 => S.bd (r04whole.r x7 s) fun x13 => S.bd (r04truth.r x8 s) fun x14 => S.bd (r04whole.r x9 s) fun x15 => S.bd (r04whole.r x10 s) fun x16 => S.bd (S.bd (bls 14 (List.replicate 6 [(.int .i64 0), (.int .u64 0), (.int .i64 0), (.bool Bool.false), (.slice none 0 0), (.int .i64 0), (.int .u64 0), (.int .i64 0), (.int .u64 0), (.int .i64 0), (.int .i64 0), (.int .u64 0), (.int .i64 0), (.int .u64 0)]) [(0, x11), (1, x12), (2, x13), (3, x14), (4, x15), (5, x16)]) fun rows => als s 14 6 rows) fun r17 => S.bd (show Option Cut from S.bd (lcl c1 0) fun x25 => S.cnd x25 (S.bd (lal c1 21 13) fun x26 => S.bd (r04answer.v x26 r17.2) fun r27 => S.bd (app r27.2 14 128 r17.1 r27.1) fun r28 => some (0, [r28.1], r28.2)) (S.bd (lal c1 6 15) fun x29 => S.bd (r04ask.v x29 r17.2) fun r30 => S.bd (app r30.2 14 128 r17.1 r30.1) fun r31 => some (0, [r31.1], r31.2))) fun r32 => S.bd (r03Pack.v (r32.2.1.getD 0 undef) r32.2.2) fun r33 => S.bd (xtr 0 r33.1) fun x34 => S.bd (xtr 1 r33.1) fun x35 => S.bd (eqb [1] false true x35 (.int .i64 0)) fun x36 => S.cnd x36 (some ((Value.tuple ⟨[(.slice none 0 0), (.int .i64 40)]⟩), r33.2)) (some ((Value.tuple ⟨[x34, (.int .i64 0)]⟩), r33.2))
def r04Encode.t (S : Sig) (a0 : Value) (s : St) : Option (Value × St) :=
  S.bd (bx a0) fun c1 => S.bd (lal c1 0 34) fun x2 => S.bd (r04Check.r x2 s) fun x3 => S.bd (eqb [1] false true x3 (.int .i64 0)) fun x4 => S.cnd x4 (some ((Value.tuple ⟨[(.slice none 0 0), (.int .i64 40)]⟩), s)) (r04Encode.t.p1 S c1 s)
def r04Encode.v (a0 : Value) (s : St) : Option (Value × St) := r04Encode.t std a0 s
def r04Encode.w : List Value → St → Option (Value × St)
  | [a0], s => r04Encode.v a0 s
  | _, _ => none
def r04Encode.an : An := ⟨53, false, [1], [], [(7, ⟨[], [(.normal, [.v 4])]⟩)], [(3, [(z4 0 0), (z4 1 9), (z4 3 0), (z4 4 0), (z4 5 9), (z4 7 0), (z4 8 0), (z4 9 9), (z4 11 0), (z4 12 0), (z4 13 9), (z4 15 0), (z4 16 0), (z4 17 9), (z4 19 0), (z4 20 9), (z4 2 3), (z4 6 3), (z4 10 3), (z4 14 3), (z4 18 3), (z4 21 3), (z4 22 3), (z4 23 0)])], [], []⟩
theorem r04Encode.ok (S : Sig) (a0 : Value) (s : St) : evF S Try.prog r04Encode.ctx r04Encode.an Try.f25 [a0] s = r04Encode.t S a0 s := by kernel_rfl
theorem r04Encode.cok : CtxOk Try.prog r04Encode.ctx := .cons r04Check.sound r04Check.can <| .cons r04truth.sound r04truth.can <| .cons r04whole.sound r04whole.can <| .cons r04answer.sound r04answer.can <| .cons r04ask.sound r04ask.can <| .cons r03Pack.sound r03Pack.can <| .nil
theorem r04Encode.draws : fnDraws r04Encode.an Try.f25 = true := by kernel_rfl
theorem r04Encode.can : callOk Try.prog 25 = true := by kernel_rfl
theorem r04Encode.sound : FnOk Try.prog 25 (.st r04Encode.w) := FnOk.st_of (evF_ok r04Encode.cok mixed (f := 25) (fn := Try.f25) (by kernel_rfl) r04Encode.draws) fun args s r h => by
  unfold r04Encode.w at h; split at h
  · rw [r04Encode.ok std]; exact h
  · simp at h
def r03Reader_next.ctx : Ctx := []
def r03Reader_next.t (S : Sig) (a0 : Value) (s : St) : Option (Value × St) :=
  S.bd (nck a0) fun x1 => S.bd (fld 2 x1) fun x2 => S.bd (ldc s x2) fun x3 => S.bd (eqb [1] false true x3 (.int .i64 0)) fun x4 => S.cnd x4 (some ((Value.tuple ⟨[(.int .u8 0), (.bool Bool.false)]⟩), s)) (S.bd (nck a0) fun x5 => S.bd (fld 1 x5) fun x6 => S.bd (ldc s x6) fun x7 => S.bd (nck a0) fun x8 => S.bd (fld 0 x8) fun x9 => S.bd (ldc s x9) fun x10 => S.bd (lenL x10) fun x11 => S.bd (bin .geq x7 x11) fun x12 => S.cnd x12 (S.bd (nck a0) fun x13 => S.bd (fld 2 x13) fun x14 => S.bd (stv s 1 x14 (.int .i64 32)) fun s15 => some ((Value.tuple ⟨[(.int .u8 0), (.bool Bool.false)]⟩), s15)) (S.bd (nck a0) fun x16 => S.bd (fld 0 x16) fun x17 => S.bd (ldc s x17) fun x18 => S.bd (nck a0) fun x19 => S.bd (fld 1 x19) fun x20 => S.bd (ldc s x20) fun x21 => S.bd (idx s 1 x18 x21) fun x22 => S.bd (ldc s x22) fun x23 => some ((Value.tuple ⟨[x23, (.bool Bool.true)]⟩), s)))
def r03Reader_next.v (a0 : Value) (s : St) : Option (Value × St) := r03Reader_next.t std a0 s
def r03Reader_next.w : List Value → St → Option (Value × St)
  | [a0], s => r03Reader_next.v a0 s
  | _, _ => none
def r03Reader_next.an : An := ⟨32, false, [], [], [], [(3, [(z4 0 0), (z4 1 0), (z4 2 0), (z4 3 2), (z4 4 0), (z4 5 0), (z4 6 0), (z4 7 2), (z4 8 2), (z4 9 0)]), (6, [(z4 0 0), (z4 1 0), (z4 2 0), (z4 3 2), (z4 4 0), (z4 5 0), (z4 6 0), (z4 7 2), (z4 8 2), (z4 9 2), (z4 10 0), (z4 11 0)])], [], []⟩
theorem r03Reader_next.ok (S : Sig) (a0 : Value) (s : St) : evF S Try.prog r03Reader_next.ctx r03Reader_next.an Try.f104 [a0] s = r03Reader_next.t S a0 s := by kernel_rfl
theorem r03Reader_next.cok : CtxOk Try.prog r03Reader_next.ctx := .nil
theorem r03Reader_next.draws : fnDraws r03Reader_next.an Try.f104 = true := by kernel_rfl
theorem r03Reader_next.can : callOk Try.prog 104 = true := by kernel_rfl
theorem r03Reader_next.sound : FnOk Try.prog 104 (.st r03Reader_next.w) := FnOk.st_of (evF_ok r03Reader_next.cok mixed (f := 104) (fn := Try.f104) (by kernel_rfl) r03Reader_next.draws) fun args s r h => by
  unfold r03Reader_next.w at h; split at h
  · rw [r03Reader_next.ok std]; exact h
  · simp at h
def r03within.ctx : Ctx := []
def r03within.t (S : Sig) (a0 a1 a2 a3 : Value) (s : St) : Option Value :=
  S.bd (eqb [1] false false a3 (.int .u64 18446744073709551615)) fun x1 => S.cnd x1 (some ((.bool Bool.true))) (S.bd (bin .lss a2 (.int .u8 128)) fun x2 => S.cnd x2 (S.bd (bin .leq a1 a3) fun x3 => S.bd (S.gd x3 true (some a0)) fun x4 => S.bd (S.gd x3 true (some a2)) fun x5 => S.bd (S.gd x3 true (cvi .u64 x5)) fun x6 => S.bd (S.gd x3 true (some a1)) fun x7 => S.bd (S.gd x3 true (bin .mul x6 x7)) fun x8 => S.bd (S.gd x3 true (bin .add x4 x8)) fun x9 => S.bd (S.gd x3 true (some a3)) fun x10 => S.bd (S.gd x3 true (bin .leq x9 x10)) fun x11 => S.bd (pik x3 x11 (.bool Bool.false)) fun x12 => some (x12)) (S.bd (bin .mul a1 (.int .u64 128)) fun x13 => S.bd (bin .leq x13 a3) fun x14 => S.bd (S.gd x14 true (some a0)) fun x15 => S.bd (S.gd x14 true (some a2)) fun x16 => S.bd (S.gd x14 true (bin .sub x16 (.int .u8 128))) fun x17 => S.bd (S.gd x14 true (cvi .u64 x17)) fun x18 => S.bd (S.gd x14 true (some a1)) fun x19 => S.bd (S.gd x14 true (bin .mul x18 x19)) fun x20 => S.bd (S.gd x14 true (bin .add x15 x20)) fun x21 => S.bd (S.gd x14 true (some a1)) fun x22 => S.bd (S.gd x14 true (bin .mul x22 (.int .u64 128))) fun x23 => S.bd (S.gd x14 true (bin .add x21 x23)) fun x24 => S.bd (S.gd x14 true (some a3)) fun x25 => S.bd (S.gd x14 true (bin .leq x24 x25)) fun x26 => S.bd (pik x14 x26 (.bool Bool.false)) fun x27 => some (x27)))
def r03within.r (a0 a1 a2 a3 : Value) (s : St) : Option Value := r03within.t std a0 a1 a2 a3 s
def r03within.w : List Value → St → Option Value
  | [a0, a1, a2, a3], s => r03within.r a0 a1 a2 a3 s
  | _, _ => none
def r03within.an : An := ⟨44, true, [], [], [], [], [], []⟩
theorem r03within.ok (S : Sig) (a0 a1 a2 a3 : Value) (s : St) : evG S Try.prog r03within.ctx r03within.an Try.f105 [a0, a1, a2, a3] s = r03within.t S a0 a1 a2 a3 s := by kernel_rfl
theorem r03within.cok : CtxOk Try.prog r03within.ctx := .nil
theorem r03within.draws : fnDraws r03within.an Try.f105 = true := by kernel_rfl
theorem r03within.can : callOk Try.prog 105 = true := by kernel_rfl
theorem r03within.sound : FnOk Try.prog 105 (.rd r03within.w) := FnOk.rd_of (evG_ok r03within.cok mixed (f := 105) (fn := Try.f105) (by kernel_rfl) r03within.draws) fun args s r h => by
  unfold r03within.w at h; split at h
  · rw [r03within.ok std]; exact h
  · simp at h
def r03Reader_number.ctx : Ctx := [(104, .st r03Reader_next.w), (105, .rd r03within.w)]
def r03Reader_number.l3.p1 (S : Sig) (xs41 : List Value) (x46 : Value) (r45 : Value × St) (rec43 : List Value → St → Option Cut) : Option Cut :=
  S.bd (eqb [1] false false (xs41.getD 4 undef) (.int .i64 9)) fun x49 => S.bd (S.gd x49 true (some x46)) fun x50 => S.bd (S.gd x49 true (eqb [1] false true x50 (.int .u8 1))) fun x51 => S.bd (pik x49 x51 (.bool Bool.false)) fun x52 => S.bd (S.gd x52 false (some (xs41.getD 4 undef))) fun x53 => S.bd (S.gd x52 false (bin .gtr x53 (.int .i64 0))) fun x54 => S.bd (S.gd x52 false (some x54)) fun x55 => S.bd (S.gd x55 true (some x46)) fun x56 => S.bd (S.gd x55 true (eqb [1] false false x56 (.int .u8 0))) fun x57 => S.bd (S.gd x52 false (pik x55 x57 (.bool Bool.false))) fun x58 => S.bd (pik x52 (.bool Bool.true) x58) fun x59 => S.bd (S.gd x59 false (some (xs41.getD 2 undef))) fun x60 => S.bd (S.gd x59 false (some (xs41.getD 3 undef))) fun x61 => S.bd (S.gd x59 false (some x46)) fun x62 => S.bd (S.gd x59 false (some (xs41.getD 1 undef))) fun x63 => S.bd (S.gd x59 false (r03within.r x60 x61 x62 x63 r45.2)) fun x64 => S.bd (S.gd x59 false (un .not x64)) fun x65 => S.bd (pik x59 (.bool Bool.true) x65) fun x66 => S.cnd x66 (S.bd (nck (xs41.getD 0 undef)) fun x67 => S.bd (fld 2 x67) fun x68 => S.bd (stv r45.2 1 x68 (.int .i64 31)) fun s69 => some (1, [(.int .u64 0)], s69)) (S.bd (nck (xs41.getD 0 undef)) fun x70 => S.bd (fld 1 x70) fun x71 => S.bd (ldc r45.2 x71) fun x72 => S.bd (bin .add x72 (.int .i64 1)) fun x73 => S.bd (nck (xs41.getD 0 undef)) fun x74 => S.bd (fld 1 x74) fun x75 => S.bd (stv r45.2 1 x75 x73) fun s76 => S.bd (bin .rem x46 (.int .u8 128)) fun x77 => S.bd (cvi .u64 x77) fun x78 => S.bd (bin .mul x78 (xs41.getD 3 undef)) fun x79 => S.bd (bin .add (xs41.getD 2 undef) x79) fun x80 => S.bd (bin .lss x46 (.int .u8 128)) fun x81 => S.cnd x81 (some (1, [x80], s76)) (S.bd (bin .mul (xs41.getD 3 undef) (.int .u64 128)) fun x82 => S.bd (bin .add (xs41.getD 4 undef) (.int .i64 1)) fun x83 => rec43 [(xs41.getD 0 undef), (xs41.getD 1 undef), x80, x82, x83] s76))
def r03Reader_number.l3 (S : Sig) (rec43 : List Value → St → Option Cut) (xs41 : List Value) (s42 : St) : Option Cut :=
  S.bd (bin .lss (xs41.getD 4 undef) (.int .i64 10)) fun x44 => S.cnd x44 (S.bd (r03Reader_next.v (xs41.getD 0 undef) s42) fun r45 => S.bd (xtr 0 r45.1) fun x46 => S.bd (xtr 1 r45.1) fun x47 => S.bd (un .not x47) fun x48 => S.cnd x48 (some (1, [(.int .u64 0)], r45.2)) (r03Reader_number.l3.p1 S xs41 x46 r45 rec43)) (some (0, [], s42))
def r03Reader_number.t (S : Sig) (a0 a1 : Value) (s : St) : Option (Value × St) :=
  S.bd (S.it (r03Reader_number.l3 S) [a0, a1, (.int .u64 0), (.int .u64 1), (.int .i64 0)] s) fun r84 => if r84.1 = 0 then (some ((.int .u64 0), r84.2.2)) else (some ((r84.2.1.getD 0 undef), r84.2.2))
def r03Reader_number.v (a0 a1 : Value) (s : St) : Option (Value × St) := r03Reader_number.t std a0 a1 s
def r03Reader_number.w : List Value → St → Option (Value × St)
  | [a0, a1], s => r03Reader_number.v a0 a1 s
  | _, _ => none
def r03Reader_number.an : An := ⟨65, false, [], [(3, ⟨[.v 0, .v 1, .v 5, .v 6, .v 7], [(.exit 0, []), (.ret, [.v 4])]⟩)], [], [], [], []⟩
theorem r03Reader_number.ok (S : Sig) (a0 a1 : Value) (s : St) : evF S Try.prog r03Reader_number.ctx r03Reader_number.an Try.f98 [a0, a1] s = r03Reader_number.t S a0 a1 s := by kernel_rfl
theorem r03Reader_number.cok : CtxOk Try.prog r03Reader_number.ctx := .cons r03Reader_next.sound r03Reader_next.can <| .cons r03within.sound r03within.can <| .nil
theorem r03Reader_number.draws : fnDraws r03Reader_number.an Try.f98 = true := by kernel_rfl
theorem r03Reader_number.can : callOk Try.prog 98 = true := by kernel_rfl
theorem r03Reader_number.sound : FnOk Try.prog 98 (.st r03Reader_number.w) := FnOk.st_of (evF_ok r03Reader_number.cok mixed (f := 98) (fn := Try.f98) (by kernel_rfl) r03Reader_number.draws) fun args s r h => by
  unfold r03Reader_number.w at h; split at h
  · rw [r03Reader_number.ok std]; exact h
  · simp at h
def r03Reader_int.ctx : Ctx := [(98, .st r03Reader_number.w)]
def r03Reader_int.t (S : Sig) (a0 : Value) (s : St) : Option (Value × St) :=
  S.bd (r03Reader_number.v a0 (.int .u64 18446744073709551615) s) fun r1 => S.bd (bin .rem r1.1 (.int .u64 2)) fun x2 => S.bd (eqb [1] false false x2 (.int .u64 1)) fun x3 => S.cnd x3 (S.bd (bin .quo r1.1 (.int .u64 2)) fun x4 => S.bd (cvi .i64 x4) fun x5 => S.bd (un .neg x5) fun x6 => S.bd (bin .sub x6 (.int .i64 1)) fun x7 => some (x7, r1.2)) (S.bd (bin .quo r1.1 (.int .u64 2)) fun x8 => S.bd (cvi .i64 x8) fun x9 => some (x9, r1.2))
def r03Reader_int.v (a0 : Value) (s : St) : Option (Value × St) := r03Reader_int.t std a0 s
def r03Reader_int.w : List Value → St → Option (Value × St)
  | [a0], s => r03Reader_int.v a0 s
  | _, _ => none
def r03Reader_int.an : An := ⟨17, false, [], [], [], [], [], []⟩
theorem r03Reader_int.ok (S : Sig) (a0 : Value) (s : St) : evF S Try.prog r03Reader_int.ctx r03Reader_int.an Try.f99 [a0] s = r03Reader_int.t S a0 s := by kernel_rfl
theorem r03Reader_int.cok : CtxOk Try.prog r03Reader_int.ctx := .cons r03Reader_number.sound r03Reader_number.can <| .nil
theorem r03Reader_int.draws : fnDraws r03Reader_int.an Try.f99 = true := by kernel_rfl
theorem r03Reader_int.can : callOk Try.prog 99 = true := by kernel_rfl
theorem r03Reader_int.sound : FnOk Try.prog 99 (.st r03Reader_int.w) := FnOk.st_of (evF_ok r03Reader_int.cok mixed (f := 99) (fn := Try.f99) (by kernel_rfl) r03Reader_int.draws) fun args s r h => by
  unfold r03Reader_int.w at h; split at h
  · rw [r03Reader_int.ok std]; exact h
  · simp at h
def r03Reader_byte.ctx : Ctx := [(104, .st r03Reader_next.w)]
def r03Reader_byte.t (S : Sig) (a0 a1 a2 : Value) (s : St) : Option (Value × St) :=
  S.bd (r03Reader_next.v a0 s) fun r1 => S.bd (xtr 0 r1.1) fun x2 => S.bd (xtr 1 r1.1) fun x3 => S.bd (un .not x3) fun x4 => S.cnd x4 (some ((.int .u8 0), r1.2)) (S.bd (bin .lss x2 a1) fun x5 => S.bd (S.gd x5 false (some x2)) fun x6 => S.bd (S.gd x5 false (some a2)) fun x7 => S.bd (S.gd x5 false (bin .gtr x6 x7)) fun x8 => S.bd (pik x5 (.bool Bool.true) x8) fun x9 => S.cnd x9 (S.bd (nck a0) fun x10 => S.bd (fld 2 x10) fun x11 => S.bd (stv r1.2 1 x11 (.int .i64 31)) fun s12 => some ((.int .u8 0), s12)) (S.bd (nck a0) fun x13 => S.bd (fld 1 x13) fun x14 => S.bd (ldc r1.2 x14) fun x15 => S.bd (bin .add x15 (.int .i64 1)) fun x16 => S.bd (nck a0) fun x17 => S.bd (fld 1 x17) fun x18 => S.bd (stv r1.2 1 x18 x16) fun s19 => some (x2, s19)))
def r03Reader_byte.v (a0 a1 a2 : Value) (s : St) : Option (Value × St) := r03Reader_byte.t std a0 a1 a2 s
def r03Reader_byte.w : List Value → St → Option (Value × St)
  | [a0, a1, a2], s => r03Reader_byte.v a0 a1 a2 s
  | _, _ => none
def r03Reader_byte.an : An := ⟨35, false, [], [], [], [], [], []⟩
theorem r03Reader_byte.ok (S : Sig) (a0 a1 a2 : Value) (s : St) : evF S Try.prog r03Reader_byte.ctx r03Reader_byte.an Try.f100 [a0, a1, a2] s = r03Reader_byte.t S a0 a1 a2 s := by kernel_rfl
theorem r03Reader_byte.cok : CtxOk Try.prog r03Reader_byte.ctx := .cons r03Reader_next.sound r03Reader_next.can <| .nil
theorem r03Reader_byte.draws : fnDraws r03Reader_byte.an Try.f100 = true := by kernel_rfl
theorem r03Reader_byte.can : callOk Try.prog 100 = true := by kernel_rfl
theorem r03Reader_byte.sound : FnOk Try.prog 100 (.st r03Reader_byte.w) := FnOk.st_of (evF_ok r03Reader_byte.cok mixed (f := 100) (fn := Try.f100) (by kernel_rfl) r03Reader_byte.draws) fun args s r h => by
  unfold r03Reader_byte.w at h; split at h
  · rw [r03Reader_byte.ok std]; exact h
  · simp at h
def r01Of.ctx : Ctx := []
def r01Of.l3 (S : Sig) (rec18 : List Value → St → Option Cut) (xs16 : List Value) (s17 : St) : Option Cut :=
  S.bd (lenL (xs16.getD 0 undef)) fun x19 => S.bd (bin .lss (xs16.getD 1 undef) x19) fun x20 => S.cnd x20 (S.bd (lcl (cellsA (xs16.getD 3 undef)) 1) fun x21 => S.bd (bin .mul x21 (.int .u64 2)) fun x22 => S.bd (idx s17 1 (xs16.getD 0 undef) (xs16.getD 1 undef)) fun x23 => S.bd (ldc s17 x23) fun x24 => S.bd (cvi .u64 x24) fun x25 => S.bd (bin .add x22 x25) fun x26 => S.bd (stl (cellsA (xs16.getD 3 undef)) 1 1 x26) fun c27 => S.bd (bin .add (xs16.getD 1 undef) (.int .i64 1)) fun x28 => rec18 [(xs16.getD 0 undef), x28, (Value.agg ⟨(cellsA (xs16.getD 2 undef))⟩), (Value.agg ⟨c27⟩)] s17) (some (0, [(Value.agg ⟨(cellsA (xs16.getD 2 undef))⟩), (Value.agg ⟨(cellsA (xs16.getD 3 undef))⟩)], s17))
def r01Of.t (S : Sig) (a0 : Value) (s : St) : Option Value :=
  S.bd (bx (Go.Value.agg #[(.int .i64 0), (.int .u64 0)])) fun c1 => S.bd (lenL a0) fun x2 => S.bd (bld [(.int .i64 0), (.int .u64 0)] [(0, 1, x2)]) fun x3 => S.bd (bx (Go.Value.agg #[(.int .i64 0), (.int .u64 0)])) fun c4 => S.bd (stl c4 0 2 x3) fun c5 => S.bd (S.it (r01Of.l3 S) [a0, (.int .i64 0), (Value.agg ⟨c1⟩), (Value.agg ⟨c5⟩)] s) fun r29 => S.bd (lal (cellsA (r29.2.1.getD 1 undef)) 0 2) fun x30 => S.bd (stl (cellsA (r29.2.1.getD 0 undef)) 0 2 x30) fun c31 => S.bd (lal c31 0 2) fun x32 => some (x32)
def r01Of.r (a0 : Value) (s : St) : Option Value := r01Of.t std a0 s
def r01Of.w : List Value → St → Option Value
  | [a0], s => r01Of.r a0 s
  | _, _ => none
def r01Of.an : An := ⟨25, true, [2, 3], [(3, ⟨[.v 0, .p 2 2 0, .p 3 3 0, .v 4, .l 2, .l 3], [(.exit 0, [.p 2 2 0, .p 3 3 0, .l 2, .l 3])]⟩)], [], [(5, [(z4 0 0), (z4 1 25), (z4 2 0), (z4 3 0), (z4 4 0), (z4 5 2), (z4 6 2), (z4 7 0), (z4 8 0), (z4 9 0), (z4 10 29)])], [], []⟩
theorem r01Of.ok (S : Sig) (a0 : Value) (s : St) : evG S Try.prog r01Of.ctx r01Of.an Try.f106 [a0] s = r01Of.t S a0 s := by kernel_rfl
theorem r01Of.cok : CtxOk Try.prog r01Of.ctx := .nil
theorem r01Of.draws : fnDraws r01Of.an Try.f106 = true := by kernel_rfl
theorem r01Of.can : callOk Try.prog 106 = true := by kernel_rfl
theorem r01Of.sound : FnOk Try.prog 106 (.rd r01Of.w) := FnOk.rd_of (evG_ok r01Of.cok mixed (f := 106) (fn := Try.f106) (by kernel_rfl) r01Of.draws) fun args s r h => by
  unfold r01Of.w at h; split at h
  · rw [r01Of.ok std]; exact h
  · simp at h
def r03Reader_vector.ctx : Ctx := [(100, .st r03Reader_byte.w), (104, .st r03Reader_next.w), (57, .rd r01Power.w), (106, .rd r01Of.w)]
def r03Reader_vector.l15 (S : Sig) (rec100 : List Value → St → Option Cut) (xs98 : List Value) (s99 : St) : Option Cut :=
  S.bd (bin .lss (xs98.getD 6 undef) (.int .i64 8)) fun x101 => S.bd (S.gd x101 true (some (xs98.getD 6 undef))) fun x102 => S.bd (S.gd x101 true (some (xs98.getD 5 undef))) fun x103 => S.bd (S.gd x101 true (bin .lss x102 x103)) fun x104 => S.bd (pik x101 x104 (.bool Bool.false)) fun x105 => S.cnd x105 (S.bd (bin .sub (.int .i64 7) (xs98.getD 6 undef)) fun x106 => S.bd (r01Power.r x106 s99) fun x107 => S.bd (cvi .u8 x107) fun x108 => S.bd (bin .quo (xs98.getD 4 undef) x108) fun x109 => S.bd (cvi .i64 x109) fun x110 => S.bd (bin .rem x110 (.int .i64 2)) fun x111 => S.bd (S.bd (bls 1 (List.replicate 1 [(.int .i64 0)]) [(0, x111)]) fun rows => als s99 1 1 rows) fun r112 => S.bd (app r112.2 1 8 (xs98.getD 2 undef) r112.1) fun r113 => S.bd (bin .add (xs98.getD 6 undef) (.int .i64 1)) fun x114 => rec100 [(xs98.getD 0 undef), (xs98.getD 1 undef), r113.1, (xs98.getD 3 undef), (xs98.getD 4 undef), (xs98.getD 5 undef), x114, (xs98.getD 7 undef), (xs98.getD 8 undef), (xs98.getD 9 undef), (xs98.getD 10 undef), (xs98.getD 11 undef), (xs98.getD 12 undef), (xs98.getD 13 undef), (Value.agg ⟨(cellsA (xs98.getD 14 undef))⟩)] r113.2) (some (0, [(xs98.getD 0 undef), (xs98.getD 1 undef), (xs98.getD 2 undef), (xs98.getD 3 undef), (xs98.getD 7 undef), (xs98.getD 8 undef), (xs98.getD 9 undef), (xs98.getD 10 undef), (xs98.getD 11 undef), (xs98.getD 12 undef), (xs98.getD 13 undef), x102, x103, x104, (Value.agg ⟨(cellsA (xs98.getD 14 undef))⟩)], s99))
def r03Reader_vector.l4.p1 (S : Sig) (xs66 : List Value) (s67 : St) (rec68 : List Value → St → Option Cut) : Option Cut :=
  S.bd (r03Reader_next.v (xs66.getD 0 undef) s67) fun r70 => S.bd (xtr 0 r70.1) fun x71 => S.bd (xtr 1 r70.1) fun x72 => S.bd (un .not x72) fun x73 => S.cnd x73 (S.bd (bld [(.int .i64 0), (.int .u64 0)] []) fun x74 => S.bd (stl (cellsA (xs66.getD 4 undef)) 0 2 x74) fun c75 => some (1, [(Value.agg ⟨c75⟩)], r70.2)) (S.bd (bin .sub (xs66.getD 1 undef) (xs66.getD 3 undef)) fun x76 => S.bd (bin .lss x76 (.int .i64 8)) fun x77 => S.bd (S.gd x77 true (some x71)) fun x78 => S.bd (S.gd x77 true (some x76)) fun x79 => S.bd (S.gd x77 true (bin .sub (.int .i64 8) x79)) fun x80 => S.bd (S.gd x77 true (r01Power.r x80 r70.2)) fun x81 => S.bd (S.gd x77 true (cvi .u8 x81)) fun x82 => S.bd (S.gd x77 true (bin .rem x78 x82)) fun x83 => S.bd (S.gd x77 true (eqb [1] false true x83 (.int .u8 0))) fun x84 => S.bd (pik x77 x84 (.bool Bool.false)) fun x85 => S.cnd x85 (S.bd (nck (xs66.getD 0 undef)) fun x86 => S.bd (fld 2 x86) fun x87 => S.bd (stv r70.2 1 x87 (.int .i64 31)) fun s88 => S.bd (bld [(.int .i64 0), (.int .u64 0)] []) fun x89 => S.bd (stl (cellsA (xs66.getD 4 undef)) 0 2 x89) fun c90 => some (1, [(Value.agg ⟨c90⟩)], s88)) (S.bd (nck (xs66.getD 0 undef)) fun x91 => S.bd (fld 1 x91) fun x92 => S.bd (ldc r70.2 x92) fun x93 => S.bd (bin .add x93 (.int .i64 1)) fun x94 => S.bd (nck (xs66.getD 0 undef)) fun x95 => S.bd (fld 1 x95) fun x96 => S.bd (stv r70.2 1 x96 x94) fun s97 => S.bd (S.it (r03Reader_vector.l15 S) [(xs66.getD 0 undef), (xs66.getD 1 undef), (xs66.getD 2 undef), (xs66.getD 3 undef), x71, x76, (.int .i64 0), x78, x79, x80, x81, x82, x83, x84, (Value.agg ⟨(cellsA (xs66.getD 4 undef))⟩)] s97) fun r115 => S.bd (bin .add (r115.2.1.getD 3 undef) (.int .i64 8)) fun x116 => rec68 [(r115.2.1.getD 0 undef), (r115.2.1.getD 1 undef), (r115.2.1.getD 2 undef), x116, (Value.agg ⟨(cellsA (r115.2.1.getD 14 undef))⟩)] r115.2.2))
def r03Reader_vector.l4 (S : Sig) (rec68 : List Value → St → Option Cut) (xs66 : List Value) (s67 : St) : Option Cut :=
  S.bd (bin .lss (xs66.getD 3 undef) (xs66.getD 1 undef)) fun x69 => S.cnd x69 (r03Reader_vector.l4.p1 S xs66 s67 rec68) (some (0, [(xs66.getD 2 undef), (Value.agg ⟨(cellsA (xs66.getD 4 undef))⟩)], s67))
def r03Reader_vector.t (S : Sig) (a0 : Value) (s : St) : Option (Value × St) :=
  S.bd (bx (Go.Value.agg #[(.int .i64 0), (.int .u64 0)])) fun c1 => S.bd (r03Reader_byte.v a0 (.int .u8 0) (.int .u8 32) s) fun r2 => S.bd (cvi .i64 r2.1) fun x3 => S.bd (S.it (r03Reader_vector.l4 S) [a0, x3, (.slice none 0 0), (.int .i64 0), (Value.agg ⟨c1⟩)] r2.2) fun r117 => if r117.1 = 0 then (S.bd (r01Of.r (r117.2.1.getD 0 undef) r117.2.2) fun x119 => S.bd (stl (cellsA (r117.2.1.getD 1 undef)) 0 2 x119) fun c120 => S.bd (lal c120 0 2) fun x121 => some (x121, r117.2.2)) else (S.bd (lal (cellsA (r117.2.1.getD 0 undef)) 0 2) fun x118 => some (x118, r117.2.2))
def r03Reader_vector.v (a0 : Value) (s : St) : Option (Value × St) := r03Reader_vector.t std a0 s
def r03Reader_vector.w : List Value → St → Option (Value × St)
  | [a0], s => r03Reader_vector.v a0 s
  | _, _ => none
def r03Reader_vector.an : An := ⟨73, false, [2], [(15, ⟨[.v 0, .p 2 2 0, .v 3, .v 4, .v 5, .v 6, .v 8, .v 9, .v 32, .v 33, .v 34, .v 35, .v 36, .v 37, .v 38, .l 2], [(.exit 2, [.v 0, .p 2 2 0, .v 3, .v 4, .v 5, .v 32, .v 33, .v 34, .v 35, .v 36, .v 37, .v 38, .v 54, .v 55, .v 56, .l 2])]⟩), (4, ⟨[.v 0, .p 2 2 0, .v 3, .v 4, .v 5, .l 2], [(.exit 0, [.p 2 2 0, .v 4, .l 2]), (.ret, [.p 2 2 0, .l 2])]⟩)], [], [], [], []⟩
theorem r03Reader_vector.ok (S : Sig) (a0 : Value) (s : St) : evF S Try.prog r03Reader_vector.ctx r03Reader_vector.an Try.f101 [a0] s = r03Reader_vector.t S a0 s := by kernel_rfl
theorem r03Reader_vector.cok : CtxOk Try.prog r03Reader_vector.ctx := .cons r03Reader_byte.sound r03Reader_byte.can <| .cons r03Reader_next.sound r03Reader_next.can <| .cons r01Power.sound r01Power.can <| .cons r01Of.sound r01Of.can <| .nil
theorem r03Reader_vector.draws : fnDraws r03Reader_vector.an Try.f101 = true := by kernel_rfl
theorem r03Reader_vector.can : callOk Try.prog 101 = true := by kernel_rfl
theorem r03Reader_vector.sound : FnOk Try.prog 101 (.st r03Reader_vector.w) := FnOk.st_of (evF_ok r03Reader_vector.cok mixed (f := 101) (fn := Try.f101) (by kernel_rfl) r03Reader_vector.draws) fun args s r h => by
  unfold r03Reader_vector.w at h; split at h
  · rw [r03Reader_vector.ok std]; exact h
  · simp at h
def r03Reader_key.ctx : Ctx := [(100, .st r03Reader_byte.w)]
def r03Reader_key.l4 (S : Sig) (rec19 : List Value → St → Option Cut) (xs17 : List Value) (s18 : St) : Option Cut :=
  S.bd (bin .lss (xs17.getD 1 undef) (.int .i64 8)) fun x20 => S.cnd x20 (S.bd (lcl (cellsA (xs17.getD 3 undef)) 1) fun x21 => S.bd (bin .mul x21 (.int .u64 256)) fun x22 => S.bd (r03Reader_byte.v (xs17.getD 0 undef) (.int .u8 0) (.int .u8 255) s18) fun r23 => S.bd (cvi .u64 r23.1) fun x24 => S.bd (bin .add x22 x24) fun x25 => S.bd (stl (cellsA (xs17.getD 3 undef)) 1 1 x25) fun c26 => S.bd (bin .add (xs17.getD 1 undef) (.int .i64 1)) fun x27 => rec19 [(xs17.getD 0 undef), x27, (Value.agg ⟨(cellsA (xs17.getD 2 undef))⟩), (Value.agg ⟨c26⟩)] r23.2) (some (0, [(Value.agg ⟨(cellsA (xs17.getD 2 undef))⟩), (Value.agg ⟨(cellsA (xs17.getD 3 undef))⟩)], s18))
def r03Reader_key.t (S : Sig) (a0 : Value) (s : St) : Option (Value × St) :=
  S.bd (bx (Go.Value.agg #[(.int .i64 0), (.int .u64 0)])) fun c1 => S.bd (r03Reader_byte.v a0 (.int .u8 1) (.int .u8 3) s) fun r2 => S.bd (cvi .i64 r2.1) fun x3 => S.bd (bld [(.int .i64 0), (.int .u64 0)] [(0, 1, x3)]) fun x4 => S.bd (bx (Go.Value.agg #[(.int .i64 0), (.int .u64 0)])) fun c5 => S.bd (stl c5 0 2 x4) fun c6 => S.bd (lcl c6 0) fun x7 => S.bd (eqb [1] false false x7 (.int .i64 2)) fun x8 => S.cnd x8 (S.bd (S.it (r03Reader_key.l4 S) [a0, (.int .i64 0), (Value.agg ⟨c1⟩), (Value.agg ⟨c6⟩)] r2.2) fun r28 => S.bd (lal (cellsA (r28.2.1.getD 1 undef)) 0 2) fun x29 => S.bd (stl (cellsA (r28.2.1.getD 0 undef)) 0 2 x29) fun c30 => S.bd (lal c30 0 2) fun x31 => some (x31, r28.2.2)) (S.bd (lal c6 0 2) fun x32 => S.bd (stl c1 0 2 x32) fun c33 => S.bd (lal c33 0 2) fun x34 => some (x34, r2.2))
def r03Reader_key.v (a0 : Value) (s : St) : Option (Value × St) := r03Reader_key.t std a0 s
def r03Reader_key.w : List Value → St → Option (Value × St)
  | [a0], s => r03Reader_key.v a0 s
  | _, _ => none
def r03Reader_key.an : An := ⟨25, false, [2, 3], [(4, ⟨[.v 0, .p 2 2 0, .p 3 3 0, .v 4, .l 2, .l 3], [(.exit 0, [.p 2 2 0, .p 3 3 0, .l 2, .l 3])]⟩)], [], [(6, [(z4 0 0), (z4 1 25), (z4 2 0), (z4 3 0), (z4 4 4), (z4 5 0), (z4 6 0), (z4 7 0), (z4 8 29)])], [], []⟩
theorem r03Reader_key.ok (S : Sig) (a0 : Value) (s : St) : evF S Try.prog r03Reader_key.ctx r03Reader_key.an Try.f102 [a0] s = r03Reader_key.t S a0 s := by kernel_rfl
theorem r03Reader_key.cok : CtxOk Try.prog r03Reader_key.ctx := .cons r03Reader_byte.sound r03Reader_byte.can <| .nil
theorem r03Reader_key.draws : fnDraws r03Reader_key.an Try.f102 = true := by kernel_rfl
theorem r03Reader_key.can : callOk Try.prog 102 = true := by kernel_rfl
theorem r03Reader_key.sound : FnOk Try.prog 102 (.st r03Reader_key.w) := FnOk.st_of (evF_ok r03Reader_key.cok mixed (f := 102) (fn := Try.f102) (by kernel_rfl) r03Reader_key.draws) fun args s r h => by
  unfold r03Reader_key.w at h; split at h
  · rw [r03Reader_key.ok std]; exact h
  · simp at h
def r03Reader_field.ctx : Ctx := [(98, .st r03Reader_number.w), (99, .st r03Reader_int.w), (100, .st r03Reader_byte.w), (101, .st r03Reader_vector.w), (102, .st r03Reader_key.w)]
def r03Reader_field.l12 (S : Sig) (rec41 : List Value → St → Option Cut) (xs39 : List Value) (s40 : St) : Option Cut :=
  S.bd (bin .lss (xs39.getD 2 undef) (xs39.getD 1 undef)) fun x42 => S.bd (S.gd x42 true (some (xs39.getD 0 undef))) fun x43 => S.bd (S.gd x42 true (nck x43)) fun x44 => S.bd (S.gd x42 true (fld 2 x44)) fun x45 => S.bd (S.gd x42 true (ldc s40 x45)) fun x46 => S.bd (S.gd x42 true (eqb [1] false false x46 (.int .i64 0))) fun x47 => S.bd (pik x42 x47 (.bool Bool.false)) fun x48 => S.cnd x48 (S.bd (lcl (cellsA (xs39.getD 4 undef)) 4) fun x49 => S.bd (r03Reader_byte.v (xs39.getD 0 undef) (.int .u8 0) (.int .u8 255) s40) fun r50 => S.bd (S.bd (bls 1 (List.replicate 1 [(.int .u8 0)]) [(0, r50.1)]) fun rows => als r50.2 1 1 rows) fun r51 => S.bd (app r51.2 1 1 x49 r51.1) fun r52 => S.bd (stl (cellsA (xs39.getD 4 undef)) 4 1 r52.1) fun c53 => S.bd (bin .add (xs39.getD 2 undef) (.int .u64 1)) fun x54 => rec41 [(xs39.getD 0 undef), (xs39.getD 1 undef), x54, (Value.agg ⟨(cellsA (xs39.getD 3 undef))⟩), (Value.agg ⟨c53⟩)] r52.2) (some (0, [(Value.agg ⟨(cellsA (xs39.getD 3 undef))⟩), (Value.agg ⟨(cellsA (xs39.getD 4 undef))⟩)], s40))
def r03Reader_field.t.p1 (S : Sig) (a1 : Value) (a0 : Value) (s : St) (c4 : List Value) (c1 : List Value) : Option (Value × St) :=
  S.bd (eqb [1] false false a1 (.int .i64 3)) fun x17 => S.cnd x17 (S.bd (r03Reader_byte.v a0 (.int .u8 0) (.int .u8 1) s) fun r18 => S.bd (eqb [1] false false r18.1 (.int .u8 1)) fun x19 => S.bd (stl c4 3 1 x19) fun c20 => S.bd (lal c20 0 14) fun x21 => S.bd (stl c1 0 14 x21) fun c22 => S.bd (lal c22 0 14) fun x23 => some (x23, r18.2)) (S.bd (eqb [1] false false a1 (.int .i64 4)) fun x24 => S.cnd x24 (S.bd (r03Reader_number.v a0 (.int .u64 65536) s) fun r25 => S.bd (S.it (r03Reader_field.l12 S) [a0, r25.1, (.int .u64 0), (Value.agg ⟨c1⟩), (Value.agg ⟨c4⟩)] r25.2) fun r55 => S.bd (lal (cellsA (r55.2.1.getD 1 undef)) 0 14) fun x56 => S.bd (stl (cellsA (r55.2.1.getD 0 undef)) 0 14 x56) fun c57 => S.bd (lal c57 0 14) fun x58 => some (x58, r55.2.2)) (S.bd (eqb [1] false false a1 (.int .i64 5)) fun x59 => S.cnd x59 (S.bd (r03Reader_vector.v a0 s) fun r60 => S.bd (stl c4 5 2 r60.1) fun c61 => S.bd (lal c61 0 14) fun x62 => S.bd (stl c1 0 14 x62) fun c63 => S.bd (lal c63 0 14) fun x64 => some (x64, r60.2)) (S.bd (eqb [1] false false a1 (.int .i64 6)) fun x65 => S.cnd x65 (S.bd (r03Reader_key.v a0 s) fun r66 => S.bd (stl c4 7 2 r66.1) fun c67 => S.bd (lal c67 0 14) fun x68 => S.bd (stl c1 0 14 x68) fun c69 => S.bd (lal c69 0 14) fun x70 => some (x70, r66.2)) (S.bd (eqb [1] false false a1 (.int .i64 7)) fun x71 => S.cnd x71 (S.bd (r03Reader_int.v a0 s) fun r72 => S.bd (stl c4 9 1 r72.1) fun c73 => S.bd (r03Reader_key.v a0 r72.2) fun r74 => S.bd (stl c73 10 2 r74.1) fun c75 => S.bd (r03Reader_vector.v a0 r74.2) fun r76 => S.bd (stl c75 12 2 r76.1) fun c77 => S.bd (lal c77 0 14) fun x78 => S.bd (stl c1 0 14 x78) fun c79 => S.bd (lal c79 0 14) fun x80 => some (x80, r76.2)) (S.bd (lal c4 0 14) fun x81 => S.bd (stl c1 0 14 x81) fun c82 => S.bd (lal c82 0 14) fun x83 => some (x83, s))))))
def r03Reader_field.t (S : Sig) (a0 a1 : Value) (s : St) : Option (Value × St) :=
  S.bd (bx (Go.Value.agg #[(.int .i64 0), (.int .u64 0), (.int .i64 0), (.bool Bool.false), (.slice none 0 0), (.int .i64 0), (.int .u64 0), (.int .i64 0), (.int .u64 0), (.int .i64 0), (.int .i64 0), (.int .u64 0), (.int .i64 0), (.int .u64 0)])) fun c1 => S.bd (bld [(.int .i64 0), (.int .u64 0), (.int .i64 0), (.bool Bool.false), (.slice none 0 0), (.int .i64 0), (.int .u64 0), (.int .i64 0), (.int .u64 0), (.int .i64 0), (.int .i64 0), (.int .u64 0), (.int .i64 0), (.int .u64 0)] [(0, 1, a1)]) fun x2 => S.bd (bx (Go.Value.agg #[(.int .i64 0), (.int .u64 0), (.int .i64 0), (.bool Bool.false), (.slice none 0 0), (.int .i64 0), (.int .u64 0), (.int .i64 0), (.int .u64 0), (.int .i64 0), (.int .i64 0), (.int .u64 0), (.int .i64 0), (.int .u64 0)])) fun c3 => S.bd (stl c3 0 14 x2) fun c4 => S.bd (eqb [1] false false a1 (.int .i64 1)) fun x5 => S.cnd x5 (S.bd (r03Reader_number.v a0 (.int .u64 18446744073709551615) s) fun r6 => S.bd (stl c4 1 1 r6.1) fun c7 => S.bd (lal c7 0 14) fun x8 => S.bd (stl c1 0 14 x8) fun c9 => S.bd (lal c9 0 14) fun x10 => some (x10, r6.2)) (S.bd (eqb [1] false false a1 (.int .i64 2)) fun x11 => S.cnd x11 (S.bd (r03Reader_int.v a0 s) fun r12 => S.bd (stl c4 2 1 r12.1) fun c13 => S.bd (lal c13 0 14) fun x14 => S.bd (stl c1 0 14 x14) fun c15 => S.bd (lal c15 0 14) fun x16 => some (x16, r12.2)) (r03Reader_field.t.p1 S a1 a0 s c4 c1))
def r03Reader_field.v (a0 a1 : Value) (s : St) : Option (Value × St) := r03Reader_field.t std a0 a1 s
def r03Reader_field.w : List Value → St → Option (Value × St)
  | [a0, a1], s => r03Reader_field.v a0 a1 s
  | _, _ => none
def r03Reader_field.an : An := ⟨75, false, [4, 5], [(12, ⟨[.v 0, .p 4 4 0, .p 5 5 0, .v 6, .v 7, .l 4, .l 5], [(.exit 1, [.p 4 4 0, .p 5 5 0, .l 4, .l 5])]⟩)], [], [(14, [(z4 0 0), (z4 1 41), (z4 2 0), (z4 3 4), (z4 4 3), (z4 5 4), (z4 6 0), (z4 7 45)])], [], []⟩
theorem r03Reader_field.ok (S : Sig) (a0 a1 : Value) (s : St) : evF S Try.prog r03Reader_field.ctx r03Reader_field.an Try.f89 [a0, a1] s = r03Reader_field.t S a0 a1 s := by kernel_rfl
theorem r03Reader_field.cok : CtxOk Try.prog r03Reader_field.ctx := .cons r03Reader_number.sound r03Reader_number.can <| .cons r03Reader_int.sound r03Reader_int.can <| .cons r03Reader_byte.sound r03Reader_byte.can <| .cons r03Reader_vector.sound r03Reader_vector.can <| .cons r03Reader_key.sound r03Reader_key.can <| .nil
theorem r03Reader_field.draws : fnDraws r03Reader_field.an Try.f89 = true := by kernel_rfl
theorem r03Reader_field.can : callOk Try.prog 89 = true := by kernel_rfl
theorem r03Reader_field.sound : FnOk Try.prog 89 (.st r03Reader_field.w) := FnOk.st_of (evF_ok r03Reader_field.cok mixed (f := 89) (fn := Try.f89) (by kernel_rfl) r03Reader_field.draws) fun args s r h => by
  unfold r03Reader_field.w at h; split at h
  · rw [r03Reader_field.ok std]; exact h
  · simp at h
def r03First.ctx : Ctx := [(79, .rd r03IsKind.w), (89, .st r03Reader_field.w)]
def r03First.l2 (S : Sig) (rec10 : List Value → St → Option Cut) (xs8 : List Value) (s9 : St) : Option Cut :=
  S.bd (lenL (xs8.getD 1 undef)) fun x11 => S.bd (bin .lss (xs8.getD 2 undef) x11) fun x12 => S.cnd x12 (S.bd (idx s9 1 (xs8.getD 1 undef) (xs8.getD 2 undef)) fun x13 => S.bd (ldc s9 x13) fun x14 => S.bd (r03IsKind.r x14 s9) fun x15 => S.bd (un .not x15) fun x16 => S.cnd x16 (some (1, [(.slice none 0 0), (.int .i64 0), (.int .i64 30)], s9)) (S.bd (bin .add (xs8.getD 2 undef) (.int .i64 1)) fun x17 => rec10 [(xs8.getD 0 undef), (xs8.getD 1 undef), x17] s9)) (some (0, [(xs8.getD 0 undef), (xs8.getD 1 undef)], s9))
def r03First.l9 (S : Sig) (rec41 : List Value → St → Option Cut) (xs39 : List Value) (s40 : St) : Option Cut :=
  S.bd (lenL (xs39.getD 0 undef)) fun x42 => S.bd (bin .lss (xs39.getD 3 undef) x42) fun x43 => S.cnd x43 (S.bd (idx s40 1 (xs39.getD 0 undef) (xs39.getD 3 undef)) fun x44 => S.bd (ldc s40 x44) fun x45 => S.bd (r03Reader_field.v (xs39.getD 1 undef) x45 s40) fun r46 => S.bd (S.bd (bls 14 (List.replicate 1 [(.int .i64 0), (.int .u64 0), (.int .i64 0), (.bool Bool.false), (.slice none 0 0), (.int .i64 0), (.int .u64 0), (.int .i64 0), (.int .u64 0), (.int .i64 0), (.int .i64 0), (.int .u64 0), (.int .i64 0), (.int .u64 0)]) [(0, r46.1)]) fun rows => als r46.2 14 1 rows) fun r47 => S.bd (app r47.2 14 128 (xs39.getD 2 undef) r47.1) fun r48 => S.bd (nck (xs39.getD 1 undef)) fun x49 => S.bd (fld 2 x49) fun x50 => S.bd (ldc r48.2 x50) fun x51 => S.bd (eqb [1] false true x51 (.int .i64 0)) fun x52 => S.cnd x52 (S.bd (nck (xs39.getD 1 undef)) fun x53 => S.bd (fld 1 x53) fun x54 => S.bd (ldc r48.2 x54) fun x55 => S.bd (nck (xs39.getD 1 undef)) fun x56 => S.bd (fld 2 x56) fun x57 => S.bd (ldc r48.2 x57) fun x58 => some (1, [(.slice none 0 0), x55, x58], r48.2)) (S.bd (bin .add (xs39.getD 3 undef) (.int .i64 1)) fun x59 => rec41 [(xs39.getD 0 undef), (xs39.getD 1 undef), r48.1, x59] r48.2)) (some (0, [(xs39.getD 1 undef), (xs39.getD 2 undef)], s40))
def r03First.t (S : Sig) (a0 a1 : Value) (s : St) : Option (Value × St) :=
  S.bd (S.it (r03First.l2 S) [a0, a1, (.int .i64 0)] s) fun r18 => if r18.1 = 0 then (S.bd (bld [(.slice none 0 0), (.int .i64 0), (.int .i64 0)] [(0, 1, (r18.2.1.getD 0 undef))]) fun x19 => S.bd (alv r18.2.2 x19) fun r20 => S.bd (S.it (r03First.l9 S) [(r18.2.1.getD 1 undef), r20.1, (.slice none 0 0), (.int .i64 0)] r20.2) fun r60 => if r60.1 = 0 then (S.bd (nck (r60.2.1.getD 0 undef)) fun x61 => S.bd (fld 1 x61) fun x62 => S.bd (ldc r60.2.2 x62) fun x63 => some ((Value.tuple ⟨[(r60.2.1.getD 1 undef), x63, (.int .i64 0)]⟩), r60.2.2)) else (some ((Value.tuple ⟨[(r60.2.1.getD 0 undef), (r60.2.1.getD 1 undef), (r60.2.1.getD 2 undef)]⟩), r60.2.2))) else (some ((Value.tuple ⟨[(r18.2.1.getD 0 undef), (r18.2.1.getD 1 undef), (r18.2.1.getD 2 undef)]⟩), r18.2.2))
def r03First.v (a0 a1 : Value) (s : St) : Option (Value × St) := r03First.t std a0 a1 s
def r03First.w : List Value → St → Option (Value × St)
  | [a0, a1], s => r03First.v a0 a1 s
  | _, _ => none
def r03First.an : An := ⟨59, false, [], [(2, ⟨[.v 0, .v 1, .v 7], [(.exit 0, [.v 0, .v 1]), (.ret, [.v 4, .v 5, .v 6])]⟩), (9, ⟨[.v 1, .v 8, .v 9, .v 10], [(.exit 2, [.v 8, .v 9]), (.ret, [.v 4, .v 5, .v 6])]⟩)], [], [(13, [(z4 0 0), (z4 1 0), (z4 2 0), (z4 3 2), (z4 4 0), (z4 5 0), (z4 6 0), (z4 7 2), (z4 8 0), (z4 9 0), (z4 10 0)]), (14, [(z4 0 0), (z4 1 0), (z4 2 0), (z4 3 0), (z4 4 2), (z4 5 0), (z4 6 0), (z4 7 0)])], [], []⟩
theorem r03First.ok (S : Sig) (a0 a1 : Value) (s : St) : evF S Try.prog r03First.ctx r03First.an Try.f69 [a0, a1] s = r03First.t S a0 a1 s := by kernel_rfl
theorem r03First.cok : CtxOk Try.prog r03First.ctx := .cons r03IsKind.sound r03IsKind.can <| .cons r03Reader_field.sound r03Reader_field.can <| .nil
theorem r03First.draws : fnDraws r03First.an Try.f69 = true := by kernel_rfl
theorem r03First.can : callOk Try.prog 69 = true := by kernel_rfl
theorem r03First.sound : FnOk Try.prog 69 (.st r03First.w) := FnOk.st_of (evF_ok r03First.cok mixed (f := 69) (fn := Try.f69) (by kernel_rfl) r03First.draws) fun args s r h => by
  unfold r03First.w at h; split at h
  · rw [r03First.ok std]; exact h
  · simp at h
def r04Reader_next.ctx : Ctx := [(69, .st r03First.w)]
def r04Reader_next.t (S : Sig) (a0 a1 : Value) (s : St) : Option (Value × St) :=
  S.bd (bx (Go.Value.agg #[(.int .i64 0), (.int .u64 0), (.int .i64 0), (.bool Bool.false), (.slice none 0 0), (.int .i64 0), (.int .u64 0), (.int .i64 0), (.int .u64 0), (.int .i64 0), (.int .i64 0), (.int .u64 0), (.int .i64 0), (.int .u64 0)])) fun c1 => S.bd (nck a0) fun x2 => S.bd (fld 0 x2) fun x3 => S.bd (ldc s x3) fun x4 => S.bd (S.bd (bls 1 (List.replicate 1 [(.int .i64 0)]) [(0, a1)]) fun rows => als s 1 1 rows) fun r5 => S.bd (r03First.v x4 r5.1 r5.2) fun r6 => S.bd (xtr 0 r6.1) fun x7 => S.bd (xtr 1 r6.1) fun x8 => S.bd (xtr 2 r6.1) fun x9 => S.bd (nck a0) fun x10 => S.bd (fld 1 x10) fun x11 => S.bd (ldc r6.2 x11) fun x12 => S.bd (S.gd x12 false (some x9)) fun x13 => S.bd (S.gd x12 false (eqb [1] false true x13 (.int .i64 0))) fun x14 => S.bd (pik x12 (.bool Bool.true) x14) fun x15 => S.cnd x15 (S.bd (nck a0) fun x16 => S.bd (fld 1 x16) fun x17 => S.bd (stv r6.2 1 x17 (.bool Bool.true)) fun s18 => S.bd (bld [(.int .i64 0), (.int .u64 0), (.int .i64 0), (.bool Bool.false), (.slice none 0 0), (.int .i64 0), (.int .u64 0), (.int .i64 0), (.int .u64 0), (.int .i64 0), (.int .i64 0), (.int .u64 0), (.int .i64 0), (.int .u64 0)] []) fun x19 => S.bd (stl c1 0 14 x19) fun c20 => S.bd (lal c20 0 14) fun x21 => some (x21, s18)) (S.bd (nck a0) fun x22 => S.bd (fld 0 x22) fun x23 => S.bd (ldc r6.2 x23) fun x24 => S.bd (slc r6.2 1 x24 (some x8) none none) fun x25 => S.bd (nck a0) fun x26 => S.bd (fld 0 x26) fun x27 => S.bd (stv r6.2 1 x27 x25) fun s28 => S.bd (idx s28 14 x7 (.int .i64 0)) fun x29 => S.bd (lda s28 14 x29) fun x30 => S.bd (stl c1 0 14 x30) fun c31 => S.bd (lal c31 0 14) fun x32 => some (x32, s28))
def r04Reader_next.v (a0 a1 : Value) (s : St) : Option (Value × St) := r04Reader_next.t std a0 a1 s
def r04Reader_next.w : List Value → St → Option (Value × St)
  | [a0, a1], s => r04Reader_next.v a0 a1 s
  | _, _ => none
def r04Reader_next.an : An := ⟨43, false, [4], [], [], [], [], []⟩
theorem r04Reader_next.ok (S : Sig) (a0 a1 : Value) (s : St) : evF S Try.prog r04Reader_next.ctx r04Reader_next.an Try.f49 [a0, a1] s = r04Reader_next.t S a0 a1 s := by kernel_rfl
theorem r04Reader_next.cok : CtxOk Try.prog r04Reader_next.ctx := .cons r03First.sound r03First.can <| .nil
theorem r04Reader_next.draws : fnDraws r04Reader_next.an Try.f49 = true := by kernel_rfl
theorem r04Reader_next.can : callOk Try.prog 49 = true := by kernel_rfl
theorem r04Reader_next.sound : FnOk Try.prog 49 (.st r04Reader_next.w) := FnOk.st_of (evF_ok r04Reader_next.cok mixed (f := 49) (fn := Try.f49) (by kernel_rfl) r04Reader_next.draws) fun args s r h => by
  unfold r04Reader_next.w at h; split at h
  · rw [r04Reader_next.ok std]; exact h
  · simp at h
def r04Reader_addr.ctx : Ctx := [(49, .st r04Reader_next.w)]
def r04Reader_addr.t (S : Sig) (a0 : Value) (s : St) : Option (Value × St) :=
  S.bd (bx (Go.Value.agg #[(.bool Bool.false), (.int .i64 0)])) fun c1 => S.bd (r04Reader_next.v a0 (.int .i64 3) s) fun r2 => S.bd (prt 3 1 false r2.1) fun x3 => S.bd (r04Reader_next.v a0 (.int .i64 2) r2.2) fun r4 => S.bd (prt 2 1 false r4.1) fun x5 => S.bd (bld [(.bool Bool.false), (.int .i64 0)] [(0, 1, x3), (1, 1, x5)]) fun x6 => S.bd (stl c1 0 2 x6) fun c7 => S.bd (lal c7 0 2) fun x8 => some (x8, r4.2)
def r04Reader_addr.v (a0 : Value) (s : St) : Option (Value × St) := r04Reader_addr.t std a0 s
def r04Reader_addr.w : List Value → St → Option (Value × St)
  | [a0], s => r04Reader_addr.v a0 s
  | _, _ => none
def r04Reader_addr.an : An := ⟨12, false, [2], [], [], [], [], []⟩
theorem r04Reader_addr.ok (S : Sig) (a0 : Value) (s : St) : evF S Try.prog r04Reader_addr.ctx r04Reader_addr.an Try.f50 [a0] s = r04Reader_addr.t S a0 s := by kernel_rfl
theorem r04Reader_addr.cok : CtxOk Try.prog r04Reader_addr.ctx := .cons r04Reader_next.sound r04Reader_next.can <| .nil
theorem r04Reader_addr.draws : fnDraws r04Reader_addr.an Try.f50 = true := by kernel_rfl
theorem r04Reader_addr.can : callOk Try.prog 50 = true := by kernel_rfl
theorem r04Reader_addr.sound : FnOk Try.prog 50 (.st r04Reader_addr.w) := FnOk.st_of (evF_ok r04Reader_addr.cok mixed (f := 50) (fn := Try.f50) (by kernel_rfl) r04Reader_addr.draws) fun args s r h => by
  unfold r04Reader_addr.w at h; split at h
  · rw [r04Reader_addr.ok std]; exact h
  · simp at h
def r04Reader_beside.ctx : Ctx := [(49, .st r04Reader_next.w)]
def r04Reader_beside.t (S : Sig) (a0 : Value) (s : St) : Option (Value × St) :=
  S.bd (bx (Go.Value.agg #[(.int .i64 0), (.int .i64 0), (.int .u64 0), (.int .i64 0), (.int .u64 0)])) fun c1 => S.bd (r04Reader_next.v a0 (.int .i64 3) s) fun r2 => S.bd (prt 3 1 false r2.1) fun x3 => S.bd (un .not x3) fun x4 => S.cnd x4 (S.bd (bld [(.int .i64 0), (.int .i64 0), (.int .u64 0), (.int .i64 0), (.int .u64 0)] []) fun x5 => S.bd (stl c1 0 5 x5) fun c6 => S.bd (lal c6 0 5) fun x7 => some (x7, r2.2)) (S.bd (r04Reader_next.v a0 (.int .i64 7) r2.2) fun r8 => S.bd (prt 9 5 true r8.1) fun x9 => S.bd (stl c1 0 5 x9) fun c10 => S.bd (lal c10 0 5) fun x11 => some (x11, r8.2))
def r04Reader_beside.v (a0 : Value) (s : St) : Option (Value × St) := r04Reader_beside.t std a0 s
def r04Reader_beside.w : List Value → St → Option (Value × St)
  | [a0], s => r04Reader_beside.v a0 s
  | _, _ => none
def r04Reader_beside.an : An := ⟨11, false, [2], [], [], [], [], []⟩
theorem r04Reader_beside.ok (S : Sig) (a0 : Value) (s : St) : evF S Try.prog r04Reader_beside.ctx r04Reader_beside.an Try.f70 [a0] s = r04Reader_beside.t S a0 s := by kernel_rfl
theorem r04Reader_beside.cok : CtxOk Try.prog r04Reader_beside.ctx := .cons r04Reader_next.sound r04Reader_next.can <| .nil
theorem r04Reader_beside.draws : fnDraws r04Reader_beside.an Try.f70 = true := by kernel_rfl
theorem r04Reader_beside.can : callOk Try.prog 70 = true := by kernel_rfl
theorem r04Reader_beside.sound : FnOk Try.prog 70 (.st r04Reader_beside.w) := FnOk.st_of (evF_ok r04Reader_beside.cok mixed (f := 70) (fn := Try.f70) (by kernel_rfl) r04Reader_beside.draws) fun args s r h => by
  unfold r04Reader_beside.w at h; split at h
  · rw [r04Reader_beside.ok std]; exact h
  · simp at h
def r04Reader_answer.ctx : Ctx := [(49, .st r04Reader_next.w), (70, .st r04Reader_beside.w)]
def r04Reader_answer.t.p1 (S : Sig) (x3 : Value) (a0 : Value) (r2 : Value × St) (c1 : List Value) : Option (Value × St) :=
  S.bd (cvi .i64 x3) fun x11 => S.bd (bld [(.int .i64 0), (.bool Bool.false), (.int .i64 0), (.int .i64 0), (.int .u64 0), (.int .i64 0), (.int .u64 0), (.int .i64 0), (.int .i64 0), (.int .u64 0), (.int .i64 0), (.int .u64 0), (.slice none 0 0)] [(0, 1, x11)]) fun x12 => S.bd (bx (Go.Value.agg #[(.int .i64 0), (.bool Bool.false), (.int .i64 0), (.int .i64 0), (.int .u64 0), (.int .i64 0), (.int .u64 0), (.int .i64 0), (.int .i64 0), (.int .u64 0), (.int .i64 0), (.int .u64 0), (.slice none 0 0)])) fun c13 => S.bd (stl c13 0 13 x12) fun c14 => S.bd (show Option Cut from S.bd (lcl c14 0) fun x27 => S.bd (eqb [1] false false x27 (.int .i64 1)) fun x28 => S.bd (S.gd x28 false (lcl c14 0)) fun x29 => S.bd (S.gd x28 false (eqb [1] false false x29 (.int .i64 3))) fun x30 => S.bd (pik x28 (.bool Bool.true) x30) fun x31 => S.cnd x31 (S.bd (r04Reader_next.v a0 (.int .i64 3) r2.2) fun r32 => S.bd (prt 3 1 false r32.1) fun x33 => S.bd (stl c14 1 1 x33) fun c34 => S.bd (r04Reader_beside.v a0 r32.2) fun r35 => S.bd (stl c34 2 5 r35.1) fun c36 => S.bd (r04Reader_beside.v a0 r35.2) fun r37 => S.bd (stl c36 7 5 r37.1) fun c38 => some (0, [a0, (Value.agg ⟨c1⟩), (Value.agg ⟨c38⟩)], r37.2)) (some (0, [a0, (Value.agg ⟨c1⟩), (Value.agg ⟨c14⟩)], r2.2))) fun r39 => S.bd (lcl (cellsA (r39.2.1.getD 2 undef)) 0) fun x40 => S.bd (eqb [1] false false x40 (.int .i64 1)) fun x41 => S.cnd x41 (S.bd (r04Reader_next.v (r39.2.1.getD 0 undef) (.int .i64 4) r39.2.2) fun r42 => S.bd (prt 4 1 false r42.1) fun x43 => S.bd (stl (cellsA (r39.2.1.getD 2 undef)) 12 1 x43) fun c44 => S.bd (lal c44 0 13) fun x45 => S.bd (stl (cellsA (r39.2.1.getD 1 undef)) 0 13 x45) fun c46 => S.bd (lal c46 0 13) fun x47 => some (x47, r42.2)) (S.bd (lal (cellsA (r39.2.1.getD 2 undef)) 0 13) fun x48 => S.bd (stl (cellsA (r39.2.1.getD 1 undef)) 0 13 x48) fun c49 => S.bd (lal c49 0 13) fun x50 => some (x50, r39.2.2))
def r04Reader_answer.t (S : Sig) (a0 : Value) (s : St) : Option (Value × St) :=
  S.bd (bx (Go.Value.agg #[(.int .i64 0), (.bool Bool.false), (.int .i64 0), (.int .i64 0), (.int .u64 0), (.int .i64 0), (.int .u64 0), (.int .i64 0), (.int .i64 0), (.int .u64 0), (.int .i64 0), (.int .u64 0), (.slice none 0 0)])) fun c1 => S.bd (r04Reader_next.v a0 (.int .i64 1) s) fun r2 => S.bd (prt 1 1 false r2.1) fun x3 => S.bd (bin .gtr x3 (.int .u64 100)) fun x4 => S.cnd x4 (S.bd (nck a0) fun x5 => S.bd (fld 1 x5) fun x6 => S.bd (stv r2.2 1 x6 (.bool Bool.true)) fun s7 => S.bd (bld [(.int .i64 0), (.bool Bool.false), (.int .i64 0), (.int .i64 0), (.int .u64 0), (.int .i64 0), (.int .u64 0), (.int .i64 0), (.int .i64 0), (.int .u64 0), (.int .i64 0), (.int .u64 0), (.slice none 0 0)] []) fun x8 => S.bd (stl c1 0 13 x8) fun c9 => S.bd (lal c9 0 13) fun x10 => some (x10, s7)) (r04Reader_answer.t.p1 S x3 a0 r2 c1)
def r04Reader_answer.v (a0 : Value) (s : St) : Option (Value × St) := r04Reader_answer.t std a0 s
def r04Reader_answer.w : List Value → St → Option (Value × St)
  | [a0], s => r04Reader_answer.v a0 s
  | _, _ => none
def r04Reader_answer.an : An := ⟨43, false, [2, 4], [], [(10, ⟨[], [(.normal, [.v 0, .p 2 2 0, .p 4 4 0, .l 2, .l 4])]⟩)], [], [], []⟩
theorem r04Reader_answer.ok (S : Sig) (a0 : Value) (s : St) : evF S Try.prog r04Reader_answer.ctx r04Reader_answer.an Try.f51 [a0] s = r04Reader_answer.t S a0 s := by kernel_rfl
theorem r04Reader_answer.cok : CtxOk Try.prog r04Reader_answer.ctx := .cons r04Reader_next.sound r04Reader_next.can <| .cons r04Reader_beside.sound r04Reader_beside.can <| .nil
theorem r04Reader_answer.draws : fnDraws r04Reader_answer.an Try.f51 = true := by kernel_rfl
theorem r04Reader_answer.can : callOk Try.prog 51 = true := by kernel_rfl
theorem r04Reader_answer.sound : FnOk Try.prog 51 (.st r04Reader_answer.w) := FnOk.st_of (evF_ok r04Reader_answer.cok mixed (f := 51) (fn := Try.f51) (by kernel_rfl) r04Reader_answer.draws) fun args s r h => by
  unfold r04Reader_answer.w at h; split at h
  · rw [r04Reader_answer.ok std]; exact h
  · simp at h
def r04Reader_ask.ctx : Ctx := [(49, .st r04Reader_next.w), (31, .rd r04has.w)]
def r04Reader_ask.t.p1 (S : Sig) (x16 : Value) (x17 : Value) (a0 : Value) (r2 : Value × St) (c14 : List Value) (x18 : Value) (x19 : Value) (c1 : List Value) : Option (Value × St) :=
  S.bd (xtr 3 x16) fun x20 => S.bd (show Option Cut from S.cnd x17 (S.bd (r04Reader_next.v a0 (.int .i64 5) r2.2) fun r24 => S.bd (prt 5 2 true r24.1) fun x25 => S.bd (stl c14 1 2 x25) fun c26 => some (0, [a0, x18, x19, x20, (Value.agg ⟨c1⟩), (Value.agg ⟨c26⟩)], r24.2)) (some (0, [a0, x18, x19, x20, (Value.agg ⟨c1⟩), (Value.agg ⟨c14⟩)], r2.2))) fun r27 => S.bd (show Option Cut from S.cnd (r27.2.1.getD 1 undef) (S.bd (r04Reader_next.v (r27.2.1.getD 0 undef) (.int .i64 7) r27.2.2) fun r31 => S.bd (prt 9 5 true r31.1) fun x32 => S.bd (stl (cellsA (r27.2.1.getD 5 undef)) 3 5 x32) fun c33 => some (0, [(r27.2.1.getD 0 undef), (r27.2.1.getD 2 undef), (r27.2.1.getD 3 undef), (Value.agg ⟨(cellsA (r27.2.1.getD 4 undef))⟩), (Value.agg ⟨c33⟩)], r31.2)) (some (0, [(r27.2.1.getD 0 undef), (r27.2.1.getD 2 undef), (r27.2.1.getD 3 undef), (Value.agg ⟨(cellsA (r27.2.1.getD 4 undef))⟩), (Value.agg ⟨(cellsA (r27.2.1.getD 5 undef))⟩)], r27.2.2))) fun r34 => S.bd (show Option Cut from S.cnd (r34.2.1.getD 1 undef) (S.bd (r04Reader_next.v (r34.2.1.getD 0 undef) (.int .i64 7) r34.2.2) fun r38 => S.bd (prt 9 5 true r38.1) fun x39 => S.bd (stl (cellsA (r34.2.1.getD 4 undef)) 8 5 x39) fun c40 => some (0, [(r34.2.1.getD 0 undef), (r34.2.1.getD 2 undef), (Value.agg ⟨(cellsA (r34.2.1.getD 3 undef))⟩), (Value.agg ⟨c40⟩)], r38.2)) (some (0, [(r34.2.1.getD 0 undef), (r34.2.1.getD 2 undef), (Value.agg ⟨(cellsA (r34.2.1.getD 3 undef))⟩), (Value.agg ⟨(cellsA (r34.2.1.getD 4 undef))⟩)], r34.2.2))) fun r41 => S.cnd (r41.2.1.getD 1 undef) (S.bd (r04Reader_next.v (r41.2.1.getD 0 undef) (.int .i64 2) r41.2.2) fun r42 => S.bd (prt 2 1 false r42.1) fun x43 => S.bd (stl (cellsA (r41.2.1.getD 3 undef)) 13 1 x43) fun c44 => S.bd (r04Reader_next.v (r41.2.1.getD 0 undef) (.int .i64 2) r42.2) fun r45 => S.bd (prt 2 1 false r45.1) fun x46 => S.bd (stl c44 14 1 x46) fun c47 => S.bd (lal c47 0 15) fun x48 => S.bd (stl (cellsA (r41.2.1.getD 2 undef)) 0 15 x48) fun c49 => S.bd (lal c49 0 15) fun x50 => some (x50, r45.2)) (S.bd (lal (cellsA (r41.2.1.getD 3 undef)) 0 15) fun x51 => S.bd (stl (cellsA (r41.2.1.getD 2 undef)) 0 15 x51) fun c52 => S.bd (lal c52 0 15) fun x53 => some (x53, r41.2.2))
def r04Reader_ask.t (S : Sig) (a0 : Value) (s : St) : Option (Value × St) :=
  S.bd (bx (Go.Value.agg #[(.int .i64 0), (.int .i64 0), (.int .u64 0), (.int .i64 0), (.int .i64 0), (.int .u64 0), (.int .i64 0), (.int .u64 0), (.int .i64 0), (.int .i64 0), (.int .u64 0), (.int .i64 0), (.int .u64 0), (.int .i64 0), (.int .i64 0)])) fun c1 => S.bd (r04Reader_next.v a0 (.int .i64 1) s) fun r2 => S.bd (prt 1 1 false r2.1) fun x3 => S.bd (bin .gtr x3 (.int .u64 100)) fun x4 => S.cnd x4 (S.bd (nck a0) fun x5 => S.bd (fld 1 x5) fun x6 => S.bd (stv r2.2 1 x6 (.bool Bool.true)) fun s7 => S.bd (bld [(.int .i64 0), (.int .i64 0), (.int .u64 0), (.int .i64 0), (.int .i64 0), (.int .u64 0), (.int .i64 0), (.int .u64 0), (.int .i64 0), (.int .i64 0), (.int .u64 0), (.int .i64 0), (.int .u64 0), (.int .i64 0), (.int .i64 0)] []) fun x8 => S.bd (stl c1 0 15 x8) fun c9 => S.bd (lal c9 0 15) fun x10 => some (x10, s7)) (S.bd (cvi .i64 x3) fun x11 => S.bd (bld [(.int .i64 0), (.int .i64 0), (.int .u64 0), (.int .i64 0), (.int .i64 0), (.int .u64 0), (.int .i64 0), (.int .u64 0), (.int .i64 0), (.int .i64 0), (.int .u64 0), (.int .i64 0), (.int .u64 0), (.int .i64 0), (.int .i64 0)] [(0, 1, x11)]) fun x12 => S.bd (bx (Go.Value.agg #[(.int .i64 0), (.int .i64 0), (.int .u64 0), (.int .i64 0), (.int .i64 0), (.int .u64 0), (.int .i64 0), (.int .u64 0), (.int .i64 0), (.int .i64 0), (.int .u64 0), (.int .i64 0), (.int .u64 0), (.int .i64 0), (.int .i64 0)])) fun c13 => S.bd (stl c13 0 15 x12) fun c14 => S.bd (lcl c14 0) fun x15 => S.bd (r04has.r x15 r2.2) fun x16 => S.bd (xtr 0 x16) fun x17 => S.bd (xtr 1 x16) fun x18 => S.bd (xtr 2 x16) fun x19 => r04Reader_ask.t.p1 S x16 x17 a0 r2 c14 x18 x19 c1)
def r04Reader_ask.v (a0 : Value) (s : St) : Option (Value × St) := r04Reader_ask.t std a0 s
def r04Reader_ask.w : List Value → St → Option (Value × St)
  | [a0], s => r04Reader_ask.v a0 s
  | _, _ => none
def r04Reader_ask.an : An := ⟨56, false, [2, 4], [], [(9, ⟨[], [(.normal, [.v 0, .p 2 2 0, .p 4 4 0, .v 6, .v 7, .v 8, .l 2, .l 4])]⟩), (11, ⟨[], [(.normal, [.v 0, .p 2 2 0, .p 4 4 0, .v 7, .v 8, .l 2, .l 4])]⟩), (13, ⟨[], [(.normal, [.v 0, .p 2 2 0, .p 4 4 0, .v 8, .l 2, .l 4])]⟩)], [], [], []⟩
theorem r04Reader_ask.ok (S : Sig) (a0 : Value) (s : St) : evF S Try.prog r04Reader_ask.ctx r04Reader_ask.an Try.f52 [a0] s = r04Reader_ask.t S a0 s := by kernel_rfl
theorem r04Reader_ask.cok : CtxOk Try.prog r04Reader_ask.ctx := .cons r04Reader_next.sound r04Reader_next.can <| .cons r04has.sound r04has.can <| .nil
theorem r04Reader_ask.draws : fnDraws r04Reader_ask.an Try.f52 = true := by kernel_rfl
theorem r04Reader_ask.can : callOk Try.prog 52 = true := by kernel_rfl
theorem r04Reader_ask.sound : FnOk Try.prog 52 (.st r04Reader_ask.w) := FnOk.st_of (evF_ok r04Reader_ask.cok mixed (f := 52) (fn := Try.f52) (by kernel_rfl) r04Reader_ask.draws) fun args s r h => by
  unfold r04Reader_ask.w at h; split at h
  · rw [r04Reader_ask.ok std]; exact h
  · simp at h
def r04Decode.ctx : Ctx := [(49, .st r04Reader_next.w), (50, .st r04Reader_addr.w), (51, .st r04Reader_answer.w), (52, .st r04Reader_ask.w), (25, .st r04Encode.w)]
def r04Decode.t.p1 (S : Sig) (x36 : Value) (r28 : Value × St) (x37 : Value) (r26 : Cut) : Option (Value × St) :=
  S.bd (S.gd x36 false (b2s r28.2 x37)) fun x38 => S.bd (S.gd x36 false (some (r26.2.1.getD 0 undef))) fun x39 => S.bd (S.gd x36 false (b2s r28.2 x39)) fun x40 => S.bd (S.gd x36 false (eqb [2] false true x38 x40)) fun x41 => S.bd (pik x36 (.bool Bool.true) x41) fun x42 => S.cnd x42 (S.bd (bld [(.bool Bool.false), (.bool Bool.false), (.int .i64 0), (.bool Bool.false), (.int .i64 0), (.int .i64 0), (.int .i64 0), (.int .i64 0), (.int .u64 0), (.int .i64 0), (.int .i64 0), (.int .u64 0), (.int .i64 0), (.int .u64 0), (.int .i64 0), (.int .i64 0), (.int .u64 0), (.int .i64 0), (.int .u64 0), (.int .i64 0), (.int .i64 0), (.int .i64 0), (.bool Bool.false), (.int .i64 0), (.int .i64 0), (.int .u64 0), (.int .i64 0), (.int .u64 0), (.int .i64 0), (.int .i64 0), (.int .u64 0), (.int .i64 0), (.int .u64 0), (.slice none 0 0)] []) fun x43 => S.bd (stl (cellsA (r26.2.1.getD 2 undef)) 0 34 x43) fun c44 => S.bd (lal c44 0 34) fun x45 => some ((Value.tuple ⟨[x45, (.int .i64 40)]⟩), r28.2)) (S.bd (lal (cellsA (r26.2.1.getD 3 undef)) 0 34) fun x46 => S.bd (stl (cellsA (r26.2.1.getD 2 undef)) 0 34 x46) fun c47 => S.bd (lal c47 0 34) fun x48 => some ((Value.tuple ⟨[x48, (.int .i64 0)]⟩), r28.2))
def r04Decode.t (S : Sig) (a0 : Value) (s : St) : Option (Value × St) :=
  S.bd (bx (Go.Value.agg #[(.bool Bool.false), (.bool Bool.false), (.int .i64 0), (.bool Bool.false), (.int .i64 0), (.int .i64 0), (.int .i64 0), (.int .i64 0), (.int .u64 0), (.int .i64 0), (.int .i64 0), (.int .u64 0), (.int .i64 0), (.int .u64 0), (.int .i64 0), (.int .i64 0), (.int .u64 0), (.int .i64 0), (.int .u64 0), (.int .i64 0), (.int .i64 0), (.int .i64 0), (.bool Bool.false), (.int .i64 0), (.int .i64 0), (.int .u64 0), (.int .i64 0), (.int .u64 0), (.int .i64 0), (.int .i64 0), (.int .u64 0), (.int .i64 0), (.int .u64 0), (.slice none 0 0)])) fun c1 => S.bd (bld [(.slice none 0 0), (.bool Bool.false)] [(0, 1, a0)]) fun x2 => S.bd (alv s x2) fun r3 => S.bd (r04Reader_next.v r3.1 (.int .i64 3) r3.2) fun r4 => S.bd (prt 3 1 false r4.1) fun x5 => S.bd (bld [(.bool Bool.false), (.bool Bool.false), (.int .i64 0), (.bool Bool.false), (.int .i64 0), (.int .i64 0), (.int .i64 0), (.int .i64 0), (.int .u64 0), (.int .i64 0), (.int .i64 0), (.int .u64 0), (.int .i64 0), (.int .u64 0), (.int .i64 0), (.int .i64 0), (.int .u64 0), (.int .i64 0), (.int .u64 0), (.int .i64 0), (.int .i64 0), (.int .i64 0), (.bool Bool.false), (.int .i64 0), (.int .i64 0), (.int .u64 0), (.int .i64 0), (.int .u64 0), (.int .i64 0), (.int .i64 0), (.int .u64 0), (.int .i64 0), (.int .u64 0), (.slice none 0 0)] [(0, 1, x5)]) fun x6 => S.bd (bx (Go.Value.agg #[(.bool Bool.false), (.bool Bool.false), (.int .i64 0), (.bool Bool.false), (.int .i64 0), (.int .i64 0), (.int .i64 0), (.int .i64 0), (.int .u64 0), (.int .i64 0), (.int .i64 0), (.int .u64 0), (.int .i64 0), (.int .u64 0), (.int .i64 0), (.int .i64 0), (.int .u64 0), (.int .i64 0), (.int .u64 0), (.int .i64 0), (.int .i64 0), (.int .i64 0), (.bool Bool.false), (.int .i64 0), (.int .i64 0), (.int .u64 0), (.int .i64 0), (.int .u64 0), (.int .i64 0), (.int .i64 0), (.int .u64 0), (.int .i64 0), (.int .u64 0), (.slice none 0 0)])) fun c7 => S.bd (stl c7 0 34 x6) fun c8 => S.bd (r04Reader_addr.v r3.1 r4.2) fun r9 => S.bd (stl c8 1 2 r9.1) fun c10 => S.bd (r04Reader_addr.v r3.1 r9.2) fun r11 => S.bd (stl c10 3 2 r11.1) fun c12 => S.bd (r04Reader_next.v r3.1 (.int .i64 2) r11.2) fun r13 => S.bd (prt 2 1 false r13.1) fun x14 => S.bd (stl c12 5 1 x14) fun c15 => S.bd (show Option Cut from S.bd (lcl c15 0) fun x21 => S.cnd x21 (S.bd (r04Reader_answer.v r3.1 r13.2) fun r22 => S.bd (stl c15 21 13 r22.1) fun c23 => some (0, [a0, r3.1, (Value.agg ⟨c1⟩), (Value.agg ⟨c23⟩)], r22.2)) (S.bd (r04Reader_ask.v r3.1 r13.2) fun r24 => S.bd (stl c15 6 15 r24.1) fun c25 => some (0, [a0, r3.1, (Value.agg ⟨c1⟩), (Value.agg ⟨c25⟩)], r24.2))) fun r26 => S.bd (lal (cellsA (r26.2.1.getD 3 undef)) 0 34) fun x27 => S.bd (r04Encode.v x27 r26.2.2) fun r28 => S.bd (xtr 0 r28.1) fun x29 => S.bd (xtr 1 r28.1) fun x30 => S.bd (nck (r26.2.1.getD 1 undef)) fun x31 => S.bd (fld 1 x31) fun x32 => S.bd (ldc r28.2 x32) fun x33 => S.bd (S.gd x33 false (some x30)) fun x34 => S.bd (S.gd x33 false (eqb [1] false true x34 (.int .i64 0))) fun x35 => S.bd (pik x33 (.bool Bool.true) x35) fun x36 => S.bd (S.gd x36 false (some x29)) fun x37 => r04Decode.t.p1 S x36 r28 x37 r26
def r04Decode.v (a0 : Value) (s : St) : Option (Value × St) := r04Decode.t std a0 s
def r04Decode.w : List Value → St → Option (Value × St)
  | [a0], s => r04Decode.v a0 s
  | _, _ => none
def r04Decode.an : An := ⟨55, false, [2, 5], [], [(9, ⟨[], [(.normal, [.v 0, .p 2 2 0, .v 4, .p 5 5 0, .l 2, .l 5])]⟩)], [], [], []⟩
theorem r04Decode.ok (S : Sig) (a0 : Value) (s : St) : evF S Try.prog r04Decode.ctx r04Decode.an Try.f27 [a0] s = r04Decode.t S a0 s := by kernel_rfl
theorem r04Decode.cok : CtxOk Try.prog r04Decode.ctx := .cons r04Reader_next.sound r04Reader_next.can <| .cons r04Reader_addr.sound r04Reader_addr.can <| .cons r04Reader_answer.sound r04Reader_answer.can <| .cons r04Reader_ask.sound r04Reader_ask.can <| .cons r04Encode.sound r04Encode.can <| .nil
theorem r04Decode.draws : fnDraws r04Decode.an Try.f27 = true := by kernel_rfl
theorem r04Decode.can : callOk Try.prog 27 = true := by kernel_rfl
theorem r04Decode.sound : FnOk Try.prog 27 (.st r04Decode.w) := FnOk.st_of (evF_ok r04Decode.cok mixed (f := 27) (fn := Try.f27) (by kernel_rfl) r04Decode.draws) fun args s r h => by
  unfold r04Decode.w at h; split at h
  · rw [r04Decode.ok std]; exact h
  · simp at h
def l04MsgBytes.ctx : Ctx := [(9, .rd l04light.w), (23, .rd l04cut.w), (24, .st msg_Encode.w), (25, .st r04Encode.w), (26, .st msg_Decode.w), (27, .st r04Decode.w), (21, .rd r04Same.w), (22, .rd l04awakeC.w)]
def l04MsgBytes.t.p1 (S : Sig) (x4 : Value) (r14 : Value × St) (x8 : Value) (x12 : Value) (x9 : Value) (x13 : Value) (c18 : List Value) (x16 : Value) : Option (Value × St) :=
  S.bd (r04Decode.v x4 r14.2) fun r19 => S.bd (xtr 0 r19.1) fun x20 => S.bd (xtr 1 r19.1) fun x21 => S.bd (bx (Go.Value.agg #[(.bool Bool.false), (.bool Bool.false), (.int .i64 0), (.bool Bool.false), (.int .i64 0), (.int .i64 0), (.int .i64 0), (.int .i64 0), (.int .u64 0), (.int .i64 0), (.int .i64 0), (.int .u64 0), (.int .i64 0), (.int .u64 0), (.int .i64 0), (.int .i64 0), (.int .u64 0), (.int .i64 0), (.int .u64 0), (.int .i64 0), (.int .i64 0), (.int .i64 0), (.bool Bool.false), (.int .i64 0), (.int .i64 0), (.int .u64 0), (.int .i64 0), (.int .u64 0), (.int .i64 0), (.int .i64 0), (.int .u64 0), (.int .i64 0), (.int .u64 0), (.slice none 0 0)])) fun c22 => S.bd (stl c22 0 34 x20) fun c23 => S.bd (b2s r19.2 x8) fun x24 => S.bd (b2s r19.2 x12) fun x25 => S.bd (eqb [2] false false x24 x25) fun x26 => S.bd (S.gd x26 true (some x9)) fun x27 => S.bd (S.gd x26 true (some x13)) fun x28 => S.bd (S.gd x26 true (eqb [1] false false x27 x28)) fun x29 => S.bd (pik x26 x29 (.bool Bool.false)) fun x30 => S.bd (S.gd x30 true (lal c18 0 34)) fun x31 => S.bd (S.gd x30 true (lal c23 0 34)) fun x32 => S.bd (S.gd x30 true (r04Same.r x31 x32 r19.2)) fun x33 => S.bd (pik x30 x33 (.bool Bool.false)) fun x34 => S.bd (S.gd x34 true (some x16)) fun x35 => S.bd (S.gd x34 true (some x21)) fun x36 => S.bd (S.gd x34 true (eqb [1] false false x35 x36)) fun x37 => S.bd (pik x34 x37 (.bool Bool.false)) fun x38 => S.bd (S.gd x38 true (l04awakeC.r  r19.2)) fun x39 => S.bd (pik x38 x39 (.bool Bool.false)) fun x40 => some (x40, r19.2)
def l04MsgBytes.t (S : Sig) (a0 a1 : Value) (s : St) : Option (Value × St) :=
  S.bd (bx a0) fun c1 => S.bd (lal c1 0 34) fun x2 => S.bd (l04light.r x2 s) fun x3 => S.bd (l04cut.r a1 s) fun x4 => S.bd (stl c1 0 34 x3) fun c5 => S.bd (lal c5 0 34) fun x6 => S.bd (msg_Encode.v x6 s) fun r7 => S.bd (xtr 0 r7.1) fun x8 => S.bd (xtr 1 r7.1) fun x9 => S.bd (lal c5 0 34) fun x10 => S.bd (r04Encode.v x10 r7.2) fun r11 => S.bd (xtr 0 r11.1) fun x12 => S.bd (xtr 1 r11.1) fun x13 => S.bd (msg_Decode.v x4 r11.2) fun r14 => S.bd (xtr 0 r14.1) fun x15 => S.bd (xtr 1 r14.1) fun x16 => S.bd (bx (Go.Value.agg #[(.bool Bool.false), (.bool Bool.false), (.int .i64 0), (.bool Bool.false), (.int .i64 0), (.int .i64 0), (.int .i64 0), (.int .i64 0), (.int .u64 0), (.int .i64 0), (.int .i64 0), (.int .u64 0), (.int .i64 0), (.int .u64 0), (.int .i64 0), (.int .i64 0), (.int .u64 0), (.int .i64 0), (.int .u64 0), (.int .i64 0), (.int .i64 0), (.int .i64 0), (.bool Bool.false), (.int .i64 0), (.int .i64 0), (.int .u64 0), (.int .i64 0), (.int .u64 0), (.int .i64 0), (.int .i64 0), (.int .u64 0), (.int .i64 0), (.int .u64 0), (.slice none 0 0)])) fun c17 => S.bd (stl c17 0 34 x15) fun c18 => l04MsgBytes.t.p1 S x4 r14 x8 x12 x9 x13 c18 x16
def l04MsgBytes.v (a0 a1 : Value) (s : St) : Option (Value × St) := l04MsgBytes.t std a0 a1 s
def l04MsgBytes.w : List Value → St → Option (Value × St)
  | [a0, a1], s => l04MsgBytes.v a0 a1 s
  | _, _ => none
def l04MsgBytes.an : An := ⟨60, false, [2, 9, 11], [], [], [], [], []⟩
theorem l04MsgBytes.ok (S : Sig) (a0 a1 : Value) (s : St) : evF S Try.prog l04MsgBytes.ctx l04MsgBytes.an Try.f4 [a0, a1] s = l04MsgBytes.t S a0 a1 s := by kernel_rfl
theorem l04MsgBytes.cok : CtxOk Try.prog l04MsgBytes.ctx := .cons l04light.sound l04light.can <| .cons l04cut.sound l04cut.can <| .cons msg_Encode.sound msg_Encode.can <| .cons r04Encode.sound r04Encode.can <| .cons msg_Decode.sound msg_Decode.can <| .cons r04Decode.sound r04Decode.can <| .cons r04Same.sound r04Same.can <| .cons l04awakeC.sound l04awakeC.can <| .nil
theorem l04MsgBytes.draws : fnDraws l04MsgBytes.an Try.f4 = true := by kernel_rfl
theorem l04MsgBytes.can : callOk Try.prog 4 = true := by kernel_rfl
theorem l04MsgBytes.sound : FnOk Try.prog 4 (.st l04MsgBytes.w) := FnOk.st_of (evF_ok l04MsgBytes.cok mixed (f := 4) (fn := Try.f4) (by kernel_rfl) l04MsgBytes.draws) fun args s r h => by
  unfold l04MsgBytes.w at h; split at h
  · rw [l04MsgBytes.ok std]; exact h
  · simp at h
def r04Reply.ctx : Ctx := [(15, .rd r04Check.w), (13, .rd r04CheckAnswer.w)]
def r04Reply.t.p1 (S : Sig) (x8 : Value) (x9 : Value) (s : St) (c3 : List Value) (c1 : List Value) (c2 : List Value) : Option Value :=
  S.bd (S.gd x8 false (r04CheckAnswer.r x9 s)) fun x10 => S.bd (S.gd x8 false (eqb [1] false true x10 (.int .i64 0))) fun x11 => S.bd (pik x8 (.bool Bool.true) x11) fun x12 => S.cnd x12 (S.bd (bld [(.bool Bool.false), (.bool Bool.false), (.int .i64 0), (.bool Bool.false), (.int .i64 0), (.int .i64 0), (.int .i64 0), (.int .i64 0), (.int .u64 0), (.int .i64 0), (.int .i64 0), (.int .u64 0), (.int .i64 0), (.int .u64 0), (.int .i64 0), (.int .i64 0), (.int .u64 0), (.int .i64 0), (.int .u64 0), (.int .i64 0), (.int .i64 0), (.int .i64 0), (.bool Bool.false), (.int .i64 0), (.int .i64 0), (.int .u64 0), (.int .i64 0), (.int .u64 0), (.int .i64 0), (.int .i64 0), (.int .u64 0), (.int .i64 0), (.int .u64 0), (.slice none 0 0)] []) fun x13 => S.bd (stl c3 0 34 x13) fun c14 => S.bd (lal c14 0 34) fun x15 => some ((Value.tuple ⟨[x15, (.int .i64 40)]⟩))) (S.bd (lal c1 3 2) fun x16 => S.bd (lal c1 1 2) fun x17 => S.bd (lcl c1 5) fun x18 => S.bd (lal c2 0 13) fun x19 => S.bd (bld [(.bool Bool.false), (.bool Bool.false), (.int .i64 0), (.bool Bool.false), (.int .i64 0), (.int .i64 0), (.int .i64 0), (.int .i64 0), (.int .u64 0), (.int .i64 0), (.int .i64 0), (.int .u64 0), (.int .i64 0), (.int .u64 0), (.int .i64 0), (.int .i64 0), (.int .u64 0), (.int .i64 0), (.int .u64 0), (.int .i64 0), (.int .i64 0), (.int .i64 0), (.bool Bool.false), (.int .i64 0), (.int .i64 0), (.int .u64 0), (.int .i64 0), (.int .u64 0), (.int .i64 0), (.int .i64 0), (.int .u64 0), (.int .i64 0), (.int .u64 0), (.slice none 0 0)] [(0, 1, (.bool Bool.true)), (1, 2, x16), (3, 2, x17), (5, 1, x18), (21, 13, x19)]) fun x20 => S.bd (stl c3 0 34 x20) fun c21 => S.bd (lal c21 0 34) fun x22 => some ((Value.tuple ⟨[x22, (.int .i64 0)]⟩)))
def r04Reply.t (S : Sig) (a0 a1 : Value) (s : St) : Option Value :=
  S.bd (bx a0) fun c1 => S.bd (bx a1) fun c2 => S.bd (bx (Go.Value.agg #[(.bool Bool.false), (.bool Bool.false), (.int .i64 0), (.bool Bool.false), (.int .i64 0), (.int .i64 0), (.int .i64 0), (.int .i64 0), (.int .u64 0), (.int .i64 0), (.int .i64 0), (.int .u64 0), (.int .i64 0), (.int .u64 0), (.int .i64 0), (.int .i64 0), (.int .u64 0), (.int .i64 0), (.int .u64 0), (.int .i64 0), (.int .i64 0), (.int .i64 0), (.bool Bool.false), (.int .i64 0), (.int .i64 0), (.int .u64 0), (.int .i64 0), (.int .u64 0), (.int .i64 0), (.int .i64 0), (.int .u64 0), (.int .i64 0), (.int .u64 0), (.slice none 0 0)])) fun c3 => S.bd (lal c1 0 34) fun x4 => S.bd (r04Check.r x4 s) fun x5 => S.bd (eqb [1] false true x5 (.int .i64 0)) fun x6 => S.bd (S.gd x6 false (lcl c1 0)) fun x7 => S.bd (pik x6 (.bool Bool.true) x7) fun x8 => S.bd (S.gd x8 false (lal c2 0 13)) fun x9 => r04Reply.t.p1 S x8 x9 s c3 c1 c2
def r04Reply.r (a0 a1 : Value) (s : St) : Option Value := r04Reply.t std a0 a1 s
def r04Reply.w : List Value → St → Option Value
  | [a0, a1], s => r04Reply.r a0 a1 s
  | _, _ => none
def r04Reply.an : An := ⟨27, true, [2, 3, 4], [], [], [], [], []⟩
theorem r04Reply.ok (S : Sig) (a0 a1 : Value) (s : St) : evG S Try.prog r04Reply.ctx r04Reply.an Try.f29 [a0, a1] s = r04Reply.t S a0 a1 s := by kernel_rfl
theorem r04Reply.cok : CtxOk Try.prog r04Reply.ctx := .cons r04Check.sound r04Check.can <| .cons r04CheckAnswer.sound r04CheckAnswer.can <| .nil
theorem r04Reply.draws : fnDraws r04Reply.an Try.f29 = true := by kernel_rfl
theorem r04Reply.can : callOk Try.prog 29 = true := by kernel_rfl
theorem r04Reply.sound : FnOk Try.prog 29 (.rd r04Reply.w) := FnOk.rd_of (evG_ok r04Reply.cok mixed (f := 29) (fn := Try.f29) (by kernel_rfl) r04Reply.draws) fun args s r h => by
  unfold r04Reply.w at h; split at h
  · rw [r04Reply.ok std]; exact h
  · simp at h
def l04MsgReplies.ctx : Ctx := [(9, .rd l04light.w), (23, .rd l04cut.w), (28, .st msg_Reply.w), (29, .rd r04Reply.w), (21, .rd r04Same.w), (22, .rd l04awakeC.w)]
def l04MsgReplies.t.p1 (S : Sig) (c8 : List Value) (x9 : Value) (s : St) (c5 : List Value) : Option (Value × St) :=
  S.bd (lal c8 0 13) fun x10 => S.bd (msg_Reply.v x9 x10 s) fun r11 => S.bd (xtr 0 r11.1) fun x12 => S.bd (xtr 1 r11.1) fun x13 => S.bd (bx (Go.Value.agg #[(.bool Bool.false), (.bool Bool.false), (.int .i64 0), (.bool Bool.false), (.int .i64 0), (.int .i64 0), (.int .i64 0), (.int .i64 0), (.int .u64 0), (.int .i64 0), (.int .i64 0), (.int .u64 0), (.int .i64 0), (.int .u64 0), (.int .i64 0), (.int .i64 0), (.int .u64 0), (.int .i64 0), (.int .u64 0), (.int .i64 0), (.int .i64 0), (.int .i64 0), (.bool Bool.false), (.int .i64 0), (.int .i64 0), (.int .u64 0), (.int .i64 0), (.int .u64 0), (.int .i64 0), (.int .i64 0), (.int .u64 0), (.int .i64 0), (.int .u64 0), (.slice none 0 0)])) fun c14 => S.bd (stl c14 0 34 x12) fun c15 => S.bd (lal c5 0 34) fun x16 => S.bd (lal c8 0 13) fun x17 => S.bd (r04Reply.r x16 x17 r11.2) fun x18 => S.bd (xtr 0 x18) fun x19 => S.bd (xtr 1 x18) fun x20 => S.bd (bx (Go.Value.agg #[(.bool Bool.false), (.bool Bool.false), (.int .i64 0), (.bool Bool.false), (.int .i64 0), (.int .i64 0), (.int .i64 0), (.int .i64 0), (.int .u64 0), (.int .i64 0), (.int .i64 0), (.int .u64 0), (.int .i64 0), (.int .u64 0), (.int .i64 0), (.int .i64 0), (.int .u64 0), (.int .i64 0), (.int .u64 0), (.int .i64 0), (.int .i64 0), (.int .i64 0), (.bool Bool.false), (.int .i64 0), (.int .i64 0), (.int .u64 0), (.int .i64 0), (.int .u64 0), (.int .i64 0), (.int .i64 0), (.int .u64 0), (.int .i64 0), (.int .u64 0), (.slice none 0 0)])) fun c21 => S.bd (stl c21 0 34 x19) fun c22 => S.bd (lal c15 0 34) fun x23 => S.bd (lal c22 0 34) fun x24 => S.bd (r04Same.r x23 x24 r11.2) fun x25 => S.bd (S.gd x25 true (some x13)) fun x26 => S.bd (S.gd x25 true (some x20)) fun x27 => S.bd (S.gd x25 true (eqb [1] false false x26 x27)) fun x28 => S.bd (pik x25 x28 (.bool Bool.false)) fun x29 => S.bd (S.gd x29 true (l04awakeC.r  r11.2)) fun x30 => S.bd (pik x29 x30 (.bool Bool.false)) fun x31 => some (x31, r11.2)
def l04MsgReplies.t (S : Sig) (a0 a1 : Value) (s : St) : Option (Value × St) :=
  S.bd (bx a0) fun c1 => S.bd (bx a1) fun c2 => S.bd (lal c1 0 34) fun x3 => S.bd (l04light.r x3 s) fun x4 => S.bd (stl c1 0 34 x4) fun c5 => S.bd (lcl c2 12) fun x6 => S.bd (l04cut.r x6 s) fun x7 => S.bd (stl c2 12 1 x7) fun c8 => S.bd (lal c5 0 34) fun x9 => l04MsgReplies.t.p1 S c8 x9 s c5
def l04MsgReplies.v (a0 a1 : Value) (s : St) : Option (Value × St) := l04MsgReplies.t std a0 a1 s
def l04MsgReplies.w : List Value → St → Option (Value × St)
  | [a0, a1], s => l04MsgReplies.v a0 a1 s
  | _, _ => none
def l04MsgReplies.an : An := ⟨38, false, [2, 3, 5, 7], [], [], [], [], []⟩
theorem l04MsgReplies.ok (S : Sig) (a0 a1 : Value) (s : St) : evF S Try.prog l04MsgReplies.ctx l04MsgReplies.an Try.f5 [a0, a1] s = l04MsgReplies.t S a0 a1 s := by kernel_rfl
theorem l04MsgReplies.cok : CtxOk Try.prog l04MsgReplies.ctx := .cons l04light.sound l04light.can <| .cons l04cut.sound l04cut.can <| .cons msg_Reply.sound msg_Reply.can <| .cons r04Reply.sound r04Reply.can <| .cons r04Same.sound r04Same.can <| .cons l04awakeC.sound l04awakeC.can <| .nil
theorem l04MsgReplies.draws : fnDraws l04MsgReplies.an Try.f5 = true := by kernel_rfl
theorem l04MsgReplies.can : callOk Try.prog 5 = true := by kernel_rfl
theorem l04MsgReplies.sound : FnOk Try.prog 5 (.st l04MsgReplies.w) := FnOk.st_of (evF_ok l04MsgReplies.cok mixed (f := 5) (fn := Try.f5) (by kernel_rfl) l04MsgReplies.draws) fun args s r h => by
  unfold l04MsgReplies.w at h; split at h
  · rw [l04MsgReplies.ok std]; exact h
  · simp at h
def l04MsgBack.ctx : Ctx := [(22, .rd l04awakeC.w), (9, .rd l04light.w), (23, .rd l04cut.w), (24, .st msg_Encode.w), (26, .st msg_Decode.w), (21, .rd r04Same.w)]
def l04MsgBack.t.p1 (S : Sig) (r36 : Cut) : Option (Value × St) :=
  S.bd (msg_Decode.v (r36.2.1.getD 0 undef) r36.2.2) fun r37 => S.bd (xtr 0 r37.1) fun x38 => S.bd (xtr 1 r37.1) fun x39 => S.bd (bx (Go.Value.agg #[(.bool Bool.false), (.bool Bool.false), (.int .i64 0), (.bool Bool.false), (.int .i64 0), (.int .i64 0), (.int .i64 0), (.int .i64 0), (.int .u64 0), (.int .i64 0), (.int .i64 0), (.int .u64 0), (.int .i64 0), (.int .u64 0), (.int .i64 0), (.int .i64 0), (.int .u64 0), (.int .i64 0), (.int .u64 0), (.int .i64 0), (.int .i64 0), (.int .i64 0), (.bool Bool.false), (.int .i64 0), (.int .i64 0), (.int .u64 0), (.int .i64 0), (.int .u64 0), (.int .i64 0), (.int .i64 0), (.int .u64 0), (.int .i64 0), (.int .u64 0), (.slice none 0 0)])) fun c40 => S.bd (stl c40 0 34 x38) fun c41 => S.bd (eqb [1] false true x39 (.int .i64 0)) fun x42 => S.cnd x42 (S.bd (lal c41 0 34) fun x43 => S.bd (bld [(.bool Bool.false), (.bool Bool.false), (.int .i64 0), (.bool Bool.false), (.int .i64 0), (.int .i64 0), (.int .i64 0), (.int .i64 0), (.int .u64 0), (.int .i64 0), (.int .i64 0), (.int .u64 0), (.int .i64 0), (.int .u64 0), (.int .i64 0), (.int .i64 0), (.int .u64 0), (.int .i64 0), (.int .u64 0), (.int .i64 0), (.int .i64 0), (.int .i64 0), (.bool Bool.false), (.int .i64 0), (.int .i64 0), (.int .u64 0), (.int .i64 0), (.int .u64 0), (.int .i64 0), (.int .i64 0), (.int .u64 0), (.int .i64 0), (.int .u64 0), (.slice none 0 0)] []) fun x44 => S.bd (r04Same.r x43 x44 r37.2) fun x45 => some (x45, r37.2)) (S.bd (lal c41 0 34) fun x46 => S.bd (msg_Encode.v x46 r37.2) fun r47 => S.bd (xtr 0 r47.1) fun x48 => S.bd (xtr 1 r47.1) fun x49 => S.bd (eqb [1] false false x49 (.int .i64 0)) fun x50 => S.bd (S.gd x50 true (some x48)) fun x51 => S.bd (S.gd x50 true (b2s r47.2 x51)) fun x52 => S.bd (S.gd x50 true (some (r36.2.1.getD 0 undef))) fun x53 => S.bd (S.gd x50 true (b2s r47.2 x53)) fun x54 => S.bd (S.gd x50 true (eqb [2] false false x52 x54)) fun x55 => S.bd (pik x50 x55 (.bool Bool.false)) fun x56 => some (x56, r47.2))
def l04MsgBack.t.p2 (S : Sig) (c1 : List Value) (s : St) (a1 : Value) : Option (Value × St) :=
  S.bd (lal c1 0 34) fun x4 => S.bd (l04light.r x4 s) fun x5 => S.bd (l04cut.r a1 s) fun x6 => S.bd (stl c1 0 34 x5) fun c7 => S.bd (lal c7 0 34) fun x8 => S.bd (msg_Encode.v x8 s) fun r9 => S.bd (xtr 0 r9.1) fun x10 => S.bd (xtr 1 r9.1) fun x11 => S.bd (show Option Cut from S.bd (eqb [1] false false x11 (.int .i64 0)) fun x24 => S.cnd x24 (S.bd (msg_Decode.v x10 r9.2) fun r25 => S.bd (xtr 0 r25.1) fun x26 => S.bd (xtr 1 r25.1) fun x27 => S.bd (bx (Go.Value.agg #[(.bool Bool.false), (.bool Bool.false), (.int .i64 0), (.bool Bool.false), (.int .i64 0), (.int .i64 0), (.int .i64 0), (.int .i64 0), (.int .u64 0), (.int .i64 0), (.int .i64 0), (.int .u64 0), (.int .i64 0), (.int .u64 0), (.int .i64 0), (.int .i64 0), (.int .u64 0), (.int .i64 0), (.int .u64 0), (.int .i64 0), (.int .i64 0), (.int .i64 0), (.bool Bool.false), (.int .i64 0), (.int .i64 0), (.int .u64 0), (.int .i64 0), (.int .u64 0), (.int .i64 0), (.int .i64 0), (.int .u64 0), (.int .i64 0), (.int .u64 0), (.slice none 0 0)])) fun c28 => S.bd (stl c28 0 34 x26) fun c29 => S.bd (eqb [1] false true x27 (.int .i64 0)) fun x30 => S.bd (S.gd x30 false (lal c7 0 34)) fun x31 => S.bd (S.gd x30 false (lal c29 0 34)) fun x32 => S.bd (S.gd x30 false (r04Same.r x31 x32 r25.2)) fun x33 => S.bd (S.gd x30 false (un .not x33)) fun x34 => S.bd (pik x30 (.bool Bool.true) x34) fun x35 => S.cnd x35 (some (1, [(.bool Bool.false)], r25.2)) (some (0, [x6], r25.2))) (some (0, [x6], r9.2))) fun r36 => if r36.1 = 0 then (l04MsgBack.t.p1 S r36) else (some ((r36.2.1.getD 0 undef), r36.2.2))
def l04MsgBack.t (S : Sig) (a0 a1 : Value) (s : St) : Option (Value × St) :=
  S.bd (bx a0) fun c1 => S.bd (l04awakeC.r  s) fun x2 => S.bd (un .not x2) fun x3 => S.cnd x3 (some ((.bool Bool.false), s)) (l04MsgBack.t.p2 S c1 s a1)
def l04MsgBack.v (a0 a1 : Value) (s : St) : Option (Value × St) := l04MsgBack.t std a0 a1 s
def l04MsgBack.w : List Value → St → Option (Value × St)
  | [a0, a1], s => l04MsgBack.v a0 a1 s
  | _, _ => none
def l04MsgBack.an : An := ⟨63, false, [2, 7, 9], [], [(9, ⟨[], [(.normal, [.v 1]), (.ret, [.v 4])]⟩)], [], [], []⟩
theorem l04MsgBack.ok (S : Sig) (a0 a1 : Value) (s : St) : evF S Try.prog l04MsgBack.ctx l04MsgBack.an Try.f6 [a0, a1] s = l04MsgBack.t S a0 a1 s := by kernel_rfl
theorem l04MsgBack.cok : CtxOk Try.prog l04MsgBack.ctx := .cons l04awakeC.sound l04awakeC.can <| .cons l04light.sound l04light.can <| .cons l04cut.sound l04cut.can <| .cons msg_Encode.sound msg_Encode.can <| .cons msg_Decode.sound msg_Decode.can <| .cons r04Same.sound r04Same.can <| .nil
theorem l04MsgBack.draws : fnDraws l04MsgBack.an Try.f6 = true := by kernel_rfl
theorem l04MsgBack.can : callOk Try.prog 6 = true := by kernel_rfl
theorem l04MsgBack.sound : FnOk Try.prog 6 (.st l04MsgBack.w) := FnOk.st_of (evF_ok l04MsgBack.cok mixed (f := 6) (fn := Try.f6) (by kernel_rfl) l04MsgBack.draws) fun args s r h => by
  unfold l04MsgBack.w at h; split at h
  · rw [l04MsgBack.ok std]; exact h
  · simp at h
def l04MsgApart.ctx : Ctx := [(22, .rd l04awakeC.w), (9, .rd l04light.w), (24, .st msg_Encode.w), (15, .rd r04Check.w), (21, .rd r04Same.w)]
def l04MsgApart.t (S : Sig) (a0 a1 : Value) (s : St) : Option (Value × St) :=
  S.bd (bx a0) fun c1 => S.bd (bx a1) fun c2 => S.bd (l04awakeC.r  s) fun x3 => S.bd (un .not x3) fun x4 => S.cnd x4 (some ((.bool Bool.false), s)) (S.bd (lal c1 0 34) fun x5 => S.bd (lal c2 0 34) fun x6 => S.bd (l04light.r x5 s) fun x7 => S.bd (l04light.r x6 s) fun x8 => S.bd (stl c1 0 34 x7) fun c9 => S.bd (stl c2 0 34 x8) fun c10 => S.bd (lal c9 0 34) fun x11 => S.bd (msg_Encode.v x11 s) fun r12 => S.bd (xtr 0 r12.1) fun x13 => S.bd (xtr 1 r12.1) fun x14 => S.bd (lal c10 0 34) fun x15 => S.bd (msg_Encode.v x15 r12.2) fun r16 => S.bd (xtr 0 r16.1) fun x17 => S.bd (xtr 1 r16.1) fun x18 => S.bd (eqb [1] false true x14 (.int .i64 0)) fun x19 => S.bd (S.gd x19 false (some x18)) fun x20 => S.bd (S.gd x19 false (eqb [1] false true x20 (.int .i64 0))) fun x21 => S.bd (pik x19 (.bool Bool.true) x21) fun x22 => S.cnd x22 (S.bd (lal c9 0 34) fun x23 => S.bd (r04Check.r x23 r16.2) fun x24 => S.bd (eqb [1] false true x24 (.int .i64 0)) fun x25 => S.bd (S.gd x25 false (lal c10 0 34)) fun x26 => S.bd (S.gd x25 false (r04Check.r x26 r16.2)) fun x27 => S.bd (S.gd x25 false (eqb [1] false true x27 (.int .i64 0))) fun x28 => S.bd (pik x25 (.bool Bool.true) x28) fun x29 => some (x29, r16.2)) (S.bd (lenL x13) fun x30 => S.bd (lenL x17) fun x31 => S.bd (mn2 x30 x31) fun x32 => S.bd (slc r16.2 1 x13 none (some x32) none) fun x33 => S.bd (b2s r16.2 x33) fun x34 => S.bd (slc r16.2 1 x17 none (some x32) none) fun x35 => S.bd (b2s r16.2 x35) fun x36 => S.bd (eqb [2] false false x34 x36) fun x37 => S.bd (lal c9 0 34) fun x38 => S.bd (lal c10 0 34) fun x39 => S.bd (r04Same.r x38 x39 r16.2) fun x40 => S.bd (eqb [0] false false x37 x40) fun x41 => some (x41, r16.2)))
def l04MsgApart.v (a0 a1 : Value) (s : St) : Option (Value × St) := l04MsgApart.t std a0 a1 s
def l04MsgApart.w : List Value → St → Option (Value × St)
  | [a0, a1], s => l04MsgApart.v a0 a1 s
  | _, _ => none
def l04MsgApart.an : An := ⟨58, false, [2, 3], [], [], [(3, [(z4 0 17), (z4 2 25), (z4 1 3), (z4 3 3), (z4 4 21), (z4 5 29)]), (9, [(z4 0 0), (z4 1 0), (z4 2 2), (z4 3 2), (z4 4 0), (z4 5 0), (z4 6 2), (z4 7 2), (z4 8 0), (z4 9 17), (z4 10 25), (z4 11 3), (z4 12 0), (z4 13 0)])], [], []⟩
theorem l04MsgApart.ok (S : Sig) (a0 a1 : Value) (s : St) : evF S Try.prog l04MsgApart.ctx l04MsgApart.an Try.f7 [a0, a1] s = l04MsgApart.t S a0 a1 s := by kernel_rfl
theorem l04MsgApart.cok : CtxOk Try.prog l04MsgApart.ctx := .cons l04awakeC.sound l04awakeC.can <| .cons l04light.sound l04light.can <| .cons msg_Encode.sound msg_Encode.can <| .cons r04Check.sound r04Check.can <| .cons r04Same.sound r04Same.can <| .nil
theorem l04MsgApart.draws : fnDraws l04MsgApart.an Try.f7 = true := by kernel_rfl
theorem l04MsgApart.can : callOk Try.prog 7 = true := by kernel_rfl
theorem l04MsgApart.sound : FnOk Try.prog 7 (.st l04MsgApart.w) := FnOk.st_of (evF_ok l04MsgApart.cok mixed (f := 7) (fn := Try.f7) (by kernel_rfl) l04MsgApart.draws) fun args s r h => by
  unfold l04MsgApart.w at h; split at h
  · rw [l04MsgApart.ok std]; exact h
  · simp at h
def l04MsgAnswers.ctx : Ctx := [(22, .rd l04awakeC.w), (9, .rd l04light.w), (23, .rd l04cut.w), (28, .st msg_Reply.w), (15, .rd r04Check.w), (13, .rd r04CheckAnswer.w), (24, .st msg_Encode.w), (26, .st msg_Decode.w), (19, .rd r04SameAnswer.w)]
def l04MsgAnswers.t.p1 (S : Sig) (c17 : List Value) (c10 : List Value) (r32 : Value × St) (x31 : Value) (x34 : Value) (c36 : List Value) (c7 : List Value) : Option (Value × St) :=
  S.bd (lal c17 0 34) fun x37 => S.bd (lal c10 0 13) fun x38 => S.bd (msg_Reply.v x37 x38 r32.2) fun r39 => S.bd (xtr 0 r39.1) fun x40 => S.bd (xtr 1 r39.1) fun x41 => S.bd (bx (Go.Value.agg #[(.bool Bool.false), (.bool Bool.false), (.int .i64 0), (.bool Bool.false), (.int .i64 0), (.int .i64 0), (.int .i64 0), (.int .i64 0), (.int .u64 0), (.int .i64 0), (.int .i64 0), (.int .u64 0), (.int .i64 0), (.int .u64 0), (.int .i64 0), (.int .i64 0), (.int .u64 0), (.int .i64 0), (.int .u64 0), (.int .i64 0), (.int .i64 0), (.int .i64 0), (.bool Bool.false), (.int .i64 0), (.int .i64 0), (.int .u64 0), (.int .i64 0), (.int .u64 0), (.int .i64 0), (.int .i64 0), (.int .u64 0), (.int .i64 0), (.int .u64 0), (.slice none 0 0)])) fun c42 => S.bd (stl c42 0 34 x40) fun c43 => S.bd (eqb [1] false false x31 (.int .i64 0)) fun x44 => S.bd (S.gd x44 true (some x34)) fun x45 => S.bd (S.gd x44 true (eqb [1] false false x45 (.int .i64 0))) fun x46 => S.bd (pik x44 x46 (.bool Bool.false)) fun x47 => S.bd (S.gd x47 true (some x41)) fun x48 => S.bd (S.gd x47 true (eqb [1] false false x48 (.int .i64 40))) fun x49 => S.bd (pik x47 x49 (.bool Bool.false)) fun x50 => S.bd (S.gd x50 true (lal c36 3 2)) fun x51 => S.bd (S.gd x50 true (lal c7 1 2)) fun x52 => S.bd (S.gd x50 true (eqb [0, 1] true false x51 x52)) fun x53 => S.bd (pik x50 x53 (.bool Bool.false)) fun x54 => S.bd (S.gd x54 true (lal c36 1 2)) fun x55 => S.bd (S.gd x54 true (lal c7 3 2)) fun x56 => S.bd (S.gd x54 true (eqb [0, 1] true false x55 x56)) fun x57 => S.bd (pik x54 x57 (.bool Bool.false)) fun x58 => S.bd (S.gd x58 true (lcl c36 5)) fun x59 => S.bd (S.gd x58 true (lcl c7 5)) fun x60 => S.bd (S.gd x58 true (eqb [1] false false x59 x60)) fun x61 => S.bd (pik x58 x61 (.bool Bool.false)) fun x62 => S.bd (S.gd x62 true (lal c36 21 13)) fun x63 => S.bd (S.gd x62 true (lal c10 0 13)) fun x64 => S.bd (S.gd x62 true (r04SameAnswer.r x63 x64 r39.2)) fun x65 => S.bd (pik x62 x65 (.bool Bool.false)) fun x66 => some (x66, r39.2)
def l04MsgAnswers.t.p2 (S : Sig) (r13 : Value × St) (c7 : List Value) (c10 : List Value) : Option (Value × St) :=
  S.bd (xtr 0 r13.1) fun x14 => S.bd (xtr 1 r13.1) fun x15 => S.bd (bx (Go.Value.agg #[(.bool Bool.false), (.bool Bool.false), (.int .i64 0), (.bool Bool.false), (.int .i64 0), (.int .i64 0), (.int .i64 0), (.int .i64 0), (.int .u64 0), (.int .i64 0), (.int .i64 0), (.int .u64 0), (.int .i64 0), (.int .u64 0), (.int .i64 0), (.int .i64 0), (.int .u64 0), (.int .i64 0), (.int .u64 0), (.int .i64 0), (.int .i64 0), (.int .i64 0), (.bool Bool.false), (.int .i64 0), (.int .i64 0), (.int .u64 0), (.int .i64 0), (.int .u64 0), (.int .i64 0), (.int .i64 0), (.int .u64 0), (.int .i64 0), (.int .u64 0), (.slice none 0 0)])) fun c16 => S.bd (stl c16 0 34 x14) fun c17 => S.bd (eqb [1] false true x15 (.int .i64 0)) fun x18 => S.cnd x18 (S.bd (lcl c7 0) fun x19 => S.bd (S.gd x19 false (lal c7 0 34)) fun x20 => S.bd (S.gd x19 false (r04Check.r x20 r13.2)) fun x21 => S.bd (S.gd x19 false (eqb [1] false true x21 (.int .i64 0))) fun x22 => S.bd (pik x19 (.bool Bool.true) x22) fun x23 => S.bd (S.gd x23 false (lal c10 0 13)) fun x24 => S.bd (S.gd x23 false (r04CheckAnswer.r x24 r13.2)) fun x25 => S.bd (S.gd x23 false (eqb [1] false true x25 (.int .i64 0))) fun x26 => S.bd (pik x23 (.bool Bool.true) x26) fun x27 => some (x27, r13.2)) (S.bd (lal c17 0 34) fun x28 => S.bd (msg_Encode.v x28 r13.2) fun r29 => S.bd (xtr 0 r29.1) fun x30 => S.bd (xtr 1 r29.1) fun x31 => S.bd (msg_Decode.v x30 r29.2) fun r32 => S.bd (xtr 0 r32.1) fun x33 => S.bd (xtr 1 r32.1) fun x34 => S.bd (bx (Go.Value.agg #[(.bool Bool.false), (.bool Bool.false), (.int .i64 0), (.bool Bool.false), (.int .i64 0), (.int .i64 0), (.int .i64 0), (.int .i64 0), (.int .u64 0), (.int .i64 0), (.int .i64 0), (.int .u64 0), (.int .i64 0), (.int .u64 0), (.int .i64 0), (.int .i64 0), (.int .u64 0), (.int .i64 0), (.int .u64 0), (.int .i64 0), (.int .i64 0), (.int .i64 0), (.bool Bool.false), (.int .i64 0), (.int .i64 0), (.int .u64 0), (.int .i64 0), (.int .u64 0), (.int .i64 0), (.int .i64 0), (.int .u64 0), (.int .i64 0), (.int .u64 0), (.slice none 0 0)])) fun c35 => S.bd (stl c35 0 34 x33) fun c36 => l04MsgAnswers.t.p1 S c17 c10 r32 x31 x34 c36 c7)
def l04MsgAnswers.t (S : Sig) (a0 a1 : Value) (s : St) : Option (Value × St) :=
  S.bd (bx a0) fun c1 => S.bd (bx a1) fun c2 => S.bd (l04awakeC.r  s) fun x3 => S.bd (un .not x3) fun x4 => S.cnd x4 (some ((.bool Bool.false), s)) (S.bd (lal c1 0 34) fun x5 => S.bd (l04light.r x5 s) fun x6 => S.bd (stl c1 0 34 x6) fun c7 => S.bd (lcl c2 12) fun x8 => S.bd (l04cut.r x8 s) fun x9 => S.bd (stl c2 12 1 x9) fun c10 => S.bd (lal c7 0 34) fun x11 => S.bd (lal c10 0 13) fun x12 => S.bd (msg_Reply.v x11 x12 s) fun r13 => l04MsgAnswers.t.p2 S r13 c7 c10)
def l04MsgAnswers.v (a0 a1 : Value) (s : St) : Option (Value × St) := l04MsgAnswers.t std a0 a1 s
def l04MsgAnswers.w : List Value → St → Option (Value × St)
  | [a0, a1], s => l04MsgAnswers.v a0 a1 s
  | _, _ => none
def l04MsgAnswers.an : An := ⟨94, false, [2, 3, 5, 9, 11], [], [], [], [], []⟩
theorem l04MsgAnswers.ok (S : Sig) (a0 a1 : Value) (s : St) : evF S Try.prog l04MsgAnswers.ctx l04MsgAnswers.an Try.f8 [a0, a1] s = l04MsgAnswers.t S a0 a1 s := by kernel_rfl
theorem l04MsgAnswers.cok : CtxOk Try.prog l04MsgAnswers.ctx := .cons l04awakeC.sound l04awakeC.can <| .cons l04light.sound l04light.can <| .cons l04cut.sound l04cut.can <| .cons msg_Reply.sound msg_Reply.can <| .cons r04Check.sound r04Check.can <| .cons r04CheckAnswer.sound r04CheckAnswer.can <| .cons msg_Encode.sound msg_Encode.can <| .cons msg_Decode.sound msg_Decode.can <| .cons r04SameAnswer.sound r04SameAnswer.can <| .nil
theorem l04MsgAnswers.draws : fnDraws l04MsgAnswers.an Try.f8 = true := by kernel_rfl
theorem l04MsgAnswers.can : callOk Try.prog 8 = true := by kernel_rfl
theorem l04MsgAnswers.sound : FnOk Try.prog 8 (.st l04MsgAnswers.w) := FnOk.st_of (evF_ok l04MsgAnswers.cok mixed (f := 8) (fn := Try.f8) (by kernel_rfl) l04MsgAnswers.draws) fun args s r h => by
  unfold l04MsgAnswers.w at h; split at h
  · rw [l04MsgAnswers.ok std]; exact h
  · simp at h
end
end Go.Proofs.Yteapmnolmfickaa
