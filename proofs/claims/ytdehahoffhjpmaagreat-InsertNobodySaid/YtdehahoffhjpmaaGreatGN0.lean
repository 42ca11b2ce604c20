/-
  What the functions answer that InsertNobody reaches (part 0): for each function of the program a plain function over abstract values, and that the model answers as it does.
-/
import Derived.Test.YtdehahoffhjpmaaGreatSimZ
import Derived.Test.YtdehahoffhjpmaaGreatProg
import Derived.KernelRfl
set_option linter.unusedVariables false
set_option maxRecDepth 100000
namespace Go.Proofs.YtdehahoffhjpmaaGreat
open Go.Sim
noncomputable section
theorem mixed : Tryz.prog.follows .mixedOrders = true := by kernel_rfl
/-! ### (*leapfrog/splice.Splice).end: function 121 -/
def splice_Splice_end.ctx : Ctx := []
def splice_Splice_end.t (S : Sig) (a0 a1 : Value) (s : St) : Option (Value × St) :=
  S.bd (bx a1) fun c1 => S.bd (lal c1 0 15) fun x2 => S.bd (nck a0) fun x3 => S.bd (fld 14 x3) fun x4 => S.bd (stv s 1 x4 (Go.Value.int Go.IntKind.i64 10)) fun s5 => S.bd (nck a0) fun x6 => S.bd (fld 29 x6) fun x7 => S.bd (stv s5 15 x7 x2) fun s8 => some ((Value.tuple ⟨[]⟩), s8)
def splice_Splice_end.v (a0 a1 : Value) (s : St) : Option (Value × St) := splice_Splice_end.t std a0 a1 s
def splice_Splice_end.w : List Value → St → Option (Value × St)
  | [a0, a1], s => splice_Splice_end.v a0 a1 s
  | _, _ => none
def splice_Splice_end.an : An := ⟨11, false, [3], [], [], [(1, [(0, 0, [], []), (1, 0, [], []), (2, 25, [], []), (3, 0, [], []), (4, 0, [], []), (5, 4, [], []), (6, 0, [], []), (7, 0, [], []), (8, 4, [], [])])]⟩
theorem splice_Splice_end.ok (S : Sig) (a0 a1 : Value) (s : St) : evF S Tryz.prog splice_Splice_end.ctx splice_Splice_end.an Tryz.f121 [a0, a1] s = splice_Splice_end.t S a0 a1 s := by kernel_rfl
theorem splice_Splice_end.cok : CtxOk Tryz.prog splice_Splice_end.ctx := .nil
theorem splice_Splice_end.draws : fnDraws splice_Splice_end.an Tryz.f121 = true := by kernel_rfl
theorem splice_Splice_end.can : callOk Tryz.prog 121 = true := by kernel_rfl
theorem splice_Splice_end.sound : FnOk Tryz.prog 121 (.st splice_Splice_end.w) := FnOk.st_of (evF_ok splice_Splice_end.cok mixed (f := 121) (fn := Tryz.f121) (by kernel_rfl) splice_Splice_end.draws) fun args s r h => by
  unfold splice_Splice_end.w at h; split at h
  · rw [splice_Splice_end.ok std]; exact h
  · simp at h

/-! ### (*leapfrog/splice.Splice).Tell$1: function 120 -/
def splice_Splice_Tell_fn1.ctx : Ctx := [(121, .st splice_Splice_end.w)]
def splice_Splice_Tell_fn1.t (S : Sig) (a0 : Value) (s : St) : Option (Value × St) :=
  S.bd (ldc s a0) fun x1 => S.bd (ldc s a0) fun x2 => S.bd (nck x2) fun x3 => S.bd (fld 15 x3) fun x4 => S.bd (lda s 5 x4) fun x5 => S.bd (ldc s a0) fun x6 => S.bd (nck x6) fun x7 => S.bd (fld 21 x7) fun x8 => S.bd (lda s 5 x8) fun x9 => S.bd (bld [(Go.Value.int Go.IntKind.i64 0), (Go.Value.int Go.IntKind.u64 0), (Go.Value.slice Option.none 0 0), (Go.Value.slice Option.none 0 0), (Go.Value.int Go.IntKind.i64 0), (Go.Value.int Go.IntKind.i64 0), (Go.Value.int Go.IntKind.u64 0), (Go.Value.int Go.IntKind.i64 0), (Go.Value.int Go.IntKind.u64 0), (Go.Value.int Go.IntKind.i64 0), (Go.Value.int Go.IntKind.i64 0), (Go.Value.int Go.IntKind.u64 0), (Go.Value.int Go.IntKind.i64 0), (Go.Value.int Go.IntKind.u64 0), (Go.Value.bool Bool.false)] [(0, 1, (Go.Value.int Go.IntKind.i64 100)), (4, 5, x5), (9, 5, x9)]) fun x10 => S.bd (splice_Splice_end.v x1 x10 s) fun r11 => S.bd (ldc r11.2 a0) fun x12 => S.cnd (Value.bool (sameV x12 x2)) (S.bd (lda r11.2 5 x4) fun x13 => S.cnd (Value.bool (sameV x13 x5)) (S.bd (ldc r11.2 a0) fun x14 => S.cnd (Value.bool (sameV x14 x6)) (S.bd (lda r11.2 5 x8) fun x15 => S.cnd (Value.bool (sameV x15 x9)) (some ((Value.tuple ⟨[]⟩), r11.2)) (none)) (none)) (none)) (none)
def splice_Splice_Tell_fn1.v (a0 : Value) (s : St) : Option (Value × St) := splice_Splice_Tell_fn1.t std a0 s
def splice_Splice_Tell_fn1.w : List Value → St → Option (Value × St)
  | [a0], s => splice_Splice_Tell_fn1.v a0 s
  | _, _ => none
def splice_Splice_Tell_fn1.an : An := ⟨12, false, [], [], [], [(0, [(0, 2, [], []), (1, 2, [], []), (2, 0, [], []), (3, 0, [], []), (4, 2, [], []), (5, 2, [], []), (6, 0, [], []), (7, 0, [], []), (8, 2, [], []), (9, 0, [], []), (10, 4, [1, 4, 5, 8], [])])]⟩
theorem splice_Splice_Tell_fn1.ok (S : Sig) (a0 : Value) (s : St) : evF S Tryz.prog splice_Splice_Tell_fn1.ctx splice_Splice_Tell_fn1.an Tryz.f120 [a0] s = splice_Splice_Tell_fn1.t S a0 s := by kernel_rfl
theorem splice_Splice_Tell_fn1.cok : CtxOk Tryz.prog splice_Splice_Tell_fn1.ctx := .cons splice_Splice_end.sound splice_Splice_end.can <| .nil
theorem splice_Splice_Tell_fn1.draws : fnDraws splice_Splice_Tell_fn1.an Tryz.f120 = true := by kernel_rfl
theorem splice_Splice_Tell_fn1.can : callOk Tryz.prog 120 = true := by kernel_rfl
theorem splice_Splice_Tell_fn1.sound : FnOk Tryz.prog 120 (.st splice_Splice_Tell_fn1.w) := FnOk.st_of (evF_ok splice_Splice_Tell_fn1.cok mixed (f := 120) (fn := Tryz.f120) (by kernel_rfl) splice_Splice_Tell_fn1.draws) fun args s r h => by
  unfold splice_Splice_Tell_fn1.w at h; split at h
  · rw [splice_Splice_Tell_fn1.ok std]; exact h
  · simp at h

/-! ### (*leapfrog/splice.Splice).wait$1: function 128 -/
def splice_Splice_wait_fn1.ctx : Ctx := []
def splice_Splice_wait_fn1.t (S : Sig) (a0 : Value) (s : St) : Option (Value × St) :=
  S.bd (ldc s a0) fun x1 => S.bd (nck x1) fun x2 => S.bd (fld 14 x2) fun x3 => S.bd (stv s 1 x3 (Go.Value.int Go.IntKind.i64 9)) fun s4 => some ((Value.tuple ⟨[]⟩), s4)
def splice_Splice_wait_fn1.v (a0 : Value) (s : St) : Option (Value × St) := splice_Splice_wait_fn1.t std a0 s
def splice_Splice_wait_fn1.w : List Value → St → Option (Value × St)
  | [a0], s => splice_Splice_wait_fn1.v a0 s
  | _, _ => none
def splice_Splice_wait_fn1.an : An := ⟨4, false, [], [], [], []⟩
theorem splice_Splice_wait_fn1.ok (S : Sig) (a0 : Value) (s : St) : evF S Tryz.prog splice_Splice_wait_fn1.ctx splice_Splice_wait_fn1.an Tryz.f128 [a0] s = splice_Splice_wait_fn1.t S a0 s := by kernel_rfl
theorem splice_Splice_wait_fn1.cok : CtxOk Tryz.prog splice_Splice_wait_fn1.ctx := .nil
theorem splice_Splice_wait_fn1.draws : fnDraws splice_Splice_wait_fn1.an Tryz.f128 = true := by kernel_rfl
theorem splice_Splice_wait_fn1.can : callOk Tryz.prog 128 = true := by kernel_rfl
theorem splice_Splice_wait_fn1.sound : FnOk Tryz.prog 128 (.st splice_Splice_wait_fn1.w) := FnOk.st_of (evF_ok splice_Splice_wait_fn1.cok mixed (f := 128) (fn := Tryz.f128) (by kernel_rfl) splice_Splice_wait_fn1.draws) fun args s r h => by
  unfold splice_Splice_wait_fn1.w at h; split at h
  · rw [splice_Splice_wait_fn1.ok std]; exact h
  · simp at h

/-! ### (*leapfrog/splice.Splice).done$1: function 129 -/
def splice_Splice_done_fn1.ctx : Ctx := [(121, .st splice_Splice_end.w)]
def splice_Splice_done_fn1.t (S : Sig) (a0 a1 : Value) (s : St) : Option (Value × St) :=
  S.bd (ldc s a0) fun x1 => S.bd (lda s 15 a1) fun x2 => S.bd (splice_Splice_end.v x1 x2 s) fun r3 => some ((Value.tuple ⟨[]⟩), r3.2)
def splice_Splice_done_fn1.v (a0 a1 : Value) (s : St) : Option (Value × St) := splice_Splice_done_fn1.t std a0 a1 s
def splice_Splice_done_fn1.w : List Value → St → Option (Value × St)
  | [a0, a1], s => splice_Splice_done_fn1.v a0 a1 s
  | _, _ => none
def splice_Splice_done_fn1.an : An := ⟨5, false, [], [], [], []⟩
theorem splice_Splice_done_fn1.ok (S : Sig) (a0 a1 : Value) (s : St) : evF S Tryz.prog splice_Splice_done_fn1.ctx splice_Splice_done_fn1.an Tryz.f129 [a0, a1] s = splice_Splice_done_fn1.t S a0 a1 s := by kernel_rfl
theorem splice_Splice_done_fn1.cok : CtxOk Tryz.prog splice_Splice_done_fn1.ctx := .cons splice_Splice_end.sound splice_Splice_end.can <| .nil
theorem splice_Splice_done_fn1.draws : fnDraws splice_Splice_done_fn1.an Tryz.f129 = true := by kernel_rfl
theorem splice_Splice_done_fn1.can : callOk Tryz.prog 129 = true := by kernel_rfl
theorem splice_Splice_done_fn1.sound : FnOk Tryz.prog 129 (.st splice_Splice_done_fn1.w) := FnOk.st_of (evF_ok splice_Splice_done_fn1.cok mixed (f := 129) (fn := Tryz.f129) (by kernel_rfl) splice_Splice_done_fn1.draws) fun args s r h => by
  unfold splice_Splice_done_fn1.w at h; split at h
  · rw [splice_Splice_done_fn1.ok std]; exact h
  · simp at h

/-! ### (*leapfrog/splice.Splice).fail$1: function 130 -/
def splice_Splice_fail_fn1.ctx : Ctx := [(121, .st splice_Splice_end.w)]
def splice_Splice_fail_fn1.t (S : Sig) (a0 a1 : Value) (s : St) : Option (Value × St) :=
  S.bd (ldc s a0) fun x1 => S.bd (ldc s a1) fun x2 => S.bd (bld [(Go.Value.int Go.IntKind.i64 0), (Go.Value.int Go.IntKind.u64 0), (Go.Value.slice Option.none 0 0), (Go.Value.slice Option.none 0 0), (Go.Value.int Go.IntKind.i64 0), (Go.Value.int Go.IntKind.i64 0), (Go.Value.int Go.IntKind.u64 0), (Go.Value.int Go.IntKind.i64 0), (Go.Value.int Go.IntKind.u64 0), (Go.Value.int Go.IntKind.i64 0), (Go.Value.int Go.IntKind.i64 0), (Go.Value.int Go.IntKind.u64 0), (Go.Value.int Go.IntKind.i64 0), (Go.Value.int Go.IntKind.u64 0), (Go.Value.bool Bool.false)] [(0, 1, x2)]) fun x3 => S.bd (splice_Splice_end.v x1 x3 s) fun r4 => some ((Value.tuple ⟨[]⟩), r4.2)
def splice_Splice_fail_fn1.v (a0 a1 : Value) (s : St) : Option (Value × St) := splice_Splice_fail_fn1.t std a0 a1 s
def splice_Splice_fail_fn1.w : List Value → St → Option (Value × St)
  | [a0, a1], s => splice_Splice_fail_fn1.v a0 a1 s
  | _, _ => none
def splice_Splice_fail_fn1.an : An := ⟨6, false, [], [], [], []⟩
theorem splice_Splice_fail_fn1.ok (S : Sig) (a0 a1 : Value) (s : St) : evF S Tryz.prog splice_Splice_fail_fn1.ctx splice_Splice_fail_fn1.an Tryz.f130 [a0, a1] s = splice_Splice_fail_fn1.t S a0 a1 s := by kernel_rfl
theorem splice_Splice_fail_fn1.cok : CtxOk Tryz.prog splice_Splice_fail_fn1.ctx := .cons splice_Splice_end.sound splice_Splice_end.can <| .nil
theorem splice_Splice_fail_fn1.draws : fnDraws splice_Splice_fail_fn1.an Tryz.f130 = true := by kernel_rfl
theorem splice_Splice_fail_fn1.can : callOk Tryz.prog 130 = true := by kernel_rfl
theorem splice_Splice_fail_fn1.sound : FnOk Tryz.prog 130 (.st splice_Splice_fail_fn1.w) := FnOk.st_of (evF_ok splice_Splice_fail_fn1.cok mixed (f := 130) (fn := Tryz.f130) (by kernel_rfl) splice_Splice_fail_fn1.draws) fun args s r h => by
  unfold splice_Splice_fail_fn1.w at h; split at h
  · rw [splice_Splice_fail_fn1.ok std]; exact h
  · simp at h

/-! ### (*leapfrog/splice.Splice).look$1: function 131 -/
def splice_Splice_look_fn1.ctx : Ctx := []
def splice_Splice_look_fn1.t (S : Sig) (a0 : Value) (s : St) : Option (Value × St) :=
  S.bd (ldc s a0) fun x1 => S.bd (nck x1) fun x2 => S.bd (fld 15 x2) fun x3 => S.bd (lda s 5 x3) fun x4 => S.bd (alv s (Go.Value.agg #[(Go.Value.int Go.IntKind.i64 0), (Go.Value.int Go.IntKind.i64 0), (Go.Value.int Go.IntKind.u64 0), (Go.Value.int Go.IntKind.i64 0), (Go.Value.int Go.IntKind.u64 0)])) fun r5 => S.bd (stv r5.2 5 r5.1 x4) fun s6 => S.bd (ldc s6 a0) fun x7 => S.bd (ldc s6 a0) fun x8 => S.bd (ldc s6 a0) fun x9 => S.bd (ldc s6 a0) fun x10 => S.bd (nck x10) fun x11 => S.bd (fld 21 x11) fun x12 => S.bd (lda s6 5 x12) fun x13 => S.bd (nck x7) fun x14 => S.bd (fld 20 x14) fun x15 => S.bd (stv s6 1 x15 r5.1) fun s16 => S.bd (ldc s16 a0) fun x17 => S.cnd (Value.bool (sameV x17 x8)) (S.bd (ldc s16 a0) fun x18 => S.cnd (Value.bool (sameV x18 x9)) (S.bd (ldc s16 a0) fun x19 => S.cnd (Value.bool (sameV x19 x10)) (S.bd (nck x8) fun x20 => S.bd (fld 15 x20) fun x21 => S.bd (stv s16 5 x21 x13) fun s22 => S.bd (ldc s22 a0) fun x23 => S.cnd (Value.bool (sameV x23 x9)) (S.bd (nck x9) fun x24 => S.bd (fld 14 x24) fun x25 => S.bd (stv s22 1 x25 (Go.Value.int Go.IntKind.i64 1)) fun s26 => some ((Value.tuple ⟨[]⟩), s26)) (none)) (none)) (none)) (none)
def splice_Splice_look_fn1.v (a0 : Value) (s : St) : Option (Value × St) := splice_Splice_look_fn1.t std a0 s
def splice_Splice_look_fn1.w : List Value → St → Option (Value × St)
  | [a0], s => splice_Splice_look_fn1.v a0 s
  | _, _ => none
def splice_Splice_look_fn1.an : An := ⟨19, false, [], [], [], [(1, [(0, 2, [], []), (1, 2, [], []), (2, 2, [], []), (3, 2, [], []), (4, 0, [], []), (5, 0, [], []), (6, 2, [], []), (7, 0, [], []), (8, 0, [], []), (9, 4, [1, 2, 3], []), (10, 0, [], []), (11, 0, [], []), (12, 4, [2], []), (13, 0, [], []), (14, 0, [], []), (15, 4, [], [])])]⟩
theorem splice_Splice_look_fn1.ok (S : Sig) (a0 : Value) (s : St) : evF S Tryz.prog splice_Splice_look_fn1.ctx splice_Splice_look_fn1.an Tryz.f131 [a0] s = splice_Splice_look_fn1.t S a0 s := by kernel_rfl
theorem splice_Splice_look_fn1.cok : CtxOk Tryz.prog splice_Splice_look_fn1.ctx := .nil
theorem splice_Splice_look_fn1.draws : fnDraws splice_Splice_look_fn1.an Tryz.f131 = true := by kernel_rfl
theorem splice_Splice_look_fn1.can : callOk Tryz.prog 131 = true := by kernel_rfl
theorem splice_Splice_look_fn1.sound : FnOk Tryz.prog 131 (.st splice_Splice_look_fn1.w) := FnOk.st_of (evF_ok splice_Splice_look_fn1.cok mixed (f := 131) (fn := Tryz.f131) (by kernel_rfl) splice_Splice_look_fn1.draws) fun args s r h => by
  unfold splice_Splice_look_fn1.w at h; split at h
  · rw [splice_Splice_look_fn1.ok std]; exact h
  · simp at h

/-! ### (*leapfrog/seek.Seek).is: function 135 -/
def seek_Seek_is.ctx : Ctx := []
def seek_Seek_is.t (S : Sig) (a0 : Value) (s : St) : Option Value :=
  S.bd (eqb [3] false true a0 (Go.Value.pointer Option.none)) fun x1 => S.bd (S.gd x1 true (some a0)) fun x2 => S.bd (S.gd x1 true (nck x2)) fun x3 => S.bd (S.gd x1 true (fld 8 x3)) fun x4 => S.bd (S.gd x1 true (ldc s x4)) fun x5 => S.bd (pik x1 x5 (Go.Value.bool Bool.false)) fun x6 => some (x6)
def seek_Seek_is.r (a0 : Value) (s : St) : Option Value := seek_Seek_is.t std a0 s
def seek_Seek_is.w : List Value → St → Option Value
  | [a0], s => seek_Seek_is.r a0 s
  | _, _ => none
def seek_Seek_is.an : An := ⟨11, true, [], [], [], []⟩
theorem seek_Seek_is.ok (S : Sig) (a0 : Value) (s : St) : evG S Tryz.prog seek_Seek_is.ctx seek_Seek_is.an Tryz.f135 [a0] s = seek_Seek_is.t S a0 s := by kernel_rfl
theorem seek_Seek_is.cok : CtxOk Tryz.prog seek_Seek_is.ctx := .nil
theorem seek_Seek_is.draws : fnDraws seek_Seek_is.an Tryz.f135 = true := by kernel_rfl
theorem seek_Seek_is.can : callOk Tryz.prog 135 = true := by kernel_rfl
theorem seek_Seek_is.sound : FnOk Tryz.prog 135 (.rd seek_Seek_is.w) := FnOk.rd_of (evG_ok seek_Seek_is.cok mixed (f := 135) (fn := Tryz.f135) (by kernel_rfl) seek_Seek_is.draws) fun args s r h => by
  unfold seek_Seek_is.w at h; split at h
  · rw [seek_Seek_is.ok std]; exact h
  · simp at h

/-! ### leapfrog/key.Check: function 22 -/
def key_Check.ctx : Ctx := []
def key_Check.t (S : Sig) (a0 : Value) (s : St) : Option Value :=
  S.bd (bx a0) fun c1 => S.bd (lcl c1 0) fun x2 => S.bd (eqb [1] false false x2 (Go.Value.int Go.IntKind.i64 2)) fun x3 => S.bd (S.gd x3 false (lcl c1 0)) fun x4 => S.bd (S.gd x3 false (eqb [1] false false x4 (Go.Value.int Go.IntKind.i64 1))) fun x5 => S.bd (S.gd x3 false (some x5)) fun x6 => S.bd (S.gd x6 false (lcl c1 0)) fun x7 => S.bd (S.gd x6 false (eqb [1] false false x7 (Go.Value.int Go.IntKind.i64 3))) fun x8 => S.bd (S.gd x3 false (pik x6 (Go.Value.bool Bool.true) x8)) fun x9 => S.bd (S.gd x3 false (some x9)) fun x10 => S.bd (S.gd x10 true (lcl c1 1)) fun x11 => S.bd (S.gd x10 true (eqb [1] false false x11 (Go.Value.int Go.IntKind.u64 0))) fun x12 => S.bd (S.gd x3 false (pik x10 x12 (Go.Value.bool Bool.false))) fun x13 => S.bd (pik x3 (Go.Value.bool Bool.true) x13) fun x14 => S.cnd x14 (some ((Go.Value.int Go.IntKind.i64 0))) (some ((Go.Value.int Go.IntKind.i64 20)))
def key_Check.r (a0 : Value) (s : St) : Option Value := key_Check.t std a0 s
def key_Check.w : List Value → St → Option Value
  | [a0], s => key_Check.r a0 s
  | _, _ => none
def key_Check.an : An := ⟨21, true, [1], [], [], []⟩
theorem key_Check.ok (S : Sig) (a0 : Value) (s : St) : evG S Tryz.prog key_Check.ctx key_Check.an Tryz.f22 [a0] s = key_Check.t S a0 s := by kernel_rfl
theorem key_Check.cok : CtxOk Tryz.prog key_Check.ctx := .nil
theorem key_Check.draws : fnDraws key_Check.an Tryz.f22 = true := by kernel_rfl
theorem key_Check.can : callOk Tryz.prog 22 = true := by kernel_rfl
theorem key_Check.sound : FnOk Tryz.prog 22 (.rd key_Check.w) := FnOk.rd_of (evG_ok key_Check.cok mixed (f := 22) (fn := Tryz.f22) (by kernel_rfl) key_Check.draws) fun args s r h => by
  unfold key_Check.w at h; split at h
  · rw [key_Check.ok std]; exact h
  · simp at h

/-! ### cmp.isNaN[leapfrog/api.Rank]: function 82 -/
def cmp_isNaN_api_Rank.ctx : Ctx := []
def cmp_isNaN_api_Rank.t (S : Sig) (a0 : Value) (s : St) : Option Value :=
  S.bd (eqb [1] false true a0 a0) fun x1 => some (x1)
def cmp_isNaN_api_Rank.r (a0 : Value) (s : St) : Option Value := cmp_isNaN_api_Rank.t std a0 s
def cmp_isNaN_api_Rank.w : List Value → St → Option Value
  | [a0], s => cmp_isNaN_api_Rank.r a0 s
  | _, _ => none
def cmp_isNaN_api_Rank.an : An := ⟨6, true, [], [], [], []⟩
theorem cmp_isNaN_api_Rank.ok (S : Sig) (a0 : Value) (s : St) : evG S Tryz.prog cmp_isNaN_api_Rank.ctx cmp_isNaN_api_Rank.an Tryz.f82 [a0] s = cmp_isNaN_api_Rank.t S a0 s := by kernel_rfl
theorem cmp_isNaN_api_Rank.cok : CtxOk Tryz.prog cmp_isNaN_api_Rank.ctx := .nil
theorem cmp_isNaN_api_Rank.draws : fnDraws cmp_isNaN_api_Rank.an Tryz.f82 = true := by kernel_rfl
theorem cmp_isNaN_api_Rank.can : callOk Tryz.prog 82 = true := by kernel_rfl
theorem cmp_isNaN_api_Rank.sound : FnOk Tryz.prog 82 (.rd cmp_isNaN_api_Rank.w) := FnOk.rd_of (evG_ok cmp_isNaN_api_Rank.cok mixed (f := 82) (fn := Tryz.f82) (by kernel_rfl) cmp_isNaN_api_Rank.draws) fun args s r h => by
  unfold cmp_isNaN_api_Rank.w at h; split at h
  · rw [cmp_isNaN_api_Rank.ok std]; exact h
  · simp at h

/-! ### cmp.Compare[leapfrog/api.Rank]: function 62 -/
def cmp_Compare_api_Rank.ctx : Ctx := [(82, .rd cmp_isNaN_api_Rank.w)]
def cmp_Compare_api_Rank.t (S : Sig) (a0 a1 : Value) (s : St) : Option Value :=
  S.bd (cmp_isNaN_api_Rank.r a0 s) fun x1 => S.bd (cmp_isNaN_api_Rank.r a1 s) fun x2 => S.cnd x1 (S.cnd x2 (some ((Go.Value.int Go.IntKind.i64 0))) (some ((Go.Value.int Go.IntKind.i64 (-1))))) (S.cnd x2 (some ((Go.Value.int Go.IntKind.i64 1))) (S.bd (bin .lss a0 a1) fun x3 => S.cnd x3 (some ((Go.Value.int Go.IntKind.i64 (-1)))) (S.bd (bin .gtr a0 a1) fun x4 => S.cnd x4 (some ((Go.Value.int Go.IntKind.i64 1))) (some ((Go.Value.int Go.IntKind.i64 0))))))
def cmp_Compare_api_Rank.r (a0 a1 : Value) (s : St) : Option Value := cmp_Compare_api_Rank.t std a0 a1 s
def cmp_Compare_api_Rank.w : List Value → St → Option Value
  | [a0, a1], s => cmp_Compare_api_Rank.r a0 a1 s
  | _, _ => none
def cmp_Compare_api_Rank.an : An := ⟨20, true, [], [], [], []⟩
theorem cmp_Compare_api_Rank.ok (S : Sig) (a0 a1 : Value) (s : St) : evG S Tryz.prog cmp_Compare_api_Rank.ctx cmp_Compare_api_Rank.an Tryz.f62 [a0, a1] s = cmp_Compare_api_Rank.t S a0 a1 s := by kernel_rfl
theorem cmp_Compare_api_Rank.cok : CtxOk Tryz.prog cmp_Compare_api_Rank.ctx := .cons cmp_isNaN_api_Rank.sound cmp_isNaN_api_Rank.can <| .nil
theorem cmp_Compare_api_Rank.draws : fnDraws cmp_Compare_api_Rank.an Tryz.f62 = true := by kernel_rfl
theorem cmp_Compare_api_Rank.can : callOk Tryz.prog 62 = true := by kernel_rfl
theorem cmp_Compare_api_Rank.sound : FnOk Tryz.prog 62 (.rd cmp_Compare_api_Rank.w) := FnOk.rd_of (evG_ok cmp_Compare_api_Rank.cok mixed (f := 62) (fn := Tryz.f62) (by kernel_rfl) cmp_Compare_api_Rank.draws) fun args s r h => by
  unfold cmp_Compare_api_Rank.w at h; split at h
  · rw [cmp_Compare_api_Rank.ok std]; exact h
  · simp at h

/-! ### cmp.isNaN[uint64]: function 83 -/
def cmp_isNaN_uint64.ctx : Ctx := []
def cmp_isNaN_uint64.t (S : Sig) (a0 : Value) (s : St) : Option Value :=
  S.bd (eqb [1] false true a0 a0) fun x1 => some (x1)
def cmp_isNaN_uint64.r (a0 : Value) (s : St) : Option Value := cmp_isNaN_uint64.t std a0 s
def cmp_isNaN_uint64.w : List Value → St → Option Value
  | [a0], s => cmp_isNaN_uint64.r a0 s
  | _, _ => none
def cmp_isNaN_uint64.an : An := ⟨6, true, [], [], [], []⟩
theorem cmp_isNaN_uint64.ok (S : Sig) (a0 : Value) (s : St) : evG S Tryz.prog cmp_isNaN_uint64.ctx cmp_isNaN_uint64.an Tryz.f83 [a0] s = cmp_isNaN_uint64.t S a0 s := by kernel_rfl
theorem cmp_isNaN_uint64.cok : CtxOk Tryz.prog cmp_isNaN_uint64.ctx := .nil
theorem cmp_isNaN_uint64.draws : fnDraws cmp_isNaN_uint64.an Tryz.f83 = true := by kernel_rfl
theorem cmp_isNaN_uint64.can : callOk Tryz.prog 83 = true := by kernel_rfl
theorem cmp_isNaN_uint64.sound : FnOk Tryz.prog 83 (.rd cmp_isNaN_uint64.w) := FnOk.rd_of (evG_ok cmp_isNaN_uint64.cok mixed (f := 83) (fn := Tryz.f83) (by kernel_rfl) cmp_isNaN_uint64.draws) fun args s r h => by
  unfold cmp_isNaN_uint64.w at h; split at h
  · rw [cmp_isNaN_uint64.ok std]; exact h
  · simp at h

/-! ### cmp.Compare[uint64]: function 63 -/
def cmp_Compare_uint64.ctx : Ctx := [(83, .rd cmp_isNaN_uint64.w)]
def cmp_Compare_uint64.t (S : Sig) (a0 a1 : Value) (s : St) : Option Value :=
  S.bd (cmp_isNaN_uint64.r a0 s) fun x1 => S.bd (cmp_isNaN_uint64.r a1 s) fun x2 => S.cnd x1 (S.cnd x2 (some ((Go.Value.int Go.IntKind.i64 0))) (some ((Go.Value.int Go.IntKind.i64 (-1))))) (S.cnd x2 (some ((Go.Value.int Go.IntKind.i64 1))) (S.bd (bin .lss a0 a1) fun x3 => S.cnd x3 (some ((Go.Value.int Go.IntKind.i64 (-1)))) (S.bd (bin .gtr a0 a1) fun x4 => S.cnd x4 (some ((Go.Value.int Go.IntKind.i64 1))) (some ((Go.Value.int Go.IntKind.i64 0))))))
def cmp_Compare_uint64.r (a0 a1 : Value) (s : St) : Option Value := cmp_Compare_uint64.t std a0 a1 s
def cmp_Compare_uint64.w : List Value → St → Option Value
  | [a0, a1], s => cmp_Compare_uint64.r a0 a1 s
  | _, _ => none
def cmp_Compare_uint64.an : An := ⟨20, true, [], [], [], []⟩
theorem cmp_Compare_uint64.ok (S : Sig) (a0 a1 : Value) (s : St) : evG S Tryz.prog cmp_Compare_uint64.ctx cmp_Compare_uint64.an Tryz.f63 [a0, a1] s = cmp_Compare_uint64.t S a0 a1 s := by kernel_rfl
theorem cmp_Compare_uint64.cok : CtxOk Tryz.prog cmp_Compare_uint64.ctx := .cons cmp_isNaN_uint64.sound cmp_isNaN_uint64.can <| .nil
theorem cmp_Compare_uint64.draws : fnDraws cmp_Compare_uint64.an Tryz.f63 = true := by kernel_rfl
theorem cmp_Compare_uint64.can : callOk Tryz.prog 63 = true := by kernel_rfl
theorem cmp_Compare_uint64.sound : FnOk Tryz.prog 63 (.rd cmp_Compare_uint64.w) := FnOk.rd_of (evG_ok cmp_Compare_uint64.cok mixed (f := 63) (fn := Tryz.f63) (by kernel_rfl) cmp_Compare_uint64.draws) fun args s r h => by
  unfold cmp_Compare_uint64.w at h; split at h
  · rw [cmp_Compare_uint64.ok std]; exact h
  · simp at h

/-! ### cmp.Or[int]: function 61 -/
def cmp_Or_int.ctx : Ctx := []
def cmp_Or_int.l3 (S : Sig) (rec9 : List Value → St → Option Cut) (xs7 : List Value) (s8 : St) : Option Cut :=
  S.bd (bin .lss (xs7.getD 3 undef) (xs7.getD 2 undef)) fun x10 => S.cnd x10 (S.bd (idx s8 1 (xs7.getD 1 undef) (xs7.getD 3 undef)) fun x11 => S.bd (ldc s8 x11) fun x12 => S.bd (eqb [1] false true x12 (xs7.getD 0 undef)) fun x13 => S.cnd x13 (some (1, [x12], s8)) (S.bd (bin .add (xs7.getD 3 undef) (Go.Value.int Go.IntKind.i64 1)) fun x14 => rec9 [(xs7.getD 0 undef), (xs7.getD 1 undef), (xs7.getD 2 undef), x14] s8)) (some (0, [(xs7.getD 0 undef)], s8))

def cmp_Or_int.t (S : Sig) (a0 : Value) (s : St) : Option Value :=
  S.bd (lenL a0) fun x1 => S.bd (S.it (cmp_Or_int.l3 S) [(Go.Value.int Go.IntKind.i64 0), a0, x1, (Go.Value.int Go.IntKind.i64 0)] s) fun r15 => if r15.1 = 0 then (some ((r15.2.1.getD 0 undef))) else (some ((r15.2.1.getD 0 undef)))
def cmp_Or_int.r (a0 : Value) (s : St) : Option Value := cmp_Or_int.t std a0 s
def cmp_Or_int.w : List Value → St → Option Value
  | [a0], s => cmp_Or_int.r a0 s
  | _, _ => none
def cmp_Or_int.an : An := ⟨18, true, [], [(3, ⟨[.v 3, .v 6, .v 7, .v 8], [(.exit 0, [.v 3]), (.ret, [.v 2])]⟩)], [], []⟩
theorem cmp_Or_int.ok (S : Sig) (a0 : Value) (s : St) : evG S Tryz.prog cmp_Or_int.ctx cmp_Or_int.an Tryz.f61 [a0] s = cmp_Or_int.t S a0 s := by kernel_rfl
theorem cmp_Or_int.cok : CtxOk Tryz.prog cmp_Or_int.ctx := .nil
theorem cmp_Or_int.draws : fnDraws cmp_Or_int.an Tryz.f61 = true := by kernel_rfl
theorem cmp_Or_int.can : callOk Tryz.prog 61 = true := by kernel_rfl
theorem cmp_Or_int.sound : FnOk Tryz.prog 61 (.rd cmp_Or_int.w) := FnOk.rd_of (evG_ok cmp_Or_int.cok mixed (f := 61) (fn := Tryz.f61) (by kernel_rfl) cmp_Or_int.draws) fun args s r h => by
  unfold cmp_Or_int.w at h; split at h
  · rw [cmp_Or_int.ok std]; exact h
  · simp at h

/-! ### leapfrog/key.Compare: function 38 -/
def key_Compare.ctx : Ctx := [(62, .rd cmp_Compare_api_Rank.w), (63, .rd cmp_Compare_uint64.w), (61, .rd cmp_Or_int.w)]
def key_Compare.t (S : Sig) (a0 a1 : Value) (s : St) : Option (Value × St) :=
  S.bd (bx a0) fun c1 => S.bd (bx a1) fun c2 => S.bd (lcl c1 0) fun x3 => S.bd (lcl c2 0) fun x4 => S.bd (lcl c1 1) fun x5 => S.bd (lcl c2 1) fun x6 => S.bd (cmp_Compare_api_Rank.r x3 x4 s) fun x7 => S.bd (cmp_Compare_uint64.r x5 x6 s) fun x8 => S.bd (S.bd (bls 1 (List.replicate 2 [(Go.Value.int Go.IntKind.i64 0)]) [(0, x7), (1, x8)]) fun rows => als s 1 2 rows) fun r9 => S.bd (cmp_Or_int.r r9.1 r9.2) fun x10 => some (x10, r9.2)
def key_Compare.v (a0 a1 : Value) (s : St) : Option (Value × St) := key_Compare.t std a0 a1 s
def key_Compare.w : List Value → St → Option (Value × St)
  | [a0, a1], s => key_Compare.v a0 a1 s
  | _, _ => none
def key_Compare.an : An := ⟨17, false, [2, 3], [], [], [(1, [(0, 0, [], []), (1, 17, [], []), (2, 0, [], []), (3, 25, [], []), (5, 0, [], []), (6, 17, [], []), (7, 0, [], []), (8, 25, [], []), (4, 3, [], []), (9, 3, [], []), (10, 3, [], []), (11, 3, [], []), (12, 0, [], [])])]⟩
theorem key_Compare.ok (S : Sig) (a0 a1 : Value) (s : St) : evF S Tryz.prog key_Compare.ctx key_Compare.an Tryz.f38 [a0, a1] s = key_Compare.t S a0 a1 s := by kernel_rfl
theorem key_Compare.cok : CtxOk Tryz.prog key_Compare.ctx := .cons cmp_Compare_api_Rank.sound cmp_Compare_api_Rank.can <| .cons cmp_Compare_uint64.sound cmp_Compare_uint64.can <| .cons cmp_Or_int.sound cmp_Or_int.can <| .nil
theorem key_Compare.draws : fnDraws key_Compare.an Tryz.f38 = true := by kernel_rfl
theorem key_Compare.can : callOk Tryz.prog 38 = true := by kernel_rfl
theorem key_Compare.sound : FnOk Tryz.prog 38 (.st key_Compare.w) := FnOk.st_of (evF_ok key_Compare.cok mixed (f := 38) (fn := Tryz.f38) (by kernel_rfl) key_Compare.draws) fun args s r h => by
  unfold key_Compare.w at h; split at h
  · rw [key_Compare.ok std]; exact h
  · simp at h

/-! ### leapfrog/key.Compare: function 38, as a reading -/
def key_CompareQ.r (a0 a1 : Value) (s : St) : Option Value := frzR (fun s => key_Compare.v a0 a1 s) s
def key_CompareQ.w : List Value → St → Option Value := fun args s => frzR (key_Compare.w args) s
theorem key_CompareQ.can : callOk Tryz.prog 38 = true := key_Compare.can
theorem key_CompareQ.sound : FnOk Tryz.prog 38 (.rd key_CompareQ.w) := FnOk.frozen key_Compare.sound

/-! ### leapfrog/key.Less: function 23 -/
def key_Less.ctx : Ctx := [(38, .rd key_CompareQ.w)]
def key_Less.t (S : Sig) (a0 a1 : Value) (s : St) : Option Value :=
  S.bd (bx a0) fun c1 => S.bd (bx a1) fun c2 => S.bd (lal c1 0 2) fun x3 => S.bd (lal c2 0 2) fun x4 => S.bd (key_CompareQ.r x3 x4 s) fun x5 => S.bd (bin .lss x5 (Go.Value.int Go.IntKind.i64 0)) fun x6 => some (x6)
def key_Less.r (a0 a1 : Value) (s : St) : Option Value := key_Less.t std a0 a1 s
def key_Less.w : List Value → St → Option Value
  | [a0, a1], s => key_Less.r a0 a1 s
  | _, _ => none
def key_Less.an : An := ⟨9, true, [2, 3], [], [], []⟩
theorem key_Less.ok (S : Sig) (a0 a1 : Value) (s : St) : evG S Tryz.prog key_Less.ctx key_Less.an Tryz.f23 [a0, a1] s = key_Less.t S a0 a1 s := by kernel_rfl
theorem key_Less.cok : CtxOk Tryz.prog key_Less.ctx := .cons key_CompareQ.sound key_CompareQ.can <| .nil
theorem key_Less.draws : fnDraws key_Less.an Tryz.f23 = true := by kernel_rfl
theorem key_Less.can : callOk Tryz.prog 23 = true := by kernel_rfl
theorem key_Less.sound : FnOk Tryz.prog 23 (.rd key_Less.w) := FnOk.rd_of (evG_ok key_Less.cok mixed (f := 23) (fn := Tryz.f23) (by kernel_rfl) key_Less.draws) fun args s r h => by
  unfold key_Less.w at h; split at h
  · rw [key_Less.ok std]; exact h
  · simp at h

/-! ### (*leapfrog/seek.Seek).counts: function 140 -/
def seek_Seek_counts.ctx : Ctx := []
def seek_Seek_counts.t (S : Sig) (a0 : Value) (s : St) : Option (Value × St) :=
  S.bd (nck a0) fun x1 => S.bd (fld 23 x1) fun x2 => S.bd (ldc s x2) fun x3 => S.bd (bin .geq x3 (Go.Value.int Go.IntKind.i64 64)) fun x4 => S.cnd x4 (S.bd (bld [(Go.Value.int Go.IntKind.i64 0), (Go.Value.int Go.IntKind.u64 0), (Go.Value.slice Option.none 0 0), (Go.Value.slice Option.none 0 0), (Go.Value.int Go.IntKind.i64 0), (Go.Value.int Go.IntKind.i64 0), (Go.Value.int Go.IntKind.u64 0), (Go.Value.int Go.IntKind.i64 0), (Go.Value.int Go.IntKind.u64 0), (Go.Value.int Go.IntKind.i64 0), (Go.Value.int Go.IntKind.i64 0), (Go.Value.int Go.IntKind.u64 0), (Go.Value.int Go.IntKind.i64 0), (Go.Value.int Go.IntKind.u64 0), (Go.Value.bool Bool.false)] [(0, 1, (Go.Value.int Go.IntKind.i64 121))]) fun x5 => S.bd (nck a0) fun x6 => S.bd (fld 24 x6) fun x7 => S.bd (stv s 1 x7 (Go.Value.bool Bool.true)) fun s8 => S.bd (nck a0) fun x9 => S.bd (fld 25 x9) fun x10 => S.bd (stv s8 15 x10 x5) fun s11 => some ((Go.Value.bool Bool.false), s11)) (S.bd (nck a0) fun x12 => S.bd (fld 23 x12) fun x13 => S.bd (ldc s x13) fun x14 => S.bd (bin .add x14 (Go.Value.int Go.IntKind.i64 1)) fun x15 => S.bd (nck a0) fun x16 => S.bd (fld 23 x16) fun x17 => S.bd (stv s 1 x17 x15) fun s18 => some ((Go.Value.bool Bool.true), s18))
def seek_Seek_counts.v (a0 : Value) (s : St) : Option (Value × St) := seek_Seek_counts.t std a0 s
def seek_Seek_counts.w : List Value → St → Option (Value × St)
  | [a0], s => seek_Seek_counts.v a0 s
  | _, _ => none
def seek_Seek_counts.an : An := ⟨22, false, [], [], [], []⟩
theorem seek_Seek_counts.ok (S : Sig) (a0 : Value) (s : St) : evF S Tryz.prog seek_Seek_counts.ctx seek_Seek_counts.an Tryz.f140 [a0] s = seek_Seek_counts.t S a0 s := by kernel_rfl
theorem seek_Seek_counts.cok : CtxOk Tryz.prog seek_Seek_counts.ctx := .nil
theorem seek_Seek_counts.draws : fnDraws seek_Seek_counts.an Tryz.f140 = true := by kernel_rfl
theorem seek_Seek_counts.can : callOk Tryz.prog 140 = true := by kernel_rfl
theorem seek_Seek_counts.sound : FnOk Tryz.prog 140 (.st seek_Seek_counts.w) := FnOk.st_of (evF_ok seek_Seek_counts.cok mixed (f := 140) (fn := Tryz.f140) (by kernel_rfl) seek_Seek_counts.draws) fun args s r h => by
  unfold seek_Seek_counts.w at h; split at h
  · rw [seek_Seek_counts.ok std]; exact h
  · simp at h

/-! ### (*leapfrog/seek.Seek).again: function 141 -/
def seek_Seek_again.ctx : Ctx := [(140, .st seek_Seek_counts.w)]
def seek_Seek_again.t (S : Sig) (a0 : Value) (s : St) : Option (Value × St) :=
  S.bd (seek_Seek_counts.v a0 s) fun r1 => S.cnd r1.1 (S.bd (bld [(Go.Value.int Go.IntKind.i64 0), (Go.Value.int Go.IntKind.u64 0)] [(0, 1, (Go.Value.int Go.IntKind.i64 1))]) fun x2 => S.bd (nck a0) fun x3 => S.bd (fld 0 x3) fun x4 => S.bd (fld 0 x4) fun x5 => S.bd (ldc r1.2 x5) fun x6 => S.bd (bld [(Go.Value.int Go.IntKind.i64 0), (Go.Value.int Go.IntKind.u64 0)] [(0, 1, x6)]) fun x7 => S.bd (bld [(Go.Value.int Go.IntKind.i64 0), (Go.Value.int Go.IntKind.i64 0), (Go.Value.int Go.IntKind.u64 0), (Go.Value.int Go.IntKind.i64 0), (Go.Value.int Go.IntKind.u64 0)] [(1, 2, x2), (3, 2, x7)]) fun x8 => S.bd (nck a0) fun x9 => S.bd (fld 9 x9) fun x10 => S.bd (stv r1.2 5 x10 x8) fun s11 => S.bd (nck a0) fun x12 => S.bd (fld 0 x12) fun x13 => S.bd (fld 0 x13) fun x14 => S.bd (ldc s11 x14) fun x15 => S.bd (bld [(Go.Value.int Go.IntKind.i64 0), (Go.Value.int Go.IntKind.u64 0)] [(0, 1, x15)]) fun x16 => S.bd (nck a0) fun x17 => S.bd (fld 14 x17) fun x18 => S.bd (stv s11 2 x18 x16) fun s19 => S.bd (nck a0) fun x20 => S.bd (fld 16 x20) fun x21 => S.bd (stv s19 1 x21 (Go.Value.bool Bool.false)) fun s22 => some ((Value.tuple ⟨[]⟩), s22)) (some ((Value.tuple ⟨[]⟩), r1.2))
def seek_Seek_again.v (a0 : Value) (s : St) : Option (Value × St) := seek_Seek_again.t std a0 s
def seek_Seek_again.w : List Value → St → Option (Value × St)
  | [a0], s => seek_Seek_again.v a0 s
  | _, _ => none
def seek_Seek_again.an : An := ⟨27, false, [], [], [], []⟩
theorem seek_Seek_again.ok (S : Sig) (a0 : Value) (s : St) : evF S Tryz.prog seek_Seek_again.ctx seek_Seek_again.an Tryz.f141 [a0] s = seek_Seek_again.t S a0 s := by kernel_rfl
theorem seek_Seek_again.cok : CtxOk Tryz.prog seek_Seek_again.ctx := .cons seek_Seek_counts.sound seek_Seek_counts.can <| .nil
theorem seek_Seek_again.draws : fnDraws seek_Seek_again.an Tryz.f141 = true := by kernel_rfl
theorem seek_Seek_again.can : callOk Tryz.prog 141 = true := by kernel_rfl
theorem seek_Seek_again.sound : FnOk Tryz.prog 141 (.st seek_Seek_again.w) := FnOk.st_of (evF_ok seek_Seek_again.cok mixed (f := 141) (fn := Tryz.f141) (by kernel_rfl) seek_Seek_again.draws) fun args s r h => by
  unfold seek_Seek_again.w at h; split at h
  · rw [seek_Seek_again.ok std]; exact h
  · simp at h

/-! ### leapfrog/vec.low: function 42 -/
def vec_low.ctx : Ctx := []
def vec_low.t (S : Sig) (a0 : Value) (s : St) : Option Value :=
  S.bd (cvi .u64 a0) fun x1 => S.bd (bin .shl (Go.Value.int Go.IntKind.u64 1) x1) fun x2 => S.bd (bin .sub x2 (Go.Value.int Go.IntKind.u64 1)) fun x3 => some (x3)
def vec_low.r (a0 : Value) (s : St) : Option Value := vec_low.t std a0 s
def vec_low.w : List Value → St → Option Value
  | [a0], s => vec_low.r a0 s
  | _, _ => none
def vec_low.an : An := ⟨7, true, [], [], [], []⟩
theorem vec_low.ok (S : Sig) (a0 : Value) (s : St) : evG S Tryz.prog vec_low.ctx vec_low.an Tryz.f42 [a0] s = vec_low.t S a0 s := by kernel_rfl
theorem vec_low.cok : CtxOk Tryz.prog vec_low.ctx := .nil
theorem vec_low.draws : fnDraws vec_low.an Tryz.f42 = true := by kernel_rfl
theorem vec_low.can : callOk Tryz.prog 42 = true := by kernel_rfl
theorem vec_low.sound : FnOk Tryz.prog 42 (.rd vec_low.w) := FnOk.rd_of (evG_ok vec_low.cok mixed (f := 42) (fn := Tryz.f42) (by kernel_rfl) vec_low.draws) fun args s r h => by
  unfold vec_low.w at h; split at h
  · rw [vec_low.ok std]; exact h
  · simp at h

/-! ### leapfrog/vec.Right: function 28 -/
def vec_Right.ctx : Ctx := [(42, .rd vec_low.w)]
def vec_Right.t (S : Sig) (a0 : Value) (s : St) : Option Value :=
  S.bd (bx a0) fun c1 => S.bd (lcl c1 0) fun x2 => S.bd (bin .lss x2 (Go.Value.int Go.IntKind.i64 0)) fun x3 => S.bd (S.gd x3 false (lcl c1 0)) fun x4 => S.bd (S.gd x3 false (bin .gtr x4 (Go.Value.int Go.IntKind.i64 32))) fun x5 => S.bd (pik x3 (Go.Value.bool Bool.true) x5) fun x6 => S.bd (S.gd x6 false (lcl c1 1)) fun x7 => S.bd (S.gd x6 false (lcl c1 0)) fun x8 => S.bd (S.gd x6 false (vec_low.r x8 s)) fun x9 => S.bd (S.gd x6 false (bin .gtr x7 x9)) fun x10 => S.bd (pik x6 (Go.Value.bool Bool.true) x10) fun x11 => S.cnd x11 (some ((Go.Value.int Go.IntKind.i64 10))) (some ((Go.Value.int Go.IntKind.i64 0)))
def vec_Right.r (a0 : Value) (s : St) : Option Value := vec_Right.t std a0 s
def vec_Right.w : List Value → St → Option Value
  | [a0], s => vec_Right.r a0 s
  | _, _ => none
def vec_Right.an : An := ⟨19, true, [1], [], [], [(1, [(0, 0, [], []), (1, 9, [], []), (2, 0, [], []), (3, 0, [], []), (4, 0, [], []), (5, 9, [], []), (6, 0, [], []), (7, 0, [], []), (8, 0, [], []), (9, 0, [], []), (10, 9, [], []), (11, 0, [], []), (12, 9, [], []), (13, 3, [], []), (14, 0, [], []), (15, 0, [], [])])]⟩
theorem vec_Right.ok (S : Sig) (a0 : Value) (s : St) : evG S Tryz.prog vec_Right.ctx vec_Right.an Tryz.f28 [a0] s = vec_Right.t S a0 s := by kernel_rfl
theorem vec_Right.cok : CtxOk Tryz.prog vec_Right.ctx := .cons vec_low.sound vec_low.can <| .nil
theorem vec_Right.draws : fnDraws vec_Right.an Tryz.f28 = true := by kernel_rfl
theorem vec_Right.can : callOk Tryz.prog 28 = true := by kernel_rfl
theorem vec_Right.sound : FnOk Tryz.prog 28 (.rd vec_Right.w) := FnOk.rd_of (evG_ok vec_Right.cok mixed (f := 28) (fn := Tryz.f28) (by kernel_rfl) vec_Right.draws) fun args s r h => by
  unfold vec_Right.w at h; split at h
  · rw [vec_Right.ok std]; exact h
  · simp at h

/-! ### leapfrog/vec.upTo: function 40 -/
def vec_upTo.ctx : Ctx := [(28, .rd vec_Right.w)]
def vec_upTo.t (S : Sig) (a0 a1 : Value) (s : St) : Option Value :=
  S.bd (bx a0) fun c1 => S.bd (lal c1 0 2) fun x2 => S.bd (vec_Right.r x2 s) fun x3 => S.bd (eqb [1] false true x3 (Go.Value.int Go.IntKind.i64 0)) fun x4 => S.cnd x4 (some (x3)) (S.bd (bin .lss a1 (Go.Value.int Go.IntKind.i64 0)) fun x5 => S.bd (S.gd x5 false (some a1)) fun x6 => S.bd (S.gd x5 false (lcl c1 0)) fun x7 => S.bd (S.gd x5 false (bin .gtr x6 x7)) fun x8 => S.bd (pik x5 (Go.Value.bool Bool.true) x8) fun x9 => S.cnd x9 (some ((Go.Value.int Go.IntKind.i64 5))) (some ((Go.Value.int Go.IntKind.i64 0))))
def vec_upTo.r (a0 a1 : Value) (s : St) : Option Value := vec_upTo.t std a0 a1 s
def vec_upTo.w : List Value → St → Option Value
  | [a0, a1], s => vec_upTo.r a0 a1 s
  | _, _ => none
def vec_upTo.an : An := ⟨19, true, [2], [], [], []⟩
theorem vec_upTo.ok (S : Sig) (a0 a1 : Value) (s : St) : evG S Tryz.prog vec_upTo.ctx vec_upTo.an Tryz.f40 [a0, a1] s = vec_upTo.t S a0 a1 s := by kernel_rfl
theorem vec_upTo.cok : CtxOk Tryz.prog vec_upTo.ctx := .cons vec_Right.sound vec_Right.can <| .nil
theorem vec_upTo.draws : fnDraws vec_upTo.an Tryz.f40 = true := by kernel_rfl
theorem vec_upTo.can : callOk Tryz.prog 40 = true := by kernel_rfl
theorem vec_upTo.sound : FnOk Tryz.prog 40 (.rd vec_upTo.w) := FnOk.rd_of (evG_ok vec_upTo.cok mixed (f := 40) (fn := Tryz.f40) (by kernel_rfl) vec_upTo.draws) fun args s r h => by
  unfold vec_upTo.w at h; split at h
  · rw [vec_upTo.ok std]; exact h
  · simp at h

/-! ### leapfrog/vec.prefix: function 39 -/
def vec_prefix.ctx : Ctx := []
def vec_prefix.t (S : Sig) (a0 a1 : Value) (s : St) : Option Value :=
  S.bd (bx a0) fun c1 => S.bd (bx (Go.Value.agg #[(Go.Value.int Go.IntKind.i64 0), (Go.Value.int Go.IntKind.u64 0)])) fun c2 => S.bd (lcl c1 1) fun x3 => S.bd (lcl c1 0) fun x4 => S.bd (bin .sub x4 a1) fun x5 => S.bd (cvi .u64 x5) fun x6 => S.bd (bin .shr x3 x6) fun x7 => S.bd (bld [(Go.Value.int Go.IntKind.i64 0), (Go.Value.int Go.IntKind.u64 0)] [(0, 1, a1), (1, 1, x7)]) fun x8 => S.bd (stl c2 0 2 x8) fun c9 => S.bd (lal c9 0 2) fun x10 => some (x10)
def vec_prefix.r (a0 a1 : Value) (s : St) : Option Value := vec_prefix.t std a0 a1 s
def vec_prefix.w : List Value → St → Option Value
  | [a0, a1], s => vec_prefix.r a0 a1 s
  | _, _ => none
def vec_prefix.an : An := ⟨15, true, [2, 4], [], [], []⟩
theorem vec_prefix.ok (S : Sig) (a0 a1 : Value) (s : St) : evG S Tryz.prog vec_prefix.ctx vec_prefix.an Tryz.f39 [a0, a1] s = vec_prefix.t S a0 a1 s := by kernel_rfl
theorem vec_prefix.cok : CtxOk Tryz.prog vec_prefix.ctx := .nil
theorem vec_prefix.draws : fnDraws vec_prefix.an Tryz.f39 = true := by kernel_rfl
theorem vec_prefix.can : callOk Tryz.prog 39 = true := by kernel_rfl
theorem vec_prefix.sound : FnOk Tryz.prog 39 (.rd vec_prefix.w) := FnOk.rd_of (evG_ok vec_prefix.cok mixed (f := 39) (fn := Tryz.f39) (by kernel_rfl) vec_prefix.draws) fun args s r h => by
  unfold vec_prefix.w at h; split at h
  · rw [vec_prefix.ok std]; exact h
  · simp at h

/-! ### leapfrog/vec.Prefix: function 26 -/
def vec_Prefix.ctx : Ctx := [(40, .rd vec_upTo.w), (39, .rd vec_prefix.w)]
def vec_Prefix.t (S : Sig) (a0 a1 : Value) (s : St) : Option Value :=
  S.bd (bx a0) fun c1 => S.bd (bx (Go.Value.agg #[(Go.Value.int Go.IntKind.i64 0), (Go.Value.int Go.IntKind.u64 0)])) fun c2 => S.bd (lal c1 0 2) fun x3 => S.bd (vec_upTo.r x3 a1 s) fun x4 => S.bd (eqb [1] false true x4 (Go.Value.int Go.IntKind.i64 0)) fun x5 => S.cnd x5 (S.bd (bld [(Go.Value.int Go.IntKind.i64 0), (Go.Value.int Go.IntKind.u64 0)] []) fun x6 => S.bd (stl c2 0 2 x6) fun c7 => S.bd (lal c7 0 2) fun x8 => some ((Value.tuple ⟨[x8, x4]⟩))) (S.bd (lal c1 0 2) fun x9 => S.bd (vec_prefix.r x9 a1 s) fun x10 => S.bd (stl c2 0 2 x10) fun c11 => S.bd (lal c11 0 2) fun x12 => some ((Value.tuple ⟨[x12, (Go.Value.int Go.IntKind.i64 0)]⟩)))
def vec_Prefix.r (a0 a1 : Value) (s : St) : Option Value := vec_Prefix.t std a0 a1 s
def vec_Prefix.w : List Value → St → Option Value
  | [a0, a1], s => vec_Prefix.r a0 a1 s
  | _, _ => none
def vec_Prefix.an : An := ⟨17, true, [2, 4], [], [], []⟩
theorem vec_Prefix.ok (S : Sig) (a0 a1 : Value) (s : St) : evG S Tryz.prog vec_Prefix.ctx vec_Prefix.an Tryz.f26 [a0, a1] s = vec_Prefix.t S a0 a1 s := by kernel_rfl
theorem vec_Prefix.cok : CtxOk Tryz.prog vec_Prefix.ctx := .cons vec_upTo.sound vec_upTo.can <| .cons vec_prefix.sound vec_prefix.can <| .nil
theorem vec_Prefix.draws : fnDraws vec_Prefix.an Tryz.f26 = true := by kernel_rfl
theorem vec_Prefix.can : callOk Tryz.prog 26 = true := by kernel_rfl
theorem vec_Prefix.sound : FnOk Tryz.prog 26 (.rd vec_Prefix.w) := FnOk.rd_of (evG_ok vec_Prefix.cok mixed (f := 26) (fn := Tryz.f26) (by kernel_rfl) vec_Prefix.draws) fun args s r h => by
  unfold vec_Prefix.w at h; split at h
  · rw [vec_Prefix.ok std]; exact h
  · simp at h

/-! ### (*leapfrog/seek.Seek).goes: function 138 -/
def seek_Seek_goes.ctx : Ctx := [(22, .rd key_Check.w), (23, .rd key_Less.w), (141, .st seek_Seek_again.w), (26, .rd vec_Prefix.w)]
def seek_Seek_goes.l2 (S : Sig) (rec37 : List Value → St → Option Cut) (xs35 : List Value) (s36 : St) : Option Cut :=
  S.bd (lal (cellsA (xs35.getD 1 undef)) 1 2) fun x38 => S.bd (key_Check.r x38 s36) fun x39 => S.bd (eqb [1] false true x39 (Go.Value.int Go.IntKind.i64 0)) fun x40 => S.bd (S.gd x40 false (lal (cellsA (xs35.getD 2 undef)) 0 2)) fun x41 => S.bd (S.gd x40 false (lal (cellsA (xs35.getD 1 undef)) 1 2)) fun x42 => S.bd (S.gd x40 false (key_Less.r x41 x42 s36)) fun x43 => S.bd (S.gd x40 false (un .not x43)) fun x44 => S.bd (pik x40 (Go.Value.bool Bool.true) x44) fun x45 => S.cnd x45 (S.bd (seek_Seek_again.v (xs35.getD 0 undef) s36) fun r46 => some (1, [], r46.2)) (S.bd (nck (xs35.getD 0 undef)) fun x47 => S.bd (fld 22 x47) fun x48 => S.bd (ldc s36 x48) fun x49 => S.bd (lcl (cellsA (xs35.getD 1 undef)) 0) fun x50 => S.bd (nck (xs35.getD 0 undef)) fun x51 => S.bd (fld 14 x51) fun x52 => S.bd (lda s36 2 x52) fun x53 => S.bd (bld [(Go.Value.int Go.IntKind.i64 0), (Go.Value.int Go.IntKind.i64 0), (Go.Value.int Go.IntKind.u64 0)] [(0, 1, x50), (1, 2, x53)]) fun x54 => S.bd (lkp s36 [1, 1, 1] true (Go.Value.agg #[(Go.Value.int Go.IntKind.i64 0), (Go.Value.int Go.IntKind.i64 0), (Go.Value.int Go.IntKind.u64 0), (Go.Value.int Go.IntKind.i64 0), (Go.Value.int Go.IntKind.u64 0)]) true x49 x54) fun x55 => S.bd (xtr 0 x55) fun x56 => S.bd (xtr 1 x55) fun x57 => S.bd (bx (Go.Value.agg #[(Go.Value.int Go.IntKind.i64 0), (Go.Value.int Go.IntKind.i64 0), (Go.Value.int Go.IntKind.u64 0), (Go.Value.int Go.IntKind.i64 0), (Go.Value.int Go.IntKind.u64 0)])) fun c58 => S.bd (stl c58 0 5 x56) fun c59 => S.bd (un .not x57) fun x60 => S.cnd x60 (some (0, [(xs35.getD 0 undef), (Value.agg ⟨(cellsA (xs35.getD 1 undef))⟩)], s36)) (S.bd (lal (cellsA (xs35.getD 1 undef)) 1 2) fun x61 => S.bd (lal c59 0 5) fun x62 => S.bd (stl (cellsA (xs35.getD 2 undef)) 0 2 x61) fun c63 => S.bd (stl (cellsA (xs35.getD 1 undef)) 0 5 x62) fun c64 => rec37 [(xs35.getD 0 undef), (Value.agg ⟨c64⟩), (Value.agg ⟨c63⟩)] s36))

def seek_Seek_goes.t.p1 (S : Sig) (r65 : Cut) : Option (Value × St) :=
  S.bd (nck (r65.2.1.getD 0 undef)) fun x79 => S.bd (fld 14 x79) fun x80 => S.bd (fld 0 x80) fun x81 => S.bd (ldc r65.2.2 x81) fun x82 => S.bd (bin .gtr x82 (Go.Value.int Go.IntKind.i64 0)) fun x83 => S.cnd x83 (S.bd (nck (r65.2.1.getD 0 undef)) fun x84 => S.bd (fld 14 x84) fun x85 => S.bd (lda r65.2.2 2 x85) fun x86 => S.bd (nck (r65.2.1.getD 0 undef)) fun x87 => S.bd (fld 14 x87) fun x88 => S.bd (fld 0 x88) fun x89 => S.bd (ldc r65.2.2 x89) fun x90 => S.bd (bin .sub x90 (Go.Value.int Go.IntKind.i64 1)) fun x91 => S.bd (vec_Prefix.r x86 x91 r65.2.2) fun x92 => S.bd (xtr 0 x92) fun x93 => S.bd (xtr 1 x92) fun x94 => S.bd (nck (r65.2.1.getD 0 undef)) fun x95 => S.bd (fld 14 x95) fun x96 => S.bd (stv r65.2.2 2 x96 x93) fun s97 => S.bd (nck (r65.2.1.getD 0 undef)) fun x98 => S.bd (fld 16 x98) fun x99 => S.bd (stv s97 1 x99 (Go.Value.bool Bool.false)) fun s100 => some ((Value.tuple ⟨[]⟩), s100)) (S.bd (nck (r65.2.1.getD 0 undef)) fun x101 => S.bd (fld 9 x101) fun x102 => S.bd (lda r65.2.2 5 x102) fun x103 => S.bd (lal (cellsA (r65.2.1.getD 1 undef)) 0 5) fun x104 => S.bd (lal (cellsA (r65.2.1.getD 1 undef)) 1 2) fun x105 => S.bd (nck (r65.2.1.getD 0 undef)) fun x106 => S.bd (fld 0 x106) fun x107 => S.bd (fld 6 x107) fun x108 => S.bd (lda r65.2.2 2 x108) fun x109 => S.bd (eqb [1, 1] true false x105 x109) fun x110 => S.bd (bld [(Go.Value.int Go.IntKind.i64 0), (Go.Value.int Go.IntKind.u64 0), (Go.Value.slice Option.none 0 0), (Go.Value.slice Option.none 0 0), (Go.Value.int Go.IntKind.i64 0), (Go.Value.int Go.IntKind.i64 0), (Go.Value.int Go.IntKind.u64 0), (Go.Value.int Go.IntKind.i64 0), (Go.Value.int Go.IntKind.u64 0), (Go.Value.int Go.IntKind.i64 0), (Go.Value.int Go.IntKind.i64 0), (Go.Value.int Go.IntKind.u64 0), (Go.Value.int Go.IntKind.i64 0), (Go.Value.int Go.IntKind.u64 0), (Go.Value.bool Bool.false)] [(4, 5, x103), (9, 5, x104), (14, 1, x110)]) fun x111 => S.bd (nck (r65.2.1.getD 0 undef)) fun x112 => S.bd (fld 24 x112) fun x113 => S.bd (stv r65.2.2 1 x113 (Go.Value.bool Bool.true)) fun s114 => S.bd (nck (r65.2.1.getD 0 undef)) fun x115 => S.bd (fld 25 x115) fun x116 => S.bd (stv s114 15 x116 x111) fun s117 => some ((Value.tuple ⟨[]⟩), s117))

def seek_Seek_goes.t (S : Sig) (a0 a1 : Value) (s : St) : Option (Value × St) :=
  S.bd (bx a1) fun c1 => S.bd (nck a0) fun x2 => S.bd (fld 9 x2) fun x3 => S.bd (fld 1 x3) fun x4 => S.bd (lda s 2 x4) fun x5 => S.bd (bx (Go.Value.agg #[(Go.Value.int Go.IntKind.i64 0), (Go.Value.int Go.IntKind.u64 0)])) fun c6 => S.bd (stl c6 0 2 x5) fun c7 => S.bd (S.it (seek_Seek_goes.l2 S) [a0, (Value.agg ⟨c1⟩), (Value.agg ⟨c7⟩)] s) fun r65 => if r65.1 = 0 then (S.bd (lal (cellsA (r65.2.1.getD 1 undef)) 1 2) fun x66 => S.bd (nck (r65.2.1.getD 0 undef)) fun x67 => S.bd (fld 0 x67) fun x68 => S.bd (fld 6 x68) fun x69 => S.bd (lda r65.2.2 2 x69) fun x70 => S.bd (key_Less.r x66 x70 r65.2.2) fun x71 => S.cnd x71 (S.bd (lal (cellsA (r65.2.1.getD 1 undef)) 0 5) fun x72 => S.bd (nck (r65.2.1.getD 0 undef)) fun x73 => S.bd (fld 16 x73) fun x74 => S.bd (stv r65.2.2 1 x74 (Go.Value.bool Bool.true)) fun s75 => S.bd (nck (r65.2.1.getD 0 undef)) fun x76 => S.bd (fld 17 x76) fun x77 => S.bd (stv s75 5 x77 x72) fun s78 => some ((Value.tuple ⟨[]⟩), s78)) (seek_Seek_goes.t.p1 S r65)) else (some ((Value.tuple ⟨[]⟩), r65.2.2))
def seek_Seek_goes.v (a0 a1 : Value) (s : St) : Option (Value × St) := seek_Seek_goes.t std a0 a1 s
def seek_Seek_goes.w : List Value → St → Option (Value × St)
  | [a0, a1], s => seek_Seek_goes.v a0 a1 s
  | _, _ => none
def seek_Seek_goes.an : An := ⟨108, false, [3, 4, 5], [(2, ⟨[.v 0, .p 3 3 0, .p 4 4 0, .l 3, .l 4], [(.exit 0, [.v 0, .p 3 3 0, .l 3]), (.ret, [])]⟩)], [], [(4, [(0, 0, [], []), (1, 0, [], []), (2, 0, [], []), (3, 2, [], []), (4, 0, [], []), (5, 25, [], []), (6, 0, [], []), (7, 0, [], []), (8, 0, [], []), (9, 2, [], []), (10, 0, [], []), (11, 2, [], []), (12, 0, [], []), (13, 0, [], []), (14, 0, [], []), (15, 6, [], []), (16, 45, [], []), (17, 0, [], [])]), (6, [(0, 0, [], []), (1, 25, [], []), (2, 41, [], []), (3, 37, [], []), (4, 29, [], [])]), (8, [(0, 0, [], []), (1, 25, [], []), (2, 0, [], []), (3, 0, [], []), (4, 0, [], []), (5, 0, [], []), (6, 2, [], []), (7, 3, [], []), (8, 0, [], [])]), (9, [(0, 0, [], []), (1, 0, [], []), (2, 25, [], []), (3, 0, [], []), (4, 0, [], []), (5, 4, [], []), (6, 0, [], []), (7, 0, [], []), (8, 4, [], [])]), (11, [(0, 0, [], []), (1, 0, [], []), (2, 0, [], []), (3, 0, [], []), (4, 2, [], []), (5, 0, [], []), (6, 0, [], []), (7, 0, [], []), (8, 0, [], []), (9, 2, [], []), (10, 0, [], []), (11, 3, [], []), (12, 0, [], []), (13, 0, [], []), (14, 0, [], []), (15, 0, [], []), (16, 0, [], []), (17, 4, [], [])]), (7, [(0, 0, [], []), (1, 0, [], []), (2, 0, [], []), (3, 0, [], []), (4, 0, [], []), (5, 2, [], []), (6, 25, [], []), (7, 0, [], []), (8, 25, [], []), (9, 0, [], []), (10, 0, [], []), (11, 0, [], []), (12, 0, [], []), (13, 2, [], []), (14, 0, [], []), (15, 0, [], []), (16, 0, [], []), (17, 0, [], []), (18, 4, [], []), (19, 0, [], []), (20, 0, [], []), (21, 4, [], [])])]⟩
theorem seek_Seek_goes.ok (S : Sig) (a0 a1 : Value) (s : St) : evF S Tryz.prog seek_Seek_goes.ctx seek_Seek_goes.an Tryz.f138 [a0, a1] s = seek_Seek_goes.t S a0 a1 s := by kernel_rfl
theorem seek_Seek_goes.cok : CtxOk Tryz.prog seek_Seek_goes.ctx := .cons key_Check.sound key_Check.can <| .cons key_Less.sound key_Less.can <| .cons seek_Seek_again.sound seek_Seek_again.can <| .cons vec_Prefix.sound vec_Prefix.can <| .nil
theorem seek_Seek_goes.draws : fnDraws seek_Seek_goes.an Tryz.f138 = true := by kernel_rfl
theorem seek_Seek_goes.can : callOk Tryz.prog 138 = true := by kernel_rfl
theorem seek_Seek_goes.sound : FnOk Tryz.prog 138 (.st seek_Seek_goes.w) := FnOk.st_of (evF_ok seek_Seek_goes.cok mixed (f := 138) (fn := Tryz.f138) (by kernel_rfl) seek_Seek_goes.draws) fun args s r h => by
  unfold seek_Seek_goes.w at h; split at h
  · rw [seek_Seek_goes.ok std]; exact h
  · simp at h

/-! ### (*leapfrog/seek.Seek).keep: function 139 -/
def seek_Seek_keep.ctx : Ctx := []
def seek_Seek_keep.t (S : Sig) (a0 a1 a2 : Value) (s : St) : Option (Value × St) :=
  S.bd (bx a1) fun c1 => S.bd (bx a2) fun c2 => S.bd (nck a0) fun x3 => S.bd (fld 22 x3) fun x4 => S.bd (ldc s x4) fun x5 => S.bd (lcl c1 0) fun x6 => S.bd (nck a0) fun x7 => S.bd (fld 14 x7) fun x8 => S.bd (lda s 2 x8) fun x9 => S.bd (bld [(Go.Value.int Go.IntKind.i64 0), (Go.Value.int Go.IntKind.i64 0), (Go.Value.int Go.IntKind.u64 0)] [(0, 1, x6), (1, 2, x9)]) fun x10 => S.bd (lal c2 7 5) fun x11 => S.bd (upm s [1, 1, 1] true x5 x10 x11) fun s12 => some ((Value.tuple ⟨[]⟩), s12)
def seek_Seek_keep.v (a0 a1 a2 : Value) (s : St) : Option (Value × St) := seek_Seek_keep.t std a0 a1 a2 s
def seek_Seek_keep.w : List Value → St → Option (Value × St)
  | [a0, a1, a2], s => seek_Seek_keep.v a0 a1 a2 s
  | _, _ => none
def seek_Seek_keep.an : An := ⟨19, false, [4, 5], [], [], [(1, [(0, 0, [], []), (1, 0, [], []), (2, 0, [], []), (3, 2, [], []), (4, 0, [], []), (5, 33, [], []), (6, 0, [], []), (7, 0, [], []), (8, 0, [], []), (9, 2, [], []), (10, 0, [], []), (11, 0, [], []), (12, 41, [], []), (13, 4, [], [])])]⟩
theorem seek_Seek_keep.ok (S : Sig) (a0 a1 a2 : Value) (s : St) : evF S Tryz.prog seek_Seek_keep.ctx seek_Seek_keep.an Tryz.f139 [a0, a1, a2] s = seek_Seek_keep.t S a0 a1 a2 s := by kernel_rfl
theorem seek_Seek_keep.cok : CtxOk Tryz.prog seek_Seek_keep.ctx := .nil
theorem seek_Seek_keep.draws : fnDraws seek_Seek_keep.an Tryz.f139 = true := by kernel_rfl
theorem seek_Seek_keep.can : callOk Tryz.prog 139 = true := by kernel_rfl
theorem seek_Seek_keep.sound : FnOk Tryz.prog 139 (.st seek_Seek_keep.w) := FnOk.st_of (evF_ok seek_Seek_keep.cok mixed (f := 139) (fn := Tryz.f139) (by kernel_rfl) seek_Seek_keep.draws) fun args s r h => by
  unfold seek_Seek_keep.w at h; split at h
  · rw [seek_Seek_keep.ok std]; exact h
  · simp at h

/-! ### (*leapfrog/seek.Seek).looked: function 136 -/
def seek_Seek_looked.ctx : Ctx := [(138, .st seek_Seek_goes.w), (139, .st seek_Seek_keep.w), (140, .st seek_Seek_counts.w), (141, .st seek_Seek_again.w)]
def seek_Seek_looked.t (S : Sig) (a0 a1 : Value) (s : St) : Option (Value × St) :=
  S.bd (bx a1) fun c1 => S.bd (lcl c1 0) fun x2 => S.bd (eqb [1] false false x2 (Go.Value.int Go.IntKind.i64 1)) fun x3 => S.cnd x3 (S.bd (nck a0) fun x4 => S.bd (fld 17 x4) fun x5 => S.bd (lda s 5 x5) fun x6 => S.bd (nck a0) fun x7 => S.bd (fld 9 x7) fun x8 => S.bd (stv s 5 x8 x6) fun s9 => S.bd (nck a0) fun x10 => S.bd (fld 16 x10) fun x11 => S.bd (stv s9 1 x11 (Go.Value.bool Bool.false)) fun s12 => S.bd (lal c1 7 5) fun x13 => S.bd (seek_Seek_goes.v a0 x13 s12) fun r14 => some ((Value.tuple ⟨[]⟩), r14.2)) (S.bd (eqb [1] false false x2 (Go.Value.int Go.IntKind.i64 3)) fun x15 => S.cnd x15 (S.bd (nck a0) fun x16 => S.bd (fld 17 x16) fun x17 => S.bd (lda s 5 x17) fun x18 => S.bd (lal c1 0 13) fun x19 => S.bd (seek_Seek_keep.v a0 x18 x19 s) fun r20 => S.bd (seek_Seek_counts.v a0 r20.2) fun r21 => S.cnd r21.1 (S.bd (nck a0) fun x22 => S.bd (fld 16 x22) fun x23 => S.bd (stv r21.2 1 x23 (Go.Value.bool Bool.false)) fun s24 => some ((Value.tuple ⟨[]⟩), s24)) (some ((Value.tuple ⟨[]⟩), r21.2))) (S.bd (seek_Seek_again.v a0 s) fun r25 => some ((Value.tuple ⟨[]⟩), r25.2)))
def seek_Seek_looked.v (a0 a1 : Value) (s : St) : Option (Value × St) := seek_Seek_looked.t std a0 a1 s
def seek_Seek_looked.w : List Value → St → Option (Value × St)
  | [a0, a1], s => seek_Seek_looked.v a0 a1 s
  | _, _ => none
def seek_Seek_looked.an : An := ⟨38, false, [3], [], [], [(7, [(0, 0, [], []), (1, 0, [], []), (2, 0, [], []), (3, 0, [], []), (4, 2, [], []), (5, 25, [], []), (6, 4, [], [])])]⟩
theorem seek_Seek_looked.ok (S : Sig) (a0 a1 : Value) (s : St) : evF S Tryz.prog seek_Seek_looked.ctx seek_Seek_looked.an Tryz.f136 [a0, a1] s = seek_Seek_looked.t S a0 a1 s := by kernel_rfl
theorem seek_Seek_looked.cok : CtxOk Tryz.prog seek_Seek_looked.ctx := .cons seek_Seek_goes.sound seek_Seek_goes.can <| .cons seek_Seek_keep.sound seek_Seek_keep.can <| .cons seek_Seek_counts.sound seek_Seek_counts.can <| .cons seek_Seek_again.sound seek_Seek_again.can <| .nil
theorem seek_Seek_looked.draws : fnDraws seek_Seek_looked.an Tryz.f136 = true := by kernel_rfl
theorem seek_Seek_looked.can : callOk Tryz.prog 136 = true := by kernel_rfl
theorem seek_Seek_looked.sound : FnOk Tryz.prog 136 (.st seek_Seek_looked.w) := FnOk.st_of (evF_ok seek_Seek_looked.cok mixed (f := 136) (fn := Tryz.f136) (by kernel_rfl) seek_Seek_looked.draws) fun args s r h => by
  unfold seek_Seek_looked.w at h; split at h
  · rw [seek_Seek_looked.ok std]; exact h
  · simp at h

/-! ### (*leapfrog/seek.Seek).stood: function 137 -/
def seek_Seek_stood.ctx : Ctx := [(23, .rd key_Less.w), (138, .st seek_Seek_goes.w), (22, .rd key_Check.w), (141, .st seek_Seek_again.w), (139, .st seek_Seek_keep.w)]
def seek_Seek_stood.t (S : Sig) (a0 a1 : Value) (s : St) : Option (Value × St) :=
  S.bd (bx a1) fun c1 => S.bd (lcl c1 0) fun x2 => S.bd (eqb [1] false false x2 (Go.Value.int Go.IntKind.i64 1)) fun x3 => S.cnd x3 (S.bd (nck a0) fun x4 => S.bd (fld 9 x4) fun x5 => S.bd (fld 1 x5) fun x6 => S.bd (lda s 2 x6) fun x7 => S.bd (nck a0) fun x8 => S.bd (fld 0 x8) fun x9 => S.bd (fld 6 x9) fun x10 => S.bd (lda s 2 x10) fun x11 => S.bd (key_Less.r x7 x11 s) fun x12 => S.cnd x12 (S.bd (lal c1 7 5) fun x13 => S.bd (seek_Seek_goes.v a0 x13 s) fun r14 => some ((Value.tuple ⟨[]⟩), r14.2)) (S.bd (lal c1 3 2) fun x15 => S.bd (key_Check.r x15 s) fun x16 => S.bd (eqb [1] false false x16 (Go.Value.int Go.IntKind.i64 0)) fun x17 => S.bd (S.gd x17 true (lal c1 3 2)) fun x18 => S.bd (S.gd x17 true (some a0)) fun x19 => S.bd (S.gd x17 true (nck x19)) fun x20 => S.bd (S.gd x17 true (fld 9 x20)) fun x21 => S.bd (S.gd x17 true (fld 1 x21)) fun x22 => S.bd (S.gd x17 true (lda s 2 x22)) fun x23 => S.bd (S.gd x17 true (key_Less.r x18 x23 s)) fun x24 => S.bd (pik x17 x24 (Go.Value.bool Bool.false)) fun x25 => S.cnd x25 (S.bd (lal c1 2 5) fun x26 => S.bd (nck a0) fun x27 => S.bd (fld 9 x27) fun x28 => S.bd (stv s 5 x28 x26) fun s29 => some ((Value.tuple ⟨[]⟩), s29)) (S.bd (seek_Seek_again.v a0 s) fun r30 => some ((Value.tuple ⟨[]⟩), r30.2)))) (S.bd (eqb [1] false false x2 (Go.Value.int Go.IntKind.i64 3)) fun x31 => S.cnd x31 (S.bd (nck a0) fun x32 => S.bd (fld 9 x32) fun x33 => S.bd (lda s 5 x33) fun x34 => S.bd (lal c1 0 13) fun x35 => S.bd (seek_Seek_keep.v a0 x34 x35 s) fun r36 => S.bd (seek_Seek_again.v a0 r36.2) fun r37 => some ((Value.tuple ⟨[]⟩), r37.2)) (S.bd (seek_Seek_again.v a0 s) fun r38 => some ((Value.tuple ⟨[]⟩), r38.2)))
def seek_Seek_stood.v (a0 a1 : Value) (s : St) : Option (Value × St) := seek_Seek_stood.t std a0 a1 s
def seek_Seek_stood.w : List Value → St → Option (Value × St)
  | [a0, a1], s => seek_Seek_stood.v a0 a1 s
  | _, _ => none
def seek_Seek_stood.an : An := ⟨55, false, [3], [], [], [(4, [(0, 0, [], []), (1, 0, [], []), (2, 0, [], []), (3, 0, [], []), (4, 2, [], []), (5, 0, [], []), (6, 0, [], []), (7, 0, [], []), (8, 0, [], []), (9, 2, [], []), (10, 3, [], [])]), (6, [(0, 0, [], []), (1, 0, [], []), (2, 25, [], []), (3, 3, [], []), (4, 0, [], []), (5, 0, [], []), (6, 0, [], []), (7, 0, [], []), (8, 25, [], []), (9, 0, [], []), (10, 0, [], []), (11, 0, [], []), (12, 0, [], []), (13, 2, [], []), (14, 3, [], []), (15, 0, [], [])]), (8, [(0, 0, [], []), (1, 0, [], []), (2, 0, [], []), (3, 0, [], []), (4, 2, [], []), (5, 25, [], []), (6, 4, [], [])])]⟩
theorem seek_Seek_stood.ok (S : Sig) (a0 a1 : Value) (s : St) : evF S Tryz.prog seek_Seek_stood.ctx seek_Seek_stood.an Tryz.f137 [a0, a1] s = seek_Seek_stood.t S a0 a1 s := by kernel_rfl
theorem seek_Seek_stood.cok : CtxOk Tryz.prog seek_Seek_stood.ctx := .cons key_Less.sound key_Less.can <| .cons seek_Seek_goes.sound seek_Seek_goes.can <| .cons key_Check.sound key_Check.can <| .cons seek_Seek_again.sound seek_Seek_again.can <| .cons seek_Seek_keep.sound seek_Seek_keep.can <| .nil
theorem seek_Seek_stood.draws : fnDraws seek_Seek_stood.an Tryz.f137 = true := by kernel_rfl
theorem seek_Seek_stood.can : callOk Tryz.prog 137 = true := by kernel_rfl
theorem seek_Seek_stood.sound : FnOk Tryz.prog 137 (.st seek_Seek_stood.w) := FnOk.st_of (evF_ok seek_Seek_stood.cok mixed (f := 137) (fn := Tryz.f137) (by kernel_rfl) seek_Seek_stood.draws) fun args s r h => by
  unfold seek_Seek_stood.w at h; split at h
  · rw [seek_Seek_stood.ok std]; exact h
  · simp at h

/-! ### (*leapfrog/seek.Seek).Tell: function 133 -/
def seek_Seek_Tell.ctx : Ctx := [(135, .rd seek_Seek_is.w), (136, .st seek_Seek_looked.w), (137, .st seek_Seek_stood.w)]
def seek_Seek_Tell.t (S : Sig) (a0 a1 : Value) (s : St) : Option (Value × St) :=
  S.bd (bx a1) fun c1 => S.bd (seek_Seek_is.r a0 s) fun x2 => S.bd (un .not x2) fun x3 => S.bd (S.gd x3 false (some a0)) fun x4 => S.bd (S.gd x3 false (nck x4)) fun x5 => S.bd (S.gd x3 false (fld 24 x5)) fun x6 => S.bd (S.gd x3 false (ldc s x6)) fun x7 => S.bd (pik x3 (Go.Value.bool Bool.true) x7) fun x8 => S.cnd x8 (some ((Value.tuple ⟨[]⟩), s)) (S.bd (nck a0) fun x9 => S.bd (fld 16 x9) fun x10 => S.bd (ldc s x10) fun x11 => S.cnd x11 (S.bd (lal c1 0 13) fun x12 => S.bd (seek_Seek_looked.v a0 x12 s) fun r13 => some ((Value.tuple ⟨[]⟩), r13.2)) (S.bd (lal c1 0 13) fun x14 => S.bd (seek_Seek_stood.v a0 x14 s) fun r15 => some ((Value.tuple ⟨[]⟩), r15.2)))
def seek_Seek_Tell.v (a0 a1 : Value) (s : St) : Option (Value × St) := seek_Seek_Tell.t std a0 a1 s
def seek_Seek_Tell.w : List Value → St → Option (Value × St)
  | [a0, a1], s => seek_Seek_Tell.v a0 a1 s
  | _, _ => none
def seek_Seek_Tell.an : An := ⟨25, false, [3], [], [], []⟩
theorem seek_Seek_Tell.ok (S : Sig) (a0 a1 : Value) (s : St) : evF S Tryz.prog seek_Seek_Tell.ctx seek_Seek_Tell.an Tryz.f133 [a0, a1] s = seek_Seek_Tell.t S a0 a1 s := by kernel_rfl
theorem seek_Seek_Tell.cok : CtxOk Tryz.prog seek_Seek_Tell.ctx := .cons seek_Seek_is.sound seek_Seek_is.can <| .cons seek_Seek_looked.sound seek_Seek_looked.can <| .cons seek_Seek_stood.sound seek_Seek_stood.can <| .nil
theorem seek_Seek_Tell.draws : fnDraws seek_Seek_Tell.an Tryz.f133 = true := by kernel_rfl
theorem seek_Seek_Tell.can : callOk Tryz.prog 133 = true := by kernel_rfl
theorem seek_Seek_Tell.sound : FnOk Tryz.prog 133 (.st seek_Seek_Tell.w) := FnOk.st_of (evF_ok seek_Seek_Tell.cok mixed (f := 133) (fn := Tryz.f133) (by kernel_rfl) seek_Seek_Tell.draws) fun args s r h => by
  unfold seek_Seek_Tell.w at h; split at h
  · rw [seek_Seek_Tell.ok std]; exact h
  · simp at h

/-! ### (*leapfrog/seek.Seek).Wake: function 134 -/
def seek_Seek_Wake.ctx : Ctx := []
def seek_Seek_Wake.t (S : Sig) (a0 : Value) (s : St) : Option Value :=
  some ((Value.tuple ⟨[]⟩))
def seek_Seek_Wake.r (a0 : Value) (s : St) : Option Value := seek_Seek_Wake.t std a0 s
def seek_Seek_Wake.w : List Value → St → Option Value
  | [a0], s => seek_Seek_Wake.r a0 s
  | _, _ => none
def seek_Seek_Wake.an : An := ⟨2, true, [], [], [], []⟩
theorem seek_Seek_Wake.ok (S : Sig) (a0 : Value) (s : St) : evG S Tryz.prog seek_Seek_Wake.ctx seek_Seek_Wake.an Tryz.f134 [a0] s = seek_Seek_Wake.t S a0 s := by kernel_rfl
theorem seek_Seek_Wake.cok : CtxOk Tryz.prog seek_Seek_Wake.ctx := .nil
theorem seek_Seek_Wake.draws : fnDraws seek_Seek_Wake.an Tryz.f134 = true := by kernel_rfl
theorem seek_Seek_Wake.can : callOk Tryz.prog 134 = true := by kernel_rfl
theorem seek_Seek_Wake.sound : FnOk Tryz.prog 134 (.rd seek_Seek_Wake.w) := FnOk.rd_of (evG_ok seek_Seek_Wake.cok mixed (f := 134) (fn := Tryz.f134) (by kernel_rfl) seek_Seek_Wake.draws) fun args s r h => by
  unfold seek_Seek_Wake.w at h; split at h
  · rw [seek_Seek_Wake.ok std]; exact h
  · simp at h

/-! ### (*leapfrog/seek.Seek).Next: function 132 -/
def seek_Seek_Next.ctx : Ctx := [(135, .rd seek_Seek_is.w)]
def seek_Seek_Next.t.p1 (S : Sig) (r35 : Cut) (x38 : Value) (x36 : Value) : Option Value :=
  S.bd (lda r35.2.2 2 x38) fun x39 => S.bd (bld [(Go.Value.int Go.IntKind.i64 0), (Go.Value.int Go.IntKind.i64 0), (Go.Value.int Go.IntKind.u64 0), (Go.Value.int Go.IntKind.i64 0), (Go.Value.int Go.IntKind.i64 0), (Go.Value.int Go.IntKind.u64 0), (Go.Value.int Go.IntKind.i64 0), (Go.Value.int Go.IntKind.u64 0), (Go.Value.int Go.IntKind.i64 0), (Go.Value.int Go.IntKind.i64 0), (Go.Value.int Go.IntKind.u64 0), (Go.Value.int Go.IntKind.i64 0), (Go.Value.int Go.IntKind.u64 0), (Go.Value.int Go.IntKind.i64 0), (Go.Value.int Go.IntKind.i64 0)] [(0, 1, (Go.Value.int Go.IntKind.i64 1)), (1, 2, x39)]) fun x40 => S.bd (bld [(Go.Value.int Go.IntKind.i64 0), (Go.Value.int Go.IntKind.i64 0), (Go.Value.int Go.IntKind.i64 0), (Go.Value.int Go.IntKind.u64 0), (Go.Value.int Go.IntKind.i64 0), (Go.Value.int Go.IntKind.u64 0), (Go.Value.int Go.IntKind.i64 0), (Go.Value.int Go.IntKind.i64 0), (Go.Value.int Go.IntKind.u64 0), (Go.Value.int Go.IntKind.i64 0), (Go.Value.int Go.IntKind.i64 0), (Go.Value.int Go.IntKind.u64 0), (Go.Value.int Go.IntKind.i64 0), (Go.Value.int Go.IntKind.u64 0), (Go.Value.int Go.IntKind.i64 0), (Go.Value.int Go.IntKind.i64 0), (Go.Value.int Go.IntKind.u64 0), (Go.Value.int Go.IntKind.i64 0), (Go.Value.int Go.IntKind.u64 0), (Go.Value.int Go.IntKind.i64 0), (Go.Value.int Go.IntKind.i64 0), (Go.Value.int Go.IntKind.i64 0), (Go.Value.int Go.IntKind.u64 0), (Go.Value.slice Option.none 0 0), (Go.Value.slice Option.none 0 0), (Go.Value.int Go.IntKind.i64 0), (Go.Value.int Go.IntKind.i64 0), (Go.Value.int Go.IntKind.u64 0), (Go.Value.int Go.IntKind.i64 0), (Go.Value.int Go.IntKind.u64 0), (Go.Value.int Go.IntKind.i64 0), (Go.Value.int Go.IntKind.i64 0), (Go.Value.int Go.IntKind.u64 0), (Go.Value.int Go.IntKind.i64 0), (Go.Value.int Go.IntKind.u64 0), (Go.Value.bool Bool.false)] [(0, 1, (Go.Value.int Go.IntKind.i64 1)), (1, 5, x36), (6, 15, x40)]) fun x41 => S.bd (stl (cellsA (r35.2.1.getD 1 undef)) 0 36 x41) fun c42 => S.bd (lal c42 0 36) fun x43 => some (x43)

def seek_Seek_Next.t.p2 (S : Sig) (a0 : Value) (s : St) (c1 : List Value) : Option Value :=
  S.bd (nck a0) fun x7 => S.bd (fld 24 x7) fun x8 => S.bd (ldc s x8) fun x9 => S.cnd x9 (S.bd (nck a0) fun x10 => S.bd (fld 25 x10) fun x11 => S.bd (lda s 15 x11) fun x12 => S.bd (bld [(Go.Value.int Go.IntKind.i64 0), (Go.Value.int Go.IntKind.i64 0), (Go.Value.int Go.IntKind.i64 0), (Go.Value.int Go.IntKind.u64 0), (Go.Value.int Go.IntKind.i64 0), (Go.Value.int Go.IntKind.u64 0), (Go.Value.int Go.IntKind.i64 0), (Go.Value.int Go.IntKind.i64 0), (Go.Value.int Go.IntKind.u64 0), (Go.Value.int Go.IntKind.i64 0), (Go.Value.int Go.IntKind.i64 0), (Go.Value.int Go.IntKind.u64 0), (Go.Value.int Go.IntKind.i64 0), (Go.Value.int Go.IntKind.u64 0), (Go.Value.int Go.IntKind.i64 0), (Go.Value.int Go.IntKind.i64 0), (Go.Value.int Go.IntKind.u64 0), (Go.Value.int Go.IntKind.i64 0), (Go.Value.int Go.IntKind.u64 0), (Go.Value.int Go.IntKind.i64 0), (Go.Value.int Go.IntKind.i64 0), (Go.Value.int Go.IntKind.i64 0), (Go.Value.int Go.IntKind.u64 0), (Go.Value.slice Option.none 0 0), (Go.Value.slice Option.none 0 0), (Go.Value.int Go.IntKind.i64 0), (Go.Value.int Go.IntKind.i64 0), (Go.Value.int Go.IntKind.u64 0), (Go.Value.int Go.IntKind.i64 0), (Go.Value.int Go.IntKind.u64 0), (Go.Value.int Go.IntKind.i64 0), (Go.Value.int Go.IntKind.i64 0), (Go.Value.int Go.IntKind.u64 0), (Go.Value.int Go.IntKind.i64 0), (Go.Value.int Go.IntKind.u64 0), (Go.Value.bool Bool.false)] [(0, 1, (Go.Value.int Go.IntKind.i64 3)), (21, 15, x12)]) fun x13 => S.bd (stl c1 0 36 x13) fun c14 => S.bd (lal c14 0 36) fun x15 => some (x15)) (S.bd (nck a0) fun x16 => S.bd (fld 9 x16) fun x17 => S.bd (lda s 5 x17) fun x18 => S.bd (bx (Go.Value.agg #[(Go.Value.int Go.IntKind.i64 0), (Go.Value.int Go.IntKind.i64 0), (Go.Value.int Go.IntKind.u64 0), (Go.Value.int Go.IntKind.i64 0), (Go.Value.int Go.IntKind.u64 0)])) fun c19 => S.bd (stl c19 0 5 x18) fun c20 => S.bd (show Option Cut from S.bd (nck a0) fun x28 => S.bd (fld 16 x28) fun x29 => S.bd (ldc s x29) fun x30 => S.cnd x30 (S.bd (nck a0) fun x31 => S.bd (fld 17 x31) fun x32 => S.bd (lda s 5 x32) fun x33 => S.bd (stl c20 0 5 x33) fun c34 => some (0, [a0, (Value.agg ⟨c1⟩), (Value.agg ⟨c34⟩)], s)) (some (0, [a0, (Value.agg ⟨c1⟩), (Value.agg ⟨c20⟩)], s))) fun r35 => S.bd (lal (cellsA (r35.2.1.getD 2 undef)) 0 5) fun x36 => S.bd (nck (r35.2.1.getD 0 undef)) fun x37 => S.bd (fld 14 x37) fun x38 => seek_Seek_Next.t.p1 S r35 x38 x36)

def seek_Seek_Next.t (S : Sig) (a0 : Value) (s : St) : Option Value :=
  S.bd (bx (Go.Value.agg #[(Go.Value.int Go.IntKind.i64 0), (Go.Value.int Go.IntKind.i64 0), (Go.Value.int Go.IntKind.i64 0), (Go.Value.int Go.IntKind.u64 0), (Go.Value.int Go.IntKind.i64 0), (Go.Value.int Go.IntKind.u64 0), (Go.Value.int Go.IntKind.i64 0), (Go.Value.int Go.IntKind.i64 0), (Go.Value.int Go.IntKind.u64 0), (Go.Value.int Go.IntKind.i64 0), (Go.Value.int Go.IntKind.i64 0), (Go.Value.int Go.IntKind.u64 0), (Go.Value.int Go.IntKind.i64 0), (Go.Value.int Go.IntKind.u64 0), (Go.Value.int Go.IntKind.i64 0), (Go.Value.int Go.IntKind.i64 0), (Go.Value.int Go.IntKind.u64 0), (Go.Value.int Go.IntKind.i64 0), (Go.Value.int Go.IntKind.u64 0), (Go.Value.int Go.IntKind.i64 0), (Go.Value.int Go.IntKind.i64 0), (Go.Value.int Go.IntKind.i64 0), (Go.Value.int Go.IntKind.u64 0), (Go.Value.slice Option.none 0 0), (Go.Value.slice Option.none 0 0), (Go.Value.int Go.IntKind.i64 0), (Go.Value.int Go.IntKind.i64 0), (Go.Value.int Go.IntKind.u64 0), (Go.Value.int Go.IntKind.i64 0), (Go.Value.int Go.IntKind.u64 0), (Go.Value.int Go.IntKind.i64 0), (Go.Value.int Go.IntKind.i64 0), (Go.Value.int Go.IntKind.u64 0), (Go.Value.int Go.IntKind.i64 0), (Go.Value.int Go.IntKind.u64 0), (Go.Value.bool Bool.false)])) fun c1 => S.bd (seek_Seek_is.r a0 s) fun x2 => S.bd (un .not x2) fun x3 => S.cnd x3 (S.bd (bld [(Go.Value.int Go.IntKind.i64 0), (Go.Value.int Go.IntKind.i64 0), (Go.Value.int Go.IntKind.i64 0), (Go.Value.int Go.IntKind.u64 0), (Go.Value.int Go.IntKind.i64 0), (Go.Value.int Go.IntKind.u64 0), (Go.Value.int Go.IntKind.i64 0), (Go.Value.int Go.IntKind.i64 0), (Go.Value.int Go.IntKind.u64 0), (Go.Value.int Go.IntKind.i64 0), (Go.Value.int Go.IntKind.i64 0), (Go.Value.int Go.IntKind.u64 0), (Go.Value.int Go.IntKind.i64 0), (Go.Value.int Go.IntKind.u64 0), (Go.Value.int Go.IntKind.i64 0), (Go.Value.int Go.IntKind.i64 0), (Go.Value.int Go.IntKind.u64 0), (Go.Value.int Go.IntKind.i64 0), (Go.Value.int Go.IntKind.u64 0), (Go.Value.int Go.IntKind.i64 0), (Go.Value.int Go.IntKind.i64 0), (Go.Value.int Go.IntKind.i64 0), (Go.Value.int Go.IntKind.u64 0), (Go.Value.slice Option.none 0 0), (Go.Value.slice Option.none 0 0), (Go.Value.int Go.IntKind.i64 0), (Go.Value.int Go.IntKind.i64 0), (Go.Value.int Go.IntKind.u64 0), (Go.Value.int Go.IntKind.i64 0), (Go.Value.int Go.IntKind.u64 0), (Go.Value.int Go.IntKind.i64 0), (Go.Value.int Go.IntKind.i64 0), (Go.Value.int Go.IntKind.u64 0), (Go.Value.int Go.IntKind.i64 0), (Go.Value.int Go.IntKind.u64 0), (Go.Value.bool Bool.false)] []) fun x4 => S.bd (stl c1 0 36 x4) fun c5 => S.bd (lal c5 0 36) fun x6 => some (x6)) (seek_Seek_Next.t.p2 S a0 s c1)
def seek_Seek_Next.r (a0 : Value) (s : St) : Option Value := seek_Seek_Next.t std a0 s
def seek_Seek_Next.w : List Value → St → Option Value
  | [a0], s => seek_Seek_Next.r a0 s
  | _, _ => none
def seek_Seek_Next.an : An := ⟨36, true, [2, 3], [], [(8, ⟨[], [(.normal, [.v 0, .p 2 2 0, .p 3 3 0, .l 2, .l 3])]⟩)], [(8, [(0, 25, [], []), (1, 0, [], []), (2, 0, [], []), (3, 0, [], []), (4, 2, [], []), (5, 0, [], []), (6, 0, [], []), (7, 21, [], [])])]⟩
theorem seek_Seek_Next.ok (S : Sig) (a0 : Value) (s : St) : evG S Tryz.prog seek_Seek_Next.ctx seek_Seek_Next.an Tryz.f132 [a0] s = seek_Seek_Next.t S a0 s := by kernel_rfl
theorem seek_Seek_Next.cok : CtxOk Tryz.prog seek_Seek_Next.ctx := .cons seek_Seek_is.sound seek_Seek_is.can <| .nil
theorem seek_Seek_Next.draws : fnDraws seek_Seek_Next.an Tryz.f132 = true := by kernel_rfl
theorem seek_Seek_Next.can : callOk Tryz.prog 132 = true := by kernel_rfl
theorem seek_Seek_Next.sound : FnOk Tryz.prog 132 (.rd seek_Seek_Next.w) := FnOk.rd_of (evG_ok seek_Seek_Next.cok mixed (f := 132) (fn := Tryz.f132) (by kernel_rfl) seek_Seek_Next.draws) fun args s r h => by
  unfold seek_Seek_Next.w at h; split at h
  · rw [seek_Seek_Next.ok std]; exact h
  · simp at h

/-! ### (*leapfrog/splice.Splice).ask: function 117 -/
def splice_Splice_ask.ctx : Ctx := []
def splice_Splice_ask.t (S : Sig) (a0 a1 a2 : Value) (s : St) : Option Value :=
  S.bd (bx a1) fun c1 => S.bd (bx a2) fun c2 => S.bd (bx (Go.Value.agg #[(Go.Value.int Go.IntKind.i64 0), (Go.Value.int Go.IntKind.i64 0), (Go.Value.int Go.IntKind.i64 0), (Go.Value.int Go.IntKind.u64 0), (Go.Value.int Go.IntKind.i64 0), (Go.Value.int Go.IntKind.u64 0), (Go.Value.int Go.IntKind.i64 0), (Go.Value.int Go.IntKind.i64 0), (Go.Value.int Go.IntKind.u64 0), (Go.Value.int Go.IntKind.i64 0), (Go.Value.int Go.IntKind.i64 0), (Go.Value.int Go.IntKind.u64 0), (Go.Value.int Go.IntKind.i64 0), (Go.Value.int Go.IntKind.u64 0), (Go.Value.int Go.IntKind.i64 0), (Go.Value.int Go.IntKind.i64 0), (Go.Value.int Go.IntKind.u64 0), (Go.Value.int Go.IntKind.i64 0), (Go.Value.int Go.IntKind.u64 0), (Go.Value.int Go.IntKind.i64 0), (Go.Value.int Go.IntKind.i64 0), (Go.Value.int Go.IntKind.i64 0), (Go.Value.int Go.IntKind.u64 0), (Go.Value.slice Option.none 0 0), (Go.Value.slice Option.none 0 0), (Go.Value.int Go.IntKind.i64 0), (Go.Value.int Go.IntKind.i64 0), (Go.Value.int Go.IntKind.u64 0), (Go.Value.int Go.IntKind.i64 0), (Go.Value.int Go.IntKind.u64 0), (Go.Value.int Go.IntKind.i64 0), (Go.Value.int Go.IntKind.i64 0), (Go.Value.int Go.IntKind.u64 0), (Go.Value.int Go.IntKind.i64 0), (Go.Value.int Go.IntKind.u64 0), (Go.Value.bool Bool.false)])) fun c3 => S.bd (nck a0) fun x4 => S.bd (fld 0 x4) fun x5 => S.bd (fld 0 x5) fun x6 => S.bd (lda s 2 x6) fun x7 => S.bd (stl c2 1 2 x7) fun c8 => S.bd (lal c1 0 5) fun x9 => S.bd (lal c8 0 15) fun x10 => S.bd (bld [(Go.Value.int Go.IntKind.i64 0), (Go.Value.int Go.IntKind.i64 0), (Go.Value.int Go.IntKind.i64 0), (Go.Value.int Go.IntKind.u64 0), (Go.Value.int Go.IntKind.i64 0), (Go.Value.int Go.IntKind.u64 0), (Go.Value.int Go.IntKind.i64 0), (Go.Value.int Go.IntKind.i64 0), (Go.Value.int Go.IntKind.u64 0), (Go.Value.int Go.IntKind.i64 0), (Go.Value.int Go.IntKind.i64 0), (Go.Value.int Go.IntKind.u64 0), (Go.Value.int Go.IntKind.i64 0), (Go.Value.int Go.IntKind.u64 0), (Go.Value.int Go.IntKind.i64 0), (Go.Value.int Go.IntKind.i64 0), (Go.Value.int Go.IntKind.u64 0), (Go.Value.int Go.IntKind.i64 0), (Go.Value.int Go.IntKind.u64 0), (Go.Value.int Go.IntKind.i64 0), (Go.Value.int Go.IntKind.i64 0), (Go.Value.int Go.IntKind.i64 0), (Go.Value.int Go.IntKind.u64 0), (Go.Value.slice Option.none 0 0), (Go.Value.slice Option.none 0 0), (Go.Value.int Go.IntKind.i64 0), (Go.Value.int Go.IntKind.i64 0), (Go.Value.int Go.IntKind.u64 0), (Go.Value.int Go.IntKind.i64 0), (Go.Value.int Go.IntKind.u64 0), (Go.Value.int Go.IntKind.i64 0), (Go.Value.int Go.IntKind.i64 0), (Go.Value.int Go.IntKind.u64 0), (Go.Value.int Go.IntKind.i64 0), (Go.Value.int Go.IntKind.u64 0), (Go.Value.bool Bool.false)] [(0, 1, (Go.Value.int Go.IntKind.i64 1)), (1, 5, x9), (6, 15, x10)]) fun x11 => S.bd (stl c3 0 36 x11) fun c12 => S.bd (lal c12 0 36) fun x13 => some (x13)
def splice_Splice_ask.r (a0 a1 a2 : Value) (s : St) : Option Value := splice_Splice_ask.t std a0 a1 a2 s
def splice_Splice_ask.w : List Value → St → Option Value
  | [a0, a1, a2], s => splice_Splice_ask.r a0 a1 a2 s
  | _, _ => none
def splice_Splice_ask.an : An := ⟨16, true, [4, 5, 6], [], [], []⟩
theorem splice_Splice_ask.ok (S : Sig) (a0 a1 a2 : Value) (s : St) : evG S Tryz.prog splice_Splice_ask.ctx splice_Splice_ask.an Tryz.f117 [a0, a1, a2] s = splice_Splice_ask.t S a0 a1 a2 s := by kernel_rfl
theorem splice_Splice_ask.cok : CtxOk Tryz.prog splice_Splice_ask.ctx := .nil
theorem splice_Splice_ask.draws : fnDraws splice_Splice_ask.an Tryz.f117 = true := by kernel_rfl
theorem splice_Splice_ask.can : callOk Tryz.prog 117 = true := by kernel_rfl
theorem splice_Splice_ask.sound : FnOk Tryz.prog 117 (.rd splice_Splice_ask.w) := FnOk.rd_of (evG_ok splice_Splice_ask.cok mixed (f := 117) (fn := Tryz.f117) (by kernel_rfl) splice_Splice_ask.draws) fun args s r h => by
  unfold splice_Splice_ask.w at h; split at h
  · rw [splice_Splice_ask.ok std]; exact h
  · simp at h

/-! ### (*leapfrog/splice.Splice).Next: function 114 -/
def splice_Splice_Next.ctx : Ctx := [(117, .rd splice_Splice_ask.w)]
def splice_Splice_Next.t.p1 (S : Sig) (x8 : Value) (a0 : Value) (s : St) (c1 : List Value) : Option Value :=
  S.bd (eqb [1] false false x8 (Go.Value.int Go.IntKind.i64 10)) fun x118 => S.cnd x118 (S.bd (nck a0) fun x119 => S.bd (fld 29 x119) fun x120 => S.bd (lda s 15 x120) fun x121 => S.bd (bld [(Go.Value.int Go.IntKind.i64 0), (Go.Value.int Go.IntKind.i64 0), (Go.Value.int Go.IntKind.i64 0), (Go.Value.int Go.IntKind.u64 0), (Go.Value.int Go.IntKind.i64 0), (Go.Value.int Go.IntKind.u64 0), (Go.Value.int Go.IntKind.i64 0), (Go.Value.int Go.IntKind.i64 0), (Go.Value.int Go.IntKind.u64 0), (Go.Value.int Go.IntKind.i64 0), (Go.Value.int Go.IntKind.i64 0), (Go.Value.int Go.IntKind.u64 0), (Go.Value.int Go.IntKind.i64 0), (Go.Value.int Go.IntKind.u64 0), (Go.Value.int Go.IntKind.i64 0), (Go.Value.int Go.IntKind.i64 0), (Go.Value.int Go.IntKind.u64 0), (Go.Value.int Go.IntKind.i64 0), (Go.Value.int Go.IntKind.u64 0), (Go.Value.int Go.IntKind.i64 0), (Go.Value.int Go.IntKind.i64 0), (Go.Value.int Go.IntKind.i64 0), (Go.Value.int Go.IntKind.u64 0), (Go.Value.slice Option.none 0 0), (Go.Value.slice Option.none 0 0), (Go.Value.int Go.IntKind.i64 0), (Go.Value.int Go.IntKind.i64 0), (Go.Value.int Go.IntKind.u64 0), (Go.Value.int Go.IntKind.i64 0), (Go.Value.int Go.IntKind.u64 0), (Go.Value.int Go.IntKind.i64 0), (Go.Value.int Go.IntKind.i64 0), (Go.Value.int Go.IntKind.u64 0), (Go.Value.int Go.IntKind.i64 0), (Go.Value.int Go.IntKind.u64 0), (Go.Value.bool Bool.false)] [(0, 1, (Go.Value.int Go.IntKind.i64 3)), (21, 15, x121)]) fun x122 => S.bd (stl c1 0 36 x122) fun c123 => S.bd (lal c123 0 36) fun x124 => some (x124)) (S.bd (bld [(Go.Value.int Go.IntKind.i64 0), (Go.Value.int Go.IntKind.i64 0), (Go.Value.int Go.IntKind.i64 0), (Go.Value.int Go.IntKind.u64 0), (Go.Value.int Go.IntKind.i64 0), (Go.Value.int Go.IntKind.u64 0), (Go.Value.int Go.IntKind.i64 0), (Go.Value.int Go.IntKind.i64 0), (Go.Value.int Go.IntKind.u64 0), (Go.Value.int Go.IntKind.i64 0), (Go.Value.int Go.IntKind.i64 0), (Go.Value.int Go.IntKind.u64 0), (Go.Value.int Go.IntKind.i64 0), (Go.Value.int Go.IntKind.u64 0), (Go.Value.int Go.IntKind.i64 0), (Go.Value.int Go.IntKind.i64 0), (Go.Value.int Go.IntKind.u64 0), (Go.Value.int Go.IntKind.i64 0), (Go.Value.int Go.IntKind.u64 0), (Go.Value.int Go.IntKind.i64 0), (Go.Value.int Go.IntKind.i64 0), (Go.Value.int Go.IntKind.i64 0), (Go.Value.int Go.IntKind.u64 0), (Go.Value.slice Option.none 0 0), (Go.Value.slice Option.none 0 0), (Go.Value.int Go.IntKind.i64 0), (Go.Value.int Go.IntKind.i64 0), (Go.Value.int Go.IntKind.u64 0), (Go.Value.int Go.IntKind.i64 0), (Go.Value.int Go.IntKind.u64 0), (Go.Value.int Go.IntKind.i64 0), (Go.Value.int Go.IntKind.i64 0), (Go.Value.int Go.IntKind.u64 0), (Go.Value.int Go.IntKind.i64 0), (Go.Value.int Go.IntKind.u64 0), (Go.Value.bool Bool.false)] []) fun x125 => S.bd (stl c1 0 36 x125) fun c126 => S.bd (lal c126 0 36) fun x127 => some (x127))

def splice_Splice_Next.t.p2 (S : Sig) (x8 : Value) (a0 : Value) (s : St) (c1 : List Value) : Option Value :=
  S.bd (eqb [1] false false x8 (Go.Value.int Go.IntKind.i64 8)) fun x102 => S.cnd x102 (S.bd (nck a0) fun x103 => S.bd (fld 15 x103) fun x104 => S.bd (lda s 5 x104) fun x105 => S.bd (nck a0) fun x106 => S.bd (fld 0 x106) fun x107 => S.bd (fld 12 x107) fun x108 => S.bd (lda s 2 x108) fun x109 => S.bd (bld [(Go.Value.int Go.IntKind.i64 0), (Go.Value.int Go.IntKind.i64 0), (Go.Value.int Go.IntKind.u64 0), (Go.Value.int Go.IntKind.i64 0), (Go.Value.int Go.IntKind.i64 0), (Go.Value.int Go.IntKind.u64 0), (Go.Value.int Go.IntKind.i64 0), (Go.Value.int Go.IntKind.u64 0), (Go.Value.int Go.IntKind.i64 0), (Go.Value.int Go.IntKind.i64 0), (Go.Value.int Go.IntKind.u64 0), (Go.Value.int Go.IntKind.i64 0), (Go.Value.int Go.IntKind.u64 0), (Go.Value.int Go.IntKind.i64 0), (Go.Value.int Go.IntKind.i64 0)] [(0, 1, (Go.Value.int Go.IntKind.i64 4)), (13, 2, x109)]) fun x110 => S.bd (splice_Splice_ask.r a0 x105 x110 s) fun x111 => S.bd (stl c1 0 36 x111) fun c112 => S.bd (lal c112 0 36) fun x113 => some (x113)) (S.bd (eqb [1] false false x8 (Go.Value.int Go.IntKind.i64 9)) fun x114 => S.cnd x114 (S.bd (bld [(Go.Value.int Go.IntKind.i64 0), (Go.Value.int Go.IntKind.i64 0), (Go.Value.int Go.IntKind.i64 0), (Go.Value.int Go.IntKind.u64 0), (Go.Value.int Go.IntKind.i64 0), (Go.Value.int Go.IntKind.u64 0), (Go.Value.int Go.IntKind.i64 0), (Go.Value.int Go.IntKind.i64 0), (Go.Value.int Go.IntKind.u64 0), (Go.Value.int Go.IntKind.i64 0), (Go.Value.int Go.IntKind.i64 0), (Go.Value.int Go.IntKind.u64 0), (Go.Value.int Go.IntKind.i64 0), (Go.Value.int Go.IntKind.u64 0), (Go.Value.int Go.IntKind.i64 0), (Go.Value.int Go.IntKind.i64 0), (Go.Value.int Go.IntKind.u64 0), (Go.Value.int Go.IntKind.i64 0), (Go.Value.int Go.IntKind.u64 0), (Go.Value.int Go.IntKind.i64 0), (Go.Value.int Go.IntKind.i64 0), (Go.Value.int Go.IntKind.i64 0), (Go.Value.int Go.IntKind.u64 0), (Go.Value.slice Option.none 0 0), (Go.Value.slice Option.none 0 0), (Go.Value.int Go.IntKind.i64 0), (Go.Value.int Go.IntKind.i64 0), (Go.Value.int Go.IntKind.u64 0), (Go.Value.int Go.IntKind.i64 0), (Go.Value.int Go.IntKind.u64 0), (Go.Value.int Go.IntKind.i64 0), (Go.Value.int Go.IntKind.i64 0), (Go.Value.int Go.IntKind.u64 0), (Go.Value.int Go.IntKind.i64 0), (Go.Value.int Go.IntKind.u64 0), (Go.Value.bool Bool.false)] [(0, 1, (Go.Value.int Go.IntKind.i64 2))]) fun x115 => S.bd (stl c1 0 36 x115) fun c116 => S.bd (lal c116 0 36) fun x117 => some (x117)) (splice_Splice_Next.t.p1 S x8 a0 s c1))

def splice_Splice_Next.t.p3 (S : Sig) (x8 : Value) (a0 : Value) (s : St) (c1 : List Value) : Option Value :=
  S.bd (eqb [1] false false x8 (Go.Value.int Go.IntKind.i64 6)) fun x76 => S.cnd x76 (S.bd (nck a0) fun x77 => S.bd (fld 0 x77) fun x78 => S.bd (fld 2 x78) fun x79 => S.bd (lda s 5 x79) fun x80 => S.bd (nck a0) fun x81 => S.bd (fld 0 x81) fun x82 => S.bd (fld 12 x82) fun x83 => S.bd (lda s 2 x83) fun x84 => S.bd (bld [(Go.Value.int Go.IntKind.i64 0), (Go.Value.int Go.IntKind.i64 0), (Go.Value.int Go.IntKind.u64 0), (Go.Value.int Go.IntKind.i64 0), (Go.Value.int Go.IntKind.i64 0), (Go.Value.int Go.IntKind.u64 0), (Go.Value.int Go.IntKind.i64 0), (Go.Value.int Go.IntKind.u64 0), (Go.Value.int Go.IntKind.i64 0), (Go.Value.int Go.IntKind.i64 0), (Go.Value.int Go.IntKind.u64 0), (Go.Value.int Go.IntKind.i64 0), (Go.Value.int Go.IntKind.u64 0), (Go.Value.int Go.IntKind.i64 0), (Go.Value.int Go.IntKind.i64 0)] [(0, 1, (Go.Value.int Go.IntKind.i64 4)), (13, 2, x84)]) fun x85 => S.bd (splice_Splice_ask.r a0 x80 x85 s) fun x86 => S.bd (stl c1 0 36 x86) fun c87 => S.bd (lal c87 0 36) fun x88 => some (x88)) (S.bd (eqb [1] false false x8 (Go.Value.int Go.IntKind.i64 7)) fun x89 => S.cnd x89 (S.bd (nck a0) fun x90 => S.bd (fld 0 x90) fun x91 => S.bd (fld 2 x91) fun x92 => S.bd (lda s 5 x92) fun x93 => S.bd (nck a0) fun x94 => S.bd (fld 0 x94) fun x95 => S.bd (fld 12 x95) fun x96 => S.bd (lda s 2 x96) fun x97 => S.bd (bld [(Go.Value.int Go.IntKind.i64 0), (Go.Value.int Go.IntKind.i64 0), (Go.Value.int Go.IntKind.u64 0), (Go.Value.int Go.IntKind.i64 0), (Go.Value.int Go.IntKind.i64 0), (Go.Value.int Go.IntKind.u64 0), (Go.Value.int Go.IntKind.i64 0), (Go.Value.int Go.IntKind.u64 0), (Go.Value.int Go.IntKind.i64 0), (Go.Value.int Go.IntKind.i64 0), (Go.Value.int Go.IntKind.u64 0), (Go.Value.int Go.IntKind.i64 0), (Go.Value.int Go.IntKind.u64 0), (Go.Value.int Go.IntKind.i64 0), (Go.Value.int Go.IntKind.i64 0)] [(0, 1, (Go.Value.int Go.IntKind.i64 8)), (13, 2, x97)]) fun x98 => S.bd (splice_Splice_ask.r a0 x93 x98 s) fun x99 => S.bd (stl c1 0 36 x99) fun c100 => S.bd (lal c100 0 36) fun x101 => some (x101)) (splice_Splice_Next.t.p2 S x8 a0 s c1))

def splice_Splice_Next.t.p4 (S : Sig) (x8 : Value) (a0 : Value) (s : St) (c1 : List Value) : Option Value :=
  S.bd (eqb [1] false false x8 (Go.Value.int Go.IntKind.i64 4)) fun x48 => S.cnd x48 (S.bd (nck a0) fun x49 => S.bd (fld 15 x49) fun x50 => S.bd (lda s 5 x50) fun x51 => S.bd (nck a0) fun x52 => S.bd (fld 0 x52) fun x53 => S.bd (fld 2 x53) fun x54 => S.bd (lda s 5 x54) fun x55 => S.bd (nck a0) fun x56 => S.bd (fld 0 x56) fun x57 => S.bd (fld 12 x57) fun x58 => S.bd (lda s 2 x58) fun x59 => S.bd (bld [(Go.Value.int Go.IntKind.i64 0), (Go.Value.int Go.IntKind.i64 0), (Go.Value.int Go.IntKind.u64 0), (Go.Value.int Go.IntKind.i64 0), (Go.Value.int Go.IntKind.i64 0), (Go.Value.int Go.IntKind.u64 0), (Go.Value.int Go.IntKind.i64 0), (Go.Value.int Go.IntKind.u64 0), (Go.Value.int Go.IntKind.i64 0), (Go.Value.int Go.IntKind.i64 0), (Go.Value.int Go.IntKind.u64 0), (Go.Value.int Go.IntKind.i64 0), (Go.Value.int Go.IntKind.u64 0), (Go.Value.int Go.IntKind.i64 0), (Go.Value.int Go.IntKind.i64 0)] [(0, 1, (Go.Value.int Go.IntKind.i64 5)), (3, 5, x55), (13, 2, x59)]) fun x60 => S.bd (splice_Splice_ask.r a0 x51 x60 s) fun x61 => S.bd (stl c1 0 36 x61) fun c62 => S.bd (lal c62 0 36) fun x63 => some (x63)) (S.bd (eqb [1] false false x8 (Go.Value.int Go.IntKind.i64 5)) fun x64 => S.cnd x64 (S.bd (nck a0) fun x65 => S.bd (fld 21 x65) fun x66 => S.bd (lda s 5 x66) fun x67 => S.bd (nck a0) fun x68 => S.bd (fld 0 x68) fun x69 => S.bd (fld 2 x69) fun x70 => S.bd (lda s 5 x70) fun x71 => S.bd (bld [(Go.Value.int Go.IntKind.i64 0), (Go.Value.int Go.IntKind.i64 0), (Go.Value.int Go.IntKind.u64 0), (Go.Value.int Go.IntKind.i64 0), (Go.Value.int Go.IntKind.i64 0), (Go.Value.int Go.IntKind.u64 0), (Go.Value.int Go.IntKind.i64 0), (Go.Value.int Go.IntKind.u64 0), (Go.Value.int Go.IntKind.i64 0), (Go.Value.int Go.IntKind.i64 0), (Go.Value.int Go.IntKind.u64 0), (Go.Value.int Go.IntKind.i64 0), (Go.Value.int Go.IntKind.u64 0), (Go.Value.int Go.IntKind.i64 0), (Go.Value.int Go.IntKind.i64 0)] [(0, 1, (Go.Value.int Go.IntKind.i64 6)), (3, 5, x71)]) fun x72 => S.bd (splice_Splice_ask.r a0 x67 x72 s) fun x73 => S.bd (stl c1 0 36 x73) fun c74 => S.bd (lal c74 0 36) fun x75 => some (x75)) (splice_Splice_Next.t.p3 S x8 a0 s c1))

def splice_Splice_Next.t.p5 (S : Sig) (x8 : Value) (a0 : Value) (s : St) (c1 : List Value) : Option Value :=
  S.bd (eqb [1] false false x8 (Go.Value.int Go.IntKind.i64 2)) fun x21 => S.cnd x21 (S.bd (nck a0) fun x22 => S.bd (fld 21 x22) fun x23 => S.bd (lda s 5 x23) fun x24 => S.bd (bld [(Go.Value.int Go.IntKind.i64 0), (Go.Value.int Go.IntKind.i64 0), (Go.Value.int Go.IntKind.u64 0), (Go.Value.int Go.IntKind.i64 0), (Go.Value.int Go.IntKind.i64 0), (Go.Value.int Go.IntKind.u64 0), (Go.Value.int Go.IntKind.i64 0), (Go.Value.int Go.IntKind.u64 0), (Go.Value.int Go.IntKind.i64 0), (Go.Value.int Go.IntKind.i64 0), (Go.Value.int Go.IntKind.u64 0), (Go.Value.int Go.IntKind.i64 0), (Go.Value.int Go.IntKind.u64 0), (Go.Value.int Go.IntKind.i64 0), (Go.Value.int Go.IntKind.i64 0)] [(0, 1, (Go.Value.int Go.IntKind.i64 1))]) fun x25 => S.bd (splice_Splice_ask.r a0 x24 x25 s) fun x26 => S.bd (stl c1 0 36 x26) fun c27 => S.bd (lal c27 0 36) fun x28 => some (x28)) (S.bd (eqb [1] false false x8 (Go.Value.int Go.IntKind.i64 3)) fun x29 => S.cnd x29 (S.bd (nck a0) fun x30 => S.bd (fld 0 x30) fun x31 => S.bd (fld 2 x31) fun x32 => S.bd (lda s 5 x32) fun x33 => S.bd (nck a0) fun x34 => S.bd (fld 15 x34) fun x35 => S.bd (lda s 5 x35) fun x36 => S.bd (nck a0) fun x37 => S.bd (fld 21 x37) fun x38 => S.bd (lda s 5 x38) fun x39 => S.bd (nck a0) fun x40 => S.bd (fld 0 x40) fun x41 => S.bd (fld 12 x41) fun x42 => S.bd (lda s 2 x42) fun x43 => S.bd (bld [(Go.Value.int Go.IntKind.i64 0), (Go.Value.int Go.IntKind.i64 0), (Go.Value.int Go.IntKind.u64 0), (Go.Value.int Go.IntKind.i64 0), (Go.Value.int Go.IntKind.i64 0), (Go.Value.int Go.IntKind.u64 0), (Go.Value.int Go.IntKind.i64 0), (Go.Value.int Go.IntKind.u64 0), (Go.Value.int Go.IntKind.i64 0), (Go.Value.int Go.IntKind.i64 0), (Go.Value.int Go.IntKind.u64 0), (Go.Value.int Go.IntKind.i64 0), (Go.Value.int Go.IntKind.u64 0), (Go.Value.int Go.IntKind.i64 0), (Go.Value.int Go.IntKind.i64 0)] [(0, 1, (Go.Value.int Go.IntKind.i64 7)), (3, 5, x36), (8, 5, x39), (13, 2, x43)]) fun x44 => S.bd (splice_Splice_ask.r a0 x33 x44 s) fun x45 => S.bd (stl c1 0 36 x45) fun c46 => S.bd (lal c46 0 36) fun x47 => some (x47)) (splice_Splice_Next.t.p4 S x8 a0 s c1))

def splice_Splice_Next.t (S : Sig) (a0 : Value) (s : St) : Option Value :=
  S.bd (bx (Go.Value.agg #[(Go.Value.int Go.IntKind.i64 0), (Go.Value.int Go.IntKind.i64 0), (Go.Value.int Go.IntKind.i64 0), (Go.Value.int Go.IntKind.u64 0), (Go.Value.int Go.IntKind.i64 0), (Go.Value.int Go.IntKind.u64 0), (Go.Value.int Go.IntKind.i64 0), (Go.Value.int Go.IntKind.i64 0), (Go.Value.int Go.IntKind.u64 0), (Go.Value.int Go.IntKind.i64 0), (Go.Value.int Go.IntKind.i64 0), (Go.Value.int Go.IntKind.u64 0), (Go.Value.int Go.IntKind.i64 0), (Go.Value.int Go.IntKind.u64 0), (Go.Value.int Go.IntKind.i64 0), (Go.Value.int Go.IntKind.i64 0), (Go.Value.int Go.IntKind.u64 0), (Go.Value.int Go.IntKind.i64 0), (Go.Value.int Go.IntKind.u64 0), (Go.Value.int Go.IntKind.i64 0), (Go.Value.int Go.IntKind.i64 0), (Go.Value.int Go.IntKind.i64 0), (Go.Value.int Go.IntKind.u64 0), (Go.Value.slice Option.none 0 0), (Go.Value.slice Option.none 0 0), (Go.Value.int Go.IntKind.i64 0), (Go.Value.int Go.IntKind.i64 0), (Go.Value.int Go.IntKind.u64 0), (Go.Value.int Go.IntKind.i64 0), (Go.Value.int Go.IntKind.u64 0), (Go.Value.int Go.IntKind.i64 0), (Go.Value.int Go.IntKind.i64 0), (Go.Value.int Go.IntKind.u64 0), (Go.Value.int Go.IntKind.i64 0), (Go.Value.int Go.IntKind.u64 0), (Go.Value.bool Bool.false)])) fun c1 => S.bd (eqb [3] false false a0 (Go.Value.pointer Option.none)) fun x2 => S.cnd x2 (S.bd (bld [(Go.Value.int Go.IntKind.i64 0), (Go.Value.int Go.IntKind.i64 0), (Go.Value.int Go.IntKind.i64 0), (Go.Value.int Go.IntKind.u64 0), (Go.Value.int Go.IntKind.i64 0), (Go.Value.int Go.IntKind.u64 0), (Go.Value.int Go.IntKind.i64 0), (Go.Value.int Go.IntKind.i64 0), (Go.Value.int Go.IntKind.u64 0), (Go.Value.int Go.IntKind.i64 0), (Go.Value.int Go.IntKind.i64 0), (Go.Value.int Go.IntKind.u64 0), (Go.Value.int Go.IntKind.i64 0), (Go.Value.int Go.IntKind.u64 0), (Go.Value.int Go.IntKind.i64 0), (Go.Value.int Go.IntKind.i64 0), (Go.Value.int Go.IntKind.u64 0), (Go.Value.int Go.IntKind.i64 0), (Go.Value.int Go.IntKind.u64 0), (Go.Value.int Go.IntKind.i64 0), (Go.Value.int Go.IntKind.i64 0), (Go.Value.int Go.IntKind.i64 0), (Go.Value.int Go.IntKind.u64 0), (Go.Value.slice Option.none 0 0), (Go.Value.slice Option.none 0 0), (Go.Value.int Go.IntKind.i64 0), (Go.Value.int Go.IntKind.i64 0), (Go.Value.int Go.IntKind.u64 0), (Go.Value.int Go.IntKind.i64 0), (Go.Value.int Go.IntKind.u64 0), (Go.Value.int Go.IntKind.i64 0), (Go.Value.int Go.IntKind.i64 0), (Go.Value.int Go.IntKind.u64 0), (Go.Value.int Go.IntKind.i64 0), (Go.Value.int Go.IntKind.u64 0), (Go.Value.bool Bool.false)] []) fun x3 => S.bd (stl c1 0 36 x3) fun c4 => S.bd (lal c4 0 36) fun x5 => some (x5)) (S.bd (nck a0) fun x6 => S.bd (fld 14 x6) fun x7 => S.bd (ldc s x7) fun x8 => S.bd (eqb [1] false false x8 (Go.Value.int Go.IntKind.i64 1)) fun x9 => S.cnd x9 (S.bd (nck a0) fun x10 => S.bd (fld 15 x10) fun x11 => S.bd (lda s 5 x11) fun x12 => S.bd (nck a0) fun x13 => S.bd (fld 0 x13) fun x14 => S.bd (fld 12 x14) fun x15 => S.bd (lda s 2 x15) fun x16 => S.bd (bld [(Go.Value.int Go.IntKind.i64 0), (Go.Value.int Go.IntKind.i64 0), (Go.Value.int Go.IntKind.u64 0), (Go.Value.int Go.IntKind.i64 0), (Go.Value.int Go.IntKind.i64 0), (Go.Value.int Go.IntKind.u64 0), (Go.Value.int Go.IntKind.i64 0), (Go.Value.int Go.IntKind.u64 0), (Go.Value.int Go.IntKind.i64 0), (Go.Value.int Go.IntKind.i64 0), (Go.Value.int Go.IntKind.u64 0), (Go.Value.int Go.IntKind.i64 0), (Go.Value.int Go.IntKind.u64 0), (Go.Value.int Go.IntKind.i64 0), (Go.Value.int Go.IntKind.i64 0)] [(0, 1, (Go.Value.int Go.IntKind.i64 3)), (13, 2, x16)]) fun x17 => S.bd (splice_Splice_ask.r a0 x12 x17 s) fun x18 => S.bd (stl c1 0 36 x18) fun c19 => S.bd (lal c19 0 36) fun x20 => some (x20)) (splice_Splice_Next.t.p5 S x8 a0 s c1))
def splice_Splice_Next.r (a0 : Value) (s : St) : Option Value := splice_Splice_Next.t std a0 s
def splice_Splice_Next.w : List Value → St → Option Value
  | [a0], s => splice_Splice_Next.r a0 s
  | _, _ => none
def splice_Splice_Next.an : An := ⟨144, true, [2], [], [], [(5, [(0, 0, [], []), (1, 0, [], []), (2, 0, [], []), (3, 0, [], []), (4, 2, [], []), (5, 0, [], []), (6, 0, [], []), (7, 0, [], []), (8, 0, [], []), (9, 2, [], []), (10, 0, [], []), (11, 3, [], []), (12, 21, [], [])]), (9, [(0, 0, [], []), (1, 0, [], []), (2, 0, [], []), (3, 0, [], []), (4, 0, [], []), (5, 2, [], []), (6, 0, [], []), (7, 0, [], []), (8, 0, [], []), (9, 2, [], []), (10, 0, [], []), (11, 0, [], []), (12, 0, [], []), (13, 2, [], []), (14, 0, [], []), (15, 0, [], []), (16, 0, [], []), (17, 0, [], []), (18, 2, [], []), (19, 0, [], []), (20, 3, [], []), (21, 21, [], [])]), (11, [(0, 0, [], []), (1, 0, [], []), (2, 0, [], []), (3, 0, [], []), (4, 2, [], []), (5, 0, [], []), (6, 0, [], []), (7, 0, [], []), (8, 0, [], []), (9, 2, [], []), (10, 0, [], []), (11, 0, [], []), (12, 0, [], []), (13, 0, [], []), (14, 2, [], []), (15, 0, [], []), (16, 3, [], []), (17, 21, [], [])]), (13, [(0, 0, [], []), (1, 0, [], []), (2, 0, [], []), (3, 0, [], []), (4, 2, [], []), (5, 0, [], []), (6, 0, [], []), (7, 0, [], []), (8, 0, [], []), (9, 2, [], []), (10, 0, [], []), (11, 3, [], []), (12, 21, [], [])]), (15, [(0, 0, [], []), (1, 0, [], []), (2, 0, [], []), (3, 0, [], []), (4, 0, [], []), (5, 2, [], []), (6, 0, [], []), (7, 0, [], []), (8, 0, [], []), (9, 0, [], []), (10, 2, [], []), (11, 0, [], []), (12, 3, [], []), (13, 21, [], [])]), (17, [(0, 0, [], []), (1, 0, [], []), (2, 0, [], []), (3, 0, [], []), (4, 0, [], []), (5, 2, [], []), (6, 0, [], []), (7, 0, [], []), (8, 0, [], []), (9, 0, [], []), (10, 2, [], []), (11, 0, [], []), (12, 3, [], []), (13, 21, [], [])]), (19, [(0, 0, [], []), (1, 0, [], []), (2, 0, [], []), (3, 0, [], []), (4, 2, [], []), (5, 0, [], []), (6, 0, [], []), (7, 0, [], []), (8, 0, [], []), (9, 2, [], []), (10, 0, [], []), (11, 3, [], []), (12, 21, [], [])])]⟩
theorem splice_Splice_Next.ok (S : Sig) (a0 : Value) (s : St) : evG S Tryz.prog splice_Splice_Next.ctx splice_Splice_Next.an Tryz.f114 [a0] s = splice_Splice_Next.t S a0 s := by kernel_rfl
theorem splice_Splice_Next.cok : CtxOk Tryz.prog splice_Splice_Next.ctx := .cons splice_Splice_ask.sound splice_Splice_ask.can <| .nil
theorem splice_Splice_Next.draws : fnDraws splice_Splice_Next.an Tryz.f114 = true := by kernel_rfl
theorem splice_Splice_Next.can : callOk Tryz.prog 114 = true := by kernel_rfl
theorem splice_Splice_Next.sound : FnOk Tryz.prog 114 (.rd splice_Splice_Next.w) := FnOk.rd_of (evG_ok splice_Splice_Next.cok mixed (f := 114) (fn := Tryz.f114) (by kernel_rfl) splice_Splice_Next.draws) fun args s r h => by
  unfold splice_Splice_Next.w at h; split at h
  · rw [splice_Splice_Next.ok std]; exact h
  · simp at h

/-! ### (*leapfrog/splice.Splice).free: function 119 -/
def splice_Splice_free.ctx : Ctx := [(120, .st splice_Splice_Tell_fn1.w), (128, .st splice_Splice_wait_fn1.w), (129, .st splice_Splice_done_fn1.w), (130, .st splice_Splice_fail_fn1.w), (131, .st splice_Splice_look_fn1.w)]
def splice_Splice_free.t (S : Sig) (a0 a1 : Value) (s : St) : Option (Value × St) :=
  S.bd (nck a0) fun x1 => S.bd (fld 26 x1) fun x2 => S.bd (ldc s x2) fun x3 => S.cnd x3 (S.bd (callV (splice_Splice_free.ctx) a1 [] s) fun r4 => some ((Value.tuple ⟨[]⟩), r4.2)) (S.bd (nck a0) fun x5 => S.bd (fld 14 x5) fun x6 => S.bd (stv s 1 x6 (Go.Value.int Go.IntKind.i64 8)) fun s7 => S.bd (nck a0) fun x8 => S.bd (fld 28 x8) fun x9 => S.bd (stv s7 1 x9 a1) fun s10 => some ((Value.tuple ⟨[]⟩), s10))
def splice_Splice_free.v (a0 a1 : Value) (s : St) : Option (Value × St) := splice_Splice_free.t std a0 a1 s
def splice_Splice_free.w : List Value → St → Option (Value × St)
  | [a0, a1], s => splice_Splice_free.v a0 a1 s
  | _, _ => none
def splice_Splice_free.an : An := ⟨17, false, [], [], [], []⟩
theorem splice_Splice_free.ok (S : Sig) (a0 a1 : Value) (s : St) : evF S Tryz.prog splice_Splice_free.ctx splice_Splice_free.an Tryz.f119 [a0, a1] s = splice_Splice_free.t S a0 a1 s := by kernel_rfl
theorem splice_Splice_free.cok : CtxOk Tryz.prog splice_Splice_free.ctx := .cons splice_Splice_Tell_fn1.sound splice_Splice_Tell_fn1.can <| .cons splice_Splice_wait_fn1.sound splice_Splice_wait_fn1.can <| .cons splice_Splice_done_fn1.sound splice_Splice_done_fn1.can <| .cons splice_Splice_fail_fn1.sound splice_Splice_fail_fn1.can <| .cons splice_Splice_look_fn1.sound splice_Splice_look_fn1.can <| .nil
theorem splice_Splice_free.draws : fnDraws splice_Splice_free.an Tryz.f119 = true := by kernel_rfl
theorem splice_Splice_free.can : callOk Tryz.prog 119 = true := by kernel_rfl
theorem splice_Splice_free.sound : FnOk Tryz.prog 119 (.st splice_Splice_free.w) := FnOk.st_of (evF_ok splice_Splice_free.cok mixed (f := 119) (fn := Tryz.f119) (by kernel_rfl) splice_Splice_free.draws) fun args s r h => by
  unfold splice_Splice_free.w at h; split at h
  · rw [splice_Splice_free.ok std]; exact h
  · simp at h

/-! ### (*leapfrog/splice.Splice).fail: function 126 -/
def splice_Splice_fail.ctx : Ctx := [(119, .st splice_Splice_free.w)]
def splice_Splice_fail.t (S : Sig) (a0 a1 : Value) (s : St) : Option (Value × St) :=
  S.bd (alv s a0) fun r1 => S.bd (alv r1.2 a1) fun r2 => S.bd (ldc r2.2 r1.1) fun x3 => S.bd (splice_Splice_free.v x3 (Value.func (.func 130) ⟨[]⟩ ⟨[r1.1, r2.1]⟩) r2.2) fun r4 => some ((Value.tuple ⟨[]⟩), r4.2)
def splice_Splice_fail.v (a0 a1 : Value) (s : St) : Option (Value × St) := splice_Splice_fail.t std a0 a1 s
def splice_Splice_fail.w : List Value → St → Option (Value × St)
  | [a0, a1], s => splice_Splice_fail.v a0 a1 s
  | _, _ => none
def splice_Splice_fail.an : An := ⟨7, false, [], [], [], []⟩
theorem splice_Splice_fail.ok (S : Sig) (a0 a1 : Value) (s : St) : evF S Tryz.prog splice_Splice_fail.ctx splice_Splice_fail.an Tryz.f126 [a0, a1] s = splice_Splice_fail.t S a0 a1 s := by kernel_rfl
theorem splice_Splice_fail.cok : CtxOk Tryz.prog splice_Splice_fail.ctx := .cons splice_Splice_free.sound splice_Splice_free.can <| .nil
theorem splice_Splice_fail.draws : fnDraws splice_Splice_fail.an Tryz.f126 = true := by kernel_rfl
theorem splice_Splice_fail.can : callOk Tryz.prog 126 = true := by kernel_rfl
theorem splice_Splice_fail.sound : FnOk Tryz.prog 126 (.st splice_Splice_fail.w) := FnOk.st_of (evF_ok splice_Splice_fail.cok mixed (f := 126) (fn := Tryz.f126) (by kernel_rfl) splice_Splice_fail.draws) fun args s r h => by
  unfold splice_Splice_fail.w at h; split at h
  · rw [splice_Splice_fail.ok std]; exact h
  · simp at h

/-! ### (*leapfrog/splice.Splice).wait: function 122 -/
def splice_Splice_wait.ctx : Ctx := [(119, .st splice_Splice_free.w)]
def splice_Splice_wait.t (S : Sig) (a0 : Value) (s : St) : Option (Value × St) :=
  S.bd (alv s a0) fun r1 => S.bd (ldc r1.2 r1.1) fun x2 => S.bd (splice_Splice_free.v x2 (Value.func (.func 128) ⟨[]⟩ ⟨[r1.1]⟩) r1.2) fun r3 => some ((Value.tuple ⟨[]⟩), r3.2)
def splice_Splice_wait.v (a0 : Value) (s : St) : Option (Value × St) := splice_Splice_wait.t std a0 s
def splice_Splice_wait.w : List Value → St → Option (Value × St)
  | [a0], s => splice_Splice_wait.v a0 s
  | _, _ => none
def splice_Splice_wait.an : An := ⟨5, false, [], [], [], []⟩
theorem splice_Splice_wait.ok (S : Sig) (a0 : Value) (s : St) : evF S Tryz.prog splice_Splice_wait.ctx splice_Splice_wait.an Tryz.f122 [a0] s = splice_Splice_wait.t S a0 s := by kernel_rfl
theorem splice_Splice_wait.cok : CtxOk Tryz.prog splice_Splice_wait.ctx := .cons splice_Splice_free.sound splice_Splice_free.can <| .nil
theorem splice_Splice_wait.draws : fnDraws splice_Splice_wait.an Tryz.f122 = true := by kernel_rfl
theorem splice_Splice_wait.can : callOk Tryz.prog 122 = true := by kernel_rfl
theorem splice_Splice_wait.sound : FnOk Tryz.prog 122 (.st splice_Splice_wait.w) := FnOk.st_of (evF_ok splice_Splice_wait.cok mixed (f := 122) (fn := Tryz.f122) (by kernel_rfl) splice_Splice_wait.draws) fun args s r h => by
  unfold splice_Splice_wait.w at h; split at h
  · rw [splice_Splice_wait.ok std]; exact h
  · simp at h

/-! ### (*leapfrog/splice.Splice).look: function 127 -/
def splice_Splice_look.ctx : Ctx := [(23, .rd key_Less.w), (126, .st splice_Splice_fail.w), (119, .st splice_Splice_free.w), (122, .st splice_Splice_wait.w)]
def splice_Splice_look.t.p1 (S : Sig) (x9 : Value) (r1 : Value × St) (x6 : Value) : Option (Value × St) :=
  S.bd (fld 1 x9) fun x10 => S.bd (lda r1.2 2 x10) fun x11 => S.bd (key_Less.r x6 x11 r1.2) fun x12 => S.bd (un .not x12) fun x13 => S.cnd x13 (S.bd (ldc r1.2 r1.1) fun x14 => S.bd (splice_Splice_fail.v x14 (Go.Value.int Go.IntKind.i64 131) r1.2) fun r15 => some ((Value.tuple ⟨[]⟩), r15.2)) (S.bd (ldc r1.2 r1.1) fun x16 => S.bd (nck x16) fun x17 => S.bd (fld 21 x17) fun x18 => S.bd (fld 1 x18) fun x19 => S.bd (lda r1.2 2 x19) fun x20 => S.bd (ldc r1.2 r1.1) fun x21 => S.bd (nck x21) fun x22 => S.bd (fld 0 x22) fun x23 => S.bd (fld 2 x23) fun x24 => S.bd (fld 1 x24) fun x25 => S.bd (lda r1.2 2 x25) fun x26 => S.bd (key_Less.r x20 x26 r1.2) fun x27 => S.cnd x27 (S.bd (ldc r1.2 r1.1) fun x28 => S.bd (splice_Splice_free.v x28 (Value.func (.func 131) ⟨[]⟩ ⟨[r1.1]⟩) r1.2) fun r29 => some ((Value.tuple ⟨[]⟩), r29.2)) (S.bd (ldc r1.2 r1.1) fun x30 => S.bd (nck x30) fun x31 => S.bd (fld 21 x31) fun x32 => S.bd (fld 1 x32) fun x33 => S.bd (lda r1.2 2 x33) fun x34 => S.bd (ldc r1.2 r1.1) fun x35 => S.bd (nck x35) fun x36 => S.bd (fld 0 x36) fun x37 => S.bd (fld 2 x37) fun x38 => S.bd (fld 1 x38) fun x39 => S.bd (lda r1.2 2 x39) fun x40 => S.bd (eqb [1, 1] true true x34 x40) fun x41 => S.cnd x41 (S.bd (ldc r1.2 r1.1) fun x42 => S.bd (nck x42) fun x43 => S.bd (fld 14 x43) fun x44 => S.bd (stv r1.2 1 x44 (Go.Value.int Go.IntKind.i64 3)) fun s45 => some ((Value.tuple ⟨[]⟩), s45)) (S.bd (ldc r1.2 r1.1) fun x46 => S.bd (nck x46) fun x47 => S.bd (fld 0 x47) fun x48 => S.bd (fld 0 x48) fun x49 => S.bd (fld 0 x49) fun x50 => S.bd (ldc r1.2 x50) fun x51 => S.bd (bin .gtr x51 (Go.Value.int Go.IntKind.i64 0)) fun x52 => S.cnd x52 (S.bd (ldc r1.2 r1.1) fun x53 => S.bd (splice_Splice_wait.v x53 r1.2) fun r54 => some ((Value.tuple ⟨[]⟩), r54.2)) (S.bd (ldc r1.2 r1.1) fun x55 => S.bd (nck x55) fun x56 => S.bd (fld 14 x56) fun x57 => S.bd (stv r1.2 1 x57 (Go.Value.int Go.IntKind.i64 2)) fun s58 => some ((Value.tuple ⟨[]⟩), s58)))))

def splice_Splice_look.t (S : Sig) (a0 : Value) (s : St) : Option (Value × St) :=
  S.bd (alv s a0) fun r1 => S.bd (ldc r1.2 r1.1) fun x2 => S.bd (nck x2) fun x3 => S.bd (fld 15 x3) fun x4 => S.bd (fld 1 x4) fun x5 => S.bd (lda r1.2 2 x5) fun x6 => S.bd (ldc r1.2 r1.1) fun x7 => S.bd (nck x7) fun x8 => S.bd (fld 21 x8) fun x9 => splice_Splice_look.t.p1 S x9 r1 x6
def splice_Splice_look.v (a0 : Value) (s : St) : Option (Value × St) := splice_Splice_look.t std a0 s
def splice_Splice_look.w : List Value → St → Option (Value × St)
  | [a0], s => splice_Splice_look.v a0 s
  | _, _ => none
def splice_Splice_look.an : An := ⟨62, false, [], [], [], [(2, [(0, 2, [], []), (1, 0, [], []), (2, 0, [], []), (3, 0, [], []), (4, 2, [], []), (5, 2, [], []), (6, 0, [], []), (7, 0, [], []), (8, 0, [], []), (9, 2, [], []), (10, 3, [], []), (11, 0, [], []), (12, 0, [], [])]), (4, [(0, 2, [], []), (1, 0, [], []), (2, 0, [], []), (3, 0, [], []), (4, 2, [], []), (5, 2, [], []), (6, 0, [], []), (7, 0, [], []), (8, 0, [], []), (9, 0, [], []), (10, 2, [], []), (11, 3, [], []), (12, 0, [], [])]), (6, [(0, 2, [], []), (1, 0, [], []), (2, 0, [], []), (3, 0, [], []), (4, 2, [], []), (5, 2, [], []), (6, 0, [], []), (7, 0, [], []), (8, 0, [], []), (9, 0, [], []), (10, 2, [], []), (11, 0, [], []), (12, 0, [], [])])]⟩
theorem splice_Splice_look.ok (S : Sig) (a0 : Value) (s : St) : evF S Tryz.prog splice_Splice_look.ctx splice_Splice_look.an Tryz.f127 [a0] s = splice_Splice_look.t S a0 s := by kernel_rfl
theorem splice_Splice_look.cok : CtxOk Tryz.prog splice_Splice_look.ctx := .cons key_Less.sound key_Less.can <| .cons splice_Splice_fail.sound splice_Splice_fail.can <| .cons splice_Splice_free.sound splice_Splice_free.can <| .cons splice_Splice_wait.sound splice_Splice_wait.can <| .nil
theorem splice_Splice_look.draws : fnDraws splice_Splice_look.an Tryz.f127 = true := by kernel_rfl
theorem splice_Splice_look.can : callOk Tryz.prog 127 = true := by kernel_rfl
theorem splice_Splice_look.sound : FnOk Tryz.prog 127 (.st splice_Splice_look.w) := FnOk.st_of (evF_ok splice_Splice_look.cok mixed (f := 127) (fn := Tryz.f127) (by kernel_rfl) splice_Splice_look.draws) fun args s r h => by
  unfold splice_Splice_look.w at h; split at h
  · rw [splice_Splice_look.ok std]; exact h
  · simp at h

/-! ### (*leapfrog/splice.Splice).locked: function 118 -/
def splice_Splice_locked.ctx : Ctx := [(127, .st splice_Splice_look.w), (121, .st splice_Splice_end.w)]
def splice_Splice_locked.t (S : Sig) (a0 a1 : Value) (s : St) : Option (Value × St) :=
  S.bd (bx a1) fun c1 => S.bd (lcl c1 0) fun x2 => S.bd (show Option Cut from S.bd (show Option Cut from S.bd (eqb [1] false false x2 (Go.Value.int Go.IntKind.i64 1)) fun x40 => S.cnd x40 (S.bd (lal c1 7 5) fun x41 => S.bd (nck a0) fun x42 => S.bd (fld 21 x42) fun x43 => S.bd (stv s 5 x43 x41) fun s44 => S.bd (splice_Splice_look.v a0 s44) fun r45 => some (0, [], r45.2)) (S.bd (eqb [1] false false x2 (Go.Value.int Go.IntKind.i64 2)) fun x46 => S.cnd x46 (some (2, [a0], s)) (S.bd (eqb [1] false false x2 (Go.Value.int Go.IntKind.i64 3)) fun x47 => S.cnd x47 (some (2, [a0], s)) (some (1, [a0], s))))) fun r48 => if r48.1 = 0 then (some (0, [], r48.2.2)) else (if r48.1 = 1 then (some (1, [(r48.2.1.getD 0 undef)], r48.2.2)) else (S.bd (nck (r48.2.1.getD 0 undef)) fun x49 => S.bd (fld 20 x49) fun x50 => S.bd (ldc r48.2.2 x50) fun x51 => S.bd (eqb [3] false false x51 (Go.Value.pointer Option.none)) fun x52 => S.cnd x52 (S.bd (bld [(Go.Value.int Go.IntKind.i64 0), (Go.Value.int Go.IntKind.u64 0), (Go.Value.slice Option.none 0 0), (Go.Value.slice Option.none 0 0), (Go.Value.int Go.IntKind.i64 0), (Go.Value.int Go.IntKind.i64 0), (Go.Value.int Go.IntKind.u64 0), (Go.Value.int Go.IntKind.i64 0), (Go.Value.int Go.IntKind.u64 0), (Go.Value.int Go.IntKind.i64 0), (Go.Value.int Go.IntKind.i64 0), (Go.Value.int Go.IntKind.u64 0), (Go.Value.int Go.IntKind.i64 0), (Go.Value.int Go.IntKind.u64 0), (Go.Value.bool Bool.false)] [(0, 1, (Go.Value.int Go.IntKind.i64 131))]) fun x53 => S.bd (splice_Splice_end.v (r48.2.1.getD 0 undef) x53 r48.2.2) fun r54 => some (2, [], r54.2)) (S.bd (nck (r48.2.1.getD 0 undef)) fun x55 => S.bd (fld 20 x55) fun x56 => S.bd (ldc r48.2.2 x56) fun x57 => S.bd (nck x57) fun x58 => S.bd (lda r48.2.2 5 x58) fun x59 => S.bd (nck (r48.2.1.getD 0 undef)) fun x60 => S.bd (fld 15 x60) fun x61 => S.bd (stv r48.2.2 5 x61 x59) fun s62 => S.bd (nck (r48.2.1.getD 0 undef)) fun x63 => S.bd (fld 20 x63) fun x64 => S.bd (stv s62 1 x64 (Go.Value.pointer Option.none)) fun s65 => S.bd (nck (r48.2.1.getD 0 undef)) fun x66 => S.bd (fld 14 x66) fun x67 => S.bd (stv s65 1 x67 (Go.Value.int Go.IntKind.i64 9)) fun s68 => some (0, [], s68))))) fun r69 => if r69.1 = 0 then (some ((Value.tuple ⟨[]⟩), r69.2.2)) else (if r69.1 = 1 then (S.bd (nck (r69.2.1.getD 0 undef)) fun x70 => S.bd (fld 14 x70) fun x71 => S.bd (stv r69.2.2 1 x71 (Go.Value.int Go.IntKind.i64 9)) fun s72 => some ((Value.tuple ⟨[]⟩), s72)) else (some ((Value.tuple ⟨[]⟩), r69.2.2)))
def splice_Splice_locked.v (a0 a1 : Value) (s : St) : Option (Value × St) := splice_Splice_locked.t std a0 a1 s
def splice_Splice_locked.w : List Value → St → Option (Value × St)
  | [a0, a1], s => splice_Splice_locked.v a0 a1 s
  | _, _ => none
def splice_Splice_locked.an : An := ⟨45, false, [3], [], [(7, ⟨[], [(.exit 0, []), (.exit 4, [.v 0]), (.normal, [.v 0])]⟩), (10, ⟨[], [(.exit 0, []), (.normal, [.v 0]), (.ret, [])]⟩)], []⟩
theorem splice_Splice_locked.ok (S : Sig) (a0 a1 : Value) (s : St) : evF S Tryz.prog splice_Splice_locked.ctx splice_Splice_locked.an Tryz.f118 [a0, a1] s = splice_Splice_locked.t S a0 a1 s := by kernel_rfl
theorem splice_Splice_locked.cok : CtxOk Tryz.prog splice_Splice_locked.ctx := .cons splice_Splice_look.sound splice_Splice_look.can <| .cons splice_Splice_end.sound splice_Splice_end.can <| .nil
theorem splice_Splice_locked.draws : fnDraws splice_Splice_locked.an Tryz.f118 = true := by kernel_rfl
theorem splice_Splice_locked.can : callOk Tryz.prog 118 = true := by kernel_rfl
theorem splice_Splice_locked.sound : FnOk Tryz.prog 118 (.st splice_Splice_locked.w) := FnOk.st_of (evF_ok splice_Splice_locked.cok mixed (f := 118) (fn := Tryz.f118) (by kernel_rfl) splice_Splice_locked.draws) fun args s r h => by
  unfold splice_Splice_locked.w at h; split at h
  · rw [splice_Splice_locked.ok std]; exact h
  · simp at h

/-! ### (*leapfrog/splice.Splice).entered: function 123 -/
def splice_Splice_entered.ctx : Ctx := [(126, .st splice_Splice_fail.w)]
def splice_Splice_entered.t (S : Sig) (a0 a1 : Value) (s : St) : Option (Value × St) :=
  S.bd (bx a1) fun c1 => S.bd (lcl c1 0) fun x2 => S.bd (eqb [1] false false x2 (Go.Value.int Go.IntKind.i64 1)) fun x3 => S.cnd x3 (S.bd (nck a0) fun x4 => S.bd (fld 14 x4) fun x5 => S.bd (stv s 1 x5 (Go.Value.int Go.IntKind.i64 4)) fun s6 => some ((Value.tuple ⟨[]⟩), s6)) (S.bd (eqb [1] false false x2 (Go.Value.int Go.IntKind.i64 3)) fun x7 => S.cnd x7 (S.bd (splice_Splice_fail.v a0 (Go.Value.int Go.IntKind.i64 132) s) fun r8 => some ((Value.tuple ⟨[]⟩), r8.2)) (S.bd (splice_Splice_fail.v a0 (Go.Value.int Go.IntKind.i64 133) s) fun r9 => some ((Value.tuple ⟨[]⟩), r9.2)))
def splice_Splice_entered.v (a0 a1 : Value) (s : St) : Option (Value × St) := splice_Splice_entered.t std a0 a1 s
def splice_Splice_entered.w : List Value → St → Option (Value × St)
  | [a0, a1], s => splice_Splice_entered.v a0 a1 s
  | _, _ => none
def splice_Splice_entered.an : An := ⟨17, false, [3], [], [], []⟩
theorem splice_Splice_entered.ok (S : Sig) (a0 a1 : Value) (s : St) : evF S Tryz.prog splice_Splice_entered.ctx splice_Splice_entered.an Tryz.f123 [a0, a1] s = splice_Splice_entered.t S a0 a1 s := by kernel_rfl
theorem splice_Splice_entered.cok : CtxOk Tryz.prog splice_Splice_entered.ctx := .cons splice_Splice_fail.sound splice_Splice_fail.can <| .nil
theorem splice_Splice_entered.draws : fnDraws splice_Splice_entered.an Tryz.f123 = true := by kernel_rfl
theorem splice_Splice_entered.can : callOk Tryz.prog 123 = true := by kernel_rfl
theorem splice_Splice_entered.sound : FnOk Tryz.prog 123 (.st splice_Splice_entered.w) := FnOk.st_of (evF_ok splice_Splice_entered.cok mixed (f := 123) (fn := Tryz.f123) (by kernel_rfl) splice_Splice_entered.draws) fun args s r h => by
  unfold splice_Splice_entered.w at h; split at h
  · rw [splice_Splice_entered.ok std]; exact h
  · simp at h

/-! ### (*leapfrog/splice.Splice).righted: function 124 -/
def splice_Splice_righted.ctx : Ctx := []
def splice_Splice_righted.t (S : Sig) (a0 a1 : Value) (s : St) : Option (Value × St) :=
  S.bd (bx a1) fun c1 => S.bd (lcl c1 0) fun x2 => S.bd (eqb [1] false false x2 (Go.Value.int Go.IntKind.i64 3)) fun x3 => S.bd (nck a0) fun x4 => S.bd (fld 26 x4) fun x5 => S.bd (stv s 1 x5 x3) fun s6 => S.bd (lcl c1 0) fun x7 => S.bd (eqb [1] false false x7 (Go.Value.int Go.IntKind.i64 1)) fun x8 => S.bd (S.gd x8 false (some a0)) fun x9 => S.bd (S.gd x8 false (nck x9)) fun x10 => S.bd (S.gd x8 false (fld 26 x10)) fun x11 => S.bd (S.gd x8 false (ldc s6 x11)) fun x12 => S.bd (S.gd x8 false (some x12)) fun x13 => S.bd (S.gd x13 true (lcl c1 7)) fun x14 => S.bd (S.gd x13 true (some a0)) fun x15 => S.bd (S.gd x13 true (nck x15)) fun x16 => S.bd (S.gd x13 true (fld 0 x16)) fun x17 => S.bd (S.gd x13 true (fld 2 x17)) fun x18 => S.bd (S.gd x13 true (fld 0 x18)) fun x19 => S.bd (S.gd x13 true (ldc s6 x19)) fun x20 => S.bd (S.gd x13 true (eqb [1] false false x14 x20)) fun x21 => S.bd (S.gd x8 false (pik x13 x21 (Go.Value.bool Bool.false))) fun x22 => S.bd (pik x8 (Go.Value.bool Bool.true) x22) fun x23 => S.cnd x23 (S.bd (nck a0) fun x24 => S.bd (fld 14 x24) fun x25 => S.bd (stv s6 1 x25 (Go.Value.int Go.IntKind.i64 5)) fun s26 => some ((Value.tuple ⟨[]⟩), s26)) (S.bd (nck a0) fun x27 => S.bd (fld 14 x27) fun x28 => S.bd (stv s6 1 x28 (Go.Value.int Go.IntKind.i64 7)) fun s29 => some ((Value.tuple ⟨[]⟩), s29))
def splice_Splice_righted.v (a0 a1 : Value) (s : St) : Option (Value × St) := splice_Splice_righted.t std a0 a1 s
def splice_Splice_righted.w : List Value → St → Option (Value × St)
  | [a0, a1], s => splice_Splice_righted.v a0 a1 s
  | _, _ => none
def splice_Splice_righted.an : An := ⟨37, false, [3], [], [], [(2, [(0, 0, [], []), (1, 25, [], []), (2, 0, [], []), (3, 0, [], []), (4, 0, [], []), (5, 0, [], []), (6, 0, [], []), (7, 2, [], []), (8, 0, [], []), (9, 0, [], []), (10, 0, [], []), (11, 25, [], []), (12, 0, [], []), (13, 0, [], []), (14, 0, [], []), (15, 0, [], []), (16, 0, [], []), (17, 2, [], []), (18, 0, [], []), (19, 0, [], []), (20, 0, [], [])])]⟩
theorem splice_Splice_righted.ok (S : Sig) (a0 a1 : Value) (s : St) : evF S Tryz.prog splice_Splice_righted.ctx splice_Splice_righted.an Tryz.f124 [a0, a1] s = splice_Splice_righted.t S a0 a1 s := by kernel_rfl
theorem splice_Splice_righted.cok : CtxOk Tryz.prog splice_Splice_righted.ctx := .nil
theorem splice_Splice_righted.draws : fnDraws splice_Splice_righted.an Tryz.f124 = true := by kernel_rfl
theorem splice_Splice_righted.can : callOk Tryz.prog 124 = true := by kernel_rfl
theorem splice_Splice_righted.sound : FnOk Tryz.prog 124 (.st splice_Splice_righted.w) := FnOk.st_of (evF_ok splice_Splice_righted.cok mixed (f := 124) (fn := Tryz.f124) (by kernel_rfl) splice_Splice_righted.draws) fun args s r h => by
  unfold splice_Splice_righted.w at h; split at h
  · rw [splice_Splice_righted.ok std]; exact h
  · simp at h

/-! ### (*leapfrog/splice.Splice).done: function 125 -/
def splice_Splice_done.ctx : Ctx := [(119, .st splice_Splice_free.w)]
def splice_Splice_done.t.p1 (S : Sig) (x5 : Value) (x9 : Value) (r1 : Value × St) : Option (Value × St) :=
  S.bd (bld [(Go.Value.int Go.IntKind.i64 0), (Go.Value.int Go.IntKind.u64 0), (Go.Value.slice Option.none 0 0), (Go.Value.slice Option.none 0 0), (Go.Value.int Go.IntKind.i64 0), (Go.Value.int Go.IntKind.i64 0), (Go.Value.int Go.IntKind.u64 0), (Go.Value.int Go.IntKind.i64 0), (Go.Value.int Go.IntKind.u64 0), (Go.Value.int Go.IntKind.i64 0), (Go.Value.int Go.IntKind.i64 0), (Go.Value.int Go.IntKind.u64 0), (Go.Value.int Go.IntKind.i64 0), (Go.Value.int Go.IntKind.u64 0), (Go.Value.bool Bool.false)] [(4, 5, x5), (9, 5, x9)]) fun x10 => S.bd (alv r1.2 (Go.Value.agg #[(Go.Value.int Go.IntKind.i64 0), (Go.Value.int Go.IntKind.u64 0), (Go.Value.slice Option.none 0 0), (Go.Value.slice Option.none 0 0), (Go.Value.int Go.IntKind.i64 0), (Go.Value.int Go.IntKind.i64 0), (Go.Value.int Go.IntKind.u64 0), (Go.Value.int Go.IntKind.i64 0), (Go.Value.int Go.IntKind.u64 0), (Go.Value.int Go.IntKind.i64 0), (Go.Value.int Go.IntKind.i64 0), (Go.Value.int Go.IntKind.u64 0), (Go.Value.int Go.IntKind.i64 0), (Go.Value.int Go.IntKind.u64 0), (Go.Value.bool Bool.false)])) fun r11 => S.bd (stv r11.2 15 r11.1 x10) fun s12 => S.bd (ldc s12 r1.1) fun x13 => S.bd (nck x13) fun x14 => S.bd (fld 27 x14) fun x15 => S.bd (ldc s12 x15) fun x16 => S.cnd x16 (S.bd (bld [(Go.Value.int Go.IntKind.i64 0), (Go.Value.int Go.IntKind.u64 0), (Go.Value.slice Option.none 0 0), (Go.Value.slice Option.none 0 0), (Go.Value.int Go.IntKind.i64 0), (Go.Value.int Go.IntKind.i64 0), (Go.Value.int Go.IntKind.u64 0), (Go.Value.int Go.IntKind.i64 0), (Go.Value.int Go.IntKind.u64 0), (Go.Value.int Go.IntKind.i64 0), (Go.Value.int Go.IntKind.i64 0), (Go.Value.int Go.IntKind.u64 0), (Go.Value.int Go.IntKind.i64 0), (Go.Value.int Go.IntKind.u64 0), (Go.Value.bool Bool.false)] [(0, 1, (Go.Value.int Go.IntKind.i64 132))]) fun x17 => S.bd (stv s12 15 r11.1 x17) fun s18 => S.bd (ldc s18 r1.1) fun x19 => S.bd (splice_Splice_free.v x19 (Value.func (.func 129) ⟨[]⟩ ⟨[r1.1, r11.1]⟩) s18) fun r20 => some ((Value.tuple ⟨[]⟩), r20.2)) (S.bd (ldc s12 r1.1) fun x21 => S.bd (splice_Splice_free.v x21 (Value.func (.func 129) ⟨[]⟩ ⟨[r1.1, r11.1]⟩) s12) fun r22 => some ((Value.tuple ⟨[]⟩), r22.2))

def splice_Splice_done.t (S : Sig) (a0 : Value) (s : St) : Option (Value × St) :=
  S.bd (alv s a0) fun r1 => S.bd (ldc r1.2 r1.1) fun x2 => S.bd (nck x2) fun x3 => S.bd (fld 15 x3) fun x4 => S.bd (lda r1.2 5 x4) fun x5 => S.bd (ldc r1.2 r1.1) fun x6 => S.bd (nck x6) fun x7 => S.bd (fld 21 x7) fun x8 => S.bd (lda r1.2 5 x8) fun x9 => splice_Splice_done.t.p1 S x5 x9 r1
def splice_Splice_done.v (a0 : Value) (s : St) : Option (Value × St) := splice_Splice_done.t std a0 s
def splice_Splice_done.w : List Value → St → Option (Value × St)
  | [a0], s => splice_Splice_done.v a0 s
  | _, _ => none
def splice_Splice_done.an : An := ⟨20, false, [], [], [], [(1, [(0, 2, [], []), (1, 0, [], []), (2, 0, [], []), (3, 2, [], []), (4, 2, [], []), (5, 0, [], []), (6, 0, [], []), (7, 2, [], []), (8, 0, [], []), (9, 3, [], []), (10, 4, [], [])])]⟩
theorem splice_Splice_done.ok (S : Sig) (a0 : Value) (s : St) : evF S Tryz.prog splice_Splice_done.ctx splice_Splice_done.an Tryz.f125 [a0] s = splice_Splice_done.t S a0 s := by kernel_rfl
theorem splice_Splice_done.cok : CtxOk Tryz.prog splice_Splice_done.ctx := .cons splice_Splice_free.sound splice_Splice_free.can <| .nil
theorem splice_Splice_done.draws : fnDraws splice_Splice_done.an Tryz.f125 = true := by kernel_rfl
theorem splice_Splice_done.can : callOk Tryz.prog 125 = true := by kernel_rfl
theorem splice_Splice_done.sound : FnOk Tryz.prog 125 (.st splice_Splice_done.w) := FnOk.st_of (evF_ok splice_Splice_done.cok mixed (f := 125) (fn := Tryz.f125) (by kernel_rfl) splice_Splice_done.draws) fun args s r h => by
  unfold splice_Splice_done.w at h; split at h
  · rw [splice_Splice_done.ok std]; exact h
  · simp at h

/-! ### (*leapfrog/splice.Splice).Tell: function 115 -/
def splice_Splice_Tell.ctx : Ctx := [(118, .st splice_Splice_locked.w), (119, .st splice_Splice_free.w), (122, .st splice_Splice_wait.w), (123, .st splice_Splice_entered.w), (124, .st splice_Splice_righted.w), (125, .st splice_Splice_done.w), (126, .st splice_Splice_fail.w), (120, .st splice_Splice_Tell_fn1.w), (128, .st splice_Splice_wait_fn1.w), (129, .st splice_Splice_done_fn1.w), (130, .st splice_Splice_fail_fn1.w), (131, .st splice_Splice_look_fn1.w)]
def splice_Splice_Tell.t.p1 (S : Sig) (x8 : Value) (r1 : Value × St) (c2 : List Value) : Option (Value × St) :=
  S.bd (eqb [1] false false x8 (Go.Value.int Go.IntKind.i64 3)) fun x23 => S.cnd x23 (S.bd (ldc r1.2 r1.1) fun x24 => S.bd (lal c2 0 13) fun x25 => S.bd (splice_Splice_entered.v x24 x25 r1.2) fun r26 => some ((Value.tuple ⟨[]⟩), r26.2)) (S.bd (eqb [1] false false x8 (Go.Value.int Go.IntKind.i64 4)) fun x27 => S.cnd x27 (S.bd (ldc r1.2 r1.1) fun x28 => S.bd (lal c2 0 13) fun x29 => S.bd (splice_Splice_righted.v x28 x29 r1.2) fun r30 => some ((Value.tuple ⟨[]⟩), r30.2)) (S.bd (eqb [1] false false x8 (Go.Value.int Go.IntKind.i64 5)) fun x31 => S.cnd x31 (S.bd (ldc r1.2 r1.1) fun x32 => S.bd (nck x32) fun x33 => S.bd (fld 14 x33) fun x34 => S.bd (stv r1.2 1 x34 (Go.Value.int Go.IntKind.i64 6)) fun s35 => some ((Value.tuple ⟨[]⟩), s35)) (S.bd (eqb [1] false false x8 (Go.Value.int Go.IntKind.i64 6)) fun x36 => S.cnd x36 (S.bd (ldc r1.2 r1.1) fun x37 => S.bd (lcl c2 0) fun x38 => S.bd (eqb [1] false false x38 (Go.Value.int Go.IntKind.i64 3)) fun x39 => S.bd (nck x37) fun x40 => S.bd (fld 27 x40) fun x41 => S.bd (stv r1.2 1 x41 x39) fun s42 => S.bd (ldc s42 r1.1) fun x43 => S.bd (splice_Splice_done.v x43 s42) fun r44 => some ((Value.tuple ⟨[]⟩), r44.2)) (S.bd (eqb [1] false false x8 (Go.Value.int Go.IntKind.i64 7)) fun x45 => S.cnd x45 (S.bd (lcl c2 0) fun x46 => S.bd (eqb [1] false false x46 (Go.Value.int Go.IntKind.i64 3)) fun x47 => S.cnd x47 (S.bd (ldc r1.2 r1.1) fun x48 => S.bd (splice_Splice_fail.v x48 (Go.Value.int Go.IntKind.i64 132) r1.2) fun r49 => some ((Value.tuple ⟨[]⟩), r49.2)) (S.bd (ldc r1.2 r1.1) fun x50 => S.bd (splice_Splice_fail.v x50 (Go.Value.int Go.IntKind.i64 131) r1.2) fun r51 => some ((Value.tuple ⟨[]⟩), r51.2))) (S.bd (eqb [1] false false x8 (Go.Value.int Go.IntKind.i64 8)) fun x52 => S.cnd x52 (S.bd (ldc r1.2 r1.1) fun x53 => S.bd (nck x53) fun x54 => S.bd (fld 28 x54) fun x55 => S.bd (ldc r1.2 x55) fun x56 => S.bd (callV (splice_Splice_Tell.ctx) x56 [] r1.2) fun r57 => some ((Value.tuple ⟨[]⟩), r57.2)) (some ((Value.tuple ⟨[]⟩), r1.2)))))))

def splice_Splice_Tell.t (S : Sig) (a0 a1 : Value) (s : St) : Option (Value × St) :=
  S.bd (alv s a0) fun r1 => S.bd (bx a1) fun c2 => S.bd (ldc r1.2 r1.1) fun x3 => S.bd (eqb [3] false false x3 (Go.Value.pointer Option.none)) fun x4 => S.cnd x4 (some ((Value.tuple ⟨[]⟩), r1.2)) (S.bd (ldc r1.2 r1.1) fun x5 => S.bd (nck x5) fun x6 => S.bd (fld 14 x6) fun x7 => S.bd (ldc r1.2 x7) fun x8 => S.bd (eqb [1] false false x8 (Go.Value.int Go.IntKind.i64 1)) fun x9 => S.cnd x9 (S.bd (ldc r1.2 r1.1) fun x10 => S.bd (lal c2 0 13) fun x11 => S.bd (splice_Splice_locked.v x10 x11 r1.2) fun r12 => some ((Value.tuple ⟨[]⟩), r12.2)) (S.bd (eqb [1] false false x8 (Go.Value.int Go.IntKind.i64 2)) fun x13 => S.cnd x13 (S.bd (lcl c2 0) fun x14 => S.bd (eqb [1] false false x14 (Go.Value.int Go.IntKind.i64 1)) fun x15 => S.bd (S.gd x15 true (lcl c2 1)) fun x16 => S.bd (S.gd x15 true (un .not x16)) fun x17 => S.bd (pik x15 x17 (Go.Value.bool Bool.false)) fun x18 => S.cnd x18 (S.bd (ldc r1.2 r1.1) fun x19 => S.bd (splice_Splice_free.v x19 (Value.func (.func 120) ⟨[]⟩ ⟨[r1.1]⟩) r1.2) fun r20 => some ((Value.tuple ⟨[]⟩), r20.2)) (S.bd (ldc r1.2 r1.1) fun x21 => S.bd (splice_Splice_wait.v x21 r1.2) fun r22 => some ((Value.tuple ⟨[]⟩), r22.2))) (splice_Splice_Tell.t.p1 S x8 r1 c2)))
def splice_Splice_Tell.v (a0 a1 : Value) (s : St) : Option (Value × St) := splice_Splice_Tell.t std a0 a1 s
def splice_Splice_Tell.w : List Value → St → Option (Value × St)
  | [a0, a1], s => splice_Splice_Tell.v a0 a1 s
  | _, _ => none
def splice_Splice_Tell.an : An := ⟨71, false, [3], [], [], []⟩
theorem splice_Splice_Tell.ok (S : Sig) (a0 a1 : Value) (s : St) : evF S Tryz.prog splice_Splice_Tell.ctx splice_Splice_Tell.an Tryz.f115 [a0, a1] s = splice_Splice_Tell.t S a0 a1 s := by kernel_rfl
theorem splice_Splice_Tell.cok : CtxOk Tryz.prog splice_Splice_Tell.ctx := .cons splice_Splice_locked.sound splice_Splice_locked.can <| .cons splice_Splice_free.sound splice_Splice_free.can <| .cons splice_Splice_wait.sound splice_Splice_wait.can <| .cons splice_Splice_entered.sound splice_Splice_entered.can <| .cons splice_Splice_righted.sound splice_Splice_righted.can <| .cons splice_Splice_done.sound splice_Splice_done.can <| .cons splice_Splice_fail.sound splice_Splice_fail.can <| .cons splice_Splice_Tell_fn1.sound splice_Splice_Tell_fn1.can <| .cons splice_Splice_wait_fn1.sound splice_Splice_wait_fn1.can <| .cons splice_Splice_done_fn1.sound splice_Splice_done_fn1.can <| .cons splice_Splice_fail_fn1.sound splice_Splice_fail_fn1.can <| .cons splice_Splice_look_fn1.sound splice_Splice_look_fn1.can <| .nil
theorem splice_Splice_Tell.draws : fnDraws splice_Splice_Tell.an Tryz.f115 = true := by kernel_rfl
theorem splice_Splice_Tell.can : callOk Tryz.prog 115 = true := by kernel_rfl
theorem splice_Splice_Tell.sound : FnOk Tryz.prog 115 (.st splice_Splice_Tell.w) := FnOk.st_of (evF_ok splice_Splice_Tell.cok mixed (f := 115) (fn := Tryz.f115) (by kernel_rfl) splice_Splice_Tell.draws) fun args s r h => by
  unfold splice_Splice_Tell.w at h; split at h
  · rw [splice_Splice_Tell.ok std]; exact h
  · simp at h

/-! ### (*leapfrog/splice.Splice).Wake: function 116 -/
def splice_Splice_Wake.ctx : Ctx := []
def splice_Splice_Wake.t (S : Sig) (a0 : Value) (s : St) : Option (Value × St) :=
  S.bd (eqb [3] false true a0 (Go.Value.pointer Option.none)) fun x1 => S.bd (S.gd x1 true (some a0)) fun x2 => S.bd (S.gd x1 true (nck x2)) fun x3 => S.bd (S.gd x1 true (fld 14 x3)) fun x4 => S.bd (S.gd x1 true (ldc s x4)) fun x5 => S.bd (S.gd x1 true (eqb [1] false false x5 (Go.Value.int Go.IntKind.i64 9))) fun x6 => S.bd (pik x1 x6 (Go.Value.bool Bool.false)) fun x7 => S.cnd x7 (S.bd (nck a0) fun x8 => S.bd (fld 14 x8) fun x9 => S.bd (stv s 1 x9 (Go.Value.int Go.IntKind.i64 1)) fun s10 => some ((Value.tuple ⟨[]⟩), s10)) (some ((Value.tuple ⟨[]⟩), s))
def splice_Splice_Wake.v (a0 : Value) (s : St) : Option (Value × St) := splice_Splice_Wake.t std a0 s
def splice_Splice_Wake.w : List Value → St → Option (Value × St)
  | [a0], s => splice_Splice_Wake.v a0 s
  | _, _ => none
def splice_Splice_Wake.an : An := ⟨14, false, [], [], [], []⟩
theorem splice_Splice_Wake.ok (S : Sig) (a0 : Value) (s : St) : evF S Tryz.prog splice_Splice_Wake.ctx splice_Splice_Wake.an Tryz.f116 [a0] s = splice_Splice_Wake.t S a0 s := by kernel_rfl
theorem splice_Splice_Wake.cok : CtxOk Tryz.prog splice_Splice_Wake.ctx := .nil
theorem splice_Splice_Wake.draws : fnDraws splice_Splice_Wake.an Tryz.f116 = true := by kernel_rfl
theorem splice_Splice_Wake.can : callOk Tryz.prog 116 = true := by kernel_rfl
theorem splice_Splice_Wake.sound : FnOk Tryz.prog 116 (.st splice_Splice_Wake.w) := FnOk.st_of (evF_ok splice_Splice_Wake.cok mixed (f := 116) (fn := Tryz.f116) (by kernel_rfl) splice_Splice_Wake.draws) fun args s r h => by
  unfold splice_Splice_Wake.w at h; split at h
  · rw [splice_Splice_Wake.ok std]; exact h
  · simp at h

/-! ### (*leapfrog/insert.Insert).up: function 36 -/
def insert_Insert_up.ctx : Ctx := []
def insert_Insert_up.t (S : Sig) (a0 : Value) (s : St) : Option (Value × St) :=
  S.bd (nck a0) fun x1 => S.bd (fld 15 x1) fun x2 => S.bd (ldc s x2) fun x3 => S.bd (nck a0) fun x4 => S.bd (fld 0 x4) fun x5 => S.bd (fld 0 x5) fun x6 => S.bd (ldc s x6) fun x7 => S.bd (eqb [1] false false x3 x7) fun x8 => S.cnd x8 (S.bd (nck a0) fun x9 => S.bd (fld 13 x9) fun x10 => S.bd (stv s 1 x10 (Go.Value.int Go.IntKind.i64 3)) fun s11 => some ((Value.tuple ⟨[]⟩), s11)) (S.bd (nck a0) fun x12 => S.bd (fld 15 x12) fun x13 => S.bd (ldc s x13) fun x14 => S.bd (bin .add x14 (Go.Value.int Go.IntKind.i64 1)) fun x15 => S.bd (nck a0) fun x16 => S.bd (fld 15 x16) fun x17 => S.bd (stv s 1 x17 x15) fun s18 => S.bd (nck a0) fun x19 => S.bd (fld 0 x19) fun x20 => S.bd (fld 1 x20) fun x21 => S.bd (lda s18 5 x21) fun x22 => S.bd (nck a0) fun x23 => S.bd (fld 13 x23) fun x24 => S.bd (stv s18 1 x24 (Go.Value.int Go.IntKind.i64 2)) fun s25 => S.bd (nck a0) fun x26 => S.bd (fld 16 x26) fun x27 => S.bd (stv s25 5 x27 x22) fun s28 => some ((Value.tuple ⟨[]⟩), s28))
def insert_Insert_up.v (a0 : Value) (s : St) : Option (Value × St) := insert_Insert_up.t std a0 s
def insert_Insert_up.w : List Value → St → Option (Value × St)
  | [a0], s => insert_Insert_up.v a0 s
  | _, _ => none
def insert_Insert_up.an : An := ⟨33, false, [], [], [], [(0, [(0, 0, [], []), (1, 0, [], []), (2, 0, [], []), (3, 2, [], []), (4, 0, [], []), (5, 0, [], []), (6, 0, [], []), (7, 0, [], []), (8, 2, [], []), (9, 0, [], [])])]⟩
theorem insert_Insert_up.ok (S : Sig) (a0 : Value) (s : St) : evF S Tryz.prog insert_Insert_up.ctx insert_Insert_up.an Tryz.f36 [a0] s = insert_Insert_up.t S a0 s := by kernel_rfl
theorem insert_Insert_up.cok : CtxOk Tryz.prog insert_Insert_up.ctx := .nil
theorem insert_Insert_up.draws : fnDraws insert_Insert_up.an Tryz.f36 = true := by kernel_rfl
theorem insert_Insert_up.can : callOk Tryz.prog 36 = true := by kernel_rfl
theorem insert_Insert_up.sound : FnOk Tryz.prog 36 (.st insert_Insert_up.w) := FnOk.st_of (evF_ok insert_Insert_up.cok mixed (f := 36) (fn := Tryz.f36) (by kernel_rfl) insert_Insert_up.draws) fun args s r h => by
  unfold insert_Insert_up.w at h; split at h
  · rw [insert_Insert_up.ok std]; exact h
  · simp at h

/-! ### (*leapfrog/insert.Insert).end: function 11 -/
def insert_Insert_end.ctx : Ctx := []
def insert_Insert_end.t (S : Sig) (a0 a1 : Value) (s : St) : Option (Value × St) :=
  S.bd (nck a0) fun x1 => S.bd (fld 13 x1) fun x2 => S.bd (stv s 1 x2 (Go.Value.int Go.IntKind.i64 4)) fun s3 => S.bd (nck a0) fun x4 => S.bd (fld 22 x4) fun x5 => S.bd (stv s3 1 x5 a1) fun s6 => some ((Value.tuple ⟨[]⟩), s6)
def insert_Insert_end.v (a0 a1 : Value) (s : St) : Option (Value × St) := insert_Insert_end.t std a0 a1 s
def insert_Insert_end.w : List Value → St → Option (Value × St)
  | [a0, a1], s => insert_Insert_end.v a0 a1 s
  | _, _ => none
def insert_Insert_end.an : An := ⟨11, false, [], [], [], []⟩
theorem insert_Insert_end.ok (S : Sig) (a0 a1 : Value) (s : St) : evF S Tryz.prog insert_Insert_end.ctx insert_Insert_end.an Tryz.f11 [a0, a1] s = insert_Insert_end.t S a0 a1 s := by kernel_rfl
theorem insert_Insert_end.cok : CtxOk Tryz.prog insert_Insert_end.ctx := .nil
theorem insert_Insert_end.draws : fnDraws insert_Insert_end.an Tryz.f11 = true := by kernel_rfl
theorem insert_Insert_end.can : callOk Tryz.prog 11 = true := by kernel_rfl
theorem insert_Insert_end.sound : FnOk Tryz.prog 11 (.st insert_Insert_end.w) := FnOk.st_of (evF_ok insert_Insert_end.cok mixed (f := 11) (fn := Tryz.f11) (by kernel_rfl) insert_Insert_end.draws) fun args s r h => by
  unfold insert_Insert_end.w at h; split at h
  · rw [insert_Insert_end.ok std]; exact h
  · simp at h

/-! ### (*leapfrog/insert.Insert).head: function 24 -/
def insert_Insert_head.ctx : Ctx := []
def insert_Insert_head.t (S : Sig) (a0 : Value) (s : St) : Option Value :=
  S.bd (bx (Go.Value.agg #[(Go.Value.int Go.IntKind.i64 0), (Go.Value.int Go.IntKind.i64 0), (Go.Value.int Go.IntKind.u64 0), (Go.Value.int Go.IntKind.i64 0), (Go.Value.int Go.IntKind.u64 0)])) fun c1 => S.bd (bld [(Go.Value.int Go.IntKind.i64 0), (Go.Value.int Go.IntKind.u64 0)] [(0, 1, (Go.Value.int Go.IntKind.i64 1))]) fun x2 => S.bd (nck a0) fun x3 => S.bd (fld 0 x3) fun x4 => S.bd (fld 0 x4) fun x5 => S.bd (ldc s x5) fun x6 => S.bd (bld [(Go.Value.int Go.IntKind.i64 0), (Go.Value.int Go.IntKind.u64 0)] [(0, 1, x6)]) fun x7 => S.bd (bld [(Go.Value.int Go.IntKind.i64 0), (Go.Value.int Go.IntKind.i64 0), (Go.Value.int Go.IntKind.u64 0), (Go.Value.int Go.IntKind.i64 0), (Go.Value.int Go.IntKind.u64 0)] [(1, 2, x2), (3, 2, x7)]) fun x8 => S.bd (stl c1 0 5 x8) fun c9 => S.bd (lal c9 0 5) fun x10 => some (x10)
def insert_Insert_head.r (a0 : Value) (s : St) : Option Value := insert_Insert_head.t std a0 s
def insert_Insert_head.w : List Value → St → Option Value
  | [a0], s => insert_Insert_head.r a0 s
  | _, _ => none
def insert_Insert_head.an : An := ⟨11, true, [2], [], [], []⟩
theorem insert_Insert_head.ok (S : Sig) (a0 : Value) (s : St) : evG S Tryz.prog insert_Insert_head.ctx insert_Insert_head.an Tryz.f24 [a0] s = insert_Insert_head.t S a0 s := by kernel_rfl
theorem insert_Insert_head.cok : CtxOk Tryz.prog insert_Insert_head.ctx := .nil
theorem insert_Insert_head.draws : fnDraws insert_Insert_head.an Tryz.f24 = true := by kernel_rfl
theorem insert_Insert_head.can : callOk Tryz.prog 24 = true := by kernel_rfl
theorem insert_Insert_head.sound : FnOk Tryz.prog 24 (.rd insert_Insert_head.w) := FnOk.rd_of (evG_ok insert_Insert_head.cok mixed (f := 24) (fn := Tryz.f24) (by kernel_rfl) insert_Insert_head.draws) fun args s r h => by
  unfold insert_Insert_head.w at h; split at h
  · rw [insert_Insert_head.ok std]; exact h
  · simp at h

/-! ### leapfrog/seek.right: function 41 -/
def seek_right.ctx : Ctx := [(22, .rd key_Check.w), (28, .rd vec_Right.w)]
def seek_right.t (S : Sig) (a0 a1 : Value) (s : St) : Option Value :=
  S.bd (bx a0) fun c1 => S.bd (lal c1 1 2) fun x2 => S.bd (key_Check.r x2 s) fun x3 => S.bd (eqb [1] false false x3 (Go.Value.int Go.IntKind.i64 0)) fun x4 => S.bd (S.gd x4 true (lal c1 3 2)) fun x5 => S.bd (S.gd x4 true (vec_Right.r x5 s)) fun x6 => S.bd (S.gd x4 true (eqb [1] false false x6 (Go.Value.int Go.IntKind.i64 0))) fun x7 => S.bd (pik x4 x7 (Go.Value.bool Bool.false)) fun x8 => S.bd (S.gd x8 true (lcl c1 3)) fun x9 => S.bd (S.gd x8 true (some a1)) fun x10 => S.bd (S.gd x8 true (eqb [1] false false x9 x10)) fun x11 => S.bd (pik x8 x11 (Go.Value.bool Bool.false)) fun x12 => some (x12)
def seek_right.r (a0 a1 : Value) (s : St) : Option Value := seek_right.t std a0 a1 s
def seek_right.w : List Value → St → Option Value
  | [a0, a1], s => seek_right.r a0 a1 s
  | _, _ => none
def seek_right.an : An := ⟨22, true, [2], [], [], []⟩
theorem seek_right.ok (S : Sig) (a0 a1 : Value) (s : St) : evG S Tryz.prog seek_right.ctx seek_right.an Tryz.f41 [a0, a1] s = seek_right.t S a0 a1 s := by kernel_rfl
theorem seek_right.cok : CtxOk Tryz.prog seek_right.ctx := .cons key_Check.sound key_Check.can <| .cons vec_Right.sound vec_Right.can <| .nil
theorem seek_right.draws : fnDraws seek_right.an Tryz.f41 = true := by kernel_rfl
theorem seek_right.can : callOk Tryz.prog 41 = true := by kernel_rfl
theorem seek_right.sound : FnOk Tryz.prog 41 (.rd seek_right.w) := FnOk.rd_of (evG_ok seek_right.cok mixed (f := 41) (fn := Tryz.f41) (by kernel_rfl) seek_right.draws) fun args s r h => by
  unfold seek_right.w at h; split at h
  · rw [seek_right.ok std]; exact h
  · simp at h

/-! ### leapfrog/seek.New: function 27 -/
def seek_New.ctx : Ctx := [(41, .rd seek_right.w), (22, .rd key_Check.w)]
def seek_New.t.p1 (S : Sig) (x6 : Value) (x9 : Value) (c1 : List Value) (s : St) : Option (Value × St) :=
  S.bd (S.gd x6 false (un .not x9)) fun x10 => S.bd (pik x6 (Go.Value.bool Bool.true) x10) fun x11 => S.bd (S.gd x11 false (lal c1 6 2)) fun x12 => S.bd (S.gd x11 false (key_Check.r x12 s)) fun x13 => S.bd (S.gd x11 false (eqb [1] false true x13 (Go.Value.int Go.IntKind.i64 0))) fun x14 => S.bd (pik x11 (Go.Value.bool Bool.true) x14) fun x15 => S.bd (S.gd x15 false (lcl c1 6)) fun x16 => S.bd (S.gd x15 false (eqb [1] false false x16 (Go.Value.int Go.IntKind.i64 1))) fun x17 => S.bd (pik x15 (Go.Value.bool Bool.true) x17) fun x18 => S.cnd x18 (some ((Value.tuple ⟨[(Go.Value.pointer Option.none), (Go.Value.int Go.IntKind.i64 120)]⟩), s)) (S.bd (lal c1 0 8) fun x19 => S.bd (lal c1 1 5) fun x20 => S.bd (lal c1 4 2) fun x21 => S.bd (mkm s) fun r22 => S.bd (bld [(Go.Value.int Go.IntKind.i64 0), (Go.Value.int Go.IntKind.i64 0), (Go.Value.int Go.IntKind.i64 0), (Go.Value.int Go.IntKind.u64 0), (Go.Value.int Go.IntKind.i64 0), (Go.Value.int Go.IntKind.u64 0), (Go.Value.int Go.IntKind.i64 0), (Go.Value.int Go.IntKind.u64 0), (Go.Value.bool Bool.false), (Go.Value.int Go.IntKind.i64 0), (Go.Value.int Go.IntKind.i64 0), (Go.Value.int Go.IntKind.u64 0), (Go.Value.int Go.IntKind.i64 0), (Go.Value.int Go.IntKind.u64 0), (Go.Value.int Go.IntKind.i64 0), (Go.Value.int Go.IntKind.u64 0), (Go.Value.bool Bool.false), (Go.Value.int Go.IntKind.i64 0), (Go.Value.int Go.IntKind.i64 0), (Go.Value.int Go.IntKind.u64 0), (Go.Value.int Go.IntKind.i64 0), (Go.Value.int Go.IntKind.u64 0), (Go.Value.map Option.none), (Go.Value.int Go.IntKind.i64 0), (Go.Value.bool Bool.false), (Go.Value.int Go.IntKind.i64 0), (Go.Value.int Go.IntKind.u64 0), (Go.Value.slice Option.none 0 0), (Go.Value.slice Option.none 0 0), (Go.Value.int Go.IntKind.i64 0), (Go.Value.int Go.IntKind.i64 0), (Go.Value.int Go.IntKind.u64 0), (Go.Value.int Go.IntKind.i64 0), (Go.Value.int Go.IntKind.u64 0), (Go.Value.int Go.IntKind.i64 0), (Go.Value.int Go.IntKind.i64 0), (Go.Value.int Go.IntKind.u64 0), (Go.Value.int Go.IntKind.i64 0), (Go.Value.int Go.IntKind.u64 0), (Go.Value.bool Bool.false)] [(0, 8, x19), (8, 1, (Go.Value.bool Bool.true)), (9, 5, x20), (14, 2, x21), (22, 1, r22.1)]) fun x23 => S.bd (alv r22.2 x23) fun r24 => some ((Value.tuple ⟨[r24.1, (Go.Value.int Go.IntKind.i64 0)]⟩), r24.2))

def seek_New.t (S : Sig) (a0 : Value) (s : St) : Option (Value × St) :=
  S.bd (bx a0) fun c1 => S.bd (lcl c1 0) fun x2 => S.bd (bin .lss x2 (Go.Value.int Go.IntKind.i64 0)) fun x3 => S.bd (S.gd x3 false (lcl c1 0)) fun x4 => S.bd (S.gd x3 false (bin .gtr x4 (Go.Value.int Go.IntKind.i64 32))) fun x5 => S.bd (pik x3 (Go.Value.bool Bool.true) x5) fun x6 => S.bd (S.gd x6 false (lal c1 1 5)) fun x7 => S.bd (S.gd x6 false (lcl c1 0)) fun x8 => S.bd (S.gd x6 false (seek_right.r x7 x8 s)) fun x9 => seek_New.t.p1 S x6 x9 c1 s
def seek_New.v (a0 : Value) (s : St) : Option (Value × St) := seek_New.t std a0 s
def seek_New.w : List Value → St → Option (Value × St)
  | [a0], s => seek_New.v a0 s
  | _, _ => none
def seek_New.an : An := ⟨41, false, [1], [], [], []⟩
theorem seek_New.ok (S : Sig) (a0 : Value) (s : St) : evF S Tryz.prog seek_New.ctx seek_New.an Tryz.f27 [a0] s = seek_New.t S a0 s := by kernel_rfl
theorem seek_New.cok : CtxOk Tryz.prog seek_New.ctx := .cons seek_right.sound seek_right.can <| .cons key_Check.sound key_Check.can <| .nil
theorem seek_New.draws : fnDraws seek_New.an Tryz.f27 = true := by kernel_rfl
theorem seek_New.can : callOk Tryz.prog 27 = true := by kernel_rfl
theorem seek_New.sound : FnOk Tryz.prog 27 (.st seek_New.w) := FnOk.st_of (evF_ok seek_New.cok mixed (f := 27) (fn := Tryz.f27) (by kernel_rfl) seek_New.draws) fun args s r h => by
  unfold seek_New.w at h; split at h
  · rw [seek_New.ok std]; exact h
  · simp at h

/-! ### (*leapfrog/insert.Insert).seek: function 37 -/
def insert_Insert_seek.ctx : Ctx := [(11, .st insert_Insert_end.w), (24, .rd insert_Insert_head.w), (27, .st seek_New.w)]
def insert_Insert_seek.t (S : Sig) (a0 : Value) (s : St) : Option (Value × St) :=
  S.bd (nck a0) fun x1 => S.bd (fld 21 x1) fun x2 => S.bd (ldc s x2) fun x3 => S.bd (bin .geq x3 (Go.Value.int Go.IntKind.i64 64)) fun x4 => S.cnd x4 (S.bd (insert_Insert_end.v a0 (Go.Value.int Go.IntKind.i64 121) s) fun r5 => some ((Value.tuple ⟨[]⟩), r5.2)) (S.bd (nck a0) fun x6 => S.bd (fld 21 x6) fun x7 => S.bd (ldc s x7) fun x8 => S.bd (bin .add x8 (Go.Value.int Go.IntKind.i64 1)) fun x9 => S.bd (nck a0) fun x10 => S.bd (fld 21 x10) fun x11 => S.bd (stv s 1 x11 x9) fun s12 => S.bd (nck a0) fun x13 => S.bd (fld 0 x13) fun x14 => S.bd (fld 0 x14) fun x15 => S.bd (ldc s12 x15) fun x16 => S.bd (nck a0) fun x17 => S.bd (fld 0 x17) fun x18 => S.bd (fld 1 x18) fun x19 => S.bd (fld 1 x19) fun x20 => S.bd (lda s12 2 x20) fun x21 => S.bd (insert_Insert_head.r a0 s12) fun x22 => S.bd (bld [(Go.Value.int Go.IntKind.i64 0), (Go.Value.int Go.IntKind.i64 0), (Go.Value.int Go.IntKind.i64 0), (Go.Value.int Go.IntKind.u64 0), (Go.Value.int Go.IntKind.i64 0), (Go.Value.int Go.IntKind.u64 0), (Go.Value.int Go.IntKind.i64 0), (Go.Value.int Go.IntKind.u64 0)] [(0, 1, x16), (1, 5, x22), (6, 2, x21)]) fun x23 => S.bd (seek_New.v x23 s12) fun r24 => S.bd (ldc r24.2 x15) fun x25 => S.cnd (Value.bool (sameV x25 x16)) (S.bd (lda r24.2 2 x20) fun x26 => S.cnd (Value.bool (sameV x26 x21)) (S.bd (xtr 0 r24.1) fun x27 => S.bd (xtr 1 r24.1) fun x28 => S.bd (nck a0) fun x29 => S.bd (fld 13 x29) fun x30 => S.bd (stv r24.2 1 x30 (Go.Value.int Go.IntKind.i64 1)) fun s31 => S.bd (nck a0) fun x32 => S.bd (fld 14 x32) fun x33 => S.bd (stv s31 1 x33 (Value.iface 85 x27)) fun s34 => some ((Value.tuple ⟨[]⟩), s34)) (none)) (none))
def insert_Insert_seek.v (a0 : Value) (s : St) : Option (Value × St) := insert_Insert_seek.t std a0 s
def insert_Insert_seek.w : List Value → St → Option (Value × St)
  | [a0], s => insert_Insert_seek.v a0 s
  | _, _ => none
def insert_Insert_seek.an : An := ⟨44, false, [], [], [], [(3, [(0, 0, [], []), (1, 0, [], []), (2, 0, [], []), (3, 0, [], []), (4, 2, [], []), (5, 0, [], []), (7, 0, [], []), (8, 0, [], []), (9, 0, [], []), (10, 0, [], []), (11, 0, [], []), (12, 2, [], []), (6, 3, [], []), (13, 0, [], []), (14, 4, [4, 12], []), (15, 0, [], []), (16, 0, [], []), (17, 0, [], []), (18, 0, [], []), (19, 0, [], [])])]⟩
theorem insert_Insert_seek.ok (S : Sig) (a0 : Value) (s : St) : evF S Tryz.prog insert_Insert_seek.ctx insert_Insert_seek.an Tryz.f37 [a0] s = insert_Insert_seek.t S a0 s := by kernel_rfl
theorem insert_Insert_seek.cok : CtxOk Tryz.prog insert_Insert_seek.ctx := .cons insert_Insert_end.sound insert_Insert_end.can <| .cons insert_Insert_head.sound insert_Insert_head.can <| .cons seek_New.sound seek_New.can <| .nil
theorem insert_Insert_seek.draws : fnDraws insert_Insert_seek.an Tryz.f37 = true := by kernel_rfl
theorem insert_Insert_seek.can : callOk Tryz.prog 37 = true := by kernel_rfl
theorem insert_Insert_seek.sound : FnOk Tryz.prog 37 (.st insert_Insert_seek.w) := FnOk.st_of (evF_ok insert_Insert_seek.cok mixed (f := 37) (fn := Tryz.f37) (by kernel_rfl) insert_Insert_seek.draws) fun args s r h => by
  unfold insert_Insert_seek.w at h; split at h
  · rw [insert_Insert_seek.ok std]; exact h
  · simp at h

/-! ### (*leapfrog/insert.Insert).list: function 13 -/
def insert_Insert_list.ctx : Ctx := [(26, .rd vec_Prefix.w)]
def insert_Insert_list.t (S : Sig) (a0 a1 : Value) (s : St) : Option Value :=
  S.bd (bx (Go.Value.agg #[(Go.Value.int Go.IntKind.i64 0), (Go.Value.int Go.IntKind.u64 0)])) fun c1 => S.bd (nck a0) fun x2 => S.bd (fld 0 x2) fun x3 => S.bd (fld 1 x3) fun x4 => S.bd (fld 3 x4) fun x5 => S.bd (lda s 2 x5) fun x6 => S.bd (vec_Prefix.r x6 a1 s) fun x7 => S.bd (xtr 0 x7) fun x8 => S.bd (xtr 1 x7) fun x9 => S.bd (bx (Go.Value.agg #[(Go.Value.int Go.IntKind.i64 0), (Go.Value.int Go.IntKind.u64 0)])) fun c10 => S.bd (stl c10 0 2 x8) fun c11 => S.bd (lal c11 0 2) fun x12 => S.bd (stl c1 0 2 x12) fun c13 => S.bd (lal c13 0 2) fun x14 => some (x14)
def insert_Insert_list.r (a0 a1 : Value) (s : St) : Option Value := insert_Insert_list.t std a0 a1 s
def insert_Insert_list.w : List Value → St → Option Value
  | [a0, a1], s => insert_Insert_list.r a0 a1 s
  | _, _ => none
def insert_Insert_list.an : An := ⟨19, true, [4, 5], [], [], []⟩
theorem insert_Insert_list.ok (S : Sig) (a0 a1 : Value) (s : St) : evG S Tryz.prog insert_Insert_list.ctx insert_Insert_list.an Tryz.f13 [a0, a1] s = insert_Insert_list.t S a0 a1 s := by kernel_rfl
theorem insert_Insert_list.cok : CtxOk Tryz.prog insert_Insert_list.ctx := .cons vec_Prefix.sound vec_Prefix.can <| .nil
theorem insert_Insert_list.draws : fnDraws insert_Insert_list.an Tryz.f13 = true := by kernel_rfl
theorem insert_Insert_list.can : callOk Tryz.prog 13 = true := by kernel_rfl
theorem insert_Insert_list.sound : FnOk Tryz.prog 13 (.rd insert_Insert_list.w) := FnOk.rd_of (evG_ok insert_Insert_list.cok mixed (f := 13) (fn := Tryz.f13) (by kernel_rfl) insert_Insert_list.draws) fun args s r h => by
  unfold insert_Insert_list.w at h; split at h
  · rw [insert_Insert_list.ok std]; exact h
  · simp at h

/-! ### leapfrog/vec.Begins: function 25 -/
def vec_Begins.ctx : Ctx := [(28, .rd vec_Right.w), (39, .rd vec_prefix.w)]
def vec_Begins.t (S : Sig) (a0 a1 : Value) (s : St) : Option Value :=
  S.bd (bx a0) fun c1 => S.bd (bx a1) fun c2 => S.bd (lal c1 0 2) fun x3 => S.bd (vec_Right.r x3 s) fun x4 => S.bd (eqb [1] false false x4 (Go.Value.int Go.IntKind.i64 0)) fun x5 => S.bd (S.gd x5 true (lal c2 0 2)) fun x6 => S.bd (S.gd x5 true (vec_Right.r x6 s)) fun x7 => S.bd (S.gd x5 true (eqb [1] false false x7 (Go.Value.int Go.IntKind.i64 0))) fun x8 => S.bd (pik x5 x8 (Go.Value.bool Bool.false)) fun x9 => S.bd (S.gd x9 true (lcl c2 0)) fun x10 => S.bd (S.gd x9 true (lcl c1 0)) fun x11 => S.bd (S.gd x9 true (bin .leq x10 x11)) fun x12 => S.bd (pik x9 x12 (Go.Value.bool Bool.false)) fun x13 => S.bd (S.gd x13 true (lal c1 0 2)) fun x14 => S.bd (S.gd x13 true (lcl c2 0)) fun x15 => S.bd (S.gd x13 true (lal c2 0 2)) fun x16 => S.bd (S.gd x13 true (vec_prefix.r x14 x15 s)) fun x17 => S.bd (S.gd x13 true (eqb [1, 1] true false x17 x16)) fun x18 => S.bd (pik x13 x18 (Go.Value.bool Bool.false)) fun x19 => some (x19)
def vec_Begins.r (a0 a1 : Value) (s : St) : Option Value := vec_Begins.t std a0 a1 s
def vec_Begins.w : List Value → St → Option Value
  | [a0, a1], s => vec_Begins.r a0 a1 s
  | _, _ => none
def vec_Begins.an : An := ⟨28, true, [2, 3], [], [], [(1, [(0, 17, [], []), (1, 3, [], []), (2, 0, [], []), (3, 0, [], []), (4, 25, [], []), (5, 3, [], []), (6, 0, [], []), (7, 0, [], []), (8, 0, [], []), (9, 0, [], []), (10, 25, [], []), (11, 0, [], []), (12, 17, [], []), (13, 0, [], []), (14, 0, [], []), (15, 0, [], []), (16, 17, [], []), (17, 0, [], []), (18, 25, [], []), (20, 25, [], []), (19, 3, [], []), (21, 0, [], []), (22, 0, [], []), (23, 0, [], [])])]⟩
theorem vec_Begins.ok (S : Sig) (a0 a1 : Value) (s : St) : evG S Tryz.prog vec_Begins.ctx vec_Begins.an Tryz.f25 [a0, a1] s = vec_Begins.t S a0 a1 s := by kernel_rfl
theorem vec_Begins.cok : CtxOk Tryz.prog vec_Begins.ctx := .cons vec_Right.sound vec_Right.can <| .cons vec_prefix.sound vec_prefix.can <| .nil
theorem vec_Begins.draws : fnDraws vec_Begins.an Tryz.f25 = true := by kernel_rfl
theorem vec_Begins.can : callOk Tryz.prog 25 = true := by kernel_rfl
theorem vec_Begins.sound : FnOk Tryz.prog 25 (.rd vec_Begins.w) := FnOk.rd_of (evG_ok vec_Begins.cok mixed (f := 25) (fn := Tryz.f25) (by kernel_rfl) vec_Begins.draws) fun args s r h => by
  unfold vec_Begins.w at h; split at h
  · rw [vec_Begins.ok std]; exact h
  · simp at h

/-! ### leapfrog/lock.Check: function 43 -/
def lock_Check.ctx : Ctx := []
def lock_Check.t (S : Sig) (a0 : Value) (s : St) : Option Value :=
  S.bd (bx a0) fun c1 => S.bd (lcl c1 0) fun x2 => S.bd (bin .lss x2 (Go.Value.int Go.IntKind.i64 0)) fun x3 => S.bd (S.gd x3 false (lcl c1 0)) fun x4 => S.bd (S.gd x3 false (bin .geq x4 (Go.Value.int Go.IntKind.i64 1024))) fun x5 => S.bd (pik x3 (Go.Value.bool Bool.true) x5) fun x6 => S.bd (S.gd x6 false (lcl c1 1)) fun x7 => S.bd (S.gd x6 false (bin .lss x7 (Go.Value.int Go.IntKind.i64 1))) fun x8 => S.bd (pik x6 (Go.Value.bool Bool.true) x8) fun x9 => S.bd (S.gd x9 false (lcl c1 1)) fun x10 => S.bd (S.gd x9 false (bin .gtr x10 (Go.Value.int Go.IntKind.i64 1073741824))) fun x11 => S.bd (pik x9 (Go.Value.bool Bool.true) x11) fun x12 => S.cnd x12 (some ((Go.Value.int Go.IntKind.i64 70))) (some ((Go.Value.int Go.IntKind.i64 0)))
def lock_Check.r (a0 : Value) (s : St) : Option Value := lock_Check.t std a0 s
def lock_Check.w : List Value → St → Option Value
  | [a0], s => lock_Check.r a0 s
  | _, _ => none
def lock_Check.an : An := ⟨21, true, [1], [], [], []⟩
theorem lock_Check.ok (S : Sig) (a0 : Value) (s : St) : evG S Tryz.prog lock_Check.ctx lock_Check.an Tryz.f43 [a0] s = lock_Check.t S a0 s := by kernel_rfl
theorem lock_Check.cok : CtxOk Tryz.prog lock_Check.ctx := .nil
theorem lock_Check.draws : fnDraws lock_Check.an Tryz.f43 = true := by kernel_rfl
theorem lock_Check.can : callOk Tryz.prog 43 = true := by kernel_rfl
theorem lock_Check.sound : FnOk Tryz.prog 43 (.rd lock_Check.w) := FnOk.rd_of (evG_ok lock_Check.cok mixed (f := 43) (fn := Tryz.f43) (by kernel_rfl) lock_Check.draws) fun args s r h => by
  unfold lock_Check.w at h; split at h
  · rw [lock_Check.ok std]; exact h
  · simp at h

/-! ### leapfrog/splice.New: function 29 -/
def splice_New.ctx : Ctx := [(25, .rd vec_Begins.w), (22, .rd key_Check.w), (23, .rd key_Less.w), (28, .rd vec_Right.w), (43, .rd lock_Check.w)]
def splice_New.t.p1 (S : Sig) (x18 : Value) (c1 : List Value) (s : St) : Option (Value × St) :=
  S.bd (S.gd x18 false (lal c1 0 2)) fun x19 => S.bd (S.gd x18 false (vec_Right.r x19 s)) fun x20 => S.bd (S.gd x18 false (eqb [1] false true x20 (Go.Value.int Go.IntKind.i64 0))) fun x21 => S.bd (pik x18 (Go.Value.bool Bool.true) x21) fun x22 => S.bd (S.gd x22 false (lal c1 12 2)) fun x23 => S.bd (S.gd x22 false (lock_Check.r x23 s)) fun x24 => S.bd (S.gd x22 false (eqb [1] false true x24 (Go.Value.int Go.IntKind.i64 0))) fun x25 => S.bd (pik x22 (Go.Value.bool Bool.true) x25) fun x26 => S.cnd x26 (some ((Value.tuple ⟨[(Go.Value.pointer Option.none), (Go.Value.int Go.IntKind.i64 130)]⟩), s)) (S.bd (lal c1 0 14) fun x27 => S.bd (lal c1 7 5) fun x28 => S.bd (bld [(Go.Value.int Go.IntKind.i64 0), (Go.Value.int Go.IntKind.u64 0), (Go.Value.int Go.IntKind.i64 0), (Go.Value.int Go.IntKind.i64 0), (Go.Value.int Go.IntKind.u64 0), (Go.Value.int Go.IntKind.i64 0), (Go.Value.int Go.IntKind.u64 0), (Go.Value.int Go.IntKind.i64 0), (Go.Value.int Go.IntKind.i64 0), (Go.Value.int Go.IntKind.u64 0), (Go.Value.int Go.IntKind.i64 0), (Go.Value.int Go.IntKind.u64 0), (Go.Value.int Go.IntKind.i64 0), (Go.Value.int Go.IntKind.i64 0), (Go.Value.int Go.IntKind.i64 0), (Go.Value.int Go.IntKind.i64 0), (Go.Value.int Go.IntKind.i64 0), (Go.Value.int Go.IntKind.u64 0), (Go.Value.int Go.IntKind.i64 0), (Go.Value.int Go.IntKind.u64 0), (Go.Value.pointer Option.none), (Go.Value.int Go.IntKind.i64 0), (Go.Value.int Go.IntKind.i64 0), (Go.Value.int Go.IntKind.u64 0), (Go.Value.int Go.IntKind.i64 0), (Go.Value.int Go.IntKind.u64 0), (Go.Value.bool Bool.false), (Go.Value.bool Bool.false), Go.Value.nilFunc, (Go.Value.int Go.IntKind.i64 0), (Go.Value.int Go.IntKind.u64 0), (Go.Value.slice Option.none 0 0), (Go.Value.slice Option.none 0 0), (Go.Value.int Go.IntKind.i64 0), (Go.Value.int Go.IntKind.i64 0), (Go.Value.int Go.IntKind.u64 0), (Go.Value.int Go.IntKind.i64 0), (Go.Value.int Go.IntKind.u64 0), (Go.Value.int Go.IntKind.i64 0), (Go.Value.int Go.IntKind.i64 0), (Go.Value.int Go.IntKind.u64 0), (Go.Value.int Go.IntKind.i64 0), (Go.Value.int Go.IntKind.u64 0), (Go.Value.bool Bool.false)] [(0, 14, x27), (14, 1, (Go.Value.int Go.IntKind.i64 1)), (15, 5, x28)]) fun x29 => S.bd (alv s x29) fun r30 => some ((Value.tuple ⟨[r30.1, (Go.Value.int Go.IntKind.i64 0)]⟩), r30.2))

def splice_New.t (S : Sig) (a0 : Value) (s : St) : Option (Value × St) :=
  S.bd (bx a0) fun c1 => S.bd (lcl c1 3) fun x2 => S.bd (eqb [1] false false x2 (Go.Value.int Go.IntKind.i64 2)) fun x3 => S.bd (S.gd x3 true (lal c1 5 2)) fun x4 => S.bd (S.gd x3 true (lal c1 0 2)) fun x5 => S.bd (S.gd x3 true (vec_Begins.r x4 x5 s)) fun x6 => S.bd (pik x3 x6 (Go.Value.bool Bool.false)) fun x7 => S.bd (lal c1 8 2) fun x8 => S.bd (key_Check.r x8 s) fun x9 => S.bd (eqb [1] false false x9 (Go.Value.int Go.IntKind.i64 0)) fun x10 => S.bd (S.gd x10 true (lal c1 8 2)) fun x11 => S.bd (S.gd x10 true (lal c1 3 2)) fun x12 => S.bd (S.gd x10 true (key_Less.r x11 x12 s)) fun x13 => S.bd (pik x10 x13 (Go.Value.bool Bool.false)) fun x14 => S.bd (un .not x7) fun x15 => S.bd (S.gd x15 false (some x14)) fun x16 => S.bd (S.gd x15 false (un .not x16)) fun x17 => S.bd (pik x15 (Go.Value.bool Bool.true) x17) fun x18 => splice_New.t.p1 S x18 c1 s
def splice_New.v (a0 : Value) (s : St) : Option (Value × St) := splice_New.t std a0 s
def splice_New.w : List Value → St → Option (Value × St)
  | [a0], s => splice_New.v a0 s
  | _, _ => none
def splice_New.an : An := ⟨56, false, [1], [], [], []⟩
theorem splice_New.ok (S : Sig) (a0 : Value) (s : St) : evF S Tryz.prog splice_New.ctx splice_New.an Tryz.f29 [a0] s = splice_New.t S a0 s := by kernel_rfl
theorem splice_New.cok : CtxOk Tryz.prog splice_New.ctx := .cons vec_Begins.sound vec_Begins.can <| .cons key_Check.sound key_Check.can <| .cons key_Less.sound key_Less.can <| .cons vec_Right.sound vec_Right.can <| .cons lock_Check.sound lock_Check.can <| .nil
theorem splice_New.draws : fnDraws splice_New.an Tryz.f29 = true := by kernel_rfl
theorem splice_New.can : callOk Tryz.prog 29 = true := by kernel_rfl
theorem splice_New.sound : FnOk Tryz.prog 29 (.st splice_New.w) := FnOk.st_of (evF_ok splice_New.cok mixed (f := 29) (fn := Tryz.f29) (by kernel_rfl) splice_New.draws) fun args s r h => by
  unfold splice_New.w at h; split at h
  · rw [splice_New.ok std]; exact h
  · simp at h


end
end Go.Proofs.YtdehahoffhjpmaaGreat
