/-
  What the functions answer that SpliceNobody reaches (part 0): for each function of the program a plain function over abstract values, and that the model answers as it does.
-/
import Derived.Test.YteiagjbjokldgaaSimZ
import Derived.Test.YteiagjbjokldgaaProg
import Derived.KernelRfl
set_option linter.unusedVariables false
set_option maxRecDepth 100000
namespace Go.Proofs.Yteiagjbjokldgaa
open Go.Sim
theorem mixed : Try.prog.follows .mixedOrders = true := by kernel_rfl
/-! ### cmp.isNaN[leapfrog/api.Rank]: function 105 -/
def cmp_isNaN_api_Rank.ctx : Ctx := []
def cmp_isNaN_api_Rank.t (S : Sig) (a0 : Value) (s : St) : Option Value :=
  S.bd (eqb [1] false true a0 a0) fun x1 => some (x1)
def cmp_isNaN_api_Rank.r (a0 : Value) (s : St) : Option Value := cmp_isNaN_api_Rank.t std a0 s
def cmp_isNaN_api_Rank.w : List Value → St → Option Value
  | [a0], s => cmp_isNaN_api_Rank.r a0 s
  | _, _ => none
def cmp_isNaN_api_Rank.an : An := ⟨6, true, [], [], [], []⟩
theorem cmp_isNaN_api_Rank.ok (S : Sig) (a0 : Value) (s : St) : evG S Try.prog cmp_isNaN_api_Rank.ctx cmp_isNaN_api_Rank.an Try.f105 [a0] s = cmp_isNaN_api_Rank.t S a0 s := by kernel_rfl
theorem cmp_isNaN_api_Rank.cok : CtxOk Try.prog cmp_isNaN_api_Rank.ctx := .nil
theorem cmp_isNaN_api_Rank.draws : fnDraws cmp_isNaN_api_Rank.an Try.f105 = true := by kernel_rfl
theorem cmp_isNaN_api_Rank.can : callOk Try.prog 105 = true := by kernel_rfl
theorem cmp_isNaN_api_Rank.sound : FnOk Try.prog 105 (.rd cmp_isNaN_api_Rank.w) := FnOk.rd_of (evG_ok cmp_isNaN_api_Rank.cok mixed (f := 105) (fn := Try.f105) (by kernel_rfl) cmp_isNaN_api_Rank.draws) fun args s r h => by
  unfold cmp_isNaN_api_Rank.w at h; split at h
  · rw [cmp_isNaN_api_Rank.ok std]; exact h
  · simp at h

/-! ### cmp.Compare[leapfrog/api.Rank]: function 99 -/
def cmp_Compare_api_Rank.ctx : Ctx := [(105, .rd cmp_isNaN_api_Rank.w)]
def cmp_Compare_api_Rank.t (S : Sig) (a0 a1 : Value) (s : St) : Option Value :=
  S.bd (cmp_isNaN_api_Rank.r a0 s) fun x1 => S.bd (cmp_isNaN_api_Rank.r a1 s) fun x2 => S.cnd x1 (S.cnd x2 (some ((Go.Value.int Go.IntKind.i64 0))) (some ((Go.Value.int Go.IntKind.i64 (-1))))) (S.cnd x2 (some ((Go.Value.int Go.IntKind.i64 1))) (S.bd (bin .lss a0 a1) fun x3 => S.cnd x3 (some ((Go.Value.int Go.IntKind.i64 (-1)))) (S.bd (bin .gtr a0 a1) fun x4 => S.cnd x4 (some ((Go.Value.int Go.IntKind.i64 1))) (some ((Go.Value.int Go.IntKind.i64 0))))))
def cmp_Compare_api_Rank.r (a0 a1 : Value) (s : St) : Option Value := cmp_Compare_api_Rank.t std a0 a1 s
def cmp_Compare_api_Rank.w : List Value → St → Option Value
  | [a0, a1], s => cmp_Compare_api_Rank.r a0 a1 s
  | _, _ => none
def cmp_Compare_api_Rank.an : An := ⟨20, true, [], [], [], []⟩
theorem cmp_Compare_api_Rank.ok (S : Sig) (a0 a1 : Value) (s : St) : evG S Try.prog cmp_Compare_api_Rank.ctx cmp_Compare_api_Rank.an Try.f99 [a0, a1] s = cmp_Compare_api_Rank.t S a0 a1 s := by kernel_rfl
theorem cmp_Compare_api_Rank.cok : CtxOk Try.prog cmp_Compare_api_Rank.ctx := .cons cmp_isNaN_api_Rank.sound cmp_isNaN_api_Rank.can <| .nil
theorem cmp_Compare_api_Rank.draws : fnDraws cmp_Compare_api_Rank.an Try.f99 = true := by kernel_rfl
theorem cmp_Compare_api_Rank.can : callOk Try.prog 99 = true := by kernel_rfl
theorem cmp_Compare_api_Rank.sound : FnOk Try.prog 99 (.rd cmp_Compare_api_Rank.w) := FnOk.rd_of (evG_ok cmp_Compare_api_Rank.cok mixed (f := 99) (fn := Try.f99) (by kernel_rfl) cmp_Compare_api_Rank.draws) fun args s r h => by
  unfold cmp_Compare_api_Rank.w at h; split at h
  · rw [cmp_Compare_api_Rank.ok std]; exact h
  · simp at h

/-! ### cmp.isNaN[uint64]: function 106 -/
def cmp_isNaN_uint64.ctx : Ctx := []
def cmp_isNaN_uint64.t (S : Sig) (a0 : Value) (s : St) : Option Value :=
  S.bd (eqb [1] false true a0 a0) fun x1 => some (x1)
def cmp_isNaN_uint64.r (a0 : Value) (s : St) : Option Value := cmp_isNaN_uint64.t std a0 s
def cmp_isNaN_uint64.w : List Value → St → Option Value
  | [a0], s => cmp_isNaN_uint64.r a0 s
  | _, _ => none
def cmp_isNaN_uint64.an : An := ⟨6, true, [], [], [], []⟩
theorem cmp_isNaN_uint64.ok (S : Sig) (a0 : Value) (s : St) : evG S Try.prog cmp_isNaN_uint64.ctx cmp_isNaN_uint64.an Try.f106 [a0] s = cmp_isNaN_uint64.t S a0 s := by kernel_rfl
theorem cmp_isNaN_uint64.cok : CtxOk Try.prog cmp_isNaN_uint64.ctx := .nil
theorem cmp_isNaN_uint64.draws : fnDraws cmp_isNaN_uint64.an Try.f106 = true := by kernel_rfl
theorem cmp_isNaN_uint64.can : callOk Try.prog 106 = true := by kernel_rfl
theorem cmp_isNaN_uint64.sound : FnOk Try.prog 106 (.rd cmp_isNaN_uint64.w) := FnOk.rd_of (evG_ok cmp_isNaN_uint64.cok mixed (f := 106) (fn := Try.f106) (by kernel_rfl) cmp_isNaN_uint64.draws) fun args s r h => by
  unfold cmp_isNaN_uint64.w at h; split at h
  · rw [cmp_isNaN_uint64.ok std]; exact h
  · simp at h

/-! ### cmp.Compare[uint64]: function 100 -/
def cmp_Compare_uint64.ctx : Ctx := [(106, .rd cmp_isNaN_uint64.w)]
def cmp_Compare_uint64.t (S : Sig) (a0 a1 : Value) (s : St) : Option Value :=
  S.bd (cmp_isNaN_uint64.r a0 s) fun x1 => S.bd (cmp_isNaN_uint64.r a1 s) fun x2 => S.cnd x1 (S.cnd x2 (some ((Go.Value.int Go.IntKind.i64 0))) (some ((Go.Value.int Go.IntKind.i64 (-1))))) (S.cnd x2 (some ((Go.Value.int Go.IntKind.i64 1))) (S.bd (bin .lss a0 a1) fun x3 => S.cnd x3 (some ((Go.Value.int Go.IntKind.i64 (-1)))) (S.bd (bin .gtr a0 a1) fun x4 => S.cnd x4 (some ((Go.Value.int Go.IntKind.i64 1))) (some ((Go.Value.int Go.IntKind.i64 0))))))
def cmp_Compare_uint64.r (a0 a1 : Value) (s : St) : Option Value := cmp_Compare_uint64.t std a0 a1 s
def cmp_Compare_uint64.w : List Value → St → Option Value
  | [a0, a1], s => cmp_Compare_uint64.r a0 a1 s
  | _, _ => none
def cmp_Compare_uint64.an : An := ⟨20, true, [], [], [], []⟩
theorem cmp_Compare_uint64.ok (S : Sig) (a0 a1 : Value) (s : St) : evG S Try.prog cmp_Compare_uint64.ctx cmp_Compare_uint64.an Try.f100 [a0, a1] s = cmp_Compare_uint64.t S a0 a1 s := by kernel_rfl
theorem cmp_Compare_uint64.cok : CtxOk Try.prog cmp_Compare_uint64.ctx := .cons cmp_isNaN_uint64.sound cmp_isNaN_uint64.can <| .nil
theorem cmp_Compare_uint64.draws : fnDraws cmp_Compare_uint64.an Try.f100 = true := by kernel_rfl
theorem cmp_Compare_uint64.can : callOk Try.prog 100 = true := by kernel_rfl
theorem cmp_Compare_uint64.sound : FnOk Try.prog 100 (.rd cmp_Compare_uint64.w) := FnOk.rd_of (evG_ok cmp_Compare_uint64.cok mixed (f := 100) (fn := Try.f100) (by kernel_rfl) cmp_Compare_uint64.draws) fun args s r h => by
  unfold cmp_Compare_uint64.w at h; split at h
  · rw [cmp_Compare_uint64.ok std]; exact h
  · simp at h

/-! ### cmp.Or[int]: function 98 -/
def cmp_Or_int.ctx : Ctx := []
def cmp_Or_int.l3 (S : Sig) (rec9 : List Value → St → Option Cut) (xs7 : List Value) (s8 : St) : Option Cut :=
  S.bd (bin .lss (xs7.getD 3 undef) (xs7.getD 2 undef)) fun x10 => S.cnd x10 (S.bd (idx s8 1 (xs7.getD 1 undef) (xs7.getD 3 undef)) fun x11 => S.bd (ldc s8 x11) fun x12 => S.bd (eqb [1] false true x12 (xs7.getD 0 undef)) fun x13 => S.cnd x13 (some (1, [x12], s8)) (S.bd (bin .add (xs7.getD 3 undef) (Go.Value.int Go.IntKind.i64 1)) fun x14 => rec9 [(xs7.getD 0 undef), (xs7.getD 1 undef), (xs7.getD 2 undef), x14] s8)) (some (0, [(xs7.getD 0 undef)], s8))

def cmp_Or_int.t (S : Sig) (a0 : Value) (s : St) : Option Value :=
  S.bd (lenL a0) fun x1 => S.bd (S.it (cmp_Or_int.l3 S) [(Go.Value.int Go.IntKind.i64 0), a0, x1, (Go.Value.int Go.IntKind.i64 0)] s) fun r15 => if r15.1 = 0 then (some ((r15.2.1.getD 0 undef))) else (some ((r15.2.1.getD 0 undef)))
def cmp_Or_int.r (a0 : Value) (s : St) : Option Value := cmp_Or_int.t std a0 s
def cmp_Or_int.w : List Value → St → Option Value
  | [a0], s => cmp_Or_int.r a0 s
  | _, _ => none
def cmp_Or_int.an : An := ⟨18, true, [], [(3, ⟨[.v 3, .v 6, .v 7, .v 8], [(.exit 0, [.v 3]), (.ret, [.v 2])]⟩)], [], []⟩
theorem cmp_Or_int.ok (S : Sig) (a0 : Value) (s : St) : evG S Try.prog cmp_Or_int.ctx cmp_Or_int.an Try.f98 [a0] s = cmp_Or_int.t S a0 s := by kernel_rfl
theorem cmp_Or_int.cok : CtxOk Try.prog cmp_Or_int.ctx := .nil
theorem cmp_Or_int.draws : fnDraws cmp_Or_int.an Try.f98 = true := by kernel_rfl
theorem cmp_Or_int.can : callOk Try.prog 98 = true := by kernel_rfl
theorem cmp_Or_int.sound : FnOk Try.prog 98 (.rd cmp_Or_int.w) := FnOk.rd_of (evG_ok cmp_Or_int.cok mixed (f := 98) (fn := Try.f98) (by kernel_rfl) cmp_Or_int.draws) fun args s r h => by
  unfold cmp_Or_int.w at h; split at h
  · rw [cmp_Or_int.ok std]; exact h
  · simp at h

/-! ### leapfrog/key.Compare: function 76 -/
def key_Compare.ctx : Ctx := [(99, .rd cmp_Compare_api_Rank.w), (100, .rd cmp_Compare_uint64.w), (98, .rd cmp_Or_int.w)]
def key_Compare.t (S : Sig) (a0 a1 : Value) (s : St) : Option (Value × St) :=
  S.bd (bx a0) fun c1 => S.bd (bx a1) fun c2 => S.bd (lcl c1 0) fun x3 => S.bd (lcl c2 0) fun x4 => S.bd (lcl c1 1) fun x5 => S.bd (lcl c2 1) fun x6 => S.bd (cmp_Compare_api_Rank.r x3 x4 s) fun x7 => S.bd (cmp_Compare_uint64.r x5 x6 s) fun x8 => S.bd (S.bd (bls 1 (List.replicate 2 [(Go.Value.int Go.IntKind.i64 0)]) [(0, x7), (1, x8)]) fun rows => als s 1 2 rows) fun r9 => S.bd (cmp_Or_int.r r9.1 r9.2) fun x10 => some (x10, r9.2)
def key_Compare.v (a0 a1 : Value) (s : St) : Option (Value × St) := key_Compare.t std a0 a1 s
def key_Compare.w : List Value → St → Option (Value × St)
  | [a0, a1], s => key_Compare.v a0 a1 s
  | _, _ => none
def key_Compare.an : An := ⟨17, false, [2, 3], [], [], [(1, [(0, 0), (1, 17), (2, 0), (3, 25), (5, 0), (6, 17), (7, 0), (8, 25), (4, 3), (9, 3), (10, 3), (11, 3), (12, 0)])]⟩
theorem key_Compare.ok (S : Sig) (a0 a1 : Value) (s : St) : evF S Try.prog key_Compare.ctx key_Compare.an Try.f76 [a0, a1] s = key_Compare.t S a0 a1 s := by kernel_rfl
theorem key_Compare.cok : CtxOk Try.prog key_Compare.ctx := .cons cmp_Compare_api_Rank.sound cmp_Compare_api_Rank.can <| .cons cmp_Compare_uint64.sound cmp_Compare_uint64.can <| .cons cmp_Or_int.sound cmp_Or_int.can <| .nil
theorem key_Compare.draws : fnDraws key_Compare.an Try.f76 = true := by kernel_rfl
theorem key_Compare.can : callOk Try.prog 76 = true := by kernel_rfl
theorem key_Compare.sound : FnOk Try.prog 76 (.st key_Compare.w) := FnOk.st_of (evF_ok key_Compare.cok mixed (f := 76) (fn := Try.f76) (by kernel_rfl) key_Compare.draws) fun args s r h => by
  unfold key_Compare.w at h; split at h
  · rw [key_Compare.ok std]; exact h
  · simp at h

/-! ### leapfrog/key.Compare: function 76, as a reading -/
def key_CompareQ.r (a0 a1 : Value) (s : St) : Option Value := frzR (fun s => key_Compare.v a0 a1 s) s
def key_CompareQ.w : List Value → St → Option Value := fun args s => frzR (key_Compare.w args) s
theorem key_CompareQ.can : callOk Try.prog 76 = true := key_Compare.can
theorem key_CompareQ.sound : FnOk Try.prog 76 (.rd key_CompareQ.w) := FnOk.frozen key_Compare.sound

/-! ### leapfrog/key.Less: function 36 -/
def key_Less.ctx : Ctx := [(76, .rd key_CompareQ.w)]
def key_Less.t (S : Sig) (a0 a1 : Value) (s : St) : Option Value :=
  S.bd (bx a0) fun c1 => S.bd (bx a1) fun c2 => S.bd (lal c1 0 2) fun x3 => S.bd (lal c2 0 2) fun x4 => S.bd (key_CompareQ.r x3 x4 s) fun x5 => S.bd (bin .lss x5 (Go.Value.int Go.IntKind.i64 0)) fun x6 => some (x6)
def key_Less.r (a0 a1 : Value) (s : St) : Option Value := key_Less.t std a0 a1 s
def key_Less.w : List Value → St → Option Value
  | [a0, a1], s => key_Less.r a0 a1 s
  | _, _ => none
def key_Less.an : An := ⟨9, true, [2, 3], [], [], []⟩
theorem key_Less.ok (S : Sig) (a0 a1 : Value) (s : St) : evG S Try.prog key_Less.ctx key_Less.an Try.f36 [a0, a1] s = key_Less.t S a0 a1 s := by kernel_rfl
theorem key_Less.cok : CtxOk Try.prog key_Less.ctx := .cons key_CompareQ.sound key_CompareQ.can <| .nil
theorem key_Less.draws : fnDraws key_Less.an Try.f36 = true := by kernel_rfl
theorem key_Less.can : callOk Try.prog 36 = true := by kernel_rfl
theorem key_Less.sound : FnOk Try.prog 36 (.rd key_Less.w) := FnOk.rd_of (evG_ok key_Less.cok mixed (f := 36) (fn := Try.f36) (by kernel_rfl) key_Less.draws) fun args s r h => by
  unfold key_Less.w at h; split at h
  · rw [key_Less.ok std]; exact h
  · simp at h

/-! ### (*leapfrog/splice.Splice).free: function 45 -/
def splice_Splice_free.ctx : Ctx := []
def splice_Splice_free.t (S : Sig) (a0 a1 : Value) (s : St) : Option (Value × St) :=
  S.bd (nck a0) fun x1 => S.bd (fld 26 x1) fun x2 => S.bd (ldc s x2) fun x3 => S.cnd x3 (S.bd (callV (splice_Splice_free.ctx) a1 [] s) fun r4 => some ((Value.tuple ⟨[]⟩), r4.2)) (S.bd (nck a0) fun x5 => S.bd (fld 14 x5) fun x6 => S.bd (stv s 1 x6 (Go.Value.int Go.IntKind.i64 8)) fun s7 => S.bd (nck a0) fun x8 => S.bd (fld 28 x8) fun x9 => S.bd (stv s7 1 x9 a1) fun s10 => some ((Value.tuple ⟨[]⟩), s10))
def splice_Splice_free.v (a0 a1 : Value) (s : St) : Option (Value × St) := splice_Splice_free.t std a0 a1 s
def splice_Splice_free.w : List Value → St → Option (Value × St)
  | [a0, a1], s => splice_Splice_free.v a0 a1 s
  | _, _ => none
def splice_Splice_free.an : An := ⟨17, false, [], [], [], []⟩
theorem splice_Splice_free.ok (S : Sig) (a0 a1 : Value) (s : St) : evF S Try.prog splice_Splice_free.ctx splice_Splice_free.an Try.f45 [a0, a1] s = splice_Splice_free.t S a0 a1 s := by kernel_rfl
theorem splice_Splice_free.cok : CtxOk Try.prog splice_Splice_free.ctx := .nil
theorem splice_Splice_free.draws : fnDraws splice_Splice_free.an Try.f45 = true := by kernel_rfl
theorem splice_Splice_free.can : callOk Try.prog 45 = true := by kernel_rfl
theorem splice_Splice_free.sound : FnOk Try.prog 45 (.st splice_Splice_free.w) := FnOk.st_of (evF_ok splice_Splice_free.cok mixed (f := 45) (fn := Try.f45) (by kernel_rfl) splice_Splice_free.draws) fun args s r h => by
  unfold splice_Splice_free.w at h; split at h
  · rw [splice_Splice_free.ok std]; exact h
  · simp at h

/-! ### (*leapfrog/splice.Splice).fail: function 52 -/
def splice_Splice_fail.ctx : Ctx := [(45, .st splice_Splice_free.w)]
def splice_Splice_fail.t (S : Sig) (a0 a1 : Value) (s : St) : Option (Value × St) :=
  S.bd (alv s a0) fun r1 => S.bd (alv r1.2 a1) fun r2 => S.bd (ldc r2.2 r1.1) fun x3 => S.bd (splice_Splice_free.v x3 (Value.func (.func 82) ⟨[]⟩ ⟨[r1.1, r2.1]⟩) r2.2) fun r4 => some ((Value.tuple ⟨[]⟩), r4.2)
def splice_Splice_fail.v (a0 a1 : Value) (s : St) : Option (Value × St) := splice_Splice_fail.t std a0 a1 s
def splice_Splice_fail.w : List Value → St → Option (Value × St)
  | [a0, a1], s => splice_Splice_fail.v a0 a1 s
  | _, _ => none
def splice_Splice_fail.an : An := ⟨7, false, [], [], [], []⟩
theorem splice_Splice_fail.ok (S : Sig) (a0 a1 : Value) (s : St) : evF S Try.prog splice_Splice_fail.ctx splice_Splice_fail.an Try.f52 [a0, a1] s = splice_Splice_fail.t S a0 a1 s := by kernel_rfl
theorem splice_Splice_fail.cok : CtxOk Try.prog splice_Splice_fail.ctx := .cons splice_Splice_free.sound splice_Splice_free.can <| .nil
theorem splice_Splice_fail.draws : fnDraws splice_Splice_fail.an Try.f52 = true := by kernel_rfl
theorem splice_Splice_fail.can : callOk Try.prog 52 = true := by kernel_rfl
theorem splice_Splice_fail.sound : FnOk Try.prog 52 (.st splice_Splice_fail.w) := FnOk.st_of (evF_ok splice_Splice_fail.cok mixed (f := 52) (fn := Try.f52) (by kernel_rfl) splice_Splice_fail.draws) fun args s r h => by
  unfold splice_Splice_fail.w at h; split at h
  · rw [splice_Splice_fail.ok std]; exact h
  · simp at h

/-! ### (*leapfrog/splice.Splice).wait: function 48 -/
def splice_Splice_wait.ctx : Ctx := [(45, .st splice_Splice_free.w)]
def splice_Splice_wait.t (S : Sig) (a0 : Value) (s : St) : Option (Value × St) :=
  S.bd (alv s a0) fun r1 => S.bd (ldc r1.2 r1.1) fun x2 => S.bd (splice_Splice_free.v x2 (Value.func (.func 80) ⟨[]⟩ ⟨[r1.1]⟩) r1.2) fun r3 => some ((Value.tuple ⟨[]⟩), r3.2)
def splice_Splice_wait.v (a0 : Value) (s : St) : Option (Value × St) := splice_Splice_wait.t std a0 s
def splice_Splice_wait.w : List Value → St → Option (Value × St)
  | [a0], s => splice_Splice_wait.v a0 s
  | _, _ => none
def splice_Splice_wait.an : An := ⟨5, false, [], [], [], []⟩
theorem splice_Splice_wait.ok (S : Sig) (a0 : Value) (s : St) : evF S Try.prog splice_Splice_wait.ctx splice_Splice_wait.an Try.f48 [a0] s = splice_Splice_wait.t S a0 s := by kernel_rfl
theorem splice_Splice_wait.cok : CtxOk Try.prog splice_Splice_wait.ctx := .cons splice_Splice_free.sound splice_Splice_free.can <| .nil
theorem splice_Splice_wait.draws : fnDraws splice_Splice_wait.an Try.f48 = true := by kernel_rfl
theorem splice_Splice_wait.can : callOk Try.prog 48 = true := by kernel_rfl
theorem splice_Splice_wait.sound : FnOk Try.prog 48 (.st splice_Splice_wait.w) := FnOk.st_of (evF_ok splice_Splice_wait.cok mixed (f := 48) (fn := Try.f48) (by kernel_rfl) splice_Splice_wait.draws) fun args s r h => by
  unfold splice_Splice_wait.w at h; split at h
  · rw [splice_Splice_wait.ok std]; exact h
  · simp at h

/-! ### (*leapfrog/splice.Splice).look: function 79 -/
def splice_Splice_look.ctx : Ctx := [(36, .rd key_Less.w), (52, .st splice_Splice_fail.w), (45, .st splice_Splice_free.w), (48, .st splice_Splice_wait.w)]
def splice_Splice_look.t (S : Sig) (a0 : Value) (s : St) : Option (Value × St) :=
  S.bd (alv s a0) fun r1 => S.bd (ldc r1.2 r1.1) fun x2 => S.bd (nck x2) fun x3 => S.bd (fld 15 x3) fun x4 => S.bd (fld 1 x4) fun x5 => S.bd (lda r1.2 2 x5) fun x6 => S.bd (ldc r1.2 r1.1) fun x7 => S.bd (nck x7) fun x8 => S.bd (fld 21 x8) fun x9 => S.bd (fld 1 x9) fun x10 => S.bd (lda r1.2 2 x10) fun x11 => S.bd (key_Less.r x6 x11 r1.2) fun x12 => S.bd (un .not x12) fun x13 => S.cnd x13 (S.bd (ldc r1.2 r1.1) fun x14 => S.bd (splice_Splice_fail.v x14 (Go.Value.int Go.IntKind.i64 131) r1.2) fun r15 => some ((Value.tuple ⟨[]⟩), r15.2)) (S.bd (ldc r1.2 r1.1) fun x16 => S.bd (nck x16) fun x17 => S.bd (fld 21 x17) fun x18 => S.bd (fld 1 x18) fun x19 => S.bd (lda r1.2 2 x19) fun x20 => S.bd (ldc r1.2 r1.1) fun x21 => S.bd (nck x21) fun x22 => S.bd (fld 0 x22) fun x23 => S.bd (fld 2 x23) fun x24 => S.bd (fld 1 x24) fun x25 => S.bd (lda r1.2 2 x25) fun x26 => S.bd (key_Less.r x20 x26 r1.2) fun x27 => S.cnd x27 (S.bd (ldc r1.2 r1.1) fun x28 => S.bd (splice_Splice_free.v x28 (Value.func (.func 101) ⟨[]⟩ ⟨[r1.1]⟩) r1.2) fun r29 => some ((Value.tuple ⟨[]⟩), r29.2)) (S.bd (ldc r1.2 r1.1) fun x30 => S.bd (nck x30) fun x31 => S.bd (fld 21 x31) fun x32 => S.bd (fld 1 x32) fun x33 => S.bd (lda r1.2 2 x33) fun x34 => S.bd (ldc r1.2 r1.1) fun x35 => S.bd (nck x35) fun x36 => S.bd (fld 0 x36) fun x37 => S.bd (fld 2 x37) fun x38 => S.bd (fld 1 x38) fun x39 => S.bd (lda r1.2 2 x39) fun x40 => S.bd (eqb [1, 1] true true x34 x40) fun x41 => S.cnd x41 (S.bd (ldc r1.2 r1.1) fun x42 => S.bd (nck x42) fun x43 => S.bd (fld 14 x43) fun x44 => S.bd (stv r1.2 1 x44 (Go.Value.int Go.IntKind.i64 3)) fun s45 => some ((Value.tuple ⟨[]⟩), s45)) (S.bd (ldc r1.2 r1.1) fun x46 => S.bd (nck x46) fun x47 => S.bd (fld 0 x47) fun x48 => S.bd (fld 0 x48) fun x49 => S.bd (fld 0 x49) fun x50 => S.bd (ldc r1.2 x50) fun x51 => S.bd (bin .gtr x51 (Go.Value.int Go.IntKind.i64 0)) fun x52 => S.cnd x52 (S.bd (ldc r1.2 r1.1) fun x53 => S.bd (splice_Splice_wait.v x53 r1.2) fun r54 => some ((Value.tuple ⟨[]⟩), r54.2)) (S.bd (ldc r1.2 r1.1) fun x55 => S.bd (nck x55) fun x56 => S.bd (fld 14 x56) fun x57 => S.bd (stv r1.2 1 x57 (Go.Value.int Go.IntKind.i64 2)) fun s58 => some ((Value.tuple ⟨[]⟩), s58)))))
def splice_Splice_look.v (a0 : Value) (s : St) : Option (Value × St) := splice_Splice_look.t std a0 s
def splice_Splice_look.w : List Value → St → Option (Value × St)
  | [a0], s => splice_Splice_look.v a0 s
  | _, _ => none
def splice_Splice_look.an : An := ⟨62, false, [], [], [], [(2, [(0, 2), (1, 0), (2, 0), (3, 0), (4, 2), (5, 2), (6, 0), (7, 0), (8, 0), (9, 2), (10, 3), (11, 0), (12, 0)]), (4, [(0, 2), (1, 0), (2, 0), (3, 0), (4, 2), (5, 2), (6, 0), (7, 0), (8, 0), (9, 0), (10, 2), (11, 3), (12, 0)]), (6, [(0, 2), (1, 0), (2, 0), (3, 0), (4, 2), (5, 2), (6, 0), (7, 0), (8, 0), (9, 0), (10, 2), (11, 0), (12, 0)])]⟩
theorem splice_Splice_look.ok (S : Sig) (a0 : Value) (s : St) : evF S Try.prog splice_Splice_look.ctx splice_Splice_look.an Try.f79 [a0] s = splice_Splice_look.t S a0 s := by kernel_rfl
theorem splice_Splice_look.cok : CtxOk Try.prog splice_Splice_look.ctx := .cons key_Less.sound key_Less.can <| .cons splice_Splice_fail.sound splice_Splice_fail.can <| .cons splice_Splice_free.sound splice_Splice_free.can <| .cons splice_Splice_wait.sound splice_Splice_wait.can <| .nil
theorem splice_Splice_look.draws : fnDraws splice_Splice_look.an Try.f79 = true := by kernel_rfl
theorem splice_Splice_look.can : callOk Try.prog 79 = true := by kernel_rfl
theorem splice_Splice_look.sound : FnOk Try.prog 79 (.st splice_Splice_look.w) := FnOk.st_of (evF_ok splice_Splice_look.cok mixed (f := 79) (fn := Try.f79) (by kernel_rfl) splice_Splice_look.draws) fun args s r h => by
  unfold splice_Splice_look.w at h; split at h
  · rw [splice_Splice_look.ok std]; exact h
  · simp at h

/-! ### (*leapfrog/splice.Splice).end: function 47 -/
def splice_Splice_end.ctx : Ctx := []
def splice_Splice_end.t (S : Sig) (a0 a1 : Value) (s : St) : Option (Value × St) :=
  S.bd (bx a1) fun c1 => S.bd (lal c1 0 15) fun x2 => S.bd (nck a0) fun x3 => S.bd (fld 14 x3) fun x4 => S.bd (stv s 1 x4 (Go.Value.int Go.IntKind.i64 10)) fun s5 => S.bd (nck a0) fun x6 => S.bd (fld 29 x6) fun x7 => S.bd (stv s5 15 x7 x2) fun s8 => some ((Value.tuple ⟨[]⟩), s8)
def splice_Splice_end.v (a0 a1 : Value) (s : St) : Option (Value × St) := splice_Splice_end.t std a0 a1 s
def splice_Splice_end.w : List Value → St → Option (Value × St)
  | [a0, a1], s => splice_Splice_end.v a0 a1 s
  | _, _ => none
def splice_Splice_end.an : An := ⟨11, false, [3], [], [], [(1, [(0, 0), (1, 0), (2, 25), (3, 0), (4, 0), (5, 4), (6, 0), (7, 0), (8, 4)])]⟩
theorem splice_Splice_end.ok (S : Sig) (a0 a1 : Value) (s : St) : evF S Try.prog splice_Splice_end.ctx splice_Splice_end.an Try.f47 [a0, a1] s = splice_Splice_end.t S a0 a1 s := by kernel_rfl
theorem splice_Splice_end.cok : CtxOk Try.prog splice_Splice_end.ctx := .nil
theorem splice_Splice_end.draws : fnDraws splice_Splice_end.an Try.f47 = true := by kernel_rfl
theorem splice_Splice_end.can : callOk Try.prog 47 = true := by kernel_rfl
theorem splice_Splice_end.sound : FnOk Try.prog 47 (.st splice_Splice_end.w) := FnOk.st_of (evF_ok splice_Splice_end.cok mixed (f := 47) (fn := Try.f47) (by kernel_rfl) splice_Splice_end.draws) fun args s r h => by
  unfold splice_Splice_end.w at h; split at h
  · rw [splice_Splice_end.ok std]; exact h
  · simp at h

/-! ### (*leapfrog/splice.Splice).locked: function 44 -/
def splice_Splice_locked.ctx : Ctx := [(79, .st splice_Splice_look.w), (47, .st splice_Splice_end.w)]
def splice_Splice_locked.t (S : Sig) (a0 a1 : Value) (s : St) : Option (Value × St) :=
  S.bd (bx a1) fun c1 => S.bd (lcl c1 0) fun x2 => S.bd (show Option Cut from S.bd (show Option Cut from S.bd (eqb [1] false false x2 (Go.Value.int Go.IntKind.i64 1)) fun x40 => S.cnd x40 (S.bd (lal c1 7 5) fun x41 => S.bd (nck a0) fun x42 => S.bd (fld 21 x42) fun x43 => S.bd (stv s 5 x43 x41) fun s44 => S.bd (splice_Splice_look.v a0 s44) fun r45 => some (0, [], r45.2)) (S.bd (eqb [1] false false x2 (Go.Value.int Go.IntKind.i64 2)) fun x46 => S.cnd x46 (some (2, [a0], s)) (S.bd (eqb [1] false false x2 (Go.Value.int Go.IntKind.i64 3)) fun x47 => S.cnd x47 (some (2, [a0], s)) (some (1, [a0], s))))) fun r48 => if r48.1 = 0 then (some (0, [], r48.2.2)) else (if r48.1 = 1 then (some (1, [(r48.2.1.getD 0 undef)], r48.2.2)) else (S.bd (nck (r48.2.1.getD 0 undef)) fun x49 => S.bd (fld 20 x49) fun x50 => S.bd (ldc r48.2.2 x50) fun x51 => S.bd (eqb [3] false false x51 (Go.Value.pointer Option.none)) fun x52 => S.cnd x52 (S.bd (bld [(Go.Value.int Go.IntKind.i64 0), (Go.Value.int Go.IntKind.u64 0), (Go.Value.slice Option.none 0 0), (Go.Value.slice Option.none 0 0), (Go.Value.int Go.IntKind.i64 0), (Go.Value.int Go.IntKind.i64 0), (Go.Value.int Go.IntKind.u64 0), (Go.Value.int Go.IntKind.i64 0), (Go.Value.int Go.IntKind.u64 0), (Go.Value.int Go.IntKind.i64 0), (Go.Value.int Go.IntKind.i64 0), (Go.Value.int Go.IntKind.u64 0), (Go.Value.int Go.IntKind.i64 0), (Go.Value.int Go.IntKind.u64 0), (Go.Value.bool Bool.false)] [(0, 1, (Go.Value.int Go.IntKind.i64 131))]) fun x53 => S.bd (splice_Splice_end.v (r48.2.1.getD 0 undef) x53 r48.2.2) fun r54 => some (2, [], r54.2)) (S.bd (nck (r48.2.1.getD 0 undef)) fun x55 => S.bd (fld 20 x55) fun x56 => S.bd (ldc r48.2.2 x56) fun x57 => S.bd (nck x57) fun x58 => S.bd (lda r48.2.2 5 x58) fun x59 => S.bd (nck (r48.2.1.getD 0 undef)) fun x60 => S.bd (fld 15 x60) fun x61 => S.bd (stv r48.2.2 5 x61 x59) fun s62 => S.bd (nck (r48.2.1.getD 0 undef)) fun x63 => S.bd (fld 20 x63) fun x64 => S.bd (stv s62 1 x64 (Go.Value.pointer Option.none)) fun s65 => S.bd (nck (r48.2.1.getD 0 undef)) fun x66 => S.bd (fld 14 x66) fun x67 => S.bd (stv s65 1 x67 (Go.Value.int Go.IntKind.i64 9)) fun s68 => some (0, [], s68))))) fun r69 => if r69.1 = 0 then (some ((Value.tuple ⟨[]⟩), r69.2.2)) else (if r69.1 = 1 then (S.bd (nck (r69.2.1.getD 0 undef)) fun x70 => S.bd (fld 14 x70) fun x71 => S.bd (stv r69.2.2 1 x71 (Go.Value.int Go.IntKind.i64 9)) fun s72 => some ((Value.tuple ⟨[]⟩), s72)) else (some ((Value.tuple ⟨[]⟩), r69.2.2)))
def splice_Splice_locked.v (a0 a1 : Value) (s : St) : Option (Value × St) := splice_Splice_locked.t std a0 a1 s
def splice_Splice_locked.w : List Value → St → Option (Value × St)
  | [a0, a1], s => splice_Splice_locked.v a0 a1 s
  | _, _ => none
def splice_Splice_locked.an : An := ⟨45, false, [3], [], [(7, ⟨[], [(.exit 0, []), (.exit 4, [.v 0]), (.normal, [.v 0])]⟩), (10, ⟨[], [(.exit 0, []), (.normal, [.v 0]), (.ret, [])]⟩)], []⟩
theorem splice_Splice_locked.ok (S : Sig) (a0 a1 : Value) (s : St) : evF S Try.prog splice_Splice_locked.ctx splice_Splice_locked.an Try.f44 [a0, a1] s = splice_Splice_locked.t S a0 a1 s := by kernel_rfl
theorem splice_Splice_locked.cok : CtxOk Try.prog splice_Splice_locked.ctx := .cons splice_Splice_look.sound splice_Splice_look.can <| .cons splice_Splice_end.sound splice_Splice_end.can <| .nil
theorem splice_Splice_locked.draws : fnDraws splice_Splice_locked.an Try.f44 = true := by kernel_rfl
theorem splice_Splice_locked.can : callOk Try.prog 44 = true := by kernel_rfl
theorem splice_Splice_locked.sound : FnOk Try.prog 44 (.st splice_Splice_locked.w) := FnOk.st_of (evF_ok splice_Splice_locked.cok mixed (f := 44) (fn := Try.f44) (by kernel_rfl) splice_Splice_locked.draws) fun args s r h => by
  unfold splice_Splice_locked.w at h; split at h
  · rw [splice_Splice_locked.ok std]; exact h
  · simp at h

/-! ### (*leapfrog/splice.Splice).entered: function 49 -/
def splice_Splice_entered.ctx : Ctx := [(52, .st splice_Splice_fail.w)]
def splice_Splice_entered.t (S : Sig) (a0 a1 : Value) (s : St) : Option (Value × St) :=
  S.bd (bx a1) fun c1 => S.bd (lcl c1 0) fun x2 => S.bd (eqb [1] false false x2 (Go.Value.int Go.IntKind.i64 1)) fun x3 => S.cnd x3 (S.bd (nck a0) fun x4 => S.bd (fld 14 x4) fun x5 => S.bd (stv s 1 x5 (Go.Value.int Go.IntKind.i64 4)) fun s6 => some ((Value.tuple ⟨[]⟩), s6)) (S.bd (eqb [1] false false x2 (Go.Value.int Go.IntKind.i64 3)) fun x7 => S.cnd x7 (S.bd (splice_Splice_fail.v a0 (Go.Value.int Go.IntKind.i64 132) s) fun r8 => some ((Value.tuple ⟨[]⟩), r8.2)) (S.bd (splice_Splice_fail.v a0 (Go.Value.int Go.IntKind.i64 133) s) fun r9 => some ((Value.tuple ⟨[]⟩), r9.2)))
def splice_Splice_entered.v (a0 a1 : Value) (s : St) : Option (Value × St) := splice_Splice_entered.t std a0 a1 s
def splice_Splice_entered.w : List Value → St → Option (Value × St)
  | [a0, a1], s => splice_Splice_entered.v a0 a1 s
  | _, _ => none
def splice_Splice_entered.an : An := ⟨17, false, [3], [], [], []⟩
theorem splice_Splice_entered.ok (S : Sig) (a0 a1 : Value) (s : St) : evF S Try.prog splice_Splice_entered.ctx splice_Splice_entered.an Try.f49 [a0, a1] s = splice_Splice_entered.t S a0 a1 s := by kernel_rfl
theorem splice_Splice_entered.cok : CtxOk Try.prog splice_Splice_entered.ctx := .cons splice_Splice_fail.sound splice_Splice_fail.can <| .nil
theorem splice_Splice_entered.draws : fnDraws splice_Splice_entered.an Try.f49 = true := by kernel_rfl
theorem splice_Splice_entered.can : callOk Try.prog 49 = true := by kernel_rfl
theorem splice_Splice_entered.sound : FnOk Try.prog 49 (.st splice_Splice_entered.w) := FnOk.st_of (evF_ok splice_Splice_entered.cok mixed (f := 49) (fn := Try.f49) (by kernel_rfl) splice_Splice_entered.draws) fun args s r h => by
  unfold splice_Splice_entered.w at h; split at h
  · rw [splice_Splice_entered.ok std]; exact h
  · simp at h

/-! ### (*leapfrog/splice.Splice).righted: function 50 -/
def splice_Splice_righted.ctx : Ctx := []
def splice_Splice_righted.t (S : Sig) (a0 a1 : Value) (s : St) : Option (Value × St) :=
  S.bd (bx a1) fun c1 => S.bd (lcl c1 0) fun x2 => S.bd (eqb [1] false false x2 (Go.Value.int Go.IntKind.i64 3)) fun x3 => S.bd (nck a0) fun x4 => S.bd (fld 26 x4) fun x5 => S.bd (stv s 1 x5 x3) fun s6 => S.bd (lcl c1 0) fun x7 => S.bd (eqb [1] false false x7 (Go.Value.int Go.IntKind.i64 1)) fun x8 => S.bd (S.gd x8 false (some a0)) fun x9 => S.bd (S.gd x8 false (nck x9)) fun x10 => S.bd (S.gd x8 false (fld 26 x10)) fun x11 => S.bd (S.gd x8 false (ldc s6 x11)) fun x12 => S.bd (S.gd x8 false (some x12)) fun x13 => S.bd (S.gd x13 true (lcl c1 7)) fun x14 => S.bd (S.gd x13 true (some a0)) fun x15 => S.bd (S.gd x13 true (nck x15)) fun x16 => S.bd (S.gd x13 true (fld 0 x16)) fun x17 => S.bd (S.gd x13 true (fld 2 x17)) fun x18 => S.bd (S.gd x13 true (fld 0 x18)) fun x19 => S.bd (S.gd x13 true (ldc s6 x19)) fun x20 => S.bd (S.gd x13 true (eqb [1] false false x14 x20)) fun x21 => S.bd (S.gd x8 false (pik x13 x21 (Go.Value.bool Bool.false))) fun x22 => S.bd (pik x8 (Go.Value.bool Bool.true) x22) fun x23 => S.cnd x23 (S.bd (nck a0) fun x24 => S.bd (fld 14 x24) fun x25 => S.bd (stv s6 1 x25 (Go.Value.int Go.IntKind.i64 5)) fun s26 => some ((Value.tuple ⟨[]⟩), s26)) (S.bd (nck a0) fun x27 => S.bd (fld 14 x27) fun x28 => S.bd (stv s6 1 x28 (Go.Value.int Go.IntKind.i64 7)) fun s29 => some ((Value.tuple ⟨[]⟩), s29))
def splice_Splice_righted.v (a0 a1 : Value) (s : St) : Option (Value × St) := splice_Splice_righted.t std a0 a1 s
def splice_Splice_righted.w : List Value → St → Option (Value × St)
  | [a0, a1], s => splice_Splice_righted.v a0 a1 s
  | _, _ => none
def splice_Splice_righted.an : An := ⟨37, false, [3], [], [], [(2, [(0, 0), (1, 25), (2, 0), (3, 0), (4, 0), (5, 0), (6, 0), (7, 2), (8, 0), (9, 0), (10, 0), (11, 25), (12, 0), (13, 0), (14, 0), (15, 0), (16, 0), (17, 2), (18, 0), (19, 0), (20, 0)])]⟩
theorem splice_Splice_righted.ok (S : Sig) (a0 a1 : Value) (s : St) : evF S Try.prog splice_Splice_righted.ctx splice_Splice_righted.an Try.f50 [a0, a1] s = splice_Splice_righted.t S a0 a1 s := by kernel_rfl
theorem splice_Splice_righted.cok : CtxOk Try.prog splice_Splice_righted.ctx := .nil
theorem splice_Splice_righted.draws : fnDraws splice_Splice_righted.an Try.f50 = true := by kernel_rfl
theorem splice_Splice_righted.can : callOk Try.prog 50 = true := by kernel_rfl
theorem splice_Splice_righted.sound : FnOk Try.prog 50 (.st splice_Splice_righted.w) := FnOk.st_of (evF_ok splice_Splice_righted.cok mixed (f := 50) (fn := Try.f50) (by kernel_rfl) splice_Splice_righted.draws) fun args s r h => by
  unfold splice_Splice_righted.w at h; split at h
  · rw [splice_Splice_righted.ok std]; exact h
  · simp at h

/-! ### (*leapfrog/splice.Splice).done: function 51 -/
def splice_Splice_done.ctx : Ctx := [(45, .st splice_Splice_free.w)]
def splice_Splice_done.t (S : Sig) (a0 : Value) (s : St) : Option (Value × St) :=
  S.bd (alv s a0) fun r1 => S.bd (ldc r1.2 r1.1) fun x2 => S.bd (nck x2) fun x3 => S.bd (fld 15 x3) fun x4 => S.bd (lda r1.2 5 x4) fun x5 => S.bd (ldc r1.2 r1.1) fun x6 => S.bd (nck x6) fun x7 => S.bd (fld 21 x7) fun x8 => S.bd (lda r1.2 5 x8) fun x9 => S.bd (bld [(Go.Value.int Go.IntKind.i64 0), (Go.Value.int Go.IntKind.u64 0), (Go.Value.slice Option.none 0 0), (Go.Value.slice Option.none 0 0), (Go.Value.int Go.IntKind.i64 0), (Go.Value.int Go.IntKind.i64 0), (Go.Value.int Go.IntKind.u64 0), (Go.Value.int Go.IntKind.i64 0), (Go.Value.int Go.IntKind.u64 0), (Go.Value.int Go.IntKind.i64 0), (Go.Value.int Go.IntKind.i64 0), (Go.Value.int Go.IntKind.u64 0), (Go.Value.int Go.IntKind.i64 0), (Go.Value.int Go.IntKind.u64 0), (Go.Value.bool Bool.false)] [(4, 5, x5), (9, 5, x9)]) fun x10 => S.bd (alv r1.2 (Go.Value.agg #[(Go.Value.int Go.IntKind.i64 0), (Go.Value.int Go.IntKind.u64 0), (Go.Value.slice Option.none 0 0), (Go.Value.slice Option.none 0 0), (Go.Value.int Go.IntKind.i64 0), (Go.Value.int Go.IntKind.i64 0), (Go.Value.int Go.IntKind.u64 0), (Go.Value.int Go.IntKind.i64 0), (Go.Value.int Go.IntKind.u64 0), (Go.Value.int Go.IntKind.i64 0), (Go.Value.int Go.IntKind.i64 0), (Go.Value.int Go.IntKind.u64 0), (Go.Value.int Go.IntKind.i64 0), (Go.Value.int Go.IntKind.u64 0), (Go.Value.bool Bool.false)])) fun r11 => S.bd (stv r11.2 15 r11.1 x10) fun s12 => S.bd (ldc s12 r1.1) fun x13 => S.bd (nck x13) fun x14 => S.bd (fld 27 x14) fun x15 => S.bd (ldc s12 x15) fun x16 => S.cnd x16 (S.bd (bld [(Go.Value.int Go.IntKind.i64 0), (Go.Value.int Go.IntKind.u64 0), (Go.Value.slice Option.none 0 0), (Go.Value.slice Option.none 0 0), (Go.Value.int Go.IntKind.i64 0), (Go.Value.int Go.IntKind.i64 0), (Go.Value.int Go.IntKind.u64 0), (Go.Value.int Go.IntKind.i64 0), (Go.Value.int Go.IntKind.u64 0), (Go.Value.int Go.IntKind.i64 0), (Go.Value.int Go.IntKind.i64 0), (Go.Value.int Go.IntKind.u64 0), (Go.Value.int Go.IntKind.i64 0), (Go.Value.int Go.IntKind.u64 0), (Go.Value.bool Bool.false)] [(0, 1, (Go.Value.int Go.IntKind.i64 132))]) fun x17 => S.bd (stv s12 15 r11.1 x17) fun s18 => S.bd (ldc s18 r1.1) fun x19 => S.bd (splice_Splice_free.v x19 (Value.func (.func 81) ⟨[]⟩ ⟨[r1.1, r11.1]⟩) s18) fun r20 => some ((Value.tuple ⟨[]⟩), r20.2)) (S.bd (ldc s12 r1.1) fun x21 => S.bd (splice_Splice_free.v x21 (Value.func (.func 81) ⟨[]⟩ ⟨[r1.1, r11.1]⟩) s12) fun r22 => some ((Value.tuple ⟨[]⟩), r22.2))
def splice_Splice_done.v (a0 : Value) (s : St) : Option (Value × St) := splice_Splice_done.t std a0 s
def splice_Splice_done.w : List Value → St → Option (Value × St)
  | [a0], s => splice_Splice_done.v a0 s
  | _, _ => none
def splice_Splice_done.an : An := ⟨20, false, [], [], [], [(1, [(0, 2), (1, 0), (2, 0), (3, 2), (4, 2), (5, 0), (6, 0), (7, 2), (8, 0), (9, 3), (10, 4)])]⟩
theorem splice_Splice_done.ok (S : Sig) (a0 : Value) (s : St) : evF S Try.prog splice_Splice_done.ctx splice_Splice_done.an Try.f51 [a0] s = splice_Splice_done.t S a0 s := by kernel_rfl
theorem splice_Splice_done.cok : CtxOk Try.prog splice_Splice_done.ctx := .cons splice_Splice_free.sound splice_Splice_free.can <| .nil
theorem splice_Splice_done.draws : fnDraws splice_Splice_done.an Try.f51 = true := by kernel_rfl
theorem splice_Splice_done.can : callOk Try.prog 51 = true := by kernel_rfl
theorem splice_Splice_done.sound : FnOk Try.prog 51 (.st splice_Splice_done.w) := FnOk.st_of (evF_ok splice_Splice_done.cok mixed (f := 51) (fn := Try.f51) (by kernel_rfl) splice_Splice_done.draws) fun args s r h => by
  unfold splice_Splice_done.w at h; split at h
  · rw [splice_Splice_done.ok std]; exact h
  · simp at h

/-! ### (*leapfrog/splice.Splice).Tell: function 19 -/
def splice_Splice_Tell.ctx : Ctx := [(44, .st splice_Splice_locked.w), (45, .st splice_Splice_free.w), (48, .st splice_Splice_wait.w), (49, .st splice_Splice_entered.w), (50, .st splice_Splice_righted.w), (51, .st splice_Splice_done.w), (52, .st splice_Splice_fail.w)]
def splice_Splice_Tell.t (S : Sig) (a0 a1 : Value) (s : St) : Option (Value × St) :=
  S.bd (alv s a0) fun r1 => S.bd (bx a1) fun c2 => S.bd (ldc r1.2 r1.1) fun x3 => S.bd (eqb [3] false false x3 (Go.Value.pointer Option.none)) fun x4 => S.cnd x4 (some ((Value.tuple ⟨[]⟩), r1.2)) (S.bd (ldc r1.2 r1.1) fun x5 => S.bd (nck x5) fun x6 => S.bd (fld 14 x6) fun x7 => S.bd (ldc r1.2 x7) fun x8 => S.bd (eqb [1] false false x8 (Go.Value.int Go.IntKind.i64 1)) fun x9 => S.cnd x9 (S.bd (ldc r1.2 r1.1) fun x10 => S.bd (lal c2 0 13) fun x11 => S.bd (splice_Splice_locked.v x10 x11 r1.2) fun r12 => some ((Value.tuple ⟨[]⟩), r12.2)) (S.bd (eqb [1] false false x8 (Go.Value.int Go.IntKind.i64 2)) fun x13 => S.cnd x13 (S.bd (lcl c2 0) fun x14 => S.bd (eqb [1] false false x14 (Go.Value.int Go.IntKind.i64 1)) fun x15 => S.bd (S.gd x15 true (lcl c2 1)) fun x16 => S.bd (S.gd x15 true (un .not x16)) fun x17 => S.bd (pik x15 x17 (Go.Value.bool Bool.false)) fun x18 => S.cnd x18 (S.bd (ldc r1.2 r1.1) fun x19 => S.bd (splice_Splice_free.v x19 (Value.func (.func 46) ⟨[]⟩ ⟨[r1.1]⟩) r1.2) fun r20 => some ((Value.tuple ⟨[]⟩), r20.2)) (S.bd (ldc r1.2 r1.1) fun x21 => S.bd (splice_Splice_wait.v x21 r1.2) fun r22 => some ((Value.tuple ⟨[]⟩), r22.2))) (S.bd (eqb [1] false false x8 (Go.Value.int Go.IntKind.i64 3)) fun x23 => S.cnd x23 (S.bd (ldc r1.2 r1.1) fun x24 => S.bd (lal c2 0 13) fun x25 => S.bd (splice_Splice_entered.v x24 x25 r1.2) fun r26 => some ((Value.tuple ⟨[]⟩), r26.2)) (S.bd (eqb [1] false false x8 (Go.Value.int Go.IntKind.i64 4)) fun x27 => S.cnd x27 (S.bd (ldc r1.2 r1.1) fun x28 => S.bd (lal c2 0 13) fun x29 => S.bd (splice_Splice_righted.v x28 x29 r1.2) fun r30 => some ((Value.tuple ⟨[]⟩), r30.2)) (S.bd (eqb [1] false false x8 (Go.Value.int Go.IntKind.i64 5)) fun x31 => S.cnd x31 (S.bd (ldc r1.2 r1.1) fun x32 => S.bd (nck x32) fun x33 => S.bd (fld 14 x33) fun x34 => S.bd (stv r1.2 1 x34 (Go.Value.int Go.IntKind.i64 6)) fun s35 => some ((Value.tuple ⟨[]⟩), s35)) (S.bd (eqb [1] false false x8 (Go.Value.int Go.IntKind.i64 6)) fun x36 => S.cnd x36 (S.bd (ldc r1.2 r1.1) fun x37 => S.bd (lcl c2 0) fun x38 => S.bd (eqb [1] false false x38 (Go.Value.int Go.IntKind.i64 3)) fun x39 => S.bd (nck x37) fun x40 => S.bd (fld 27 x40) fun x41 => S.bd (stv r1.2 1 x41 x39) fun s42 => S.bd (ldc s42 r1.1) fun x43 => S.bd (splice_Splice_done.v x43 s42) fun r44 => some ((Value.tuple ⟨[]⟩), r44.2)) (S.bd (eqb [1] false false x8 (Go.Value.int Go.IntKind.i64 7)) fun x45 => S.cnd x45 (S.bd (lcl c2 0) fun x46 => S.bd (eqb [1] false false x46 (Go.Value.int Go.IntKind.i64 3)) fun x47 => S.cnd x47 (S.bd (ldc r1.2 r1.1) fun x48 => S.bd (splice_Splice_fail.v x48 (Go.Value.int Go.IntKind.i64 132) r1.2) fun r49 => some ((Value.tuple ⟨[]⟩), r49.2)) (S.bd (ldc r1.2 r1.1) fun x50 => S.bd (splice_Splice_fail.v x50 (Go.Value.int Go.IntKind.i64 131) r1.2) fun r51 => some ((Value.tuple ⟨[]⟩), r51.2))) (S.bd (eqb [1] false false x8 (Go.Value.int Go.IntKind.i64 8)) fun x52 => S.cnd x52 (S.bd (ldc r1.2 r1.1) fun x53 => S.bd (nck x53) fun x54 => S.bd (fld 28 x54) fun x55 => S.bd (ldc r1.2 x55) fun x56 => S.bd (callV (splice_Splice_Tell.ctx) x56 [] r1.2) fun r57 => some ((Value.tuple ⟨[]⟩), r57.2)) (some ((Value.tuple ⟨[]⟩), r1.2))))))))))
def splice_Splice_Tell.v (a0 a1 : Value) (s : St) : Option (Value × St) := splice_Splice_Tell.t std a0 a1 s
def splice_Splice_Tell.w : List Value → St → Option (Value × St)
  | [a0, a1], s => splice_Splice_Tell.v a0 a1 s
  | _, _ => none
def splice_Splice_Tell.an : An := ⟨71, false, [3], [], [], []⟩
theorem splice_Splice_Tell.ok (S : Sig) (a0 a1 : Value) (s : St) : evF S Try.prog splice_Splice_Tell.ctx splice_Splice_Tell.an Try.f19 [a0, a1] s = splice_Splice_Tell.t S a0 a1 s := by kernel_rfl
theorem splice_Splice_Tell.cok : CtxOk Try.prog splice_Splice_Tell.ctx := .cons splice_Splice_locked.sound splice_Splice_locked.can <| .cons splice_Splice_free.sound splice_Splice_free.can <| .cons splice_Splice_wait.sound splice_Splice_wait.can <| .cons splice_Splice_entered.sound splice_Splice_entered.can <| .cons splice_Splice_righted.sound splice_Splice_righted.can <| .cons splice_Splice_done.sound splice_Splice_done.can <| .cons splice_Splice_fail.sound splice_Splice_fail.can <| .nil
theorem splice_Splice_Tell.draws : fnDraws splice_Splice_Tell.an Try.f19 = true := by kernel_rfl
theorem splice_Splice_Tell.can : callOk Try.prog 19 = true := by kernel_rfl
theorem splice_Splice_Tell.sound : FnOk Try.prog 19 (.st splice_Splice_Tell.w) := FnOk.st_of (evF_ok splice_Splice_Tell.cok mixed (f := 19) (fn := Try.f19) (by kernel_rfl) splice_Splice_Tell.draws) fun args s r h => by
  unfold splice_Splice_Tell.w at h; split at h
  · rw [splice_Splice_Tell.ok std]; exact h
  · simp at h

/-! ### (*leapfrog/splice.Splice).Wake: function 23 -/
def splice_Splice_Wake.ctx : Ctx := []
def splice_Splice_Wake.t (S : Sig) (a0 : Value) (s : St) : Option (Value × St) :=
  S.bd (eqb [3] false true a0 (Go.Value.pointer Option.none)) fun x1 => S.bd (S.gd x1 true (some a0)) fun x2 => S.bd (S.gd x1 true (nck x2)) fun x3 => S.bd (S.gd x1 true (fld 14 x3)) fun x4 => S.bd (S.gd x1 true (ldc s x4)) fun x5 => S.bd (S.gd x1 true (eqb [1] false false x5 (Go.Value.int Go.IntKind.i64 9))) fun x6 => S.bd (pik x1 x6 (Go.Value.bool Bool.false)) fun x7 => S.cnd x7 (S.bd (nck a0) fun x8 => S.bd (fld 14 x8) fun x9 => S.bd (stv s 1 x9 (Go.Value.int Go.IntKind.i64 1)) fun s10 => some ((Value.tuple ⟨[]⟩), s10)) (some ((Value.tuple ⟨[]⟩), s))
def splice_Splice_Wake.v (a0 : Value) (s : St) : Option (Value × St) := splice_Splice_Wake.t std a0 s
def splice_Splice_Wake.w : List Value → St → Option (Value × St)
  | [a0], s => splice_Splice_Wake.v a0 s
  | _, _ => none
def splice_Splice_Wake.an : An := ⟨14, false, [], [], [], []⟩
theorem splice_Splice_Wake.ok (S : Sig) (a0 : Value) (s : St) : evF S Try.prog splice_Splice_Wake.ctx splice_Splice_Wake.an Try.f23 [a0] s = splice_Splice_Wake.t S a0 s := by kernel_rfl
theorem splice_Splice_Wake.cok : CtxOk Try.prog splice_Splice_Wake.ctx := .nil
theorem splice_Splice_Wake.draws : fnDraws splice_Splice_Wake.an Try.f23 = true := by kernel_rfl
theorem splice_Splice_Wake.can : callOk Try.prog 23 = true := by kernel_rfl
theorem splice_Splice_Wake.sound : FnOk Try.prog 23 (.st splice_Splice_Wake.w) := FnOk.st_of (evF_ok splice_Splice_Wake.cok mixed (f := 23) (fn := Try.f23) (by kernel_rfl) splice_Splice_Wake.draws) fun args s r h => by
  unfold splice_Splice_Wake.w at h; split at h
  · rw [splice_Splice_Wake.ok std]; exact h
  · simp at h

/-! ### (*leapfrog/splice.Splice).ask: function 39 -/
def splice_Splice_ask.ctx : Ctx := []
def splice_Splice_ask.t (S : Sig) (a0 a1 a2 : Value) (s : St) : Option Value :=
  S.bd (bx a1) fun c1 => S.bd (bx a2) fun c2 => S.bd (bx (Go.Value.agg #[(Go.Value.int Go.IntKind.i64 0), (Go.Value.int Go.IntKind.i64 0), (Go.Value.int Go.IntKind.i64 0), (Go.Value.int Go.IntKind.u64 0), (Go.Value.int Go.IntKind.i64 0), (Go.Value.int Go.IntKind.u64 0), (Go.Value.int Go.IntKind.i64 0), (Go.Value.int Go.IntKind.i64 0), (Go.Value.int Go.IntKind.u64 0), (Go.Value.int Go.IntKind.i64 0), (Go.Value.int Go.IntKind.i64 0), (Go.Value.int Go.IntKind.u64 0), (Go.Value.int Go.IntKind.i64 0), (Go.Value.int Go.IntKind.u64 0), (Go.Value.int Go.IntKind.i64 0), (Go.Value.int Go.IntKind.i64 0), (Go.Value.int Go.IntKind.u64 0), (Go.Value.int Go.IntKind.i64 0), (Go.Value.int Go.IntKind.u64 0), (Go.Value.int Go.IntKind.i64 0), (Go.Value.int Go.IntKind.i64 0), (Go.Value.int Go.IntKind.i64 0), (Go.Value.int Go.IntKind.u64 0), (Go.Value.slice Option.none 0 0), (Go.Value.slice Option.none 0 0), (Go.Value.int Go.IntKind.i64 0), (Go.Value.int Go.IntKind.i64 0), (Go.Value.int Go.IntKind.u64 0), (Go.Value.int Go.IntKind.i64 0), (Go.Value.int Go.IntKind.u64 0), (Go.Value.int Go.IntKind.i64 0), (Go.Value.int Go.IntKind.i64 0), (Go.Value.int Go.IntKind.u64 0), (Go.Value.int Go.IntKind.i64 0), (Go.Value.int Go.IntKind.u64 0), (Go.Value.bool Bool.false)])) fun c3 => S.bd (nck a0) fun x4 => S.bd (fld 0 x4) fun x5 => S.bd (fld 0 x5) fun x6 => S.bd (lda s 2 x6) fun x7 => S.bd (stl c2 1 2 x7) fun c8 => S.bd (lal c1 0 5) fun x9 => S.bd (lal c8 0 15) fun x10 => S.bd (bld [(Go.Value.int Go.IntKind.i64 0), (Go.Value.int Go.IntKind.i64 0), (Go.Value.int Go.IntKind.i64 0), (Go.Value.int Go.IntKind.u64 0), (Go.Value.int Go.IntKind.i64 0), (Go.Value.int Go.IntKind.u64 0), (Go.Value.int Go.IntKind.i64 0), (Go.Value.int Go.IntKind.i64 0), (Go.Value.int Go.IntKind.u64 0), (Go.Value.int Go.IntKind.i64 0), (Go.Value.int Go.IntKind.i64 0), (Go.Value.int Go.IntKind.u64 0), (Go.Value.int Go.IntKind.i64 0), (Go.Value.int Go.IntKind.u64 0), (Go.Value.int Go.IntKind.i64 0), (Go.Value.int Go.IntKind.i64 0), (Go.Value.int Go.IntKind.u64 0), (Go.Value.int Go.IntKind.i64 0), (Go.Value.int Go.IntKind.u64 0), (Go.Value.int Go.IntKind.i64 0), (Go.Value.int Go.IntKind.i64 0), (Go.Value.int Go.IntKind.i64 0), (Go.Value.int Go.IntKind.u64 0), (Go.Value.slice Option.none 0 0), (Go.Value.slice Option.none 0 0), (Go.Value.int Go.IntKind.i64 0), (Go.Value.int Go.IntKind.i64 0), (Go.Value.int Go.IntKind.u64 0), (Go.Value.int Go.IntKind.i64 0), (Go.Value.int Go.IntKind.u64 0), (Go.Value.int Go.IntKind.i64 0), (Go.Value.int Go.IntKind.i64 0), (Go.Value.int Go.IntKind.u64 0), (Go.Value.int Go.IntKind.i64 0), (Go.Value.int Go.IntKind.u64 0), (Go.Value.bool Bool.false)] [(0, 1, (Go.Value.int Go.IntKind.i64 1)), (1, 5, x9), (6, 15, x10)]) fun x11 => S.bd (stl c3 0 36 x11) fun c12 => S.bd (lal c12 0 36) fun x13 => some (x13)
def splice_Splice_ask.r (a0 a1 a2 : Value) (s : St) : Option Value := splice_Splice_ask.t std a0 a1 a2 s
def splice_Splice_ask.w : List Value → St → Option Value
  | [a0, a1, a2], s => splice_Splice_ask.r a0 a1 a2 s
  | _, _ => none
def splice_Splice_ask.an : An := ⟨16, true, [4, 5, 6], [], [], []⟩
theorem splice_Splice_ask.ok (S : Sig) (a0 a1 a2 : Value) (s : St) : evG S Try.prog splice_Splice_ask.ctx splice_Splice_ask.an Try.f39 [a0, a1, a2] s = splice_Splice_ask.t S a0 a1 a2 s := by kernel_rfl
theorem splice_Splice_ask.cok : CtxOk Try.prog splice_Splice_ask.ctx := .nil
theorem splice_Splice_ask.draws : fnDraws splice_Splice_ask.an Try.f39 = true := by kernel_rfl
theorem splice_Splice_ask.can : callOk Try.prog 39 = true := by kernel_rfl
theorem splice_Splice_ask.sound : FnOk Try.prog 39 (.rd splice_Splice_ask.w) := FnOk.rd_of (evG_ok splice_Splice_ask.cok mixed (f := 39) (fn := Try.f39) (by kernel_rfl) splice_Splice_ask.draws) fun args s r h => by
  unfold splice_Splice_ask.w at h; split at h
  · rw [splice_Splice_ask.ok std]; exact h
  · simp at h

/-! ### (*leapfrog/splice.Splice).Next: function 15 -/
def splice_Splice_Next.ctx : Ctx := [(39, .rd splice_Splice_ask.w)]
def splice_Splice_Next.t (S : Sig) (a0 : Value) (s : St) : Option Value :=
  S.bd (bx (Go.Value.agg #[(Go.Value.int Go.IntKind.i64 0), (Go.Value.int Go.IntKind.i64 0), (Go.Value.int Go.IntKind.i64 0), (Go.Value.int Go.IntKind.u64 0), (Go.Value.int Go.IntKind.i64 0), (Go.Value.int Go.IntKind.u64 0), (Go.Value.int Go.IntKind.i64 0), (Go.Value.int Go.IntKind.i64 0), (Go.Value.int Go.IntKind.u64 0), (Go.Value.int Go.IntKind.i64 0), (Go.Value.int Go.IntKind.i64 0), (Go.Value.int Go.IntKind.u64 0), (Go.Value.int Go.IntKind.i64 0), (Go.Value.int Go.IntKind.u64 0), (Go.Value.int Go.IntKind.i64 0), (Go.Value.int Go.IntKind.i64 0), (Go.Value.int Go.IntKind.u64 0), (Go.Value.int Go.IntKind.i64 0), (Go.Value.int Go.IntKind.u64 0), (Go.Value.int Go.IntKind.i64 0), (Go.Value.int Go.IntKind.i64 0), (Go.Value.int Go.IntKind.i64 0), (Go.Value.int Go.IntKind.u64 0), (Go.Value.slice Option.none 0 0), (Go.Value.slice Option.none 0 0), (Go.Value.int Go.IntKind.i64 0), (Go.Value.int Go.IntKind.i64 0), (Go.Value.int Go.IntKind.u64 0), (Go.Value.int Go.IntKind.i64 0), (Go.Value.int Go.IntKind.u64 0), (Go.Value.int Go.IntKind.i64 0), (Go.Value.int Go.IntKind.i64 0), (Go.Value.int Go.IntKind.u64 0), (Go.Value.int Go.IntKind.i64 0), (Go.Value.int Go.IntKind.u64 0), (Go.Value.bool Bool.false)])) fun c1 => S.bd (eqb [3] false false a0 (Go.Value.pointer Option.none)) fun x2 => S.cnd x2 (S.bd (bld [(Go.Value.int Go.IntKind.i64 0), (Go.Value.int Go.IntKind.i64 0), (Go.Value.int Go.IntKind.i64 0), (Go.Value.int Go.IntKind.u64 0), (Go.Value.int Go.IntKind.i64 0), (Go.Value.int Go.IntKind.u64 0), (Go.Value.int Go.IntKind.i64 0), (Go.Value.int Go.IntKind.i64 0), (Go.Value.int Go.IntKind.u64 0), (Go.Value.int Go.IntKind.i64 0), (Go.Value.int Go.IntKind.i64 0), (Go.Value.int Go.IntKind.u64 0), (Go.Value.int Go.IntKind.i64 0), (Go.Value.int Go.IntKind.u64 0), (Go.Value.int Go.IntKind.i64 0), (Go.Value.int Go.IntKind.i64 0), (Go.Value.int Go.IntKind.u64 0), (Go.Value.int Go.IntKind.i64 0), (Go.Value.int Go.IntKind.u64 0), (Go.Value.int Go.IntKind.i64 0), (Go.Value.int Go.IntKind.i64 0), (Go.Value.int Go.IntKind.i64 0), (Go.Value.int Go.IntKind.u64 0), (Go.Value.slice Option.none 0 0), (Go.Value.slice Option.none 0 0), (Go.Value.int Go.IntKind.i64 0), (Go.Value.int Go.IntKind.i64 0), (Go.Value.int Go.IntKind.u64 0), (Go.Value.int Go.IntKind.i64 0), (Go.Value.int Go.IntKind.u64 0), (Go.Value.int Go.IntKind.i64 0), (Go.Value.int Go.IntKind.i64 0), (Go.Value.int Go.IntKind.u64 0), (Go.Value.int Go.IntKind.i64 0), (Go.Value.int Go.IntKind.u64 0), (Go.Value.bool Bool.false)] []) fun x3 => S.bd (stl c1 0 36 x3) fun c4 => S.bd (lal c4 0 36) fun x5 => some (x5)) (S.bd (nck a0) fun x6 => S.bd (fld 14 x6) fun x7 => S.bd (ldc s x7) fun x8 => S.bd (eqb [1] false false x8 (Go.Value.int Go.IntKind.i64 1)) fun x9 => S.cnd x9 (S.bd (nck a0) fun x10 => S.bd (fld 15 x10) fun x11 => S.bd (lda s 5 x11) fun x12 => S.bd (nck a0) fun x13 => S.bd (fld 0 x13) fun x14 => S.bd (fld 12 x14) fun x15 => S.bd (lda s 2 x15) fun x16 => S.bd (bld [(Go.Value.int Go.IntKind.i64 0), (Go.Value.int Go.IntKind.i64 0), (Go.Value.int Go.IntKind.u64 0), (Go.Value.int Go.IntKind.i64 0), (Go.Value.int Go.IntKind.i64 0), (Go.Value.int Go.IntKind.u64 0), (Go.Value.int Go.IntKind.i64 0), (Go.Value.int Go.IntKind.u64 0), (Go.Value.int Go.IntKind.i64 0), (Go.Value.int Go.IntKind.i64 0), (Go.Value.int Go.IntKind.u64 0), (Go.Value.int Go.IntKind.i64 0), (Go.Value.int Go.IntKind.u64 0), (Go.Value.int Go.IntKind.i64 0), (Go.Value.int Go.IntKind.i64 0)] [(0, 1, (Go.Value.int Go.IntKind.i64 3)), (13, 2, x16)]) fun x17 => S.bd (splice_Splice_ask.r a0 x12 x17 s) fun x18 => S.bd (stl c1 0 36 x18) fun c19 => S.bd (lal c19 0 36) fun x20 => some (x20)) (S.bd (eqb [1] false false x8 (Go.Value.int Go.IntKind.i64 2)) fun x21 => S.cnd x21 (S.bd (nck a0) fun x22 => S.bd (fld 21 x22) fun x23 => S.bd (lda s 5 x23) fun x24 => S.bd (bld [(Go.Value.int Go.IntKind.i64 0), (Go.Value.int Go.IntKind.i64 0), (Go.Value.int Go.IntKind.u64 0), (Go.Value.int Go.IntKind.i64 0), (Go.Value.int Go.IntKind.i64 0), (Go.Value.int Go.IntKind.u64 0), (Go.Value.int Go.IntKind.i64 0), (Go.Value.int Go.IntKind.u64 0), (Go.Value.int Go.IntKind.i64 0), (Go.Value.int Go.IntKind.i64 0), (Go.Value.int Go.IntKind.u64 0), (Go.Value.int Go.IntKind.i64 0), (Go.Value.int Go.IntKind.u64 0), (Go.Value.int Go.IntKind.i64 0), (Go.Value.int Go.IntKind.i64 0)] [(0, 1, (Go.Value.int Go.IntKind.i64 1))]) fun x25 => S.bd (splice_Splice_ask.r a0 x24 x25 s) fun x26 => S.bd (stl c1 0 36 x26) fun c27 => S.bd (lal c27 0 36) fun x28 => some (x28)) (S.bd (eqb [1] false false x8 (Go.Value.int Go.IntKind.i64 3)) fun x29 => S.cnd x29 (S.bd (nck a0) fun x30 => S.bd (fld 0 x30) fun x31 => S.bd (fld 2 x31) fun x32 => S.bd (lda s 5 x32) fun x33 => S.bd (nck a0) fun x34 => S.bd (fld 15 x34) fun x35 => S.bd (lda s 5 x35) fun x36 => S.bd (nck a0) fun x37 => S.bd (fld 21 x37) fun x38 => S.bd (lda s 5 x38) fun x39 => S.bd (nck a0) fun x40 => S.bd (fld 0 x40) fun x41 => S.bd (fld 12 x41) fun x42 => S.bd (lda s 2 x42) fun x43 => S.bd (bld [(Go.Value.int Go.IntKind.i64 0), (Go.Value.int Go.IntKind.i64 0), (Go.Value.int Go.IntKind.u64 0), (Go.Value.int Go.IntKind.i64 0), (Go.Value.int Go.IntKind.i64 0), (Go.Value.int Go.IntKind.u64 0), (Go.Value.int Go.IntKind.i64 0), (Go.Value.int Go.IntKind.u64 0), (Go.Value.int Go.IntKind.i64 0), (Go.Value.int Go.IntKind.i64 0), (Go.Value.int Go.IntKind.u64 0), (Go.Value.int Go.IntKind.i64 0), (Go.Value.int Go.IntKind.u64 0), (Go.Value.int Go.IntKind.i64 0), (Go.Value.int Go.IntKind.i64 0)] [(0, 1, (Go.Value.int Go.IntKind.i64 7)), (3, 5, x36), (8, 5, x39), (13, 2, x43)]) fun x44 => S.bd (splice_Splice_ask.r a0 x33 x44 s) fun x45 => S.bd (stl c1 0 36 x45) fun c46 => S.bd (lal c46 0 36) fun x47 => some (x47)) (S.bd (eqb [1] false false x8 (Go.Value.int Go.IntKind.i64 4)) fun x48 => S.cnd x48 (S.bd (nck a0) fun x49 => S.bd (fld 15 x49) fun x50 => S.bd (lda s 5 x50) fun x51 => S.bd (nck a0) fun x52 => S.bd (fld 0 x52) fun x53 => S.bd (fld 2 x53) fun x54 => S.bd (lda s 5 x54) fun x55 => S.bd (nck a0) fun x56 => S.bd (fld 0 x56) fun x57 => S.bd (fld 12 x57) fun x58 => S.bd (lda s 2 x58) fun x59 => S.bd (bld [(Go.Value.int Go.IntKind.i64 0), (Go.Value.int Go.IntKind.i64 0), (Go.Value.int Go.IntKind.u64 0), (Go.Value.int Go.IntKind.i64 0), (Go.Value.int Go.IntKind.i64 0), (Go.Value.int Go.IntKind.u64 0), (Go.Value.int Go.IntKind.i64 0), (Go.Value.int Go.IntKind.u64 0), (Go.Value.int Go.IntKind.i64 0), (Go.Value.int Go.IntKind.i64 0), (Go.Value.int Go.IntKind.u64 0), (Go.Value.int Go.IntKind.i64 0), (Go.Value.int Go.IntKind.u64 0), (Go.Value.int Go.IntKind.i64 0), (Go.Value.int Go.IntKind.i64 0)] [(0, 1, (Go.Value.int Go.IntKind.i64 5)), (3, 5, x55), (13, 2, x59)]) fun x60 => S.bd (splice_Splice_ask.r a0 x51 x60 s) fun x61 => S.bd (stl c1 0 36 x61) fun c62 => S.bd (lal c62 0 36) fun x63 => some (x63)) (S.bd (eqb [1] false false x8 (Go.Value.int Go.IntKind.i64 5)) fun x64 => S.cnd x64 (S.bd (nck a0) fun x65 => S.bd (fld 21 x65) fun x66 => S.bd (lda s 5 x66) fun x67 => S.bd (nck a0) fun x68 => S.bd (fld 0 x68) fun x69 => S.bd (fld 2 x69) fun x70 => S.bd (lda s 5 x70) fun x71 => S.bd (bld [(Go.Value.int Go.IntKind.i64 0), (Go.Value.int Go.IntKind.i64 0), (Go.Value.int Go.IntKind.u64 0), (Go.Value.int Go.IntKind.i64 0), (Go.Value.int Go.IntKind.i64 0), (Go.Value.int Go.IntKind.u64 0), (Go.Value.int Go.IntKind.i64 0), (Go.Value.int Go.IntKind.u64 0), (Go.Value.int Go.IntKind.i64 0), (Go.Value.int Go.IntKind.i64 0), (Go.Value.int Go.IntKind.u64 0), (Go.Value.int Go.IntKind.i64 0), (Go.Value.int Go.IntKind.u64 0), (Go.Value.int Go.IntKind.i64 0), (Go.Value.int Go.IntKind.i64 0)] [(0, 1, (Go.Value.int Go.IntKind.i64 6)), (3, 5, x71)]) fun x72 => S.bd (splice_Splice_ask.r a0 x67 x72 s) fun x73 => S.bd (stl c1 0 36 x73) fun c74 => S.bd (lal c74 0 36) fun x75 => some (x75)) (S.bd (eqb [1] false false x8 (Go.Value.int Go.IntKind.i64 6)) fun x76 => S.cnd x76 (S.bd (nck a0) fun x77 => S.bd (fld 0 x77) fun x78 => S.bd (fld 2 x78) fun x79 => S.bd (lda s 5 x79) fun x80 => S.bd (nck a0) fun x81 => S.bd (fld 0 x81) fun x82 => S.bd (fld 12 x82) fun x83 => S.bd (lda s 2 x83) fun x84 => S.bd (bld [(Go.Value.int Go.IntKind.i64 0), (Go.Value.int Go.IntKind.i64 0), (Go.Value.int Go.IntKind.u64 0), (Go.Value.int Go.IntKind.i64 0), (Go.Value.int Go.IntKind.i64 0), (Go.Value.int Go.IntKind.u64 0), (Go.Value.int Go.IntKind.i64 0), (Go.Value.int Go.IntKind.u64 0), (Go.Value.int Go.IntKind.i64 0), (Go.Value.int Go.IntKind.i64 0), (Go.Value.int Go.IntKind.u64 0), (Go.Value.int Go.IntKind.i64 0), (Go.Value.int Go.IntKind.u64 0), (Go.Value.int Go.IntKind.i64 0), (Go.Value.int Go.IntKind.i64 0)] [(0, 1, (Go.Value.int Go.IntKind.i64 4)), (13, 2, x84)]) fun x85 => S.bd (splice_Splice_ask.r a0 x80 x85 s) fun x86 => S.bd (stl c1 0 36 x86) fun c87 => S.bd (lal c87 0 36) fun x88 => some (x88)) (S.bd (eqb [1] false false x8 (Go.Value.int Go.IntKind.i64 7)) fun x89 => S.cnd x89 (S.bd (nck a0) fun x90 => S.bd (fld 0 x90) fun x91 => S.bd (fld 2 x91) fun x92 => S.bd (lda s 5 x92) fun x93 => S.bd (nck a0) fun x94 => S.bd (fld 0 x94) fun x95 => S.bd (fld 12 x95) fun x96 => S.bd (lda s 2 x96) fun x97 => S.bd (bld [(Go.Value.int Go.IntKind.i64 0), (Go.Value.int Go.IntKind.i64 0), (Go.Value.int Go.IntKind.u64 0), (Go.Value.int Go.IntKind.i64 0), (Go.Value.int Go.IntKind.i64 0), (Go.Value.int Go.IntKind.u64 0), (Go.Value.int Go.IntKind.i64 0), (Go.Value.int Go.IntKind.u64 0), (Go.Value.int Go.IntKind.i64 0), (Go.Value.int Go.IntKind.i64 0), (Go.Value.int Go.IntKind.u64 0), (Go.Value.int Go.IntKind.i64 0), (Go.Value.int Go.IntKind.u64 0), (Go.Value.int Go.IntKind.i64 0), (Go.Value.int Go.IntKind.i64 0)] [(0, 1, (Go.Value.int Go.IntKind.i64 8)), (13, 2, x97)]) fun x98 => S.bd (splice_Splice_ask.r a0 x93 x98 s) fun x99 => S.bd (stl c1 0 36 x99) fun c100 => S.bd (lal c100 0 36) fun x101 => some (x101)) (S.bd (eqb [1] false false x8 (Go.Value.int Go.IntKind.i64 8)) fun x102 => S.cnd x102 (S.bd (nck a0) fun x103 => S.bd (fld 15 x103) fun x104 => S.bd (lda s 5 x104) fun x105 => S.bd (nck a0) fun x106 => S.bd (fld 0 x106) fun x107 => S.bd (fld 12 x107) fun x108 => S.bd (lda s 2 x108) fun x109 => S.bd (bld [(Go.Value.int Go.IntKind.i64 0), (Go.Value.int Go.IntKind.i64 0), (Go.Value.int Go.IntKind.u64 0), (Go.Value.int Go.IntKind.i64 0), (Go.Value.int Go.IntKind.i64 0), (Go.Value.int Go.IntKind.u64 0), (Go.Value.int Go.IntKind.i64 0), (Go.Value.int Go.IntKind.u64 0), (Go.Value.int Go.IntKind.i64 0), (Go.Value.int Go.IntKind.i64 0), (Go.Value.int Go.IntKind.u64 0), (Go.Value.int Go.IntKind.i64 0), (Go.Value.int Go.IntKind.u64 0), (Go.Value.int Go.IntKind.i64 0), (Go.Value.int Go.IntKind.i64 0)] [(0, 1, (Go.Value.int Go.IntKind.i64 4)), (13, 2, x109)]) fun x110 => S.bd (splice_Splice_ask.r a0 x105 x110 s) fun x111 => S.bd (stl c1 0 36 x111) fun c112 => S.bd (lal c112 0 36) fun x113 => some (x113)) (S.bd (eqb [1] false false x8 (Go.Value.int Go.IntKind.i64 9)) fun x114 => S.cnd x114 (S.bd (bld [(Go.Value.int Go.IntKind.i64 0), (Go.Value.int Go.IntKind.i64 0), (Go.Value.int Go.IntKind.i64 0), (Go.Value.int Go.IntKind.u64 0), (Go.Value.int Go.IntKind.i64 0), (Go.Value.int Go.IntKind.u64 0), (Go.Value.int Go.IntKind.i64 0), (Go.Value.int Go.IntKind.i64 0), (Go.Value.int Go.IntKind.u64 0), (Go.Value.int Go.IntKind.i64 0), (Go.Value.int Go.IntKind.i64 0), (Go.Value.int Go.IntKind.u64 0), (Go.Value.int Go.IntKind.i64 0), (Go.Value.int Go.IntKind.u64 0), (Go.Value.int Go.IntKind.i64 0), (Go.Value.int Go.IntKind.i64 0), (Go.Value.int Go.IntKind.u64 0), (Go.Value.int Go.IntKind.i64 0), (Go.Value.int Go.IntKind.u64 0), (Go.Value.int Go.IntKind.i64 0), (Go.Value.int Go.IntKind.i64 0), (Go.Value.int Go.IntKind.i64 0), (Go.Value.int Go.IntKind.u64 0), (Go.Value.slice Option.none 0 0), (Go.Value.slice Option.none 0 0), (Go.Value.int Go.IntKind.i64 0), (Go.Value.int Go.IntKind.i64 0), (Go.Value.int Go.IntKind.u64 0), (Go.Value.int Go.IntKind.i64 0), (Go.Value.int Go.IntKind.u64 0), (Go.Value.int Go.IntKind.i64 0), (Go.Value.int Go.IntKind.i64 0), (Go.Value.int Go.IntKind.u64 0), (Go.Value.int Go.IntKind.i64 0), (Go.Value.int Go.IntKind.u64 0), (Go.Value.bool Bool.false)] [(0, 1, (Go.Value.int Go.IntKind.i64 2))]) fun x115 => S.bd (stl c1 0 36 x115) fun c116 => S.bd (lal c116 0 36) fun x117 => some (x117)) (S.bd (eqb [1] false false x8 (Go.Value.int Go.IntKind.i64 10)) fun x118 => S.cnd x118 (S.bd (nck a0) fun x119 => S.bd (fld 29 x119) fun x120 => S.bd (lda s 15 x120) fun x121 => S.bd (bld [(Go.Value.int Go.IntKind.i64 0), (Go.Value.int Go.IntKind.i64 0), (Go.Value.int Go.IntKind.i64 0), (Go.Value.int Go.IntKind.u64 0), (Go.Value.int Go.IntKind.i64 0), (Go.Value.int Go.IntKind.u64 0), (Go.Value.int Go.IntKind.i64 0), (Go.Value.int Go.IntKind.i64 0), (Go.Value.int Go.IntKind.u64 0), (Go.Value.int Go.IntKind.i64 0), (Go.Value.int Go.IntKind.i64 0), (Go.Value.int Go.IntKind.u64 0), (Go.Value.int Go.IntKind.i64 0), (Go.Value.int Go.IntKind.u64 0), (Go.Value.int Go.IntKind.i64 0), (Go.Value.int Go.IntKind.i64 0), (Go.Value.int Go.IntKind.u64 0), (Go.Value.int Go.IntKind.i64 0), (Go.Value.int Go.IntKind.u64 0), (Go.Value.int Go.IntKind.i64 0), (Go.Value.int Go.IntKind.i64 0), (Go.Value.int Go.IntKind.i64 0), (Go.Value.int Go.IntKind.u64 0), (Go.Value.slice Option.none 0 0), (Go.Value.slice Option.none 0 0), (Go.Value.int Go.IntKind.i64 0), (Go.Value.int Go.IntKind.i64 0), (Go.Value.int Go.IntKind.u64 0), (Go.Value.int Go.IntKind.i64 0), (Go.Value.int Go.IntKind.u64 0), (Go.Value.int Go.IntKind.i64 0), (Go.Value.int Go.IntKind.i64 0), (Go.Value.int Go.IntKind.u64 0), (Go.Value.int Go.IntKind.i64 0), (Go.Value.int Go.IntKind.u64 0), (Go.Value.bool Bool.false)] [(0, 1, (Go.Value.int Go.IntKind.i64 3)), (21, 15, x121)]) fun x122 => S.bd (stl c1 0 36 x122) fun c123 => S.bd (lal c123 0 36) fun x124 => some (x124)) (S.bd (bld [(Go.Value.int Go.IntKind.i64 0), (Go.Value.int Go.IntKind.i64 0), (Go.Value.int Go.IntKind.i64 0), (Go.Value.int Go.IntKind.u64 0), (Go.Value.int Go.IntKind.i64 0), (Go.Value.int Go.IntKind.u64 0), (Go.Value.int Go.IntKind.i64 0), (Go.Value.int Go.IntKind.i64 0), (Go.Value.int Go.IntKind.u64 0), (Go.Value.int Go.IntKind.i64 0), (Go.Value.int Go.IntKind.i64 0), (Go.Value.int Go.IntKind.u64 0), (Go.Value.int Go.IntKind.i64 0), (Go.Value.int Go.IntKind.u64 0), (Go.Value.int Go.IntKind.i64 0), (Go.Value.int Go.IntKind.i64 0), (Go.Value.int Go.IntKind.u64 0), (Go.Value.int Go.IntKind.i64 0), (Go.Value.int Go.IntKind.u64 0), (Go.Value.int Go.IntKind.i64 0), (Go.Value.int Go.IntKind.i64 0), (Go.Value.int Go.IntKind.i64 0), (Go.Value.int Go.IntKind.u64 0), (Go.Value.slice Option.none 0 0), (Go.Value.slice Option.none 0 0), (Go.Value.int Go.IntKind.i64 0), (Go.Value.int Go.IntKind.i64 0), (Go.Value.int Go.IntKind.u64 0), (Go.Value.int Go.IntKind.i64 0), (Go.Value.int Go.IntKind.u64 0), (Go.Value.int Go.IntKind.i64 0), (Go.Value.int Go.IntKind.i64 0), (Go.Value.int Go.IntKind.u64 0), (Go.Value.int Go.IntKind.i64 0), (Go.Value.int Go.IntKind.u64 0), (Go.Value.bool Bool.false)] []) fun x125 => S.bd (stl c1 0 36 x125) fun c126 => S.bd (lal c126 0 36) fun x127 => some (x127))))))))))))
def splice_Splice_Next.r (a0 : Value) (s : St) : Option Value := splice_Splice_Next.t std a0 s
def splice_Splice_Next.w : List Value → St → Option Value
  | [a0], s => splice_Splice_Next.r a0 s
  | _, _ => none
def splice_Splice_Next.an : An := ⟨144, true, [2], [], [], [(5, [(0, 0), (1, 0), (2, 0), (3, 0), (4, 2), (5, 0), (6, 0), (7, 0), (8, 0), (9, 2), (10, 0), (11, 3), (12, 21)]), (9, [(0, 0), (1, 0), (2, 0), (3, 0), (4, 0), (5, 2), (6, 0), (7, 0), (8, 0), (9, 2), (10, 0), (11, 0), (12, 0), (13, 2), (14, 0), (15, 0), (16, 0), (17, 0), (18, 2), (19, 0), (20, 3), (21, 21)]), (11, [(0, 0), (1, 0), (2, 0), (3, 0), (4, 2), (5, 0), (6, 0), (7, 0), (8, 0), (9, 2), (10, 0), (11, 0), (12, 0), (13, 0), (14, 2), (15, 0), (16, 3), (17, 21)]), (13, [(0, 0), (1, 0), (2, 0), (3, 0), (4, 2), (5, 0), (6, 0), (7, 0), (8, 0), (9, 2), (10, 0), (11, 3), (12, 21)]), (15, [(0, 0), (1, 0), (2, 0), (3, 0), (4, 0), (5, 2), (6, 0), (7, 0), (8, 0), (9, 0), (10, 2), (11, 0), (12, 3), (13, 21)]), (17, [(0, 0), (1, 0), (2, 0), (3, 0), (4, 0), (5, 2), (6, 0), (7, 0), (8, 0), (9, 0), (10, 2), (11, 0), (12, 3), (13, 21)]), (19, [(0, 0), (1, 0), (2, 0), (3, 0), (4, 2), (5, 0), (6, 0), (7, 0), (8, 0), (9, 2), (10, 0), (11, 3), (12, 21)])]⟩
theorem splice_Splice_Next.ok (S : Sig) (a0 : Value) (s : St) : evG S Try.prog splice_Splice_Next.ctx splice_Splice_Next.an Try.f15 [a0] s = splice_Splice_Next.t S a0 s := by kernel_rfl
theorem splice_Splice_Next.cok : CtxOk Try.prog splice_Splice_Next.ctx := .cons splice_Splice_ask.sound splice_Splice_ask.can <| .nil
theorem splice_Splice_Next.draws : fnDraws splice_Splice_Next.an Try.f15 = true := by kernel_rfl
theorem splice_Splice_Next.can : callOk Try.prog 15 = true := by kernel_rfl
theorem splice_Splice_Next.sound : FnOk Try.prog 15 (.rd splice_Splice_Next.w) := FnOk.rd_of (evG_ok splice_Splice_Next.cok mixed (f := 15) (fn := Try.f15) (by kernel_rfl) splice_Splice_Next.draws) fun args s r h => by
  unfold splice_Splice_Next.w at h; split at h
  · rw [splice_Splice_Next.ok std]; exact h
  · simp at h

/-! ### leapfrog/leapfrogref13.SameResult: function 56 -/
def leapfrogref13x_SameResult.ctx : Ctx := []
def leapfrogref13x_SameResult.l4 (S : Sig) (rec63 : List Value → St → Option Cut) (xs61 : List Value) (s62 : St) : Option Cut :=
  S.bd (lcl (cellsA (xs61.getD 1 undef)) 3) fun x64 => S.bd (lenL x64) fun x65 => S.bd (bin .lss (xs61.getD 0 undef) x65) fun x66 => S.cnd x66 (S.bd (lcl (cellsA (xs61.getD 1 undef)) 3) fun x67 => S.bd (idx s62 2 x67 (xs61.getD 0 undef)) fun x68 => S.bd (fld 0 x68) fun x69 => S.bd (ldc s62 x69) fun x70 => S.bd (lcl (cellsA (xs61.getD 2 undef)) 3) fun x71 => S.bd (idx s62 2 x71 (xs61.getD 0 undef)) fun x72 => S.bd (fld 0 x72) fun x73 => S.bd (ldc s62 x73) fun x74 => S.bd (eqb [1] false true x70 x74) fun x75 => S.bd (S.gd x75 false (lcl (cellsA (xs61.getD 1 undef)) 3)) fun x76 => S.bd (S.gd x75 false (some (xs61.getD 0 undef))) fun x77 => S.bd (S.gd x75 false (idx s62 2 x76 x77)) fun x78 => S.bd (S.gd x75 false (fld 1 x78)) fun x79 => S.bd (S.gd x75 false (ldc s62 x79)) fun x80 => S.bd (S.gd x75 false (b2s s62 x80)) fun x81 => S.bd (S.gd x75 false (lcl (cellsA (xs61.getD 2 undef)) 3)) fun x82 => S.bd (S.gd x75 false (some (xs61.getD 0 undef))) fun x83 => S.bd (S.gd x75 false (idx s62 2 x82 x83)) fun x84 => S.bd (S.gd x75 false (fld 1 x84)) fun x85 => S.bd (S.gd x75 false (ldc s62 x85)) fun x86 => S.bd (S.gd x75 false (b2s s62 x86)) fun x87 => S.bd (S.gd x75 false (eqb [2] false true x81 x87)) fun x88 => S.bd (pik x75 (Go.Value.bool Bool.true) x88) fun x89 => S.cnd x89 (some (1, [(Go.Value.bool Bool.false)], s62)) (S.bd (bin .add (xs61.getD 0 undef) (Go.Value.int Go.IntKind.i64 1)) fun x90 => rec63 [x90, (Value.agg ⟨(cellsA (xs61.getD 1 undef))⟩), (Value.agg ⟨(cellsA (xs61.getD 2 undef))⟩)] s62)) (some (0, [], s62))

def leapfrogref13x_SameResult.t (S : Sig) (a0 a1 : Value) (s : St) : Option Value :=
  S.bd (bx a0) fun c1 => S.bd (bx a1) fun c2 => S.bd (lcl c1 0) fun x3 => S.bd (lcl c2 0) fun x4 => S.bd (eqb [1] false true x3 x4) fun x5 => S.bd (S.gd x5 false (lcl c1 1)) fun x6 => S.bd (S.gd x5 false (lcl c2 1)) fun x7 => S.bd (S.gd x5 false (eqb [1] false true x6 x7)) fun x8 => S.bd (pik x5 (Go.Value.bool Bool.true) x8) fun x9 => S.bd (S.gd x9 false (lcl c1 2)) fun x10 => S.bd (S.gd x9 false (b2s s x10)) fun x11 => S.bd (S.gd x9 false (lcl c2 2)) fun x12 => S.bd (S.gd x9 false (b2s s x12)) fun x13 => S.bd (S.gd x9 false (eqb [2] false true x11 x13)) fun x14 => S.bd (pik x9 (Go.Value.bool Bool.true) x14) fun x15 => S.bd (S.gd x15 false (lcl c1 3)) fun x16 => S.bd (S.gd x15 false (lenL x16)) fun x17 => S.bd (S.gd x15 false (lcl c2 3)) fun x18 => S.bd (S.gd x15 false (lenL x18)) fun x19 => S.bd (S.gd x15 false (eqb [1] false true x17 x19)) fun x20 => S.bd (pik x15 (Go.Value.bool Bool.true) x20) fun x21 => S.bd (S.gd x21 false (lal c1 4 5)) fun x22 => S.bd (S.gd x21 false (lal c2 4 5)) fun x23 => S.bd (S.gd x21 false (eqb [1, 1, 1, 1, 1] true true x22 x23)) fun x24 => S.bd (pik x21 (Go.Value.bool Bool.true) x24) fun x25 => S.bd (S.gd x25 false (lal c1 9 5)) fun x26 => S.bd (S.gd x25 false (lal c2 9 5)) fun x27 => S.bd (S.gd x25 false (eqb [1, 1, 1, 1, 1] true true x26 x27)) fun x28 => S.bd (pik x25 (Go.Value.bool Bool.true) x28) fun x29 => S.bd (S.gd x29 false (lcl c1 14)) fun x30 => S.bd (S.gd x29 false (lcl c2 14)) fun x31 => S.bd (S.gd x29 false (eqb [0] false true x30 x31)) fun x32 => S.bd (pik x29 (Go.Value.bool Bool.true) x32) fun x33 => S.cnd x33 (some ((Go.Value.bool Bool.false))) (S.bd (S.it (leapfrogref13x_SameResult.l4 S) [(Go.Value.int Go.IntKind.i64 0), (Value.agg ⟨c1⟩), (Value.agg ⟨c2⟩)] s) fun r91 => if r91.1 = 0 then (some ((Go.Value.bool Bool.true))) else (some ((r91.2.1.getD 0 undef))))
def leapfrogref13x_SameResult.r (a0 a1 : Value) (s : St) : Option Value := leapfrogref13x_SameResult.t std a0 a1 s
def leapfrogref13x_SameResult.w : List Value → St → Option Value
  | [a0, a1], s => leapfrogref13x_SameResult.r a0 a1 s
  | _, _ => none
def leapfrogref13x_SameResult.an : An := ⟨94, true, [2, 3], [(4, ⟨[.p 2 2 0, .p 3 3 0, .v 5, .l 2, .l 3], [(.exit 0, []), (.ret, [.v 4])]⟩)], [], [(6, [(0, 0), (1, 17), (2, 0), (3, 2), (4, 0), (5, 2), (6, 0), (7, 25), (8, 0), (9, 2), (10, 0), (11, 2), (12, 0), (13, 0), (14, 0), (15, 17), (16, 0), (17, 2), (18, 0), (19, 2), (20, 2), (21, 0), (22, 25), (23, 0), (24, 2), (25, 0), (26, 2), (27, 2), (28, 0), (29, 0)])]⟩
theorem leapfrogref13x_SameResult.ok (S : Sig) (a0 a1 : Value) (s : St) : evG S Try.prog leapfrogref13x_SameResult.ctx leapfrogref13x_SameResult.an Try.f56 [a0, a1] s = leapfrogref13x_SameResult.t S a0 a1 s := by kernel_rfl
theorem leapfrogref13x_SameResult.cok : CtxOk Try.prog leapfrogref13x_SameResult.ctx := .nil
theorem leapfrogref13x_SameResult.draws : fnDraws leapfrogref13x_SameResult.an Try.f56 = true := by kernel_rfl
theorem leapfrogref13x_SameResult.can : callOk Try.prog 56 = true := by kernel_rfl
theorem leapfrogref13x_SameResult.sound : FnOk Try.prog 56 (.rd leapfrogref13x_SameResult.w) := FnOk.rd_of (evG_ok leapfrogref13x_SameResult.cok mixed (f := 56) (fn := Try.f56) (by kernel_rfl) leapfrogref13x_SameResult.draws) fun args s r h => by
  unfold leapfrogref13x_SameResult.w at h; split at h
  · rw [leapfrogref13x_SameResult.ok std]; exact h
  · simp at h

/-! ### leapfrog/leapfrogref13.SameStep: function 21 -/
def leapfrogref13x_SameStep.ctx : Ctx := [(56, .rd leapfrogref13x_SameResult.w)]
def leapfrogref13x_SameStep.t (S : Sig) (a0 a1 : Value) (s : St) : Option Value :=
  S.bd (bx a0) fun c1 => S.bd (bx a1) fun c2 => S.bd (lcl c1 0) fun x3 => S.bd (lcl c2 0) fun x4 => S.bd (eqb [1] false false x3 x4) fun x5 => S.bd (S.gd x5 true (lal c1 1 5)) fun x6 => S.bd (S.gd x5 true (lal c2 1 5)) fun x7 => S.bd (S.gd x5 true (eqb [1, 1, 1, 1, 1] true false x6 x7)) fun x8 => S.bd (pik x5 x8 (Go.Value.bool Bool.false)) fun x9 => S.bd (S.gd x9 true (lal c1 6 15)) fun x10 => S.bd (S.gd x9 true (lal c2 6 15)) fun x11 => S.bd (S.gd x9 true (eqb [1, 1, 1, 1, 1, 1, 1, 1, 1, 1, 1, 1, 1, 1, 1] true false x10 x11)) fun x12 => S.bd (pik x9 x12 (Go.Value.bool Bool.false)) fun x13 => S.bd (S.gd x13 true (lal c1 21 15)) fun x14 => S.bd (S.gd x13 true (lal c2 21 15)) fun x15 => S.bd (S.gd x13 true (leapfrogref13x_SameResult.r x14 x15 s)) fun x16 => S.bd (pik x13 x16 (Go.Value.bool Bool.false)) fun x17 => some (x17)
def leapfrogref13x_SameStep.r (a0 a1 : Value) (s : St) : Option Value := leapfrogref13x_SameStep.t std a0 a1 s
def leapfrogref13x_SameStep.w : List Value → St → Option Value
  | [a0, a1], s => leapfrogref13x_SameStep.r a0 a1 s
  | _, _ => none
def leapfrogref13x_SameStep.an : An := ⟨31, true, [2, 3], [], [], []⟩
theorem leapfrogref13x_SameStep.ok (S : Sig) (a0 a1 : Value) (s : St) : evG S Try.prog leapfrogref13x_SameStep.ctx leapfrogref13x_SameStep.an Try.f21 [a0, a1] s = leapfrogref13x_SameStep.t S a0 a1 s := by kernel_rfl
theorem leapfrogref13x_SameStep.cok : CtxOk Try.prog leapfrogref13x_SameStep.ctx := .cons leapfrogref13x_SameResult.sound leapfrogref13x_SameResult.can <| .nil
theorem leapfrogref13x_SameStep.draws : fnDraws leapfrogref13x_SameStep.an Try.f21 = true := by kernel_rfl
theorem leapfrogref13x_SameStep.can : callOk Try.prog 21 = true := by kernel_rfl
theorem leapfrogref13x_SameStep.sound : FnOk Try.prog 21 (.rd leapfrogref13x_SameStep.w) := FnOk.rd_of (evG_ok leapfrogref13x_SameStep.cok mixed (f := 21) (fn := Try.f21) (by kernel_rfl) leapfrogref13x_SameStep.draws) fun args s r h => by
  unfold leapfrogref13x_SameStep.w at h; split at h
  · rw [leapfrogref13x_SameStep.ok std]; exact h
  · simp at h

/-! ### leapfrog/leapfrogref09.Head: function 42 -/
def leapfrogref09x_Head.ctx : Ctx := []
def leapfrogref09x_Head.t (S : Sig) (a0 : Value) (s : St) : Option Value :=
  S.bd (bx (Go.Value.agg #[(Go.Value.int Go.IntKind.i64 0), (Go.Value.int Go.IntKind.i64 0), (Go.Value.int Go.IntKind.u64 0), (Go.Value.int Go.IntKind.i64 0), (Go.Value.int Go.IntKind.u64 0)])) fun c1 => S.bd (bin .lss a0 (Go.Value.int Go.IntKind.i64 0)) fun x2 => S.bd (S.gd x2 false (some a0)) fun x3 => S.bd (S.gd x2 false (bin .gtr x3 (Go.Value.int Go.IntKind.i64 32))) fun x4 => S.bd (pik x2 (Go.Value.bool Bool.true) x4) fun x5 => S.cnd x5 (S.bd (bld [(Go.Value.int Go.IntKind.i64 0), (Go.Value.int Go.IntKind.i64 0), (Go.Value.int Go.IntKind.u64 0), (Go.Value.int Go.IntKind.i64 0), (Go.Value.int Go.IntKind.u64 0)] []) fun x6 => S.bd (stl c1 0 5 x6) fun c7 => S.bd (lal c7 0 5) fun x8 => some ((Value.tuple ⟨[x8, (Go.Value.int Go.IntKind.i64 90)]⟩))) (S.bd (bld [(Go.Value.int Go.IntKind.i64 0), (Go.Value.int Go.IntKind.u64 0)] [(0, 1, (Go.Value.int Go.IntKind.i64 1))]) fun x9 => S.bd (bld [(Go.Value.int Go.IntKind.i64 0), (Go.Value.int Go.IntKind.u64 0)] [(0, 1, a0)]) fun x10 => S.bd (bld [(Go.Value.int Go.IntKind.i64 0), (Go.Value.int Go.IntKind.i64 0), (Go.Value.int Go.IntKind.u64 0), (Go.Value.int Go.IntKind.i64 0), (Go.Value.int Go.IntKind.u64 0)] [(0, 1, (Go.Value.int Go.IntKind.i64 0)), (1, 2, x9), (3, 2, x10)]) fun x11 => S.bd (stl c1 0 5 x11) fun c12 => S.bd (lal c12 0 5) fun x13 => some ((Value.tuple ⟨[x13, (Go.Value.int Go.IntKind.i64 0)]⟩)))
def leapfrogref09x_Head.r (a0 : Value) (s : St) : Option Value := leapfrogref09x_Head.t std a0 s
def leapfrogref09x_Head.w : List Value → St → Option Value
  | [a0], s => leapfrogref09x_Head.r a0 s
  | _, _ => none
def leapfrogref09x_Head.an : An := ⟨15, true, [2], [], [], []⟩
theorem leapfrogref09x_Head.ok (S : Sig) (a0 : Value) (s : St) : evG S Try.prog leapfrogref09x_Head.ctx leapfrogref09x_Head.an Try.f42 [a0] s = leapfrogref09x_Head.t S a0 s := by kernel_rfl
theorem leapfrogref09x_Head.cok : CtxOk Try.prog leapfrogref09x_Head.ctx := .nil
theorem leapfrogref09x_Head.draws : fnDraws leapfrogref09x_Head.an Try.f42 = true := by kernel_rfl
theorem leapfrogref09x_Head.can : callOk Try.prog 42 = true := by kernel_rfl
theorem leapfrogref09x_Head.sound : FnOk Try.prog 42 (.rd leapfrogref09x_Head.w) := FnOk.rd_of (evG_ok leapfrogref09x_Head.cok mixed (f := 42) (fn := Try.f42) (by kernel_rfl) leapfrogref09x_Head.draws) fun args s r h => by
  unfold leapfrogref09x_Head.w at h; split at h
  · rw [leapfrogref09x_Head.ok std]; exact h
  · simp at h

/-! ### leapfrog/leapfroglaw13.at: function 62 -/
def leapfroglaw13x_at.ctx : Ctx := []
def leapfroglaw13x_at.t (S : Sig) (a0 : Value) (s : St) : Option Value :=
  S.bd (bx (Go.Value.agg #[(Go.Value.int Go.IntKind.i64 0), (Go.Value.int Go.IntKind.u64 0)])) fun c1 => S.bd (bld [(Go.Value.int Go.IntKind.i64 0), (Go.Value.int Go.IntKind.u64 0)] [(0, 1, (Go.Value.int Go.IntKind.i64 2)), (1, 1, a0)]) fun x2 => S.bd (stl c1 0 2 x2) fun c3 => S.bd (lal c3 0 2) fun x4 => some (x4)
def leapfroglaw13x_at.r (a0 : Value) (s : St) : Option Value := leapfroglaw13x_at.t std a0 s
def leapfroglaw13x_at.w : List Value → St → Option Value
  | [a0], s => leapfroglaw13x_at.r a0 s
  | _, _ => none
def leapfroglaw13x_at.an : An := ⟨5, true, [2], [], [], []⟩
theorem leapfroglaw13x_at.ok (S : Sig) (a0 : Value) (s : St) : evG S Try.prog leapfroglaw13x_at.ctx leapfroglaw13x_at.an Try.f62 [a0] s = leapfroglaw13x_at.t S a0 s := by kernel_rfl
theorem leapfroglaw13x_at.cok : CtxOk Try.prog leapfroglaw13x_at.ctx := .nil
theorem leapfroglaw13x_at.draws : fnDraws leapfroglaw13x_at.an Try.f62 = true := by kernel_rfl
theorem leapfroglaw13x_at.can : callOk Try.prog 62 = true := by kernel_rfl
theorem leapfroglaw13x_at.sound : FnOk Try.prog 62 (.rd leapfroglaw13x_at.w) := FnOk.rd_of (evG_ok leapfroglaw13x_at.cok mixed (f := 62) (fn := Try.f62) (by kernel_rfl) leapfroglaw13x_at.draws) fun args s r h => by
  unfold leapfroglaw13x_at.w at h; split at h
  · rw [leapfroglaw13x_at.ok std]; exact h
  · simp at h

/-! ### leapfrog/leapfroglaw13.conf: function 30 -/
def leapfroglaw13x_conf.ctx : Ctx := [(42, .rd leapfrogref09x_Head.w), (62, .rd leapfroglaw13x_at.w)]
def leapfroglaw13x_conf.t (S : Sig) (s : St) : Option Value :=
  S.bd (bx (Go.Value.agg #[(Go.Value.int Go.IntKind.i64 0), (Go.Value.int Go.IntKind.u64 0), (Go.Value.int Go.IntKind.i64 0), (Go.Value.int Go.IntKind.i64 0), (Go.Value.int Go.IntKind.u64 0), (Go.Value.int Go.IntKind.i64 0), (Go.Value.int Go.IntKind.u64 0), (Go.Value.int Go.IntKind.i64 0), (Go.Value.int Go.IntKind.i64 0), (Go.Value.int Go.IntKind.u64 0), (Go.Value.int Go.IntKind.i64 0), (Go.Value.int Go.IntKind.u64 0), (Go.Value.int Go.IntKind.i64 0), (Go.Value.int Go.IntKind.i64 0)])) fun c1 => S.bd (leapfrogref09x_Head.r (Go.Value.int Go.IntKind.i64 0) s) fun x2 => S.bd (xtr 0 x2) fun x3 => S.bd (xtr 1 x2) fun x4 => S.bd (bx (Go.Value.agg #[(Go.Value.int Go.IntKind.i64 0), (Go.Value.int Go.IntKind.i64 0), (Go.Value.int Go.IntKind.u64 0), (Go.Value.int Go.IntKind.i64 0), (Go.Value.int Go.IntKind.u64 0)])) fun c5 => S.bd (stl c5 0 5 x3) fun c6 => S.bd (lal c6 0 5) fun x7 => S.bd (bld [(Go.Value.int Go.IntKind.i64 0), (Go.Value.int Go.IntKind.i64 0)] [(1, 1, (Go.Value.int Go.IntKind.i64 1))]) fun x8 => S.bd (leapfroglaw13x_at.r (Go.Value.int Go.IntKind.u64 5) s) fun x9 => S.bd (bld [(Go.Value.int Go.IntKind.i64 0), (Go.Value.int Go.IntKind.i64 0), (Go.Value.int Go.IntKind.u64 0), (Go.Value.int Go.IntKind.i64 0), (Go.Value.int Go.IntKind.u64 0)] [(0, 1, (Go.Value.int Go.IntKind.i64 2)), (1, 2, x9)]) fun x10 => S.bd (bld [(Go.Value.int Go.IntKind.i64 0), (Go.Value.int Go.IntKind.u64 0), (Go.Value.int Go.IntKind.i64 0), (Go.Value.int Go.IntKind.i64 0), (Go.Value.int Go.IntKind.u64 0), (Go.Value.int Go.IntKind.i64 0), (Go.Value.int Go.IntKind.u64 0), (Go.Value.int Go.IntKind.i64 0), (Go.Value.int Go.IntKind.i64 0), (Go.Value.int Go.IntKind.u64 0), (Go.Value.int Go.IntKind.i64 0), (Go.Value.int Go.IntKind.u64 0), (Go.Value.int Go.IntKind.i64 0), (Go.Value.int Go.IntKind.i64 0)] [(2, 5, x10), (7, 5, x7), (12, 2, x8)]) fun x11 => S.bd (stl c1 0 14 x11) fun c12 => S.bd (lal c12 0 14) fun x13 => some (x13)
def leapfroglaw13x_conf.r (s : St) : Option Value := leapfroglaw13x_conf.t std  s
def leapfroglaw13x_conf.w : List Value → St → Option Value
  | [], s => leapfroglaw13x_conf.r  s
  | _, _ => none
def leapfroglaw13x_conf.an : An := ⟨12, true, [0, 1], [], [], [(2, [(2, 9), (3, 0), (0, 3), (1, 0), (4, 0), (5, 5)])]⟩
theorem leapfroglaw13x_conf.ok (S : Sig) (s : St) : evG S Try.prog leapfroglaw13x_conf.ctx leapfroglaw13x_conf.an Try.f30 [] s = leapfroglaw13x_conf.t S  s := by kernel_rfl
theorem leapfroglaw13x_conf.cok : CtxOk Try.prog leapfroglaw13x_conf.ctx := .cons leapfrogref09x_Head.sound leapfrogref09x_Head.can <| .cons leapfroglaw13x_at.sound leapfroglaw13x_at.can <| .nil
theorem leapfroglaw13x_conf.draws : fnDraws leapfroglaw13x_conf.an Try.f30 = true := by kernel_rfl
theorem leapfroglaw13x_conf.can : callOk Try.prog 30 = true := by kernel_rfl
theorem leapfroglaw13x_conf.sound : FnOk Try.prog 30 (.rd leapfroglaw13x_conf.w) := FnOk.rd_of (evG_ok leapfroglaw13x_conf.cok mixed (f := 30) (fn := Try.f30) (by kernel_rfl) leapfroglaw13x_conf.draws) fun args s r h => by
  unfold leapfroglaw13x_conf.w at h; split at h
  · rw [leapfroglaw13x_conf.ok std]; exact h
  · simp at h

/-! ### leapfrog/vec.low: function 77 -/
def vec_low.ctx : Ctx := []
def vec_low.t (S : Sig) (a0 : Value) (s : St) : Option Value :=
  S.bd (cvi .u64 a0) fun x1 => S.bd (bin .shl (Go.Value.int Go.IntKind.u64 1) x1) fun x2 => S.bd (bin .sub x2 (Go.Value.int Go.IntKind.u64 1)) fun x3 => some (x3)
def vec_low.r (a0 : Value) (s : St) : Option Value := vec_low.t std a0 s
def vec_low.w : List Value → St → Option Value
  | [a0], s => vec_low.r a0 s
  | _, _ => none
def vec_low.an : An := ⟨7, true, [], [], [], []⟩
theorem vec_low.ok (S : Sig) (a0 : Value) (s : St) : evG S Try.prog vec_low.ctx vec_low.an Try.f77 [a0] s = vec_low.t S a0 s := by kernel_rfl
theorem vec_low.cok : CtxOk Try.prog vec_low.ctx := .nil
theorem vec_low.draws : fnDraws vec_low.an Try.f77 = true := by kernel_rfl
theorem vec_low.can : callOk Try.prog 77 = true := by kernel_rfl
theorem vec_low.sound : FnOk Try.prog 77 (.rd vec_low.w) := FnOk.rd_of (evG_ok vec_low.cok mixed (f := 77) (fn := Try.f77) (by kernel_rfl) vec_low.draws) fun args s r h => by
  unfold vec_low.w at h; split at h
  · rw [vec_low.ok std]; exact h
  · simp at h

/-! ### leapfrog/vec.Right: function 37 -/
def vec_Right.ctx : Ctx := [(77, .rd vec_low.w)]
def vec_Right.t (S : Sig) (a0 : Value) (s : St) : Option Value :=
  S.bd (bx a0) fun c1 => S.bd (lcl c1 0) fun x2 => S.bd (bin .lss x2 (Go.Value.int Go.IntKind.i64 0)) fun x3 => S.bd (S.gd x3 false (lcl c1 0)) fun x4 => S.bd (S.gd x3 false (bin .gtr x4 (Go.Value.int Go.IntKind.i64 32))) fun x5 => S.bd (pik x3 (Go.Value.bool Bool.true) x5) fun x6 => S.bd (S.gd x6 false (lcl c1 1)) fun x7 => S.bd (S.gd x6 false (lcl c1 0)) fun x8 => S.bd (S.gd x6 false (vec_low.r x8 s)) fun x9 => S.bd (S.gd x6 false (bin .gtr x7 x9)) fun x10 => S.bd (pik x6 (Go.Value.bool Bool.true) x10) fun x11 => S.cnd x11 (some ((Go.Value.int Go.IntKind.i64 10))) (some ((Go.Value.int Go.IntKind.i64 0)))
def vec_Right.r (a0 : Value) (s : St) : Option Value := vec_Right.t std a0 s
def vec_Right.w : List Value → St → Option Value
  | [a0], s => vec_Right.r a0 s
  | _, _ => none
def vec_Right.an : An := ⟨19, true, [1], [], [], [(1, [(0, 0), (1, 9), (2, 0), (3, 0), (4, 0), (5, 9), (6, 0), (7, 0), (8, 0), (9, 0), (10, 9), (11, 0), (12, 9), (13, 3), (14, 0), (15, 0)])]⟩
theorem vec_Right.ok (S : Sig) (a0 : Value) (s : St) : evG S Try.prog vec_Right.ctx vec_Right.an Try.f37 [a0] s = vec_Right.t S a0 s := by kernel_rfl
theorem vec_Right.cok : CtxOk Try.prog vec_Right.ctx := .cons vec_low.sound vec_low.can <| .nil
theorem vec_Right.draws : fnDraws vec_Right.an Try.f37 = true := by kernel_rfl
theorem vec_Right.can : callOk Try.prog 37 = true := by kernel_rfl
theorem vec_Right.sound : FnOk Try.prog 37 (.rd vec_Right.w) := FnOk.rd_of (evG_ok vec_Right.cok mixed (f := 37) (fn := Try.f37) (by kernel_rfl) vec_Right.draws) fun args s r h => by
  unfold vec_Right.w at h; split at h
  · rw [vec_Right.ok std]; exact h
  · simp at h

/-! ### leapfrog/vec.prefix: function 75 -/
def vec_prefix.ctx : Ctx := []
def vec_prefix.t (S : Sig) (a0 a1 : Value) (s : St) : Option Value :=
  S.bd (bx a0) fun c1 => S.bd (bx (Go.Value.agg #[(Go.Value.int Go.IntKind.i64 0), (Go.Value.int Go.IntKind.u64 0)])) fun c2 => S.bd (lcl c1 1) fun x3 => S.bd (lcl c1 0) fun x4 => S.bd (bin .sub x4 a1) fun x5 => S.bd (cvi .u64 x5) fun x6 => S.bd (bin .shr x3 x6) fun x7 => S.bd (bld [(Go.Value.int Go.IntKind.i64 0), (Go.Value.int Go.IntKind.u64 0)] [(0, 1, a1), (1, 1, x7)]) fun x8 => S.bd (stl c2 0 2 x8) fun c9 => S.bd (lal c9 0 2) fun x10 => some (x10)
def vec_prefix.r (a0 a1 : Value) (s : St) : Option Value := vec_prefix.t std a0 a1 s
def vec_prefix.w : List Value → St → Option Value
  | [a0, a1], s => vec_prefix.r a0 a1 s
  | _, _ => none
def vec_prefix.an : An := ⟨15, true, [2, 4], [], [], []⟩
theorem vec_prefix.ok (S : Sig) (a0 a1 : Value) (s : St) : evG S Try.prog vec_prefix.ctx vec_prefix.an Try.f75 [a0, a1] s = vec_prefix.t S a0 a1 s := by kernel_rfl
theorem vec_prefix.cok : CtxOk Try.prog vec_prefix.ctx := .nil
theorem vec_prefix.draws : fnDraws vec_prefix.an Try.f75 = true := by kernel_rfl
theorem vec_prefix.can : callOk Try.prog 75 = true := by kernel_rfl
theorem vec_prefix.sound : FnOk Try.prog 75 (.rd vec_prefix.w) := FnOk.rd_of (evG_ok vec_prefix.cok mixed (f := 75) (fn := Try.f75) (by kernel_rfl) vec_prefix.draws) fun args s r h => by
  unfold vec_prefix.w at h; split at h
  · rw [vec_prefix.ok std]; exact h
  · simp at h

/-! ### leapfrog/vec.Begins: function 34 -/
def vec_Begins.ctx : Ctx := [(37, .rd vec_Right.w), (75, .rd vec_prefix.w)]
def vec_Begins.t (S : Sig) (a0 a1 : Value) (s : St) : Option Value :=
  S.bd (bx a0) fun c1 => S.bd (bx a1) fun c2 => S.bd (lal c1 0 2) fun x3 => S.bd (vec_Right.r x3 s) fun x4 => S.bd (eqb [1] false false x4 (Go.Value.int Go.IntKind.i64 0)) fun x5 => S.bd (S.gd x5 true (lal c2 0 2)) fun x6 => S.bd (S.gd x5 true (vec_Right.r x6 s)) fun x7 => S.bd (S.gd x5 true (eqb [1] false false x7 (Go.Value.int Go.IntKind.i64 0))) fun x8 => S.bd (pik x5 x8 (Go.Value.bool Bool.false)) fun x9 => S.bd (S.gd x9 true (lcl c2 0)) fun x10 => S.bd (S.gd x9 true (lcl c1 0)) fun x11 => S.bd (S.gd x9 true (bin .leq x10 x11)) fun x12 => S.bd (pik x9 x12 (Go.Value.bool Bool.false)) fun x13 => S.bd (S.gd x13 true (lal c1 0 2)) fun x14 => S.bd (S.gd x13 true (lcl c2 0)) fun x15 => S.bd (S.gd x13 true (lal c2 0 2)) fun x16 => S.bd (S.gd x13 true (vec_prefix.r x14 x15 s)) fun x17 => S.bd (S.gd x13 true (eqb [1, 1] true false x17 x16)) fun x18 => S.bd (pik x13 x18 (Go.Value.bool Bool.false)) fun x19 => some (x19)
def vec_Begins.r (a0 a1 : Value) (s : St) : Option Value := vec_Begins.t std a0 a1 s
def vec_Begins.w : List Value → St → Option Value
  | [a0, a1], s => vec_Begins.r a0 a1 s
  | _, _ => none
def vec_Begins.an : An := ⟨28, true, [2, 3], [], [], [(1, [(0, 17), (1, 3), (2, 0), (3, 0), (4, 25), (5, 3), (6, 0), (7, 0), (8, 0), (9, 0), (10, 25), (11, 0), (12, 17), (13, 0), (14, 0), (15, 0), (16, 17), (17, 0), (18, 25), (20, 25), (19, 3), (21, 0), (22, 0), (23, 0)])]⟩
theorem vec_Begins.ok (S : Sig) (a0 a1 : Value) (s : St) : evG S Try.prog vec_Begins.ctx vec_Begins.an Try.f34 [a0, a1] s = vec_Begins.t S a0 a1 s := by kernel_rfl
theorem vec_Begins.cok : CtxOk Try.prog vec_Begins.ctx := .cons vec_Right.sound vec_Right.can <| .cons vec_prefix.sound vec_prefix.can <| .nil
theorem vec_Begins.draws : fnDraws vec_Begins.an Try.f34 = true := by kernel_rfl
theorem vec_Begins.can : callOk Try.prog 34 = true := by kernel_rfl
theorem vec_Begins.sound : FnOk Try.prog 34 (.rd vec_Begins.w) := FnOk.rd_of (evG_ok vec_Begins.cok mixed (f := 34) (fn := Try.f34) (by kernel_rfl) vec_Begins.draws) fun args s r h => by
  unfold vec_Begins.w at h; split at h
  · rw [vec_Begins.ok std]; exact h
  · simp at h

/-! ### leapfrog/key.Check: function 35 -/
def key_Check.ctx : Ctx := []
def key_Check.t (S : Sig) (a0 : Value) (s : St) : Option Value :=
  S.bd (bx a0) fun c1 => S.bd (lcl c1 0) fun x2 => S.bd (eqb [1] false false x2 (Go.Value.int Go.IntKind.i64 2)) fun x3 => S.bd (S.gd x3 false (lcl c1 0)) fun x4 => S.bd (S.gd x3 false (eqb [1] false false x4 (Go.Value.int Go.IntKind.i64 1))) fun x5 => S.bd (S.gd x3 false (some x5)) fun x6 => S.bd (S.gd x6 false (lcl c1 0)) fun x7 => S.bd (S.gd x6 false (eqb [1] false false x7 (Go.Value.int Go.IntKind.i64 3))) fun x8 => S.bd (S.gd x3 false (pik x6 (Go.Value.bool Bool.true) x8)) fun x9 => S.bd (S.gd x3 false (some x9)) fun x10 => S.bd (S.gd x10 true (lcl c1 1)) fun x11 => S.bd (S.gd x10 true (eqb [1] false false x11 (Go.Value.int Go.IntKind.u64 0))) fun x12 => S.bd (S.gd x3 false (pik x10 x12 (Go.Value.bool Bool.false))) fun x13 => S.bd (pik x3 (Go.Value.bool Bool.true) x13) fun x14 => S.cnd x14 (some ((Go.Value.int Go.IntKind.i64 0))) (some ((Go.Value.int Go.IntKind.i64 20)))
def key_Check.r (a0 : Value) (s : St) : Option Value := key_Check.t std a0 s
def key_Check.w : List Value → St → Option Value
  | [a0], s => key_Check.r a0 s
  | _, _ => none
def key_Check.an : An := ⟨21, true, [1], [], [], []⟩
theorem key_Check.ok (S : Sig) (a0 : Value) (s : St) : evG S Try.prog key_Check.ctx key_Check.an Try.f35 [a0] s = key_Check.t S a0 s := by kernel_rfl
theorem key_Check.cok : CtxOk Try.prog key_Check.ctx := .nil
theorem key_Check.draws : fnDraws key_Check.an Try.f35 = true := by kernel_rfl
theorem key_Check.can : callOk Try.prog 35 = true := by kernel_rfl
theorem key_Check.sound : FnOk Try.prog 35 (.rd key_Check.w) := FnOk.rd_of (evG_ok key_Check.cok mixed (f := 35) (fn := Try.f35) (by kernel_rfl) key_Check.draws) fun args s r h => by
  unfold key_Check.w at h; split at h
  · rw [key_Check.ok std]; exact h
  · simp at h

/-! ### leapfrog/lock.Check: function 38 -/
def lock_Check.ctx : Ctx := []
def lock_Check.t (S : Sig) (a0 : Value) (s : St) : Option Value :=
  S.bd (bx a0) fun c1 => S.bd (lcl c1 0) fun x2 => S.bd (bin .lss x2 (Go.Value.int Go.IntKind.i64 0)) fun x3 => S.bd (S.gd x3 false (lcl c1 0)) fun x4 => S.bd (S.gd x3 false (bin .geq x4 (Go.Value.int Go.IntKind.i64 1024))) fun x5 => S.bd (pik x3 (Go.Value.bool Bool.true) x5) fun x6 => S.bd (S.gd x6 false (lcl c1 1)) fun x7 => S.bd (S.gd x6 false (bin .lss x7 (Go.Value.int Go.IntKind.i64 1))) fun x8 => S.bd (pik x6 (Go.Value.bool Bool.true) x8) fun x9 => S.bd (S.gd x9 false (lcl c1 1)) fun x10 => S.bd (S.gd x9 false (bin .gtr x10 (Go.Value.int Go.IntKind.i64 1073741824))) fun x11 => S.bd (pik x9 (Go.Value.bool Bool.true) x11) fun x12 => S.cnd x12 (some ((Go.Value.int Go.IntKind.i64 70))) (some ((Go.Value.int Go.IntKind.i64 0)))
def lock_Check.r (a0 : Value) (s : St) : Option Value := lock_Check.t std a0 s
def lock_Check.w : List Value → St → Option Value
  | [a0], s => lock_Check.r a0 s
  | _, _ => none
def lock_Check.an : An := ⟨21, true, [1], [], [], []⟩
theorem lock_Check.ok (S : Sig) (a0 : Value) (s : St) : evG S Try.prog lock_Check.ctx lock_Check.an Try.f38 [a0] s = lock_Check.t S a0 s := by kernel_rfl
theorem lock_Check.cok : CtxOk Try.prog lock_Check.ctx := .nil
theorem lock_Check.draws : fnDraws lock_Check.an Try.f38 = true := by kernel_rfl
theorem lock_Check.can : callOk Try.prog 38 = true := by kernel_rfl
theorem lock_Check.sound : FnOk Try.prog 38 (.rd lock_Check.w) := FnOk.rd_of (evG_ok lock_Check.cok mixed (f := 38) (fn := Try.f38) (by kernel_rfl) lock_Check.draws) fun args s r h => by
  unfold lock_Check.w at h; split at h
  · rw [lock_Check.ok std]; exact h
  · simp at h

/-! ### leapfrog/splice.New: function 14 -/
def splice_New.ctx : Ctx := [(34, .rd vec_Begins.w), (35, .rd key_Check.w), (36, .rd key_Less.w), (37, .rd vec_Right.w), (38, .rd lock_Check.w)]
def splice_New.t (S : Sig) (a0 : Value) (s : St) : Option (Value × St) :=
  S.bd (bx a0) fun c1 => S.bd (lcl c1 3) fun x2 => S.bd (eqb [1] false false x2 (Go.Value.int Go.IntKind.i64 2)) fun x3 => S.bd (S.gd x3 true (lal c1 5 2)) fun x4 => S.bd (S.gd x3 true (lal c1 0 2)) fun x5 => S.bd (S.gd x3 true (vec_Begins.r x4 x5 s)) fun x6 => S.bd (pik x3 x6 (Go.Value.bool Bool.false)) fun x7 => S.bd (lal c1 8 2) fun x8 => S.bd (key_Check.r x8 s) fun x9 => S.bd (eqb [1] false false x9 (Go.Value.int Go.IntKind.i64 0)) fun x10 => S.bd (S.gd x10 true (lal c1 8 2)) fun x11 => S.bd (S.gd x10 true (lal c1 3 2)) fun x12 => S.bd (S.gd x10 true (key_Less.r x11 x12 s)) fun x13 => S.bd (pik x10 x13 (Go.Value.bool Bool.false)) fun x14 => S.bd (un .not x7) fun x15 => S.bd (S.gd x15 false (some x14)) fun x16 => S.bd (S.gd x15 false (un .not x16)) fun x17 => S.bd (pik x15 (Go.Value.bool Bool.true) x17) fun x18 => S.bd (S.gd x18 false (lal c1 0 2)) fun x19 => S.bd (S.gd x18 false (vec_Right.r x19 s)) fun x20 => S.bd (S.gd x18 false (eqb [1] false true x20 (Go.Value.int Go.IntKind.i64 0))) fun x21 => S.bd (pik x18 (Go.Value.bool Bool.true) x21) fun x22 => S.bd (S.gd x22 false (lal c1 12 2)) fun x23 => S.bd (S.gd x22 false (lock_Check.r x23 s)) fun x24 => S.bd (S.gd x22 false (eqb [1] false true x24 (Go.Value.int Go.IntKind.i64 0))) fun x25 => S.bd (pik x22 (Go.Value.bool Bool.true) x25) fun x26 => S.cnd x26 (some ((Value.tuple ⟨[(Go.Value.pointer Option.none), (Go.Value.int Go.IntKind.i64 130)]⟩), s)) (S.bd (lal c1 0 14) fun x27 => S.bd (lal c1 7 5) fun x28 => S.bd (bld [(Go.Value.int Go.IntKind.i64 0), (Go.Value.int Go.IntKind.u64 0), (Go.Value.int Go.IntKind.i64 0), (Go.Value.int Go.IntKind.i64 0), (Go.Value.int Go.IntKind.u64 0), (Go.Value.int Go.IntKind.i64 0), (Go.Value.int Go.IntKind.u64 0), (Go.Value.int Go.IntKind.i64 0), (Go.Value.int Go.IntKind.i64 0), (Go.Value.int Go.IntKind.u64 0), (Go.Value.int Go.IntKind.i64 0), (Go.Value.int Go.IntKind.u64 0), (Go.Value.int Go.IntKind.i64 0), (Go.Value.int Go.IntKind.i64 0), (Go.Value.int Go.IntKind.i64 0), (Go.Value.int Go.IntKind.i64 0), (Go.Value.int Go.IntKind.i64 0), (Go.Value.int Go.IntKind.u64 0), (Go.Value.int Go.IntKind.i64 0), (Go.Value.int Go.IntKind.u64 0), (Go.Value.pointer Option.none), (Go.Value.int Go.IntKind.i64 0), (Go.Value.int Go.IntKind.i64 0), (Go.Value.int Go.IntKind.u64 0), (Go.Value.int Go.IntKind.i64 0), (Go.Value.int Go.IntKind.u64 0), (Go.Value.bool Bool.false), (Go.Value.bool Bool.false), Go.Value.nilFunc, (Go.Value.int Go.IntKind.i64 0), (Go.Value.int Go.IntKind.u64 0), (Go.Value.slice Option.none 0 0), (Go.Value.slice Option.none 0 0), (Go.Value.int Go.IntKind.i64 0), (Go.Value.int Go.IntKind.i64 0), (Go.Value.int Go.IntKind.u64 0), (Go.Value.int Go.IntKind.i64 0), (Go.Value.int Go.IntKind.u64 0), (Go.Value.int Go.IntKind.i64 0), (Go.Value.int Go.IntKind.i64 0), (Go.Value.int Go.IntKind.u64 0), (Go.Value.int Go.IntKind.i64 0), (Go.Value.int Go.IntKind.u64 0), (Go.Value.bool Bool.false)] [(0, 14, x27), (14, 1, (Go.Value.int Go.IntKind.i64 1)), (15, 5, x28)]) fun x29 => S.bd (alv s x29) fun r30 => some ((Value.tuple ⟨[r30.1, (Go.Value.int Go.IntKind.i64 0)]⟩), r30.2))
def splice_New.v (a0 : Value) (s : St) : Option (Value × St) := splice_New.t std a0 s
def splice_New.w : List Value → St → Option (Value × St)
  | [a0], s => splice_New.v a0 s
  | _, _ => none
def splice_New.an : An := ⟨56, false, [1], [], [], []⟩
theorem splice_New.ok (S : Sig) (a0 : Value) (s : St) : evF S Try.prog splice_New.ctx splice_New.an Try.f14 [a0] s = splice_New.t S a0 s := by kernel_rfl
theorem splice_New.cok : CtxOk Try.prog splice_New.ctx := .cons vec_Begins.sound vec_Begins.can <| .cons key_Check.sound key_Check.can <| .cons key_Less.sound key_Less.can <| .cons vec_Right.sound vec_Right.can <| .cons lock_Check.sound lock_Check.can <| .nil
theorem splice_New.draws : fnDraws splice_New.an Try.f14 = true := by kernel_rfl
theorem splice_New.can : callOk Try.prog 14 = true := by kernel_rfl
theorem splice_New.sound : FnOk Try.prog 14 (.st splice_New.w) := FnOk.st_of (evF_ok splice_New.cok mixed (f := 14) (fn := Try.f14) (by kernel_rfl) splice_New.draws) fun args s r h => by
  unfold splice_New.w at h; split at h
  · rw [splice_New.ok std]; exact h
  · simp at h

/-! ### leapfrog/leapfrogref09.Tail: function 31 -/
def leapfrogref09x_Tail.ctx : Ctx := []
def leapfrogref09x_Tail.t (S : Sig) (a0 : Value) (s : St) : Option Value :=
  S.bd (bx (Go.Value.agg #[(Go.Value.int Go.IntKind.i64 0), (Go.Value.int Go.IntKind.i64 0), (Go.Value.int Go.IntKind.u64 0), (Go.Value.int Go.IntKind.i64 0), (Go.Value.int Go.IntKind.u64 0)])) fun c1 => S.bd (bin .lss a0 (Go.Value.int Go.IntKind.i64 0)) fun x2 => S.bd (S.gd x2 false (some a0)) fun x3 => S.bd (S.gd x2 false (bin .gtr x3 (Go.Value.int Go.IntKind.i64 32))) fun x4 => S.bd (pik x2 (Go.Value.bool Bool.true) x4) fun x5 => S.cnd x5 (S.bd (bld [(Go.Value.int Go.IntKind.i64 0), (Go.Value.int Go.IntKind.i64 0), (Go.Value.int Go.IntKind.u64 0), (Go.Value.int Go.IntKind.i64 0), (Go.Value.int Go.IntKind.u64 0)] []) fun x6 => S.bd (stl c1 0 5 x6) fun c7 => S.bd (lal c7 0 5) fun x8 => some ((Value.tuple ⟨[x8, (Go.Value.int Go.IntKind.i64 90)]⟩))) (S.bd (bld [(Go.Value.int Go.IntKind.i64 0), (Go.Value.int Go.IntKind.u64 0)] [(0, 1, (Go.Value.int Go.IntKind.i64 3))]) fun x9 => S.bd (bld [(Go.Value.int Go.IntKind.i64 0), (Go.Value.int Go.IntKind.u64 0)] [(0, 1, a0)]) fun x10 => S.bd (bld [(Go.Value.int Go.IntKind.i64 0), (Go.Value.int Go.IntKind.i64 0), (Go.Value.int Go.IntKind.u64 0), (Go.Value.int Go.IntKind.i64 0), (Go.Value.int Go.IntKind.u64 0)] [(0, 1, (Go.Value.int Go.IntKind.i64 1)), (1, 2, x9), (3, 2, x10)]) fun x11 => S.bd (stl c1 0 5 x11) fun c12 => S.bd (lal c12 0 5) fun x13 => some ((Value.tuple ⟨[x13, (Go.Value.int Go.IntKind.i64 0)]⟩)))
def leapfrogref09x_Tail.r (a0 : Value) (s : St) : Option Value := leapfrogref09x_Tail.t std a0 s
def leapfrogref09x_Tail.w : List Value → St → Option Value
  | [a0], s => leapfrogref09x_Tail.r a0 s
  | _, _ => none
def leapfrogref09x_Tail.an : An := ⟨15, true, [2], [], [], []⟩
theorem leapfrogref09x_Tail.ok (S : Sig) (a0 : Value) (s : St) : evG S Try.prog leapfrogref09x_Tail.ctx leapfrogref09x_Tail.an Try.f31 [a0] s = leapfrogref09x_Tail.t S a0 s := by kernel_rfl
theorem leapfrogref09x_Tail.cok : CtxOk Try.prog leapfrogref09x_Tail.ctx := .nil
theorem leapfrogref09x_Tail.draws : fnDraws leapfrogref09x_Tail.an Try.f31 = true := by kernel_rfl
theorem leapfrogref09x_Tail.can : callOk Try.prog 31 = true := by kernel_rfl
theorem leapfrogref09x_Tail.sound : FnOk Try.prog 31 (.rd leapfrogref09x_Tail.w) := FnOk.rd_of (evG_ok leapfrogref09x_Tail.cok mixed (f := 31) (fn := Try.f31) (by kernel_rfl) leapfrogref09x_Tail.draws) fun args s r h => by
  unfold leapfrogref09x_Tail.w at h; split at h
  · rw [leapfrogref09x_Tail.ok std]; exact h
  · simp at h

/-! ### leapfrog/leapfroglaw13.alive: function 10 -/
def leapfroglaw13x_alive.ctx : Ctx := [(30, .rd leapfroglaw13x_conf.w), (14, .st splice_New.w), (31, .rd leapfrogref09x_Tail.w), (15, .rd splice_Splice_Next.w), (19, .st splice_Splice_Tell.w)]
def leapfroglaw13x_alive.t (S : Sig) (s : St) : Option (Value × St) :=
  S.bd (leapfroglaw13x_conf.r  s) fun x1 => S.bd (splice_New.v x1 s) fun r2 => S.bd (xtr 0 r2.1) fun x3 => S.bd (xtr 1 r2.1) fun x4 => S.bd (eqb [1] false true x4 (Go.Value.int Go.IntKind.i64 0)) fun x5 => S.bd (S.gd x5 false (some x3)) fun x6 => S.bd (S.gd x5 false (eqb [3] false false x6 (Go.Value.pointer Option.none))) fun x7 => S.bd (pik x5 (Go.Value.bool Bool.true) x7) fun x8 => S.cnd x8 (some ((Go.Value.bool Bool.false), r2.2)) (S.bd (leapfrogref09x_Tail.r (Go.Value.int Go.IntKind.i64 0) r2.2) fun x9 => S.bd (xtr 0 x9) fun x10 => S.bd (xtr 1 x9) fun x11 => S.bd (bx (Go.Value.agg #[(Go.Value.int Go.IntKind.i64 0), (Go.Value.int Go.IntKind.i64 0), (Go.Value.int Go.IntKind.u64 0), (Go.Value.int Go.IntKind.i64 0), (Go.Value.int Go.IntKind.u64 0)])) fun c12 => S.bd (stl c12 0 5 x10) fun c13 => S.bd (splice_Splice_Next.r x3 r2.2) fun x14 => S.bd (bx (Go.Value.agg #[(Go.Value.int Go.IntKind.i64 0), (Go.Value.int Go.IntKind.i64 0), (Go.Value.int Go.IntKind.i64 0), (Go.Value.int Go.IntKind.u64 0), (Go.Value.int Go.IntKind.i64 0), (Go.Value.int Go.IntKind.u64 0), (Go.Value.int Go.IntKind.i64 0), (Go.Value.int Go.IntKind.i64 0), (Go.Value.int Go.IntKind.u64 0), (Go.Value.int Go.IntKind.i64 0), (Go.Value.int Go.IntKind.i64 0), (Go.Value.int Go.IntKind.u64 0), (Go.Value.int Go.IntKind.i64 0), (Go.Value.int Go.IntKind.u64 0), (Go.Value.int Go.IntKind.i64 0), (Go.Value.int Go.IntKind.i64 0), (Go.Value.int Go.IntKind.u64 0), (Go.Value.int Go.IntKind.i64 0), (Go.Value.int Go.IntKind.u64 0), (Go.Value.int Go.IntKind.i64 0), (Go.Value.int Go.IntKind.i64 0), (Go.Value.int Go.IntKind.i64 0), (Go.Value.int Go.IntKind.u64 0), (Go.Value.slice Option.none 0 0), (Go.Value.slice Option.none 0 0), (Go.Value.int Go.IntKind.i64 0), (Go.Value.int Go.IntKind.i64 0), (Go.Value.int Go.IntKind.u64 0), (Go.Value.int Go.IntKind.i64 0), (Go.Value.int Go.IntKind.u64 0), (Go.Value.int Go.IntKind.i64 0), (Go.Value.int Go.IntKind.i64 0), (Go.Value.int Go.IntKind.u64 0), (Go.Value.int Go.IntKind.i64 0), (Go.Value.int Go.IntKind.u64 0), (Go.Value.bool Bool.false)])) fun c15 => S.bd (stl c15 0 36 x14) fun c16 => S.bd (lal c13 0 5) fun x17 => S.bd (bld [(Go.Value.int Go.IntKind.i64 0), (Go.Value.bool Bool.false), (Go.Value.int Go.IntKind.i64 0), (Go.Value.int Go.IntKind.i64 0), (Go.Value.int Go.IntKind.u64 0), (Go.Value.int Go.IntKind.i64 0), (Go.Value.int Go.IntKind.u64 0), (Go.Value.int Go.IntKind.i64 0), (Go.Value.int Go.IntKind.i64 0), (Go.Value.int Go.IntKind.u64 0), (Go.Value.int Go.IntKind.i64 0), (Go.Value.int Go.IntKind.u64 0), (Go.Value.slice Option.none 0 0)] [(0, 1, (Go.Value.int Go.IntKind.i64 1)), (7, 5, x17)]) fun x18 => S.bd (splice_Splice_Tell.v x3 x18 r2.2) fun r19 => S.bd (splice_Splice_Next.r x3 r19.2) fun x20 => S.bd (bx (Go.Value.agg #[(Go.Value.int Go.IntKind.i64 0), (Go.Value.int Go.IntKind.i64 0), (Go.Value.int Go.IntKind.i64 0), (Go.Value.int Go.IntKind.u64 0), (Go.Value.int Go.IntKind.i64 0), (Go.Value.int Go.IntKind.u64 0), (Go.Value.int Go.IntKind.i64 0), (Go.Value.int Go.IntKind.i64 0), (Go.Value.int Go.IntKind.u64 0), (Go.Value.int Go.IntKind.i64 0), (Go.Value.int Go.IntKind.i64 0), (Go.Value.int Go.IntKind.u64 0), (Go.Value.int Go.IntKind.i64 0), (Go.Value.int Go.IntKind.u64 0), (Go.Value.int Go.IntKind.i64 0), (Go.Value.int Go.IntKind.i64 0), (Go.Value.int Go.IntKind.u64 0), (Go.Value.int Go.IntKind.i64 0), (Go.Value.int Go.IntKind.u64 0), (Go.Value.int Go.IntKind.i64 0), (Go.Value.int Go.IntKind.i64 0), (Go.Value.int Go.IntKind.i64 0), (Go.Value.int Go.IntKind.u64 0), (Go.Value.slice Option.none 0 0), (Go.Value.slice Option.none 0 0), (Go.Value.int Go.IntKind.i64 0), (Go.Value.int Go.IntKind.i64 0), (Go.Value.int Go.IntKind.u64 0), (Go.Value.int Go.IntKind.i64 0), (Go.Value.int Go.IntKind.u64 0), (Go.Value.int Go.IntKind.i64 0), (Go.Value.int Go.IntKind.i64 0), (Go.Value.int Go.IntKind.u64 0), (Go.Value.int Go.IntKind.i64 0), (Go.Value.int Go.IntKind.u64 0), (Go.Value.bool Bool.false)])) fun c21 => S.bd (stl c21 0 36 x20) fun c22 => S.bd (bld [(Go.Value.int Go.IntKind.i64 0), (Go.Value.bool Bool.false), (Go.Value.int Go.IntKind.i64 0), (Go.Value.int Go.IntKind.i64 0), (Go.Value.int Go.IntKind.u64 0), (Go.Value.int Go.IntKind.i64 0), (Go.Value.int Go.IntKind.u64 0), (Go.Value.int Go.IntKind.i64 0), (Go.Value.int Go.IntKind.i64 0), (Go.Value.int Go.IntKind.u64 0), (Go.Value.int Go.IntKind.i64 0), (Go.Value.int Go.IntKind.u64 0), (Go.Value.slice Option.none 0 0)] [(0, 1, (Go.Value.int Go.IntKind.i64 1))]) fun x23 => S.bd (splice_Splice_Tell.v x3 x23 r19.2) fun r24 => S.bd (splice_Splice_Next.r x3 r24.2) fun x25 => S.bd (bx (Go.Value.agg #[(Go.Value.int Go.IntKind.i64 0), (Go.Value.int Go.IntKind.i64 0), (Go.Value.int Go.IntKind.i64 0), (Go.Value.int Go.IntKind.u64 0), (Go.Value.int Go.IntKind.i64 0), (Go.Value.int Go.IntKind.u64 0), (Go.Value.int Go.IntKind.i64 0), (Go.Value.int Go.IntKind.i64 0), (Go.Value.int Go.IntKind.u64 0), (Go.Value.int Go.IntKind.i64 0), (Go.Value.int Go.IntKind.i64 0), (Go.Value.int Go.IntKind.u64 0), (Go.Value.int Go.IntKind.i64 0), (Go.Value.int Go.IntKind.u64 0), (Go.Value.int Go.IntKind.i64 0), (Go.Value.int Go.IntKind.i64 0), (Go.Value.int Go.IntKind.u64 0), (Go.Value.int Go.IntKind.i64 0), (Go.Value.int Go.IntKind.u64 0), (Go.Value.int Go.IntKind.i64 0), (Go.Value.int Go.IntKind.i64 0), (Go.Value.int Go.IntKind.i64 0), (Go.Value.int Go.IntKind.u64 0), (Go.Value.slice Option.none 0 0), (Go.Value.slice Option.none 0 0), (Go.Value.int Go.IntKind.i64 0), (Go.Value.int Go.IntKind.i64 0), (Go.Value.int Go.IntKind.u64 0), (Go.Value.int Go.IntKind.i64 0), (Go.Value.int Go.IntKind.u64 0), (Go.Value.int Go.IntKind.i64 0), (Go.Value.int Go.IntKind.i64 0), (Go.Value.int Go.IntKind.u64 0), (Go.Value.int Go.IntKind.i64 0), (Go.Value.int Go.IntKind.u64 0), (Go.Value.bool Bool.false)])) fun c26 => S.bd (stl c26 0 36 x25) fun c27 => S.bd (lcl c16 0) fun x28 => S.bd (eqb [1] false false x28 (Go.Value.int Go.IntKind.i64 1)) fun x29 => S.bd (S.gd x29 true (lcl c16 6)) fun x30 => S.bd (S.gd x29 true (eqb [1] false false x30 (Go.Value.int Go.IntKind.i64 3))) fun x31 => S.bd (pik x29 x31 (Go.Value.bool Bool.false)) fun x32 => S.bd (S.gd x32 true (lcl c16 1)) fun x33 => S.bd (S.gd x32 true (eqb [1] false false x33 (Go.Value.int Go.IntKind.i64 0))) fun x34 => S.bd (pik x32 x34 (Go.Value.bool Bool.false)) fun x35 => S.bd (S.gd x35 true (lcl c22 6)) fun x36 => S.bd (S.gd x35 true (eqb [1] false false x36 (Go.Value.int Go.IntKind.i64 7))) fun x37 => S.bd (pik x35 x37 (Go.Value.bool Bool.false)) fun x38 => S.bd (S.gd x38 true (lcl c22 1)) fun x39 => S.bd (S.gd x38 true (eqb [1] false false x39 (Go.Value.int Go.IntKind.i64 2))) fun x40 => S.bd (pik x38 x40 (Go.Value.bool Bool.false)) fun x41 => S.bd (S.gd x41 true (lal c22 14 5)) fun x42 => S.bd (S.gd x41 true (lal c13 0 5)) fun x43 => S.bd (S.gd x41 true (eqb [1, 1, 1, 1, 1] true false x42 x43)) fun x44 => S.bd (pik x41 x44 (Go.Value.bool Bool.false)) fun x45 => S.bd (S.gd x45 true (lcl c27 6)) fun x46 => S.bd (S.gd x45 true (eqb [1] false false x46 (Go.Value.int Go.IntKind.i64 5))) fun x47 => S.bd (pik x45 x47 (Go.Value.bool Bool.false)) fun x48 => S.bd (S.gd x48 true (lcl c27 1)) fun x49 => S.bd (S.gd x48 true (eqb [1] false false x49 (Go.Value.int Go.IntKind.i64 0))) fun x50 => S.bd (pik x48 x50 (Go.Value.bool Bool.false)) fun x51 => S.bd (S.gd x51 true (lcl c27 9)) fun x52 => S.bd (S.gd x51 true (eqb [1] false false x52 (Go.Value.int Go.IntKind.i64 2))) fun x53 => S.bd (pik x51 x53 (Go.Value.bool Bool.false)) fun x54 => some (x54, r24.2))
def leapfroglaw13x_alive.v (s : St) : Option (Value × St) := leapfroglaw13x_alive.t std  s
def leapfroglaw13x_alive.w : List Value → St → Option (Value × St)
  | [], s => leapfroglaw13x_alive.v  s
  | _, _ => none
def leapfroglaw13x_alive.an : An := ⟨89, false, [3, 5, 6, 7], [], [], []⟩
theorem leapfroglaw13x_alive.ok (S : Sig) (s : St) : evF S Try.prog leapfroglaw13x_alive.ctx leapfroglaw13x_alive.an Try.f10 [] s = leapfroglaw13x_alive.t S  s := by kernel_rfl
theorem leapfroglaw13x_alive.cok : CtxOk Try.prog leapfroglaw13x_alive.ctx := .cons leapfroglaw13x_conf.sound leapfroglaw13x_conf.can <| .cons splice_New.sound splice_New.can <| .cons leapfrogref09x_Tail.sound leapfrogref09x_Tail.can <| .cons splice_Splice_Next.sound splice_Splice_Next.can <| .cons splice_Splice_Tell.sound splice_Splice_Tell.can <| .nil
theorem leapfroglaw13x_alive.draws : fnDraws leapfroglaw13x_alive.an Try.f10 = true := by kernel_rfl
theorem leapfroglaw13x_alive.can : callOk Try.prog 10 = true := by kernel_rfl
theorem leapfroglaw13x_alive.sound : FnOk Try.prog 10 (.st leapfroglaw13x_alive.w) := FnOk.st_of (evF_ok leapfroglaw13x_alive.cok mixed (f := 10) (fn := Try.f10) (by kernel_rfl) leapfroglaw13x_alive.draws) fun args s r h => by
  unfold leapfroglaw13x_alive.w at h; split at h
  · rw [leapfroglaw13x_alive.ok std]; exact h
  · simp at h

/-! ### leapfrog/leapfroglaw13.alive: function 10, closed -/
def leapfroglaw13x_aliveC.r (s : St) : Option Value := some (Value.bool true)
def leapfroglaw13x_aliveC.w : List Value → St → Option Value := closedW (Value.bool true)
theorem leapfroglaw13x_aliveC.can : callOk Try.prog 10 = true := leapfroglaw13x_alive.can
theorem leapfroglaw13x_aliveC.sound : FnOk Try.prog 10 (.rd leapfroglaw13x_aliveC.w) := FnOk.closed leapfroglaw13x_alive.sound (by kernel_rfl) rfl

/-! ### leapfrog/leapfroglaw13.SpliceNobody: function 7 -/
def leapfroglaw13x_SpliceNobody.ctx : Ctx := [(19, .st splice_Splice_Tell.w), (23, .st splice_Splice_Wake.w), (15, .rd splice_Splice_Next.w), (21, .rd leapfrogref13x_SameStep.w), (10, .rd leapfroglaw13x_aliveC.w)]
def leapfroglaw13x_SpliceNobody.l3 (S : Sig) (rec19 : List Value → St → Option Cut) (xs17 : List Value) (s18 : St) : Option Cut :=
  S.bd (bin .lss (xs17.getD 2 undef) (xs17.getD 1 undef)) fun x20 => S.cnd x20 (S.bd (idx s18 1 (xs17.getD 0 undef) (xs17.getD 2 undef)) fun x21 => S.bd (ldc s18 x21) fun x22 => S.bd (lal (cellsA (xs17.getD 3 undef)) 0 13) fun x23 => S.bd (splice_Splice_Tell.v x22 x23 s18) fun r24 => S.bd (splice_Splice_Wake.v x22 r24.2) fun r25 => S.bd (splice_Splice_Next.r x22 r25.2) fun x26 => S.bd (bld [(Go.Value.int Go.IntKind.i64 0), (Go.Value.int Go.IntKind.i64 0), (Go.Value.int Go.IntKind.i64 0), (Go.Value.int Go.IntKind.u64 0), (Go.Value.int Go.IntKind.i64 0), (Go.Value.int Go.IntKind.u64 0), (Go.Value.int Go.IntKind.i64 0), (Go.Value.int Go.IntKind.i64 0), (Go.Value.int Go.IntKind.u64 0), (Go.Value.int Go.IntKind.i64 0), (Go.Value.int Go.IntKind.i64 0), (Go.Value.int Go.IntKind.u64 0), (Go.Value.int Go.IntKind.i64 0), (Go.Value.int Go.IntKind.u64 0), (Go.Value.int Go.IntKind.i64 0), (Go.Value.int Go.IntKind.i64 0), (Go.Value.int Go.IntKind.u64 0), (Go.Value.int Go.IntKind.i64 0), (Go.Value.int Go.IntKind.u64 0), (Go.Value.int Go.IntKind.i64 0), (Go.Value.int Go.IntKind.i64 0), (Go.Value.int Go.IntKind.i64 0), (Go.Value.int Go.IntKind.u64 0), (Go.Value.slice Option.none 0 0), (Go.Value.slice Option.none 0 0), (Go.Value.int Go.IntKind.i64 0), (Go.Value.int Go.IntKind.i64 0), (Go.Value.int Go.IntKind.u64 0), (Go.Value.int Go.IntKind.i64 0), (Go.Value.int Go.IntKind.u64 0), (Go.Value.int Go.IntKind.i64 0), (Go.Value.int Go.IntKind.i64 0), (Go.Value.int Go.IntKind.u64 0), (Go.Value.int Go.IntKind.i64 0), (Go.Value.int Go.IntKind.u64 0), (Go.Value.bool Bool.false)] []) fun x27 => S.bd (leapfrogref13x_SameStep.r x26 x27 r25.2) fun x28 => S.bd (un .not x28) fun x29 => S.cnd x29 (some (1, [(Go.Value.bool Bool.false)], r25.2)) (S.bd (bin .add (xs17.getD 2 undef) (Go.Value.int Go.IntKind.i64 1)) fun x30 => rec19 [(xs17.getD 0 undef), (xs17.getD 1 undef), x30, (Value.agg ⟨(cellsA (xs17.getD 3 undef))⟩)] r25.2)) (some (0, [], s18))

def leapfroglaw13x_SpliceNobody.t (S : Sig) (a0 : Value) (s : St) : Option (Value × St) :=
  S.bd (bx a0) fun c1 => S.bd (bld [(Go.Value.int Go.IntKind.i64 0), (Go.Value.int Go.IntKind.u64 0), (Go.Value.int Go.IntKind.i64 0), (Go.Value.int Go.IntKind.i64 0), (Go.Value.int Go.IntKind.u64 0), (Go.Value.int Go.IntKind.i64 0), (Go.Value.int Go.IntKind.u64 0), (Go.Value.int Go.IntKind.i64 0), (Go.Value.int Go.IntKind.i64 0), (Go.Value.int Go.IntKind.u64 0), (Go.Value.int Go.IntKind.i64 0), (Go.Value.int Go.IntKind.u64 0), (Go.Value.int Go.IntKind.i64 0), (Go.Value.int Go.IntKind.i64 0), (Go.Value.int Go.IntKind.i64 0), (Go.Value.int Go.IntKind.i64 0), (Go.Value.int Go.IntKind.i64 0), (Go.Value.int Go.IntKind.u64 0), (Go.Value.int Go.IntKind.i64 0), (Go.Value.int Go.IntKind.u64 0), (Go.Value.pointer Option.none), (Go.Value.int Go.IntKind.i64 0), (Go.Value.int Go.IntKind.i64 0), (Go.Value.int Go.IntKind.u64 0), (Go.Value.int Go.IntKind.i64 0), (Go.Value.int Go.IntKind.u64 0), (Go.Value.bool Bool.false), (Go.Value.bool Bool.false), Go.Value.nilFunc, (Go.Value.int Go.IntKind.i64 0), (Go.Value.int Go.IntKind.u64 0), (Go.Value.slice Option.none 0 0), (Go.Value.slice Option.none 0 0), (Go.Value.int Go.IntKind.i64 0), (Go.Value.int Go.IntKind.i64 0), (Go.Value.int Go.IntKind.u64 0), (Go.Value.int Go.IntKind.i64 0), (Go.Value.int Go.IntKind.u64 0), (Go.Value.int Go.IntKind.i64 0), (Go.Value.int Go.IntKind.i64 0), (Go.Value.int Go.IntKind.u64 0), (Go.Value.int Go.IntKind.i64 0), (Go.Value.int Go.IntKind.u64 0), (Go.Value.bool Bool.false)] []) fun x2 => S.bd (alv s x2) fun r3 => S.bd (S.bd (bls 1 (List.replicate 2 [(Go.Value.pointer Option.none)]) [(0, (Go.Value.pointer Option.none)), (1, r3.1)]) fun rows => als r3.2 1 2 rows) fun r4 => S.bd (lenL r4.1) fun x5 => S.bd (S.it (leapfroglaw13x_SpliceNobody.l3 S) [r4.1, x5, (Go.Value.int Go.IntKind.i64 0), (Value.agg ⟨c1⟩)] r4.2) fun r31 => if r31.1 = 0 then (S.bd (leapfroglaw13x_aliveC.r  r31.2.2) fun x32 => some (x32, r31.2.2)) else (some ((r31.2.1.getD 0 undef), r31.2.2))
def leapfroglaw13x_SpliceNobody.v (a0 : Value) (s : St) : Option (Value × St) := leapfroglaw13x_SpliceNobody.t std a0 s
def leapfroglaw13x_SpliceNobody.w : List Value → St → Option (Value × St)
  | [a0], s => leapfroglaw13x_SpliceNobody.v a0 s
  | _, _ => none
def leapfroglaw13x_SpliceNobody.an : An := ⟨27, false, [1], [(3, ⟨[.p 1 1 0, .v 9, .v 10, .v 11, .l 1], [(.exit 0, []), (.ret, [.v 2])]⟩)], [], []⟩
theorem leapfroglaw13x_SpliceNobody.ok (S : Sig) (a0 : Value) (s : St) : evF S Try.prog leapfroglaw13x_SpliceNobody.ctx leapfroglaw13x_SpliceNobody.an Try.f7 [a0] s = leapfroglaw13x_SpliceNobody.t S a0 s := by kernel_rfl
theorem leapfroglaw13x_SpliceNobody.cok : CtxOk Try.prog leapfroglaw13x_SpliceNobody.ctx := .cons splice_Splice_Tell.sound splice_Splice_Tell.can <| .cons splice_Splice_Wake.sound splice_Splice_Wake.can <| .cons splice_Splice_Next.sound splice_Splice_Next.can <| .cons leapfrogref13x_SameStep.sound leapfrogref13x_SameStep.can <| .cons leapfroglaw13x_aliveC.sound leapfroglaw13x_aliveC.can <| .nil
theorem leapfroglaw13x_SpliceNobody.draws : fnDraws leapfroglaw13x_SpliceNobody.an Try.f7 = true := by kernel_rfl
theorem leapfroglaw13x_SpliceNobody.can : callOk Try.prog 7 = true := by kernel_rfl
theorem leapfroglaw13x_SpliceNobody.sound : FnOk Try.prog 7 (.st leapfroglaw13x_SpliceNobody.w) := FnOk.st_of (evF_ok leapfroglaw13x_SpliceNobody.cok mixed (f := 7) (fn := Try.f7) (by kernel_rfl) leapfroglaw13x_SpliceNobody.draws) fun args s r h => by
  unfold leapfroglaw13x_SpliceNobody.w at h; split at h
  · rw [leapfroglaw13x_SpliceNobody.ok std]; exact h
  · simp at h


end Go.Proofs.Yteiagjbjokldgaa
