/-
  What the functions answer that ReadAsks, ReadRuns reaches (part 1): for each function of the program a plain function over abstract values, and that the model answers as it does.
-/
import Derived.Test.YtjiknclbjbfdjaaGreatGR0
set_option linter.unusedVariables false
set_option maxRecDepth 100000
namespace Go.Proofs.YtjiknclbjbfdjaaGreat
open Go.Sim
noncomputable section
/-! ### leapfrog/leapfrogref09.ok: function 102 -/
def leapfrogref09x_ok.ctx : Ctx := []
def leapfrogref09x_ok.t (S : Sig) (s : St) : Option Value :=
  S.bd (bx (Go.Value.agg #[(Go.Value.int Go.IntKind.i64 0), (Go.Value.bool Bool.false), (Go.Value.int Go.IntKind.i64 0), (Go.Value.int Go.IntKind.i64 0), (Go.Value.int Go.IntKind.u64 0), (Go.Value.int Go.IntKind.i64 0), (Go.Value.int Go.IntKind.u64 0), (Go.Value.int Go.IntKind.i64 0), (Go.Value.int Go.IntKind.i64 0), (Go.Value.int Go.IntKind.u64 0), (Go.Value.int Go.IntKind.i64 0), (Go.Value.int Go.IntKind.u64 0), (Go.Value.slice Option.none 0 0)])) fun c1 => S.bd (bld [(Go.Value.int Go.IntKind.i64 0), (Go.Value.bool Bool.false), (Go.Value.int Go.IntKind.i64 0), (Go.Value.int Go.IntKind.i64 0), (Go.Value.int Go.IntKind.u64 0), (Go.Value.int Go.IntKind.i64 0), (Go.Value.int Go.IntKind.u64 0), (Go.Value.int Go.IntKind.i64 0), (Go.Value.int Go.IntKind.i64 0), (Go.Value.int Go.IntKind.u64 0), (Go.Value.int Go.IntKind.i64 0), (Go.Value.int Go.IntKind.u64 0), (Go.Value.slice Option.none 0 0)] [(0, 1, (Go.Value.int Go.IntKind.i64 1))]) fun x2 => S.bd (stl c1 0 13 x2) fun c3 => S.bd (lal c3 0 13) fun x4 => some (x4)
def leapfrogref09x_ok.r (s : St) : Option Value := leapfrogref09x_ok.t std  s
def leapfrogref09x_ok.w : List Value → St → Option Value
  | [], s => leapfrogref09x_ok.r  s
  | _, _ => none
def leapfrogref09x_ok.an : An := ⟨2, true, [0], [], [], []⟩
theorem leapfrogref09x_ok.ok (S : Sig) (s : St) : evG S Tryz.prog leapfrogref09x_ok.ctx leapfrogref09x_ok.an Tryz.f102 [] s = leapfrogref09x_ok.t S  s := by kernel_rfl
theorem leapfrogref09x_ok.cok : CtxOk Tryz.prog leapfrogref09x_ok.ctx := .nil
theorem leapfrogref09x_ok.draws : fnDraws leapfrogref09x_ok.an Tryz.f102 = true := by kernel_rfl
theorem leapfrogref09x_ok.can : callOk Tryz.prog 102 = true := by kernel_rfl
theorem leapfrogref09x_ok.sound : FnOk Tryz.prog 102 (.rd leapfrogref09x_ok.w) := FnOk.rd_of (evG_ok leapfrogref09x_ok.cok mixed (f := 102) (fn := Tryz.f102) (by kernel_rfl) leapfrogref09x_ok.draws) fun args s r h => by
  unfold leapfrogref09x_ok.w at h; split at h
  · rw [leapfrogref09x_ok.ok std]; exact h
  · simp at h

/-! ### (*leapfrog/leapfrogref09.Peer).answer: function 103 -/
def leapfrogref09x_Peer_answer.ctx : Ctx := []
def leapfrogref09x_Peer_answer.l4.p1 (S : Sig) (x52 : Value) (c50 : List Value) (xs36 : List Value) (s37 : St) (rec38 : List Value → St → Option Cut) : Option Cut :=
  S.bd (S.gd x52 true (lal c50 2 2)) fun x53 => S.bd (S.gd x52 true (lal (cellsA (xs36.getD 4 undef)) 0 2)) fun x54 => S.bd (S.gd x52 true (eqb [1, 1] true false x53 x54)) fun x55 => S.bd (pik x52 x55 (Go.Value.bool Bool.false)) fun x56 => S.bd (S.gd x56 true (lal c50 4 2)) fun x57 => S.bd (S.gd x56 true (lal (cellsA (xs36.getD 5 undef)) 0 2)) fun x58 => S.bd (S.gd x56 true (eqb [1, 1] true false x57 x58)) fun x59 => S.bd (pik x56 x59 (Go.Value.bool Bool.false)) fun x60 => S.cnd x60 (S.bd (lcl c50 0) fun x61 => S.bd (lal (cellsA (xs36.getD 6 undef)) 0 13) fun x62 => S.bd (bld [(Go.Value.int Go.IntKind.i64 0), (Go.Value.int Go.IntKind.i64 0), (Go.Value.bool Bool.false), (Go.Value.int Go.IntKind.i64 0), (Go.Value.int Go.IntKind.i64 0), (Go.Value.int Go.IntKind.u64 0), (Go.Value.int Go.IntKind.i64 0), (Go.Value.int Go.IntKind.u64 0), (Go.Value.int Go.IntKind.i64 0), (Go.Value.int Go.IntKind.i64 0), (Go.Value.int Go.IntKind.u64 0), (Go.Value.int Go.IntKind.i64 0), (Go.Value.int Go.IntKind.u64 0), (Go.Value.slice Option.none 0 0)] [(0, 1, x61), (1, 13, x62)]) fun x63 => S.bd (S.bd (bls 14 (List.replicate 1 [(Go.Value.int Go.IntKind.i64 0), (Go.Value.int Go.IntKind.i64 0), (Go.Value.bool Bool.false), (Go.Value.int Go.IntKind.i64 0), (Go.Value.int Go.IntKind.i64 0), (Go.Value.int Go.IntKind.u64 0), (Go.Value.int Go.IntKind.i64 0), (Go.Value.int Go.IntKind.u64 0), (Go.Value.int Go.IntKind.i64 0), (Go.Value.int Go.IntKind.i64 0), (Go.Value.int Go.IntKind.u64 0), (Go.Value.int Go.IntKind.i64 0), (Go.Value.int Go.IntKind.u64 0), (Go.Value.slice Option.none 0 0)]) [(0, x63)]) fun rows => als s37 14 1 rows) fun r64 => S.bd (app r64.2 14 128 (xs36.getD 2 undef) r64.1) fun r65 => S.bd (bin .add (xs36.getD 3 undef) (Go.Value.int Go.IntKind.i64 1)) fun x66 => rec38 [(xs36.getD 0 undef), (xs36.getD 1 undef), r65.1, x66, (Value.agg ⟨(cellsA (xs36.getD 4 undef))⟩), (Value.agg ⟨(cellsA (xs36.getD 5 undef))⟩), (Value.agg ⟨(cellsA (xs36.getD 6 undef))⟩)] r65.2) (S.bd (lal c50 0 6) fun x67 => S.bd (S.bd (bls 6 (List.replicate 1 [(Go.Value.int Go.IntKind.i64 0), (Go.Value.bool Bool.false), (Go.Value.int Go.IntKind.i64 0), (Go.Value.int Go.IntKind.u64 0), (Go.Value.int Go.IntKind.i64 0), (Go.Value.int Go.IntKind.i64 0)]) [(0, x67)]) fun rows => als s37 6 1 rows) fun r68 => S.bd (app r68.2 6 48 (xs36.getD 1 undef) r68.1) fun r69 => S.bd (bin .add (xs36.getD 3 undef) (Go.Value.int Go.IntKind.i64 1)) fun x70 => rec38 [(xs36.getD 0 undef), r69.1, (xs36.getD 2 undef), x70, (Value.agg ⟨(cellsA (xs36.getD 4 undef))⟩), (Value.agg ⟨(cellsA (xs36.getD 5 undef))⟩), (Value.agg ⟨(cellsA (xs36.getD 6 undef))⟩)] r69.2)

def leapfrogref09x_Peer_answer.l4 (S : Sig) (rec38 : List Value → St → Option Cut) (xs36 : List Value) (s37 : St) : Option Cut :=
  S.bd (nck (xs36.getD 0 undef)) fun x39 => S.bd (fld 10 x39) fun x40 => S.bd (ldc s37 x40) fun x41 => S.bd (lenL x41) fun x42 => S.bd (bin .lss (xs36.getD 3 undef) x42) fun x43 => S.cnd x43 (S.bd (nck (xs36.getD 0 undef)) fun x44 => S.bd (fld 10 x44) fun x45 => S.bd (ldc s37 x45) fun x46 => S.bd (idx s37 6 x46 (xs36.getD 3 undef)) fun x47 => S.bd (lda s37 6 x47) fun x48 => S.bd (bx (Go.Value.agg #[(Go.Value.int Go.IntKind.i64 0), (Go.Value.bool Bool.false), (Go.Value.int Go.IntKind.i64 0), (Go.Value.int Go.IntKind.u64 0), (Go.Value.int Go.IntKind.i64 0), (Go.Value.int Go.IntKind.i64 0)])) fun c49 => S.bd (stl c49 0 6 x48) fun c50 => S.bd (lcl c50 1) fun x51 => S.bd (un .not x51) fun x52 => leapfrogref09x_Peer_answer.l4.p1 S x52 c50 xs36 s37 rec38) (some (0, [(xs36.getD 0 undef), (xs36.getD 1 undef), (xs36.getD 2 undef)], s37))

def leapfrogref09x_Peer_answer.t (S : Sig) (a0 a1 a2 a3 : Value) (s : St) : Option (Value × St) :=
  S.bd (bx a1) fun c1 => S.bd (bx a2) fun c2 => S.bd (bx a3) fun c3 => S.bd (S.it (leapfrogref09x_Peer_answer.l4 S) [a0, (Go.Value.slice Option.none 0 0), (Go.Value.slice Option.none 0 0), (Go.Value.int Go.IntKind.i64 0), (Value.agg ⟨c1⟩), (Value.agg ⟨c2⟩), (Value.agg ⟨c3⟩)] s) fun r71 => S.bd (nck (r71.2.1.getD 0 undef)) fun x72 => S.bd (fld 10 x72) fun x73 => S.bd (stv r71.2.2 1 x73 (r71.2.1.getD 1 undef)) fun s74 => some ((r71.2.1.getD 2 undef), s74)
def leapfrogref09x_Peer_answer.v (a0 a1 a2 a3 : Value) (s : St) : Option (Value × St) := leapfrogref09x_Peer_answer.t std a0 a1 a2 a3 s
def leapfrogref09x_Peer_answer.w : List Value → St → Option (Value × St)
  | [a0, a1, a2, a3], s => leapfrogref09x_Peer_answer.v a0 a1 a2 a3 s
  | _, _ => none
def leapfrogref09x_Peer_answer.an : An := ⟨60, false, [5, 6, 7, 12], [(4, ⟨[.v 0, .p 5 5 0, .p 6 6 0, .p 7 7 0, .v 9, .v 10, .v 11, .l 5, .l 6, .l 7], [(.exit 0, [.v 0, .v 9, .v 10])]⟩)], [], []⟩
theorem leapfrogref09x_Peer_answer.ok (S : Sig) (a0 a1 a2 a3 : Value) (s : St) : evF S Tryz.prog leapfrogref09x_Peer_answer.ctx leapfrogref09x_Peer_answer.an Tryz.f103 [a0, a1, a2, a3] s = leapfrogref09x_Peer_answer.t S a0 a1 a2 a3 s := by kernel_rfl
theorem leapfrogref09x_Peer_answer.cok : CtxOk Tryz.prog leapfrogref09x_Peer_answer.ctx := .nil
theorem leapfrogref09x_Peer_answer.draws : fnDraws leapfrogref09x_Peer_answer.an Tryz.f103 = true := by kernel_rfl
theorem leapfrogref09x_Peer_answer.can : callOk Tryz.prog 103 = true := by kernel_rfl
theorem leapfrogref09x_Peer_answer.sound : FnOk Tryz.prog 103 (.st leapfrogref09x_Peer_answer.w) := FnOk.st_of (evF_ok leapfrogref09x_Peer_answer.cok mixed (f := 103) (fn := Tryz.f103) (by kernel_rfl) leapfrogref09x_Peer_answer.draws) fun args s r h => by
  unfold leapfrogref09x_Peer_answer.w at h; split at h
  · rw [leapfrogref09x_Peer_answer.ok std]; exact h
  · simp at h

/-! ### (*leapfrog/leapfrogref09.Peer).free: function 80 -/
def leapfrogref09x_Peer_free.ctx : Ctx := [(61, .rd leapfrogref09x_Peer_rec.w), (99, .rd leapfrogref09x_no.w), (76, .st leapfrogref09x_told.w), (101, .st leapfrogref07x_Lock_Free.w), (100, .st leapfrogref09x_Peer_set.w), (102, .rd leapfrogref09x_ok.w), (78, .rd leapfrogref09x_Peer_of.w), (103, .st leapfrogref09x_Peer_answer.w)]
def leapfrogref09x_Peer_free.t (S : Sig) (a0 a1 a2 : Value) (s : St) : Option (Value × St) :=
  S.bd (bx a2) fun c1 => S.bd (lal c1 1 2) fun x2 => S.bd (leapfrogref09x_Peer_rec.r a0 x2 s) fun x3 => S.bd (xtr 0 x3) fun x4 => S.bd (xtr 1 x3) fun x5 => S.bd (alv s (Go.Value.agg #[(Go.Value.int Go.IntKind.i64 0), (Go.Value.int Go.IntKind.u64 0), (Go.Value.int Go.IntKind.i64 0), (Go.Value.int Go.IntKind.i64 0), (Go.Value.int Go.IntKind.u64 0), (Go.Value.int Go.IntKind.i64 0), (Go.Value.int Go.IntKind.u64 0), (Go.Value.int Go.IntKind.i64 0), (Go.Value.int Go.IntKind.i64 0), (Go.Value.int Go.IntKind.u64 0), (Go.Value.int Go.IntKind.i64 0), (Go.Value.int Go.IntKind.u64 0), (Go.Value.bool Bool.false), (Go.Value.int Go.IntKind.i64 0), (Go.Value.int Go.IntKind.i64 0), (Go.Value.slice Option.none 0 0)])) fun r6 => S.bd (stv r6.2 16 r6.1 x4) fun s7 => S.bd (un .not x5) fun x8 => S.cnd x8 (S.bd (leapfrogref09x_no.r  s7) fun x9 => S.bd (leapfrogref09x_told.v a1 x9 s7) fun r10 => some (r10.1, r10.2)) (S.bd (fld 12 r6.1) fun x11 => S.bd (lal c1 13 2) fun x12 => S.bd (leapfrogref07x_Lock_Free.v x11 x12 s7) fun r13 => S.bd (xtr 0 r13.1) fun x14 => S.bd (xtr 1 r13.1) fun x15 => S.bd (xtr 2 r13.1) fun x16 => S.bd (bx (Go.Value.agg #[(Go.Value.int Go.IntKind.i64 0), (Go.Value.int Go.IntKind.i64 0)])) fun c17 => S.bd (stl c17 0 2 x14) fun c18 => S.bd (eqb [1] false true x16 (Go.Value.int Go.IntKind.i64 0)) fun x19 => S.cnd x19 (S.bd (leapfrogref09x_no.r  r13.2) fun x20 => S.bd (leapfrogref09x_told.v a1 x20 r13.2) fun r21 => some (r21.1, r21.2)) (S.bd (lda r13.2 16 r6.1) fun x22 => S.bd (leapfrogref09x_Peer_set.v a0 x22 r13.2) fun r23 => S.bd (leapfrogref09x_ok.r  r23.2) fun x24 => S.bd (leapfrogref09x_told.v a1 x24 r23.2) fun r25 => S.cnd x15 (S.bd (lal c1 1 2) fun x26 => S.bd (lal c18 0 2) fun x27 => S.bd (lda r25.2 16 r6.1) fun x28 => S.bd (leapfrogref09x_Peer_of.r a0 x28 r25.2) fun x29 => S.bd (leapfrogref09x_Peer_answer.v a0 x26 x27 x29 r25.2) fun r30 => S.bd (app r30.2 14 128 r25.1 r30.1) fun r31 => some (r31.1, r31.2)) (some (r25.1, r25.2))))
def leapfrogref09x_Peer_free.v (a0 a1 a2 : Value) (s : St) : Option (Value × St) := leapfrogref09x_Peer_free.t std a0 a1 a2 s
def leapfrogref09x_Peer_free.w : List Value → St → Option (Value × St)
  | [a0, a1, a2], s => leapfrogref09x_Peer_free.v a0 a1 a2 s
  | _, _ => none
def leapfrogref09x_Peer_free.an : An := ⟨56, false, [5, 9], [], [], [(10, [(0, 0, [], []), (1, 0, [], []), (2, 0, [], []), (3, 41, [], []), (4, 73, [], []), (5, 0, [], []), (6, 2, [], []), (7, 3, [], []), (8, 4, [], []), (9, 4, [], []), (10, 0, [], [])])]⟩
theorem leapfrogref09x_Peer_free.ok (S : Sig) (a0 a1 a2 : Value) (s : St) : evF S Tryz.prog leapfrogref09x_Peer_free.ctx leapfrogref09x_Peer_free.an Tryz.f80 [a0, a1, a2] s = leapfrogref09x_Peer_free.t S a0 a1 a2 s := by kernel_rfl
theorem leapfrogref09x_Peer_free.cok : CtxOk Tryz.prog leapfrogref09x_Peer_free.ctx := .cons leapfrogref09x_Peer_rec.sound leapfrogref09x_Peer_rec.can <| .cons leapfrogref09x_no.sound leapfrogref09x_no.can <| .cons leapfrogref09x_told.sound leapfrogref09x_told.can <| .cons leapfrogref07x_Lock_Free.sound leapfrogref07x_Lock_Free.can <| .cons leapfrogref09x_Peer_set.sound leapfrogref09x_Peer_set.can <| .cons leapfrogref09x_ok.sound leapfrogref09x_ok.can <| .cons leapfrogref09x_Peer_of.sound leapfrogref09x_Peer_of.can <| .cons leapfrogref09x_Peer_answer.sound leapfrogref09x_Peer_answer.can <| .nil
theorem leapfrogref09x_Peer_free.draws : fnDraws leapfrogref09x_Peer_free.an Tryz.f80 = true := by kernel_rfl
theorem leapfrogref09x_Peer_free.can : callOk Tryz.prog 80 = true := by kernel_rfl
theorem leapfrogref09x_Peer_free.sound : FnOk Tryz.prog 80 (.st leapfrogref09x_Peer_free.w) := FnOk.st_of (evF_ok leapfrogref09x_Peer_free.cok mixed (f := 80) (fn := Tryz.f80) (by kernel_rfl) leapfrogref09x_Peer_free.draws) fun args s r h => by
  unfold leapfrogref09x_Peer_free.w at h; split at h
  · rw [leapfrogref09x_Peer_free.ok std]; exact h
  · simp at h

/-! ### (*leapfrog/leapfrogref09.Peer).beside: function 81 -/
def leapfrogref09x_Peer_beside.ctx : Ctx := [(61, .rd leapfrogref09x_Peer_rec.w), (77, .rd leapfrogref09x_gone.w), (104, .rd leapfrogref09x_Less.w), (99, .rd leapfrogref09x_no.w), (100, .st leapfrogref09x_Peer_set.w), (102, .rd leapfrogref09x_ok.w)]
def leapfrogref09x_Peer_beside.t.p1 (S : Sig) (x9 : Value) (x6 : Value) (s : St) (c2 : List Value) (c1 : List Value) (a0 : Value) (c8 : List Value) : Option (Value × St) :=
  S.bd (eqb [1] false false x9 (Go.Value.int Go.IntKind.i64 6)) fun x10 => S.cnd x10 (S.bd (un .not x6) fun x11 => S.cnd x11 (S.bd (leapfrogref09x_gone.r  s) fun x12 => S.bd (stl c2 0 13 x12) fun c13 => S.bd (lal c13 0 13) fun x14 => some (x14, s)) (S.bd (lal c1 4 2) fun x15 => S.bd (nck a0) fun x16 => S.bd (fld 0 x16) fun x17 => S.bd (fld 1 x17) fun x18 => S.bd (lda s 2 x18) fun x19 => S.bd (leapfrogref09x_Less.r x15 x19 s) fun x20 => S.bd (un .not x20) fun x21 => S.cnd x21 (S.bd (leapfrogref09x_no.r  s) fun x22 => S.bd (stl c2 0 13 x22) fun c23 => S.bd (lal c23 0 13) fun x24 => some (x24, s)) (S.bd (lal c1 3 5) fun x25 => S.bd (stl c8 2 5 x25) fun c26 => S.bd (lal c26 0 16) fun x27 => S.bd (leapfrogref09x_Peer_set.v a0 x27 s) fun r28 => S.bd (leapfrogref09x_ok.r  r28.2) fun x29 => S.bd (stl c2 0 13 x29) fun c30 => S.bd (lal c30 0 13) fun x31 => some (x31, r28.2)))) (S.bd (un .not x6) fun x32 => S.bd (S.gd x32 false (lcl c8 12)) fun x33 => S.bd (S.gd x32 false (un .not x33)) fun x34 => S.bd (pik x32 (Go.Value.bool Bool.true) x34) fun x35 => S.bd (S.gd x35 false (lal c8 13 2)) fun x36 => S.bd (S.gd x35 false (lal c1 13 2)) fun x37 => S.bd (S.gd x35 false (eqb [1, 1] true true x36 x37)) fun x38 => S.bd (pik x35 (Go.Value.bool Bool.true) x38) fun x39 => S.bd (S.gd x39 false (some a0)) fun x40 => S.bd (S.gd x39 false (nck x40)) fun x41 => S.bd (S.gd x39 false (fld 0 x41)) fun x42 => S.bd (S.gd x39 false (fld 1 x42)) fun x43 => S.bd (S.gd x39 false (lda s 2 x43)) fun x44 => S.bd (S.gd x39 false (lal c1 4 2)) fun x45 => S.bd (S.gd x39 false (leapfrogref09x_Less.r x44 x45 s)) fun x46 => S.bd (S.gd x39 false (un .not x46)) fun x47 => S.bd (pik x39 (Go.Value.bool Bool.true) x47) fun x48 => S.cnd x48 (S.bd (leapfrogref09x_no.r  s) fun x49 => S.bd (stl c2 0 13 x49) fun c50 => S.bd (lal c50 0 13) fun x51 => some (x51, s)) (S.bd (lal c1 3 5) fun x52 => S.bd (stl c8 7 5 x52) fun c53 => S.bd (lal c53 0 16) fun x54 => S.bd (leapfrogref09x_Peer_set.v a0 x54 s) fun r55 => S.bd (leapfrogref09x_ok.r  r55.2) fun x56 => S.bd (stl c2 0 13 x56) fun c57 => S.bd (lal c57 0 13) fun x58 => some (x58, r55.2)))

def leapfrogref09x_Peer_beside.t (S : Sig) (a0 a1 : Value) (s : St) : Option (Value × St) :=
  S.bd (bx a1) fun c1 => S.bd (bx (Go.Value.agg #[(Go.Value.int Go.IntKind.i64 0), (Go.Value.bool Bool.false), (Go.Value.int Go.IntKind.i64 0), (Go.Value.int Go.IntKind.i64 0), (Go.Value.int Go.IntKind.u64 0), (Go.Value.int Go.IntKind.i64 0), (Go.Value.int Go.IntKind.u64 0), (Go.Value.int Go.IntKind.i64 0), (Go.Value.int Go.IntKind.i64 0), (Go.Value.int Go.IntKind.u64 0), (Go.Value.int Go.IntKind.i64 0), (Go.Value.int Go.IntKind.u64 0), (Go.Value.slice Option.none 0 0)])) fun c2 => S.bd (lal c1 1 2) fun x3 => S.bd (leapfrogref09x_Peer_rec.r a0 x3 s) fun x4 => S.bd (xtr 0 x4) fun x5 => S.bd (xtr 1 x4) fun x6 => S.bd (bx (Go.Value.agg #[(Go.Value.int Go.IntKind.i64 0), (Go.Value.int Go.IntKind.u64 0), (Go.Value.int Go.IntKind.i64 0), (Go.Value.int Go.IntKind.i64 0), (Go.Value.int Go.IntKind.u64 0), (Go.Value.int Go.IntKind.i64 0), (Go.Value.int Go.IntKind.u64 0), (Go.Value.int Go.IntKind.i64 0), (Go.Value.int Go.IntKind.i64 0), (Go.Value.int Go.IntKind.u64 0), (Go.Value.int Go.IntKind.i64 0), (Go.Value.int Go.IntKind.u64 0), (Go.Value.bool Bool.false), (Go.Value.int Go.IntKind.i64 0), (Go.Value.int Go.IntKind.i64 0), (Go.Value.slice Option.none 0 0)])) fun c7 => S.bd (stl c7 0 16 x5) fun c8 => S.bd (lcl c1 0) fun x9 => leapfrogref09x_Peer_beside.t.p1 S x9 x6 s c2 c1 a0 c8
def leapfrogref09x_Peer_beside.v (a0 a1 : Value) (s : St) : Option (Value × St) := leapfrogref09x_Peer_beside.t std a0 a1 s
def leapfrogref09x_Peer_beside.w : List Value → St → Option (Value × St)
  | [a0, a1], s => leapfrogref09x_Peer_beside.v a0 a1 s
  | _, _ => none
def leapfrogref09x_Peer_beside.an : An := ⟨74, false, [3, 4, 5], [], [], [(5, [(0, 0, [], []), (1, 0, [], []), (2, 25, [], []), (3, 0, [], []), (4, 0, [], []), (5, 0, [], []), (6, 0, [], []), (7, 2, [], []), (8, 3, [], []), (9, 0, [], [])]), (10, [(0, 0, [], []), (1, 0, [], []), (2, 0, [], []), (3, 0, [], []), (4, 0, [], []), (5, 41, [], []), (6, 0, [], []), (7, 0, [], []), (8, 0, [], []), (9, 0, [], []), (10, 0, [], []), (11, 41, [], []), (12, 0, [], []), (13, 25, [], []), (14, 0, [], []), (15, 0, [], []), (16, 0, [], []), (17, 0, [], []), (18, 0, [], []), (19, 0, [], []), (20, 0, [], []), (21, 2, [], []), (22, 0, [], []), (23, 0, [], []), (24, 25, [], []), (25, 3, [], []), (26, 0, [], []), (27, 0, [], [])])]⟩
theorem leapfrogref09x_Peer_beside.ok (S : Sig) (a0 a1 : Value) (s : St) : evF S Tryz.prog leapfrogref09x_Peer_beside.ctx leapfrogref09x_Peer_beside.an Tryz.f81 [a0, a1] s = leapfrogref09x_Peer_beside.t S a0 a1 s := by kernel_rfl
theorem leapfrogref09x_Peer_beside.cok : CtxOk Tryz.prog leapfrogref09x_Peer_beside.ctx := .cons leapfrogref09x_Peer_rec.sound leapfrogref09x_Peer_rec.can <| .cons leapfrogref09x_gone.sound leapfrogref09x_gone.can <| .cons leapfrogref09x_Less.sound leapfrogref09x_Less.can <| .cons leapfrogref09x_no.sound leapfrogref09x_no.can <| .cons leapfrogref09x_Peer_set.sound leapfrogref09x_Peer_set.can <| .cons leapfrogref09x_ok.sound leapfrogref09x_ok.can <| .nil
theorem leapfrogref09x_Peer_beside.draws : fnDraws leapfrogref09x_Peer_beside.an Tryz.f81 = true := by kernel_rfl
theorem leapfrogref09x_Peer_beside.can : callOk Tryz.prog 81 = true := by kernel_rfl
theorem leapfrogref09x_Peer_beside.sound : FnOk Tryz.prog 81 (.st leapfrogref09x_Peer_beside.w) := FnOk.st_of (evF_ok leapfrogref09x_Peer_beside.cok mixed (f := 81) (fn := Tryz.f81) (by kernel_rfl) leapfrogref09x_Peer_beside.draws) fun args s r h => by
  unfold leapfrogref09x_Peer_beside.w at h; split at h
  · rw [leapfrogref09x_Peer_beside.ok std]; exact h
  · simp at h

/-! ### (*leapfrog/leapfrogref09.Peer).enter: function 82 -/
def leapfrogref09x_Peer_enter.ctx : Ctx := [(61, .rd leapfrogref09x_Peer_rec.w), (86, .rd leapfrogref09x_Peer_list.w), (104, .rd leapfrogref09x_Less.w), (99, .rd leapfrogref09x_no.w), (98, .st leapfrogref07x_Lock_Ask.w), (100, .st leapfrogref09x_Peer_set.w), (102, .rd leapfrogref09x_ok.w)]
def leapfrogref09x_Peer_enter.t.p1 (S : Sig) (c1 : List Value) (s : St) (c2 : List Value) (a0 : Value) : Option (Value × St) :=
  S.bd (lal c1 1 2) fun x40 => S.bd (lal c1 3 5) fun x41 => S.bd (lal c1 8 5) fun x42 => S.bd (bld [(Go.Value.int Go.IntKind.i64 0), (Go.Value.int Go.IntKind.u64 0), (Go.Value.int Go.IntKind.i64 0), (Go.Value.int Go.IntKind.i64 0), (Go.Value.int Go.IntKind.u64 0), (Go.Value.int Go.IntKind.i64 0), (Go.Value.int Go.IntKind.u64 0), (Go.Value.int Go.IntKind.i64 0), (Go.Value.int Go.IntKind.i64 0), (Go.Value.int Go.IntKind.u64 0), (Go.Value.int Go.IntKind.i64 0), (Go.Value.int Go.IntKind.u64 0), (Go.Value.bool Bool.false), (Go.Value.int Go.IntKind.i64 0), (Go.Value.int Go.IntKind.i64 0), (Go.Value.slice Option.none 0 0)] [(0, 2, x40), (2, 5, x41), (7, 5, x42)]) fun x43 => S.bd (alv s (Go.Value.agg #[(Go.Value.int Go.IntKind.i64 0), (Go.Value.int Go.IntKind.u64 0), (Go.Value.int Go.IntKind.i64 0), (Go.Value.int Go.IntKind.i64 0), (Go.Value.int Go.IntKind.u64 0), (Go.Value.int Go.IntKind.i64 0), (Go.Value.int Go.IntKind.u64 0), (Go.Value.int Go.IntKind.i64 0), (Go.Value.int Go.IntKind.i64 0), (Go.Value.int Go.IntKind.u64 0), (Go.Value.int Go.IntKind.i64 0), (Go.Value.int Go.IntKind.u64 0), (Go.Value.bool Bool.false), (Go.Value.int Go.IntKind.i64 0), (Go.Value.int Go.IntKind.i64 0), (Go.Value.slice Option.none 0 0)])) fun r44 => S.bd (stv r44.2 16 r44.1 x43) fun s45 => S.bd (fld 12 r44.1) fun x46 => S.bd (lal c1 13 2) fun x47 => S.bd (leapfrogref07x_Lock_Ask.v x46 x47 s45) fun r48 => S.bd (xtr 0 r48.1) fun x49 => S.bd (xtr 1 r48.1) fun x50 => S.bd (eqb [1] false true x50 (Go.Value.int Go.IntKind.i64 0)) fun x51 => S.cnd x51 (S.bd (leapfrogref09x_no.r  r48.2) fun x52 => S.bd (stl c2 0 13 x52) fun c53 => S.bd (lal c53 0 13) fun x54 => some (x54, r48.2)) (S.bd (lda r48.2 16 r44.1) fun x55 => S.bd (leapfrogref09x_Peer_set.v a0 x55 r48.2) fun r56 => S.bd (leapfrogref09x_ok.r  r56.2) fun x57 => S.bd (stl c2 0 13 x57) fun c58 => S.bd (lal c58 0 13) fun x59 => some (x59, r56.2))

def leapfrogref09x_Peer_enter.t (S : Sig) (a0 a1 : Value) (s : St) : Option (Value × St) :=
  S.bd (bx a1) fun c1 => S.bd (bx (Go.Value.agg #[(Go.Value.int Go.IntKind.i64 0), (Go.Value.bool Bool.false), (Go.Value.int Go.IntKind.i64 0), (Go.Value.int Go.IntKind.i64 0), (Go.Value.int Go.IntKind.u64 0), (Go.Value.int Go.IntKind.i64 0), (Go.Value.int Go.IntKind.u64 0), (Go.Value.int Go.IntKind.i64 0), (Go.Value.int Go.IntKind.i64 0), (Go.Value.int Go.IntKind.u64 0), (Go.Value.int Go.IntKind.i64 0), (Go.Value.int Go.IntKind.u64 0), (Go.Value.slice Option.none 0 0)])) fun c2 => S.bd (lal c1 1 2) fun x3 => S.bd (leapfrogref09x_Peer_rec.r a0 x3 s) fun x4 => S.bd (xtr 0 x4) fun x5 => S.bd (xtr 1 x4) fun x6 => S.bd (bx (Go.Value.agg #[(Go.Value.int Go.IntKind.i64 0), (Go.Value.int Go.IntKind.u64 0), (Go.Value.int Go.IntKind.i64 0), (Go.Value.int Go.IntKind.i64 0), (Go.Value.int Go.IntKind.u64 0), (Go.Value.int Go.IntKind.i64 0), (Go.Value.int Go.IntKind.u64 0), (Go.Value.int Go.IntKind.i64 0), (Go.Value.int Go.IntKind.i64 0), (Go.Value.int Go.IntKind.u64 0), (Go.Value.int Go.IntKind.i64 0), (Go.Value.int Go.IntKind.u64 0), (Go.Value.bool Bool.false), (Go.Value.int Go.IntKind.i64 0), (Go.Value.int Go.IntKind.i64 0), (Go.Value.slice Option.none 0 0)])) fun c7 => S.bd (stl c7 0 16 x5) fun c8 => S.bd (S.gd x6 false (some a0)) fun x9 => S.bd (S.gd x6 false (nck x9)) fun x10 => S.bd (S.gd x6 false (fld 6 x10)) fun x11 => S.bd (S.gd x6 false (ldc s x11)) fun x12 => S.bd (pik x6 (Go.Value.bool Bool.true) x12) fun x13 => S.bd (S.gd x13 false (some a0)) fun x14 => S.bd (S.gd x13 false (lal c1 1 2)) fun x15 => S.bd (S.gd x13 false (leapfrogref09x_Peer_list.r x14 x15 s)) fun x16 => S.bd (S.gd x13 false (un .not x16)) fun x17 => S.bd (pik x13 (Go.Value.bool Bool.true) x17) fun x18 => S.bd (S.gd x18 false (lal c1 4 2)) fun x19 => S.bd (S.gd x18 false (some a0)) fun x20 => S.bd (S.gd x18 false (nck x20)) fun x21 => S.bd (S.gd x18 false (fld 0 x21)) fun x22 => S.bd (S.gd x18 false (fld 1 x22)) fun x23 => S.bd (S.gd x18 false (lda s 2 x23)) fun x24 => S.bd (S.gd x18 false (leapfrogref09x_Less.r x19 x24 s)) fun x25 => S.bd (S.gd x18 false (un .not x25)) fun x26 => S.bd (pik x18 (Go.Value.bool Bool.true) x26) fun x27 => S.bd (S.gd x27 false (some a0)) fun x28 => S.bd (S.gd x27 false (nck x28)) fun x29 => S.bd (S.gd x27 false (fld 0 x29)) fun x30 => S.bd (S.gd x27 false (fld 1 x30)) fun x31 => S.bd (S.gd x27 false (lda s 2 x31)) fun x32 => S.bd (S.gd x27 false (lal c1 9 2)) fun x33 => S.bd (S.gd x27 false (leapfrogref09x_Less.r x32 x33 s)) fun x34 => S.bd (S.gd x27 false (un .not x34)) fun x35 => S.bd (pik x27 (Go.Value.bool Bool.true) x35) fun x36 => S.cnd x36 (S.bd (leapfrogref09x_no.r  s) fun x37 => S.bd (stl c2 0 13 x37) fun c38 => S.bd (lal c38 0 13) fun x39 => some (x39, s)) (leapfrogref09x_Peer_enter.t.p1 S c1 s c2 a0)
def leapfrogref09x_Peer_enter.v (a0 a1 : Value) (s : St) : Option (Value × St) := leapfrogref09x_Peer_enter.t std a0 a1 s
def leapfrogref09x_Peer_enter.w : List Value → St → Option (Value × St)
  | [a0, a1], s => leapfrogref09x_Peer_enter.v a0 a1 s
  | _, _ => none
def leapfrogref09x_Peer_enter.an : An := ⟨77, false, [3, 4, 5], [], [], [(2, [(0, 0, [], []), (1, 0, [], []), (2, 0, [], []), (3, 0, [], []), (4, 0, [], []), (5, 2, [], []), (6, 0, [], []), (7, 0, [], []), (8, 0, [], []), (9, 0, [], []), (10, 25, [], []), (11, 3, [], []), (12, 0, [], []), (13, 0, [], []), (14, 0, [], []), (15, 0, [], []), (16, 0, [], []), (17, 25, [], []), (18, 0, [], []), (19, 0, [], []), (20, 0, [], []), (21, 0, [], []), (22, 2, [], []), (23, 3, [], []), (24, 0, [], []), (25, 0, [], []), (26, 0, [], []), (27, 0, [], []), (28, 0, [], []), (29, 0, [], []), (30, 0, [], []), (31, 2, [], []), (32, 0, [], []), (33, 0, [], []), (34, 25, [], []), (35, 3, [], []), (36, 0, [], []), (37, 0, [], [])])]⟩
theorem leapfrogref09x_Peer_enter.ok (S : Sig) (a0 a1 : Value) (s : St) : evF S Tryz.prog leapfrogref09x_Peer_enter.ctx leapfrogref09x_Peer_enter.an Tryz.f82 [a0, a1] s = leapfrogref09x_Peer_enter.t S a0 a1 s := by kernel_rfl
theorem leapfrogref09x_Peer_enter.cok : CtxOk Tryz.prog leapfrogref09x_Peer_enter.ctx := .cons leapfrogref09x_Peer_rec.sound leapfrogref09x_Peer_rec.can <| .cons leapfrogref09x_Peer_list.sound leapfrogref09x_Peer_list.can <| .cons leapfrogref09x_Less.sound leapfrogref09x_Less.can <| .cons leapfrogref09x_no.sound leapfrogref09x_no.can <| .cons leapfrogref07x_Lock_Ask.sound leapfrogref07x_Lock_Ask.can <| .cons leapfrogref09x_Peer_set.sound leapfrogref09x_Peer_set.can <| .cons leapfrogref09x_ok.sound leapfrogref09x_ok.can <| .nil
theorem leapfrogref09x_Peer_enter.draws : fnDraws leapfrogref09x_Peer_enter.an Tryz.f82 = true := by kernel_rfl
theorem leapfrogref09x_Peer_enter.can : callOk Tryz.prog 82 = true := by kernel_rfl
theorem leapfrogref09x_Peer_enter.sound : FnOk Tryz.prog 82 (.st leapfrogref09x_Peer_enter.w) := FnOk.st_of (evF_ok leapfrogref09x_Peer_enter.cok mixed (f := 82) (fn := Tryz.f82) (by kernel_rfl) leapfrogref09x_Peer_enter.draws) fun args s r h => by
  unfold leapfrogref09x_Peer_enter.w at h; split at h
  · rw [leapfrogref09x_Peer_enter.ok std]; exact h
  · simp at h

/-! ### (*leapfrog/leapfrogref09.Peer).unset: function 105 -/
def leapfrogref09x_Peer_unset.ctx : Ctx := []
def leapfrogref09x_Peer_unset.l3 (S : Sig) (rec26 : List Value → St → Option Cut) (xs24 : List Value) (s25 : St) : Option Cut :=
  S.bd (nck (xs24.getD 0 undef)) fun x27 => S.bd (fld 9 x27) fun x28 => S.bd (ldc s25 x28) fun x29 => S.bd (lenL x29) fun x30 => S.bd (bin .lss (xs24.getD 2 undef) x30) fun x31 => S.cnd x31 (S.bd (nck (xs24.getD 0 undef)) fun x32 => S.bd (fld 9 x32) fun x33 => S.bd (ldc s25 x33) fun x34 => S.bd (idx s25 16 x34 (xs24.getD 2 undef)) fun x35 => S.bd (fld 0 x35) fun x36 => S.bd (lda s25 2 x36) fun x37 => S.bd (lal (cellsA (xs24.getD 3 undef)) 0 2) fun x38 => S.bd (eqb [1, 1] true true x37 x38) fun x39 => S.cnd x39 (S.bd (nck (xs24.getD 0 undef)) fun x40 => S.bd (fld 9 x40) fun x41 => S.bd (ldc s25 x41) fun x42 => S.bd (idx s25 16 x42 (xs24.getD 2 undef)) fun x43 => S.bd (lda s25 16 x43) fun x44 => S.bd (S.bd (bls 16 (List.replicate 1 [(Go.Value.int Go.IntKind.i64 0), (Go.Value.int Go.IntKind.u64 0), (Go.Value.int Go.IntKind.i64 0), (Go.Value.int Go.IntKind.i64 0), (Go.Value.int Go.IntKind.u64 0), (Go.Value.int Go.IntKind.i64 0), (Go.Value.int Go.IntKind.u64 0), (Go.Value.int Go.IntKind.i64 0), (Go.Value.int Go.IntKind.i64 0), (Go.Value.int Go.IntKind.u64 0), (Go.Value.int Go.IntKind.i64 0), (Go.Value.int Go.IntKind.u64 0), (Go.Value.bool Bool.false), (Go.Value.int Go.IntKind.i64 0), (Go.Value.int Go.IntKind.i64 0), (Go.Value.slice Option.none 0 0)]) [(0, x44)]) fun rows => als s25 16 1 rows) fun r45 => S.bd (app r45.2 16 144 (xs24.getD 1 undef) r45.1) fun r46 => S.bd (bin .add (xs24.getD 2 undef) (Go.Value.int Go.IntKind.i64 1)) fun x47 => rec26 [(xs24.getD 0 undef), r46.1, x47, (Value.agg ⟨(cellsA (xs24.getD 3 undef))⟩)] r46.2) (S.bd (bin .add (xs24.getD 2 undef) (Go.Value.int Go.IntKind.i64 1)) fun x48 => rec26 [(xs24.getD 0 undef), (xs24.getD 1 undef), x48, (Value.agg ⟨(cellsA (xs24.getD 3 undef))⟩)] s25)) (some (0, [(xs24.getD 0 undef), (xs24.getD 1 undef)], s25))

def leapfrogref09x_Peer_unset.t (S : Sig) (a0 a1 : Value) (s : St) : Option (Value × St) :=
  S.bd (bx a1) fun c1 => S.bd (S.it (leapfrogref09x_Peer_unset.l3 S) [a0, (Go.Value.slice Option.none 0 0), (Go.Value.int Go.IntKind.i64 0), (Value.agg ⟨c1⟩)] s) fun r49 => S.bd (nck (r49.2.1.getD 0 undef)) fun x50 => S.bd (fld 9 x50) fun x51 => S.bd (stv r49.2.2 1 x51 (r49.2.1.getD 1 undef)) fun s52 => some ((Value.tuple ⟨[]⟩), s52)
def leapfrogref09x_Peer_unset.v (a0 a1 : Value) (s : St) : Option (Value × St) := leapfrogref09x_Peer_unset.t std a0 a1 s
def leapfrogref09x_Peer_unset.w : List Value → St → Option (Value × St)
  | [a0, a1], s => leapfrogref09x_Peer_unset.v a0 a1 s
  | _, _ => none
def leapfrogref09x_Peer_unset.an : An := ⟨39, false, [3], [(3, ⟨[.v 0, .p 3 3 0, .v 4, .v 5, .l 3], [(.exit 0, [.v 0, .v 4])]⟩)], [], [(5, [(0, 0, [], []), (1, 0, [], []), (2, 0, [], []), (3, 2, [], []), (4, 0, [], []), (5, 2, [], []), (6, 0, [], []), (7, 2, [], []), (8, 25, [], []), (9, 0, [], [])])]⟩
theorem leapfrogref09x_Peer_unset.ok (S : Sig) (a0 a1 : Value) (s : St) : evF S Tryz.prog leapfrogref09x_Peer_unset.ctx leapfrogref09x_Peer_unset.an Tryz.f105 [a0, a1] s = leapfrogref09x_Peer_unset.t S a0 a1 s := by kernel_rfl
theorem leapfrogref09x_Peer_unset.cok : CtxOk Tryz.prog leapfrogref09x_Peer_unset.ctx := .nil
theorem leapfrogref09x_Peer_unset.draws : fnDraws leapfrogref09x_Peer_unset.an Tryz.f105 = true := by kernel_rfl
theorem leapfrogref09x_Peer_unset.can : callOk Tryz.prog 105 = true := by kernel_rfl
theorem leapfrogref09x_Peer_unset.sound : FnOk Tryz.prog 105 (.st leapfrogref09x_Peer_unset.w) := FnOk.st_of (evF_ok leapfrogref09x_Peer_unset.cok mixed (f := 105) (fn := Tryz.f105) (by kernel_rfl) leapfrogref09x_Peer_unset.draws) fun args s r h => by
  unfold leapfrogref09x_Peer_unset.w at h; split at h
  · rw [leapfrogref09x_Peer_unset.ok std]; exact h
  · simp at h

/-! ### (*leapfrog/leapfrogref09.Peer).out: function 83 -/
def leapfrogref09x_Peer_out.ctx : Ctx := [(61, .rd leapfrogref09x_Peer_rec.w), (99, .rd leapfrogref09x_no.w), (76, .st leapfrogref09x_told.w), (105, .st leapfrogref09x_Peer_unset.w), (102, .rd leapfrogref09x_ok.w), (77, .rd leapfrogref09x_gone.w), (103, .st leapfrogref09x_Peer_answer.w)]
def leapfrogref09x_Peer_out.l7 (S : Sig) (rec42 : List Value → St → Option Cut) (xs40 : List Value) (s41 : St) : Option Cut :=
  S.bd (lcl (cellsA (xs40.getD 4 undef)) 15) fun x43 => S.bd (lenL x43) fun x44 => S.bd (bin .lss (xs40.getD 2 undef) x44) fun x45 => S.cnd x45 (S.bd (lal (cellsA (xs40.getD 3 undef)) 1 2) fun x46 => S.bd (lcl (cellsA (xs40.getD 4 undef)) 15) fun x47 => S.bd (idx s41 2 x47 (xs40.getD 2 undef)) fun x48 => S.bd (lda s41 2 x48) fun x49 => S.bd (leapfrogref09x_gone.r  s41) fun x50 => S.bd (leapfrogref09x_Peer_answer.v (xs40.getD 0 undef) x46 x49 x50 s41) fun r51 => S.bd (idx r51.2 2 x47 (xs40.getD 2 undef)) fun x52 => S.cnd (Value.bool (sameV x52 x48)) (S.bd (app r51.2 14 128 (xs40.getD 1 undef) r51.1) fun r53 => S.bd (idx r53.2 2 x47 (xs40.getD 2 undef)) fun x54 => S.cnd (Value.bool (sameV x54 x48)) (S.bd (bin .add (xs40.getD 2 undef) (Go.Value.int Go.IntKind.i64 1)) fun x55 => rec42 [(xs40.getD 0 undef), r53.1, x55, (Value.agg ⟨(cellsA (xs40.getD 3 undef))⟩), (Value.agg ⟨(cellsA (xs40.getD 4 undef))⟩)] r53.2) (none)) (none)) (some (0, [(xs40.getD 1 undef)], s41))

def leapfrogref09x_Peer_out.t (S : Sig) (a0 a1 a2 : Value) (s : St) : Option (Value × St) :=
  S.bd (bx a2) fun c1 => S.bd (lal c1 1 2) fun x2 => S.bd (leapfrogref09x_Peer_rec.r a0 x2 s) fun x3 => S.bd (xtr 0 x3) fun x4 => S.bd (xtr 1 x3) fun x5 => S.bd (bx (Go.Value.agg #[(Go.Value.int Go.IntKind.i64 0), (Go.Value.int Go.IntKind.u64 0), (Go.Value.int Go.IntKind.i64 0), (Go.Value.int Go.IntKind.i64 0), (Go.Value.int Go.IntKind.u64 0), (Go.Value.int Go.IntKind.i64 0), (Go.Value.int Go.IntKind.u64 0), (Go.Value.int Go.IntKind.i64 0), (Go.Value.int Go.IntKind.i64 0), (Go.Value.int Go.IntKind.u64 0), (Go.Value.int Go.IntKind.i64 0), (Go.Value.int Go.IntKind.u64 0), (Go.Value.bool Bool.false), (Go.Value.int Go.IntKind.i64 0), (Go.Value.int Go.IntKind.i64 0), (Go.Value.slice Option.none 0 0)])) fun c6 => S.bd (stl c6 0 16 x4) fun c7 => S.bd (un .not x5) fun x8 => S.bd (S.gd x8 false (some a0)) fun x9 => S.bd (S.gd x8 false (nck x9)) fun x10 => S.bd (S.gd x8 false (fld 6 x10)) fun x11 => S.bd (S.gd x8 false (ldc s x11)) fun x12 => S.bd (pik x8 (Go.Value.bool Bool.true) x12) fun x13 => S.bd (S.gd x13 false (lcl c7 12)) fun x14 => S.bd (S.gd x13 false (un .not x14)) fun x15 => S.bd (pik x13 (Go.Value.bool Bool.true) x15) fun x16 => S.bd (S.gd x16 false (lal c7 13 2)) fun x17 => S.bd (S.gd x16 false (lal c1 13 2)) fun x18 => S.bd (S.gd x16 false (eqb [1, 1] true true x17 x18)) fun x19 => S.bd (pik x16 (Go.Value.bool Bool.true) x19) fun x20 => S.cnd x20 (S.bd (leapfrogref09x_no.r  s) fun x21 => S.bd (leapfrogref09x_told.v a1 x21 s) fun r22 => some (r22.1, r22.2)) (S.bd (lal c1 1 2) fun x23 => S.bd (leapfrogref09x_Peer_unset.v a0 x23 s) fun r24 => S.bd (leapfrogref09x_ok.r  r24.2) fun x25 => S.bd (leapfrogref09x_told.v a1 x25 r24.2) fun r26 => S.bd (S.it (leapfrogref09x_Peer_out.l7 S) [a0, r26.1, (Go.Value.int Go.IntKind.i64 0), (Value.agg ⟨c1⟩), (Value.agg ⟨c7⟩)] r26.2) fun r56 => some ((r56.2.1.getD 0 undef), r56.2.2))
def leapfrogref09x_Peer_out.v (a0 a1 a2 : Value) (s : St) : Option (Value × St) := leapfrogref09x_Peer_out.t std a0 a1 a2 s
def leapfrogref09x_Peer_out.w : List Value → St → Option (Value × St)
  | [a0, a1, a2], s => leapfrogref09x_Peer_out.v a0 a1 a2 s
  | _, _ => none
def leapfrogref09x_Peer_out.an : An := ⟨72, false, [5, 7], [(7, ⟨[.v 0, .p 5 5 0, .p 7 7 0, .v 9, .v 10, .l 5, .l 7], [(.exit 0, [.v 9])]⟩)], [], [(9, [(0, 0, [], []), (1, 0, [], []), (2, 0, [], []), (3, 41, [], []), (4, 0, [], []), (5, 0, [], []), (6, 57, [], []), (7, 0, [], []), (8, 2, [], []), (9, 2, [], []), (10, 3, [], []), (11, 4, [8], []), (12, 4, [8], []), (13, 0, [], [])])]⟩
theorem leapfrogref09x_Peer_out.ok (S : Sig) (a0 a1 a2 : Value) (s : St) : evF S Tryz.prog leapfrogref09x_Peer_out.ctx leapfrogref09x_Peer_out.an Tryz.f83 [a0, a1, a2] s = leapfrogref09x_Peer_out.t S a0 a1 a2 s := by kernel_rfl
theorem leapfrogref09x_Peer_out.cok : CtxOk Tryz.prog leapfrogref09x_Peer_out.ctx := .cons leapfrogref09x_Peer_rec.sound leapfrogref09x_Peer_rec.can <| .cons leapfrogref09x_no.sound leapfrogref09x_no.can <| .cons leapfrogref09x_told.sound leapfrogref09x_told.can <| .cons leapfrogref09x_Peer_unset.sound leapfrogref09x_Peer_unset.can <| .cons leapfrogref09x_ok.sound leapfrogref09x_ok.can <| .cons leapfrogref09x_gone.sound leapfrogref09x_gone.can <| .cons leapfrogref09x_Peer_answer.sound leapfrogref09x_Peer_answer.can <| .nil
theorem leapfrogref09x_Peer_out.draws : fnDraws leapfrogref09x_Peer_out.an Tryz.f83 = true := by kernel_rfl
theorem leapfrogref09x_Peer_out.can : callOk Tryz.prog 83 = true := by kernel_rfl
theorem leapfrogref09x_Peer_out.sound : FnOk Tryz.prog 83 (.st leapfrogref09x_Peer_out.w) := FnOk.st_of (evF_ok leapfrogref09x_Peer_out.cok mixed (f := 83) (fn := Tryz.f83) (by kernel_rfl) leapfrogref09x_Peer_out.draws) fun args s r h => by
  unfold leapfrogref09x_Peer_out.w at h; split at h
  · rw [leapfrogref09x_Peer_out.ok std]; exact h
  · simp at h

/-! ### (*leapfrog/leapfrogref09.Peer).marked: function 106 -/
def leapfrogref09x_Peer_marked.ctx : Ctx := [(99, .rd leapfrogref09x_no.w)]
def leapfrogref09x_Peer_marked.t (S : Sig) (a0 : Value) (s : St) : Option (Value × St) :=
  S.bd (bx (Go.Value.agg #[(Go.Value.int Go.IntKind.i64 0), (Go.Value.bool Bool.false), (Go.Value.int Go.IntKind.i64 0), (Go.Value.int Go.IntKind.i64 0), (Go.Value.int Go.IntKind.u64 0), (Go.Value.int Go.IntKind.i64 0), (Go.Value.int Go.IntKind.u64 0), (Go.Value.int Go.IntKind.i64 0), (Go.Value.int Go.IntKind.i64 0), (Go.Value.int Go.IntKind.u64 0), (Go.Value.int Go.IntKind.i64 0), (Go.Value.int Go.IntKind.u64 0), (Go.Value.slice Option.none 0 0)])) fun c1 => S.bd (nck a0) fun x2 => S.bd (fld 8 x2) fun x3 => S.bd (ldc s x3) fun x4 => S.cnd x4 (S.bd (leapfrogref09x_no.r  s) fun x5 => S.bd (stl c1 0 13 x5) fun c6 => S.bd (lal c6 0 13) fun x7 => some (x7, s)) (S.bd (nck a0) fun x8 => S.bd (fld 8 x8) fun x9 => S.bd (stv s 1 x9 (Go.Value.bool Bool.true)) fun s10 => S.bd (S.bd (bls 1 (List.replicate 0 [(Go.Value.int Go.IntKind.u8 0)]) []) fun rows => als s10 1 0 rows) fun r11 => S.bd (nck a0) fun x12 => S.bd (fld 5 x12) fun x13 => S.bd (ldc r11.2 x13) fun x14 => S.bd (app r11.2 1 1 r11.1 x14) fun r15 => S.bd (bld [(Go.Value.int Go.IntKind.i64 0), (Go.Value.bool Bool.false), (Go.Value.int Go.IntKind.i64 0), (Go.Value.int Go.IntKind.i64 0), (Go.Value.int Go.IntKind.u64 0), (Go.Value.int Go.IntKind.i64 0), (Go.Value.int Go.IntKind.u64 0), (Go.Value.int Go.IntKind.i64 0), (Go.Value.int Go.IntKind.i64 0), (Go.Value.int Go.IntKind.u64 0), (Go.Value.int Go.IntKind.i64 0), (Go.Value.int Go.IntKind.u64 0), (Go.Value.slice Option.none 0 0)] [(0, 1, (Go.Value.int Go.IntKind.i64 1)), (12, 1, r15.1)]) fun x16 => S.bd (stl c1 0 13 x16) fun c17 => S.bd (lal c17 0 13) fun x18 => some (x18, r15.2))
def leapfrogref09x_Peer_marked.v (a0 : Value) (s : St) : Option (Value × St) := leapfrogref09x_Peer_marked.t std a0 s
def leapfrogref09x_Peer_marked.w : List Value → St → Option (Value × St)
  | [a0], s => leapfrogref09x_Peer_marked.v a0 s
  | _, _ => none
def leapfrogref09x_Peer_marked.an : An := ⟨18, false, [2], [], [], []⟩
theorem leapfrogref09x_Peer_marked.ok (S : Sig) (a0 : Value) (s : St) : evF S Tryz.prog leapfrogref09x_Peer_marked.ctx leapfrogref09x_Peer_marked.an Tryz.f106 [a0] s = leapfrogref09x_Peer_marked.t S a0 s := by kernel_rfl
theorem leapfrogref09x_Peer_marked.cok : CtxOk Tryz.prog leapfrogref09x_Peer_marked.ctx := .cons leapfrogref09x_no.sound leapfrogref09x_no.can <| .nil
theorem leapfrogref09x_Peer_marked.draws : fnDraws leapfrogref09x_Peer_marked.an Tryz.f106 = true := by kernel_rfl
theorem leapfrogref09x_Peer_marked.can : callOk Tryz.prog 106 = true := by kernel_rfl
theorem leapfrogref09x_Peer_marked.sound : FnOk Tryz.prog 106 (.st leapfrogref09x_Peer_marked.w) := FnOk.st_of (evF_ok leapfrogref09x_Peer_marked.cok mixed (f := 106) (fn := Tryz.f106) (by kernel_rfl) leapfrogref09x_Peer_marked.draws) fun args s r h => by
  unfold leapfrogref09x_Peer_marked.w at h; split at h
  · rw [leapfrogref09x_Peer_marked.ok std]; exact h
  · simp at h

/-! ### (*leapfrog/leapfrogref09.Peer).mark: function 84 -/
def leapfrogref09x_Peer_mark.ctx : Ctx := [(99, .rd leapfrogref09x_no.w), (76, .st leapfrogref09x_told.w), (106, .st leapfrogref09x_Peer_marked.w)]
def leapfrogref09x_Peer_mark.t (S : Sig) (a0 a1 : Value) (s : St) : Option (Value × St) :=
  S.bd (nck a0) fun x1 => S.bd (fld 6 x1) fun x2 => S.bd (ldc s x2) fun x3 => S.cnd x3 (S.bd (leapfrogref09x_no.r  s) fun x4 => S.bd (leapfrogref09x_told.v a1 x4 s) fun r5 => some (r5.1, r5.2)) (S.bd (nck a0) fun x6 => S.bd (fld 7 x6) fun x7 => S.bd (ldc s x7) fun x8 => S.bd (un .not x8) fun x9 => S.cnd x9 (S.bd (S.bd (bls 6 (List.replicate 0 [(Go.Value.int Go.IntKind.i64 0), (Go.Value.bool Bool.false), (Go.Value.int Go.IntKind.i64 0), (Go.Value.int Go.IntKind.u64 0), (Go.Value.int Go.IntKind.i64 0), (Go.Value.int Go.IntKind.i64 0)]) []) fun rows => als s 6 0 rows) fun r10 => S.bd (nck a0) fun x11 => S.bd (fld 10 x11) fun x12 => S.bd (ldc r10.2 x12) fun x13 => S.bd (app r10.2 6 48 r10.1 x13) fun r14 => S.bd (bld [(Go.Value.int Go.IntKind.i64 0), (Go.Value.bool Bool.false), (Go.Value.int Go.IntKind.i64 0), (Go.Value.int Go.IntKind.u64 0), (Go.Value.int Go.IntKind.i64 0), (Go.Value.int Go.IntKind.i64 0)] [(0, 1, a1), (1, 1, (Go.Value.bool Bool.true))]) fun x15 => S.bd (S.bd (bls 6 (List.replicate 1 [(Go.Value.int Go.IntKind.i64 0), (Go.Value.bool Bool.false), (Go.Value.int Go.IntKind.i64 0), (Go.Value.int Go.IntKind.u64 0), (Go.Value.int Go.IntKind.i64 0), (Go.Value.int Go.IntKind.i64 0)]) [(0, x15)]) fun rows => als r14.2 6 1 rows) fun r16 => S.bd (app r16.2 6 48 r14.1 r16.1) fun r17 => S.bd (nck a0) fun x18 => S.bd (fld 10 x18) fun x19 => S.bd (stv r17.2 1 x19 r17.1) fun s20 => some ((Go.Value.slice Option.none 0 0), s20)) (S.bd (leapfrogref09x_Peer_marked.v a0 s) fun r21 => S.bd (leapfrogref09x_told.v a1 r21.1 r21.2) fun r22 => some (r22.1, r22.2)))
def leapfrogref09x_Peer_mark.v (a0 a1 : Value) (s : St) : Option (Value × St) := leapfrogref09x_Peer_mark.t std a0 a1 s
def leapfrogref09x_Peer_mark.w : List Value → St → Option (Value × St)
  | [a0, a1], s => leapfrogref09x_Peer_mark.v a0 a1 s
  | _, _ => none
def leapfrogref09x_Peer_mark.an : An := ⟨34, false, [], [], [], []⟩
theorem leapfrogref09x_Peer_mark.ok (S : Sig) (a0 a1 : Value) (s : St) : evF S Tryz.prog leapfrogref09x_Peer_mark.ctx leapfrogref09x_Peer_mark.an Tryz.f84 [a0, a1] s = leapfrogref09x_Peer_mark.t S a0 a1 s := by kernel_rfl
theorem leapfrogref09x_Peer_mark.cok : CtxOk Tryz.prog leapfrogref09x_Peer_mark.ctx := .cons leapfrogref09x_no.sound leapfrogref09x_no.can <| .cons leapfrogref09x_told.sound leapfrogref09x_told.can <| .cons leapfrogref09x_Peer_marked.sound leapfrogref09x_Peer_marked.can <| .nil
theorem leapfrogref09x_Peer_mark.draws : fnDraws leapfrogref09x_Peer_mark.an Tryz.f84 = true := by kernel_rfl
theorem leapfrogref09x_Peer_mark.can : callOk Tryz.prog 84 = true := by kernel_rfl
theorem leapfrogref09x_Peer_mark.sound : FnOk Tryz.prog 84 (.st leapfrogref09x_Peer_mark.w) := FnOk.st_of (evF_ok leapfrogref09x_Peer_mark.cok mixed (f := 84) (fn := Tryz.f84) (by kernel_rfl) leapfrogref09x_Peer_mark.draws) fun args s r h => by
  unfold leapfrogref09x_Peer_mark.w at h; split at h
  · rw [leapfrogref09x_Peer_mark.ok std]; exact h
  · simp at h

/-! ### (*leapfrog/leapfrogref09.Peer).joined: function 85 -/
def leapfrogref09x_Peer_joined.ctx : Ctx := [(99, .rd leapfrogref09x_no.w), (76, .st leapfrogref09x_told.w), (102, .rd leapfrogref09x_ok.w), (106, .st leapfrogref09x_Peer_marked.w)]
def leapfrogref09x_Peer_joined.l7.p1 (S : Sig) (xs47 : List Value) (s48 : St) (rec49 : List Value → St → Option Cut) : Option Cut :=
  S.bd (nck (xs47.getD 0 undef)) fun x61 => S.bd (fld 10 x61) fun x62 => S.bd (ldc s48 x62) fun x63 => S.bd (idx s48 6 x63 (xs47.getD 3 undef)) fun x64 => S.bd (fld 0 x64) fun x65 => S.bd (ldc s48 x65) fun x66 => S.bd (leapfrogref09x_Peer_marked.v (xs47.getD 0 undef) s48) fun r67 => S.bd (ldc r67.2 x62) fun x68 => S.cnd (Value.bool (sameV x68 x63)) (S.bd (idx r67.2 6 x63 (xs47.getD 3 undef)) fun x69 => S.cnd (Value.bool (sameV x69 x64)) (S.bd (ldc r67.2 x65) fun x70 => S.cnd (Value.bool (sameV x70 x66)) (S.bd (bld [(Go.Value.int Go.IntKind.i64 0), (Go.Value.int Go.IntKind.i64 0), (Go.Value.bool Bool.false), (Go.Value.int Go.IntKind.i64 0), (Go.Value.int Go.IntKind.i64 0), (Go.Value.int Go.IntKind.u64 0), (Go.Value.int Go.IntKind.i64 0), (Go.Value.int Go.IntKind.u64 0), (Go.Value.int Go.IntKind.i64 0), (Go.Value.int Go.IntKind.i64 0), (Go.Value.int Go.IntKind.u64 0), (Go.Value.int Go.IntKind.i64 0), (Go.Value.int Go.IntKind.u64 0), (Go.Value.slice Option.none 0 0)] [(0, 1, x66), (1, 13, r67.1)]) fun x71 => S.bd (S.bd (bls 14 (List.replicate 1 [(Go.Value.int Go.IntKind.i64 0), (Go.Value.int Go.IntKind.i64 0), (Go.Value.bool Bool.false), (Go.Value.int Go.IntKind.i64 0), (Go.Value.int Go.IntKind.i64 0), (Go.Value.int Go.IntKind.u64 0), (Go.Value.int Go.IntKind.i64 0), (Go.Value.int Go.IntKind.u64 0), (Go.Value.int Go.IntKind.i64 0), (Go.Value.int Go.IntKind.i64 0), (Go.Value.int Go.IntKind.u64 0), (Go.Value.int Go.IntKind.i64 0), (Go.Value.int Go.IntKind.u64 0), (Go.Value.slice Option.none 0 0)]) [(0, x71)]) fun rows => als r67.2 14 1 rows) fun r72 => S.bd (app r72.2 14 128 (xs47.getD 1 undef) r72.1) fun r73 => S.bd (ldc r73.2 x62) fun x74 => S.cnd (Value.bool (sameV x74 x63)) (S.bd (idx r73.2 6 x63 (xs47.getD 3 undef)) fun x75 => S.cnd (Value.bool (sameV x75 x64)) (S.bd (ldc r73.2 x65) fun x76 => S.cnd (Value.bool (sameV x76 x66)) (S.bd (bin .add (xs47.getD 3 undef) (Go.Value.int Go.IntKind.i64 1)) fun x77 => rec49 [(xs47.getD 0 undef), r73.1, (xs47.getD 2 undef), x77] r73.2) (none)) (none)) (none)) (none)) (none)) (none)

def leapfrogref09x_Peer_joined.l7 (S : Sig) (rec49 : List Value → St → Option Cut) (xs47 : List Value) (s48 : St) : Option Cut :=
  S.bd (nck (xs47.getD 0 undef)) fun x50 => S.bd (fld 10 x50) fun x51 => S.bd (ldc s48 x51) fun x52 => S.bd (lenL x52) fun x53 => S.bd (bin .lss (xs47.getD 3 undef) x53) fun x54 => S.cnd x54 (S.bd (nck (xs47.getD 0 undef)) fun x55 => S.bd (fld 10 x55) fun x56 => S.bd (ldc s48 x56) fun x57 => S.bd (idx s48 6 x57 (xs47.getD 3 undef)) fun x58 => S.bd (fld 1 x58) fun x59 => S.bd (ldc s48 x59) fun x60 => S.cnd x60 (leapfrogref09x_Peer_joined.l7.p1 S xs47 s48 rec49) (S.bd (nck (xs47.getD 0 undef)) fun x78 => S.bd (fld 10 x78) fun x79 => S.bd (ldc s48 x79) fun x80 => S.bd (idx s48 6 x80 (xs47.getD 3 undef)) fun x81 => S.bd (lda s48 6 x81) fun x82 => S.bd (S.bd (bls 6 (List.replicate 1 [(Go.Value.int Go.IntKind.i64 0), (Go.Value.bool Bool.false), (Go.Value.int Go.IntKind.i64 0), (Go.Value.int Go.IntKind.u64 0), (Go.Value.int Go.IntKind.i64 0), (Go.Value.int Go.IntKind.i64 0)]) [(0, x82)]) fun rows => als s48 6 1 rows) fun r83 => S.bd (app r83.2 6 48 (xs47.getD 2 undef) r83.1) fun r84 => S.bd (bin .add (xs47.getD 3 undef) (Go.Value.int Go.IntKind.i64 1)) fun x85 => rec49 [(xs47.getD 0 undef), (xs47.getD 1 undef), r84.1, x85] r84.2)) (some (0, [(xs47.getD 0 undef), (xs47.getD 1 undef), (xs47.getD 2 undef)], s48))

def leapfrogref09x_Peer_joined.t (S : Sig) (a0 a1 : Value) (s : St) : Option (Value × St) :=
  S.bd (nck a0) fun x1 => S.bd (fld 6 x1) fun x2 => S.bd (ldc s x2) fun x3 => S.cnd x3 (S.bd (leapfrogref09x_no.r  s) fun x4 => S.bd (leapfrogref09x_told.v a1 x4 s) fun r5 => some (r5.1, r5.2)) (S.bd (nck a0) fun x6 => S.bd (fld 7 x6) fun x7 => S.bd (stv s 1 x7 (Go.Value.bool Bool.true)) fun s8 => S.bd (leapfrogref09x_ok.r  s8) fun x9 => S.bd (leapfrogref09x_told.v a1 x9 s8) fun r10 => S.bd (S.it (leapfrogref09x_Peer_joined.l7 S) [a0, r10.1, (Go.Value.slice Option.none 0 0), (Go.Value.int Go.IntKind.i64 0)] r10.2) fun r86 => S.bd (nck (r86.2.1.getD 0 undef)) fun x87 => S.bd (fld 10 x87) fun x88 => S.bd (stv r86.2.2 1 x88 (r86.2.1.getD 2 undef)) fun s89 => some ((r86.2.1.getD 1 undef), s89))
def leapfrogref09x_Peer_joined.v (a0 a1 : Value) (s : St) : Option (Value × St) := leapfrogref09x_Peer_joined.t std a0 a1 s
def leapfrogref09x_Peer_joined.w : List Value → St → Option (Value × St)
  | [a0, a1], s => leapfrogref09x_Peer_joined.v a0 a1 s
  | _, _ => none
def leapfrogref09x_Peer_joined.an : An := ⟨67, false, [], [(7, ⟨[.v 0, .v 5, .v 6, .v 7], [(.exit 0, [.v 0, .v 5, .v 6])]⟩)], [], [(10, [(0, 0, [], []), (1, 0, [], []), (2, 0, [], []), (3, 0, [], []), (4, 2, [], []), (5, 0, [], []), (6, 2, [], []), (7, 0, [], []), (8, 2, [], []), (9, 0, [], []), (10, 4, [4, 6, 8], []), (11, 0, [], []), (12, 3, [], []), (13, 4, [4, 6, 8], []), (14, 0, [], [])])]⟩
theorem leapfrogref09x_Peer_joined.ok (S : Sig) (a0 a1 : Value) (s : St) : evF S Tryz.prog leapfrogref09x_Peer_joined.ctx leapfrogref09x_Peer_joined.an Tryz.f85 [a0, a1] s = leapfrogref09x_Peer_joined.t S a0 a1 s := by kernel_rfl
theorem leapfrogref09x_Peer_joined.cok : CtxOk Tryz.prog leapfrogref09x_Peer_joined.ctx := .cons leapfrogref09x_no.sound leapfrogref09x_no.can <| .cons leapfrogref09x_told.sound leapfrogref09x_told.can <| .cons leapfrogref09x_ok.sound leapfrogref09x_ok.can <| .cons leapfrogref09x_Peer_marked.sound leapfrogref09x_Peer_marked.can <| .nil
theorem leapfrogref09x_Peer_joined.draws : fnDraws leapfrogref09x_Peer_joined.an Tryz.f85 = true := by kernel_rfl
theorem leapfrogref09x_Peer_joined.can : callOk Tryz.prog 85 = true := by kernel_rfl
theorem leapfrogref09x_Peer_joined.sound : FnOk Tryz.prog 85 (.st leapfrogref09x_Peer_joined.w) := FnOk.st_of (evF_ok leapfrogref09x_Peer_joined.cok mixed (f := 85) (fn := Tryz.f85) (by kernel_rfl) leapfrogref09x_Peer_joined.draws) fun args s r h => by
  unfold leapfrogref09x_Peer_joined.w at h; split at h
  · rw [leapfrogref09x_Peer_joined.ok std]; exact h
  · simp at h

/-! ### (*leapfrog/leapfrogref09.Peer).Ask: function 60 -/
def leapfrogref09x_Peer_Ask.ctx : Ctx := [(75, .rd leapfrogref04x_CheckAsk.w), (61, .rd leapfrogref09x_Peer_rec.w), (77, .rd leapfrogref09x_gone.w), (76, .st leapfrogref09x_told.w), (78, .rd leapfrogref09x_Peer_of.w), (79, .st leapfrogref09x_Peer_lock.w), (80, .st leapfrogref09x_Peer_free.w), (81, .st leapfrogref09x_Peer_beside.w), (82, .st leapfrogref09x_Peer_enter.w), (83, .st leapfrogref09x_Peer_out.w), (84, .st leapfrogref09x_Peer_mark.w), (85, .st leapfrogref09x_Peer_joined.w)]
def leapfrogref09x_Peer_Ask.t.p1 (S : Sig) (r81 : Cut) : Option Cut :=
  S.bd (lal (cellsA (r81.2.1.getD 4 undef)) 1 2) fun x82 => S.bd (bx (Go.Value.agg #[(Go.Value.int Go.IntKind.i64 0), (Go.Value.int Go.IntKind.u64 0)])) fun c83 => S.bd (stl c83 0 2 x82) fun c84 => S.bd (show Option Cut from S.bd (lcl (cellsA (r81.2.1.getD 4 undef)) 0) fun x85 => S.bd (eqb [1] false false x85 (Go.Value.int Go.IntKind.i64 2)) fun x86 => S.cnd x86 (S.bd (bld [(Go.Value.int Go.IntKind.i64 0), (Go.Value.int Go.IntKind.u64 0)] []) fun x87 => S.bd (stl c84 0 2 x87) fun c88 => some (0, [(r81.2.1.getD 0 undef), (r81.2.1.getD 1 undef), (Value.agg ⟨(cellsA (r81.2.1.getD 4 undef))⟩), (Value.agg ⟨c88⟩)], r81.2.2)) (some (0, [(r81.2.1.getD 0 undef), (r81.2.1.getD 1 undef), (Value.agg ⟨(cellsA (r81.2.1.getD 4 undef))⟩), (Value.agg ⟨c84⟩)], r81.2.2))) fun r89 => S.bd (lal (cellsA (r89.2.1.getD 3 undef)) 0 2) fun x90 => S.bd (leapfrogref09x_Peer_rec.r (r89.2.1.getD 0 undef) x90 r89.2.2) fun x91 => S.bd (xtr 0 x91) fun x92 => S.bd (xtr 1 x91) fun x93 => S.bd (bx (Go.Value.agg #[(Go.Value.int Go.IntKind.i64 0), (Go.Value.int Go.IntKind.u64 0), (Go.Value.int Go.IntKind.i64 0), (Go.Value.int Go.IntKind.i64 0), (Go.Value.int Go.IntKind.u64 0), (Go.Value.int Go.IntKind.i64 0), (Go.Value.int Go.IntKind.u64 0), (Go.Value.int Go.IntKind.i64 0), (Go.Value.int Go.IntKind.i64 0), (Go.Value.int Go.IntKind.u64 0), (Go.Value.int Go.IntKind.i64 0), (Go.Value.int Go.IntKind.u64 0), (Go.Value.bool Bool.false), (Go.Value.int Go.IntKind.i64 0), (Go.Value.int Go.IntKind.i64 0), (Go.Value.slice Option.none 0 0)])) fun c94 => S.bd (stl c94 0 16 x92) fun c95 => S.bd (un .not x93) fun x96 => S.cnd x96 (S.bd (leapfrogref09x_gone.r  r89.2.2) fun x97 => S.bd (leapfrogref09x_told.v (r89.2.1.getD 1 undef) x97 r89.2.2) fun r98 => some (1, [r98.1, (Go.Value.int Go.IntKind.i64 0)], r98.2)) (S.bd (lal c95 0 16) fun x99 => S.bd (leapfrogref09x_Peer_of.r (r89.2.1.getD 0 undef) x99 r89.2.2) fun x100 => S.bd (bx (Go.Value.agg #[(Go.Value.int Go.IntKind.i64 0), (Go.Value.bool Bool.false), (Go.Value.int Go.IntKind.i64 0), (Go.Value.int Go.IntKind.i64 0), (Go.Value.int Go.IntKind.u64 0), (Go.Value.int Go.IntKind.i64 0), (Go.Value.int Go.IntKind.u64 0), (Go.Value.int Go.IntKind.i64 0), (Go.Value.int Go.IntKind.i64 0), (Go.Value.int Go.IntKind.u64 0), (Go.Value.int Go.IntKind.i64 0), (Go.Value.int Go.IntKind.u64 0), (Go.Value.slice Option.none 0 0)])) fun c101 => S.bd (stl c101 0 13 x100) fun c102 => S.bd (show Option Cut from S.bd (lcl (cellsA (r89.2.1.getD 2 undef)) 0) fun x103 => S.bd (eqb [1] false false x103 (Go.Value.int Go.IntKind.i64 2)) fun x104 => S.cnd x104 (S.bd (S.bd (bls 1 (List.replicate 0 [(Go.Value.int Go.IntKind.u8 0)]) []) fun rows => als r89.2.2 1 0 rows) fun r105 => S.bd (nck (r89.2.1.getD 0 undef)) fun x106 => S.bd (fld 5 x106) fun x107 => S.bd (ldc r105.2 x107) fun x108 => S.bd (app r105.2 1 1 r105.1 x108) fun r109 => S.bd (stl c102 12 1 r109.1) fun c110 => some (0, [(r89.2.1.getD 1 undef), (Value.agg ⟨c110⟩)], r109.2)) (some (0, [(r89.2.1.getD 1 undef), (Value.agg ⟨c102⟩)], r89.2.2))) fun r111 => S.bd (lal (cellsA (r111.2.1.getD 1 undef)) 0 13) fun x112 => S.bd (leapfrogref09x_told.v (r111.2.1.getD 0 undef) x112 r111.2.2) fun r113 => some (1, [r113.1, (Go.Value.int Go.IntKind.i64 0)], r113.2))

def leapfrogref09x_Peer_Ask.t.p2 (S : Sig) (r81 : Cut) : Option Cut :=
  S.bd (show Option Cut from S.bd (eqb [1] false false (r81.2.1.getD 2 undef) (Go.Value.int Go.IntKind.i64 5)) fun x120 => S.cnd x120 (some (0, [(r81.2.1.getD 0 undef), (r81.2.1.getD 1 undef), (r81.2.1.getD 2 undef), x120, (Value.agg ⟨(cellsA (r81.2.1.getD 4 undef))⟩)], r81.2.2)) (S.bd (eqb [1] false false (r81.2.1.getD 2 undef) (Go.Value.int Go.IntKind.i64 6)) fun x121 => some (0, [(r81.2.1.getD 0 undef), (r81.2.1.getD 1 undef), (r81.2.1.getD 2 undef), x121, (Value.agg ⟨(cellsA (r81.2.1.getD 4 undef))⟩)], r81.2.2))) fun r122 => S.cnd (r122.2.1.getD 3 undef) (S.bd (lal (cellsA (r122.2.1.getD 4 undef)) 0 15) fun x123 => S.bd (leapfrogref09x_Peer_beside.v (r122.2.1.getD 0 undef) x123 r122.2.2) fun r124 => S.bd (leapfrogref09x_told.v (r122.2.1.getD 1 undef) r124.1 r124.2) fun r125 => some (1, [r125.1, (Go.Value.int Go.IntKind.i64 0)], r125.2)) (S.bd (eqb [1] false false (r122.2.1.getD 2 undef) (Go.Value.int Go.IntKind.i64 7)) fun x126 => S.cnd x126 (S.bd (lal (cellsA (r122.2.1.getD 4 undef)) 0 15) fun x127 => S.bd (leapfrogref09x_Peer_enter.v (r122.2.1.getD 0 undef) x127 r122.2.2) fun r128 => S.bd (leapfrogref09x_told.v (r122.2.1.getD 1 undef) r128.1 r128.2) fun r129 => some (1, [r129.1, (Go.Value.int Go.IntKind.i64 0)], r129.2)) (S.bd (eqb [1] false false (r122.2.1.getD 2 undef) (Go.Value.int Go.IntKind.i64 8)) fun x130 => S.cnd x130 (S.bd (lal (cellsA (r122.2.1.getD 4 undef)) 0 15) fun x131 => S.bd (leapfrogref09x_Peer_out.v (r122.2.1.getD 0 undef) (r122.2.1.getD 1 undef) x131 r122.2.2) fun r132 => some (1, [r132.1, (Go.Value.int Go.IntKind.i64 0)], r132.2)) (S.bd (eqb [1] false false (r122.2.1.getD 2 undef) (Go.Value.int Go.IntKind.i64 9)) fun x133 => S.cnd x133 (S.bd (leapfrogref09x_Peer_mark.v (r122.2.1.getD 0 undef) (r122.2.1.getD 1 undef) r122.2.2) fun r134 => some (1, [r134.1, (Go.Value.int Go.IntKind.i64 0)], r134.2)) (some (0, [(r122.2.1.getD 0 undef), (r122.2.1.getD 1 undef)], r122.2.2)))))

def leapfrogref09x_Peer_Ask.t (S : Sig) (a0 a1 a2 : Value) (s : St) : Option (Value × St) :=
  S.bd (bx a2) fun c1 => S.bd (lal c1 0 15) fun x2 => S.bd (leapfrogref04x_CheckAsk.r x2 s) fun x3 => S.bd (eqb [1] false true x3 (Go.Value.int Go.IntKind.i64 0)) fun x4 => S.cnd x4 (some ((Value.tuple ⟨[(Go.Value.slice Option.none 0 0), (Go.Value.int Go.IntKind.i64 91)]⟩), s)) (S.bd (show Option Cut from S.bd (lcl c1 0) fun x78 => S.bd (show Option Cut from S.bd (eqb [1] false false x78 (Go.Value.int Go.IntKind.i64 1)) fun x79 => S.cnd x79 (some (0, [a0, a1, x78, x79, (Value.agg ⟨c1⟩)], s)) (S.bd (eqb [1] false false x78 (Go.Value.int Go.IntKind.i64 2)) fun x80 => some (0, [a0, a1, x78, x80, (Value.agg ⟨c1⟩)], s))) fun r81 => S.cnd (r81.2.1.getD 3 undef) (leapfrogref09x_Peer_Ask.t.p1 S r81) (S.bd (eqb [1] false false (r81.2.1.getD 2 undef) (Go.Value.int Go.IntKind.i64 3)) fun x114 => S.cnd x114 (S.bd (lal (cellsA (r81.2.1.getD 4 undef)) 0 15) fun x115 => S.bd (leapfrogref09x_Peer_lock.v (r81.2.1.getD 0 undef) (r81.2.1.getD 1 undef) x115 r81.2.2) fun r116 => some (1, [r116.1, (Go.Value.int Go.IntKind.i64 0)], r116.2)) (S.bd (eqb [1] false false (r81.2.1.getD 2 undef) (Go.Value.int Go.IntKind.i64 4)) fun x117 => S.cnd x117 (S.bd (lal (cellsA (r81.2.1.getD 4 undef)) 0 15) fun x118 => S.bd (leapfrogref09x_Peer_free.v (r81.2.1.getD 0 undef) (r81.2.1.getD 1 undef) x118 r81.2.2) fun r119 => some (1, [r119.1, (Go.Value.int Go.IntKind.i64 0)], r119.2)) (leapfrogref09x_Peer_Ask.t.p2 S r81)))) fun r135 => if r135.1 = 0 then (S.bd (leapfrogref09x_Peer_joined.v (r135.2.1.getD 0 undef) (r135.2.1.getD 1 undef) r135.2.2) fun r136 => some ((Value.tuple ⟨[r136.1, (Go.Value.int Go.IntKind.i64 0)]⟩), r136.2)) else (some ((Value.tuple ⟨[(r135.2.1.getD 0 undef), (r135.2.1.getD 1 undef)]⟩), r135.2.2)))
def leapfrogref09x_Peer_Ask.v (a0 a1 a2 : Value) (s : St) : Option (Value × St) := leapfrogref09x_Peer_Ask.t std a0 a1 a2 s
def leapfrogref09x_Peer_Ask.w : List Value → St → Option (Value × St)
  | [a0, a1, a2], s => leapfrogref09x_Peer_Ask.v a0 a1 a2 s
  | _, _ => none
def leapfrogref09x_Peer_Ask.an : An := ⟨94, false, [5, 8, 9, 11], [], [(6, ⟨[], [(.normal, [.v 0, .v 1, .p 5 5 0, .v 16, .v 17, .l 5])]⟩), (9, ⟨[], [(.normal, [.v 0, .v 1, .p 5 5 0, .p 8 8 0, .l 5, .l 8])]⟩), (15, ⟨[], [(.normal, [.v 1, .p 11 11 0, .l 11])]⟩), (22, ⟨[], [(.normal, [.v 0, .v 1, .p 5 5 0, .v 16, .v 65, .l 5])]⟩), (29, ⟨[], [(.normal, [.v 0, .v 1]), (.ret, [.v 6, .v 7])]⟩)], []⟩
theorem leapfrogref09x_Peer_Ask.ok (S : Sig) (a0 a1 a2 : Value) (s : St) : evF S Tryz.prog leapfrogref09x_Peer_Ask.ctx leapfrogref09x_Peer_Ask.an Tryz.f60 [a0, a1, a2] s = leapfrogref09x_Peer_Ask.t S a0 a1 a2 s := by kernel_rfl
theorem leapfrogref09x_Peer_Ask.cok : CtxOk Tryz.prog leapfrogref09x_Peer_Ask.ctx := .cons leapfrogref04x_CheckAsk.sound leapfrogref04x_CheckAsk.can <| .cons leapfrogref09x_Peer_rec.sound leapfrogref09x_Peer_rec.can <| .cons leapfrogref09x_gone.sound leapfrogref09x_gone.can <| .cons leapfrogref09x_told.sound leapfrogref09x_told.can <| .cons leapfrogref09x_Peer_of.sound leapfrogref09x_Peer_of.can <| .cons leapfrogref09x_Peer_lock.sound leapfrogref09x_Peer_lock.can <| .cons leapfrogref09x_Peer_free.sound leapfrogref09x_Peer_free.can <| .cons leapfrogref09x_Peer_beside.sound leapfrogref09x_Peer_beside.can <| .cons leapfrogref09x_Peer_enter.sound leapfrogref09x_Peer_enter.can <| .cons leapfrogref09x_Peer_out.sound leapfrogref09x_Peer_out.can <| .cons leapfrogref09x_Peer_mark.sound leapfrogref09x_Peer_mark.can <| .cons leapfrogref09x_Peer_joined.sound leapfrogref09x_Peer_joined.can <| .nil
theorem leapfrogref09x_Peer_Ask.draws : fnDraws leapfrogref09x_Peer_Ask.an Tryz.f60 = true := by kernel_rfl
theorem leapfrogref09x_Peer_Ask.can : callOk Tryz.prog 60 = true := by kernel_rfl
theorem leapfrogref09x_Peer_Ask.sound : FnOk Tryz.prog 60 (.st leapfrogref09x_Peer_Ask.w) := FnOk.st_of (evF_ok leapfrogref09x_Peer_Ask.cok mixed (f := 60) (fn := Tryz.f60) (by kernel_rfl) leapfrogref09x_Peer_Ask.draws) fun args s r h => by
  unfold leapfrogref09x_Peer_Ask.w at h; split at h
  · rw [leapfrogref09x_Peer_Ask.ok std]; exact h
  · simp at h

/-! ### leapfrog/leapfrogref15.Answer: function 39 -/
def leapfrogref15x_Answer.ctx : Ctx := [(60, .st leapfrogref09x_Peer_Ask.w)]
def leapfrogref15x_Answer.l2.p1 (S : Sig) (s33 : St) (xs32 : List Value) (rec34 : List Value → St → Option Cut) : Option Cut :=
  S.bd (idx s33 1 (xs32.getD 0 undef) (xs32.getD 1 undef)) fun x37 => S.bd (ldc s33 x37) fun x38 => S.bd (nck x38) fun x39 => S.bd (fld 0 x39) fun x40 => S.bd (fld 0 x40) fun x41 => S.bd (ldc s33 x41) fun x42 => S.bd (lcl (cellsA (xs32.getD 2 undef)) 1) fun x43 => S.bd (eqb [1] false true x42 x43) fun x44 => S.cnd x44 (S.bd (bin .add (xs32.getD 1 undef) (Go.Value.int Go.IntKind.i64 1)) fun x45 => rec34 [(xs32.getD 0 undef), x45, (Value.agg ⟨(cellsA (xs32.getD 2 undef))⟩), (Value.agg ⟨(cellsA (xs32.getD 3 undef))⟩)] s33) (S.bd (idx s33 1 (xs32.getD 0 undef) (xs32.getD 1 undef)) fun x46 => S.bd (ldc s33 x46) fun x47 => S.bd (lal (cellsA (xs32.getD 2 undef)) 6 15) fun x48 => S.bd (leapfrogref09x_Peer_Ask.v x47 (Go.Value.int Go.IntKind.i64 1) x48 s33) fun r49 => S.bd (idx r49.2 1 (xs32.getD 0 undef) (xs32.getD 1 undef)) fun x50 => S.cnd (Value.bool (sameV x50 x46)) (S.bd (xtr 0 r49.1) fun x51 => S.bd (xtr 1 r49.1) fun x52 => S.bd (eqb [1] false true x52 (Go.Value.int Go.IntKind.i64 0)) fun x53 => S.bd (S.gd x53 false (some x51)) fun x54 => S.bd (S.gd x53 false (lenL x54)) fun x55 => S.bd (S.gd x53 false (eqb [1] false true x55 (Go.Value.int Go.IntKind.i64 1))) fun x56 => S.bd (pik x53 (Go.Value.bool Bool.true) x56) fun x57 => S.cnd x57 (S.bd (bld [(Go.Value.int Go.IntKind.i64 0), (Go.Value.bool Bool.false), (Go.Value.int Go.IntKind.i64 0), (Go.Value.int Go.IntKind.i64 0), (Go.Value.int Go.IntKind.u64 0), (Go.Value.int Go.IntKind.i64 0), (Go.Value.int Go.IntKind.u64 0), (Go.Value.int Go.IntKind.i64 0), (Go.Value.int Go.IntKind.i64 0), (Go.Value.int Go.IntKind.u64 0), (Go.Value.int Go.IntKind.i64 0), (Go.Value.int Go.IntKind.u64 0), (Go.Value.slice Option.none 0 0)] []) fun x58 => S.bd (stl (cellsA (xs32.getD 3 undef)) 0 13 x58) fun c59 => some (1, [(Go.Value.bool Bool.false), (Value.agg ⟨c59⟩)], r49.2)) (S.bd (idx r49.2 14 x51 (Go.Value.int Go.IntKind.i64 0)) fun x60 => S.bd (fld 1 x60) fun x61 => S.bd (lda r49.2 13 x61) fun x62 => S.bd (stl (cellsA (xs32.getD 3 undef)) 0 13 x62) fun c63 => some (1, [(Go.Value.bool Bool.true), (Value.agg ⟨c63⟩)], r49.2))) (none))

def leapfrogref15x_Answer.l2 (S : Sig) (rec34 : List Value → St → Option Cut) (xs32 : List Value) (s33 : St) : Option Cut :=
  S.bd (lenL (xs32.getD 0 undef)) fun x35 => S.bd (bin .lss (xs32.getD 1 undef) x35) fun x36 => S.cnd x36 (leapfrogref15x_Answer.l2.p1 S s33 xs32 rec34) (some (0, [(Value.agg ⟨(cellsA (xs32.getD 3 undef))⟩)], s33))

def leapfrogref15x_Answer.t (S : Sig) (a0 a1 : Value) (s : St) : Option (Value × St) :=
  S.bd (bx a1) fun c1 => S.bd (bx (Go.Value.agg #[(Go.Value.int Go.IntKind.i64 0), (Go.Value.bool Bool.false), (Go.Value.int Go.IntKind.i64 0), (Go.Value.int Go.IntKind.i64 0), (Go.Value.int Go.IntKind.u64 0), (Go.Value.int Go.IntKind.i64 0), (Go.Value.int Go.IntKind.u64 0), (Go.Value.int Go.IntKind.i64 0), (Go.Value.int Go.IntKind.i64 0), (Go.Value.int Go.IntKind.u64 0), (Go.Value.int Go.IntKind.i64 0), (Go.Value.int Go.IntKind.u64 0), (Go.Value.slice Option.none 0 0)])) fun c2 => S.bd (S.it (leapfrogref15x_Answer.l2 S) [a0, (Go.Value.int Go.IntKind.i64 0), (Value.agg ⟨c1⟩), (Value.agg ⟨c2⟩)] s) fun r64 => if r64.1 = 0 then (S.bd (bld [(Go.Value.int Go.IntKind.i64 0), (Go.Value.bool Bool.false), (Go.Value.int Go.IntKind.i64 0), (Go.Value.int Go.IntKind.i64 0), (Go.Value.int Go.IntKind.u64 0), (Go.Value.int Go.IntKind.i64 0), (Go.Value.int Go.IntKind.u64 0), (Go.Value.int Go.IntKind.i64 0), (Go.Value.int Go.IntKind.i64 0), (Go.Value.int Go.IntKind.u64 0), (Go.Value.int Go.IntKind.i64 0), (Go.Value.int Go.IntKind.u64 0), (Go.Value.slice Option.none 0 0)] []) fun x66 => S.bd (stl (cellsA (r64.2.1.getD 0 undef)) 0 13 x66) fun c67 => S.bd (lal c67 0 13) fun x68 => some ((Value.tuple ⟨[x68, (Go.Value.bool Bool.false)]⟩), r64.2.2)) else (S.bd (lal (cellsA (r64.2.1.getD 1 undef)) 0 13) fun x65 => some ((Value.tuple ⟨[x65, (r64.2.1.getD 0 undef)]⟩), r64.2.2))
def leapfrogref15x_Answer.v (a0 a1 : Value) (s : St) : Option (Value × St) := leapfrogref15x_Answer.t std a0 a1 s
def leapfrogref15x_Answer.w : List Value → St → Option (Value × St)
  | [a0, a1], s => leapfrogref15x_Answer.v a0 a1 s
  | _, _ => none
def leapfrogref15x_Answer.an : An := ⟨50, false, [3, 4], [(2, ⟨[.v 0, .p 3 3 0, .p 4 4 0, .v 6, .l 3, .l 4], [(.exit 0, [.p 4 4 0, .l 4]), (.ret, [.p 4 4 0, .v 5, .l 4])]⟩)], [], [(4, [(0, 0, [], []), (1, 0, [], []), (2, 2, [], []), (3, 2, [], []), (4, 0, [], []), (5, 0, [], []), (6, 0, [], []), (7, 2, [], []), (8, 0, [], []), (9, 0, [], []), (10, 25, [], []), (11, 0, [], [])]), (5, [(0, 0, [], []), (1, 0, [], []), (2, 2, [], []), (3, 2, [], []), (4, 0, [], []), (5, 25, [], []), (6, 4, [2], []), (7, 0, [], []), (8, 0, [], []), (9, 0, [], []), (10, 0, [], []), (11, 0, [], [])])]⟩
theorem leapfrogref15x_Answer.ok (S : Sig) (a0 a1 : Value) (s : St) : evF S Tryz.prog leapfrogref15x_Answer.ctx leapfrogref15x_Answer.an Tryz.f39 [a0, a1] s = leapfrogref15x_Answer.t S a0 a1 s := by kernel_rfl
theorem leapfrogref15x_Answer.cok : CtxOk Tryz.prog leapfrogref15x_Answer.ctx := .cons leapfrogref09x_Peer_Ask.sound leapfrogref09x_Peer_Ask.can <| .nil
theorem leapfrogref15x_Answer.draws : fnDraws leapfrogref15x_Answer.an Tryz.f39 = true := by kernel_rfl
theorem leapfrogref15x_Answer.can : callOk Tryz.prog 39 = true := by kernel_rfl
theorem leapfrogref15x_Answer.sound : FnOk Tryz.prog 39 (.st leapfrogref15x_Answer.w) := FnOk.st_of (evF_ok leapfrogref15x_Answer.cok mixed (f := 39) (fn := Tryz.f39) (by kernel_rfl) leapfrogref15x_Answer.draws) fun args s r h => by
  unfold leapfrogref15x_Answer.w at h; split at h
  · rw [leapfrogref15x_Answer.ok std]; exact h
  · simp at h

/-! ### (*leapfrog/leapfrogref09.Peer).Will: function 40 -/
def leapfrogref09x_Peer_Will.ctx : Ctx := [(59, .rd leapfrogref01x_Right.w), (61, .rd leapfrogref09x_Peer_rec.w)]
def leapfrogref09x_Peer_Will.t.p1 (S : Sig) (c1 : List Value) (a0 : Value) (s : St) (c2 : List Value) : Option Value :=
  S.bd (lal c1 0 2) fun x9 => S.bd (leapfrogref09x_Peer_rec.r a0 x9 s) fun x10 => S.bd (xtr 0 x10) fun x11 => S.bd (xtr 1 x10) fun x12 => S.bd (bx (Go.Value.agg #[(Go.Value.int Go.IntKind.i64 0), (Go.Value.int Go.IntKind.u64 0), (Go.Value.int Go.IntKind.i64 0), (Go.Value.int Go.IntKind.i64 0), (Go.Value.int Go.IntKind.u64 0), (Go.Value.int Go.IntKind.i64 0), (Go.Value.int Go.IntKind.u64 0), (Go.Value.int Go.IntKind.i64 0), (Go.Value.int Go.IntKind.i64 0), (Go.Value.int Go.IntKind.u64 0), (Go.Value.int Go.IntKind.i64 0), (Go.Value.int Go.IntKind.u64 0), (Go.Value.bool Bool.false), (Go.Value.int Go.IntKind.i64 0), (Go.Value.int Go.IntKind.i64 0), (Go.Value.slice Option.none 0 0)])) fun c13 => S.bd (stl c13 0 16 x11) fun c14 => S.bd (nck a0) fun x15 => S.bd (fld 8 x15) fun x16 => S.bd (ldc s x16) fun x17 => S.bd (bld [(Go.Value.int Go.IntKind.i64 0), (Go.Value.bool Bool.false), (Go.Value.int Go.IntKind.i64 0), (Go.Value.int Go.IntKind.i64 0), (Go.Value.int Go.IntKind.u64 0), (Go.Value.int Go.IntKind.i64 0), (Go.Value.int Go.IntKind.u64 0), (Go.Value.int Go.IntKind.i64 0), (Go.Value.int Go.IntKind.i64 0), (Go.Value.int Go.IntKind.u64 0), (Go.Value.int Go.IntKind.i64 0), (Go.Value.int Go.IntKind.u64 0), (Go.Value.slice Option.none 0 0)] [(0, 1, (Go.Value.int Go.IntKind.i64 3)), (1, 1, x17)]) fun x18 => S.bd (bx (Go.Value.agg #[(Go.Value.int Go.IntKind.i64 0), (Go.Value.bool Bool.false), (Go.Value.int Go.IntKind.i64 0), (Go.Value.int Go.IntKind.i64 0), (Go.Value.int Go.IntKind.u64 0), (Go.Value.int Go.IntKind.i64 0), (Go.Value.int Go.IntKind.u64 0), (Go.Value.int Go.IntKind.i64 0), (Go.Value.int Go.IntKind.i64 0), (Go.Value.int Go.IntKind.u64 0), (Go.Value.int Go.IntKind.i64 0), (Go.Value.int Go.IntKind.u64 0), (Go.Value.slice Option.none 0 0)])) fun c19 => S.bd (stl c19 0 13 x18) fun c20 => S.cnd x12 (S.bd (lal c14 2 5) fun x21 => S.bd (lal c14 7 5) fun x22 => S.bd (stl c20 2 5 x21) fun c23 => S.bd (stl c23 7 5 x22) fun c24 => S.bd (lal c24 0 13) fun x25 => S.bd (stl c2 0 13 x25) fun c26 => S.bd (lal c26 0 13) fun x27 => some ((Value.tuple ⟨[x27, (Go.Value.int Go.IntKind.i64 0)]⟩))) (S.bd (lal c20 0 13) fun x28 => S.bd (stl c2 0 13 x28) fun c29 => S.bd (lal c29 0 13) fun x30 => some ((Value.tuple ⟨[x30, (Go.Value.int Go.IntKind.i64 0)]⟩)))

def leapfrogref09x_Peer_Will.t (S : Sig) (a0 a1 : Value) (s : St) : Option Value :=
  S.bd (bx a1) fun c1 => S.bd (bx (Go.Value.agg #[(Go.Value.int Go.IntKind.i64 0), (Go.Value.bool Bool.false), (Go.Value.int Go.IntKind.i64 0), (Go.Value.int Go.IntKind.i64 0), (Go.Value.int Go.IntKind.u64 0), (Go.Value.int Go.IntKind.i64 0), (Go.Value.int Go.IntKind.u64 0), (Go.Value.int Go.IntKind.i64 0), (Go.Value.int Go.IntKind.i64 0), (Go.Value.int Go.IntKind.u64 0), (Go.Value.int Go.IntKind.i64 0), (Go.Value.int Go.IntKind.u64 0), (Go.Value.slice Option.none 0 0)])) fun c2 => S.bd (lal c1 0 2) fun x3 => S.bd (leapfrogref01x_Right.r x3 s) fun x4 => S.bd (un .not x4) fun x5 => S.cnd x5 (S.bd (bld [(Go.Value.int Go.IntKind.i64 0), (Go.Value.bool Bool.false), (Go.Value.int Go.IntKind.i64 0), (Go.Value.int Go.IntKind.i64 0), (Go.Value.int Go.IntKind.u64 0), (Go.Value.int Go.IntKind.i64 0), (Go.Value.int Go.IntKind.u64 0), (Go.Value.int Go.IntKind.i64 0), (Go.Value.int Go.IntKind.i64 0), (Go.Value.int Go.IntKind.u64 0), (Go.Value.int Go.IntKind.i64 0), (Go.Value.int Go.IntKind.u64 0), (Go.Value.slice Option.none 0 0)] []) fun x6 => S.bd (stl c2 0 13 x6) fun c7 => S.bd (lal c7 0 13) fun x8 => some ((Value.tuple ⟨[x8, (Go.Value.int Go.IntKind.i64 90)]⟩))) (leapfrogref09x_Peer_Will.t.p1 S c1 a0 s c2)
def leapfrogref09x_Peer_Will.r (a0 a1 : Value) (s : St) : Option Value := leapfrogref09x_Peer_Will.t std a0 a1 s
def leapfrogref09x_Peer_Will.w : List Value → St → Option Value
  | [a0, a1], s => leapfrogref09x_Peer_Will.r a0 a1 s
  | _, _ => none
def leapfrogref09x_Peer_Will.an : An := ⟨32, true, [3, 4, 6, 8], [], [], [(6, [(0, 0, [], []), (1, 49, [], []), (2, 0, [], []), (3, 49, [], []), (4, 0, [], []), (5, 69, [], []), (6, 0, [], []), (7, 69, [], [])])]⟩
theorem leapfrogref09x_Peer_Will.ok (S : Sig) (a0 a1 : Value) (s : St) : evG S Tryz.prog leapfrogref09x_Peer_Will.ctx leapfrogref09x_Peer_Will.an Tryz.f40 [a0, a1] s = leapfrogref09x_Peer_Will.t S a0 a1 s := by kernel_rfl
theorem leapfrogref09x_Peer_Will.cok : CtxOk Tryz.prog leapfrogref09x_Peer_Will.ctx := .cons leapfrogref01x_Right.sound leapfrogref01x_Right.can <| .cons leapfrogref09x_Peer_rec.sound leapfrogref09x_Peer_rec.can <| .nil
theorem leapfrogref09x_Peer_Will.draws : fnDraws leapfrogref09x_Peer_Will.an Tryz.f40 = true := by kernel_rfl
theorem leapfrogref09x_Peer_Will.can : callOk Tryz.prog 40 = true := by kernel_rfl
theorem leapfrogref09x_Peer_Will.sound : FnOk Tryz.prog 40 (.rd leapfrogref09x_Peer_Will.w) := FnOk.rd_of (evG_ok leapfrogref09x_Peer_Will.cok mixed (f := 40) (fn := Tryz.f40) (by kernel_rfl) leapfrogref09x_Peer_Will.draws) fun args s r h => by
  unfold leapfrogref09x_Peer_Will.w at h; split at h
  · rw [leapfrogref09x_Peer_Will.ok std]; exact h
  · simp at h

/-! ### cmp.isNaN[leapfrog/api.Rank]: function 126 -/
def cmp_isNaN_api_Rank.ctx : Ctx := []
def cmp_isNaN_api_Rank.t (S : Sig) (a0 : Value) (s : St) : Option Value :=
  S.bd (eqb [1] false true a0 a0) fun x1 => some (x1)
def cmp_isNaN_api_Rank.r (a0 : Value) (s : St) : Option Value := cmp_isNaN_api_Rank.t std a0 s
def cmp_isNaN_api_Rank.w : List Value → St → Option Value
  | [a0], s => cmp_isNaN_api_Rank.r a0 s
  | _, _ => none
def cmp_isNaN_api_Rank.an : An := ⟨6, true, [], [], [], []⟩
theorem cmp_isNaN_api_Rank.ok (S : Sig) (a0 : Value) (s : St) : evG S Tryz.prog cmp_isNaN_api_Rank.ctx cmp_isNaN_api_Rank.an Tryz.f126 [a0] s = cmp_isNaN_api_Rank.t S a0 s := by kernel_rfl
theorem cmp_isNaN_api_Rank.cok : CtxOk Tryz.prog cmp_isNaN_api_Rank.ctx := .nil
theorem cmp_isNaN_api_Rank.draws : fnDraws cmp_isNaN_api_Rank.an Tryz.f126 = true := by kernel_rfl
theorem cmp_isNaN_api_Rank.can : callOk Tryz.prog 126 = true := by kernel_rfl
theorem cmp_isNaN_api_Rank.sound : FnOk Tryz.prog 126 (.rd cmp_isNaN_api_Rank.w) := FnOk.rd_of (evG_ok cmp_isNaN_api_Rank.cok mixed (f := 126) (fn := Tryz.f126) (by kernel_rfl) cmp_isNaN_api_Rank.draws) fun args s r h => by
  unfold cmp_isNaN_api_Rank.w at h; split at h
  · rw [cmp_isNaN_api_Rank.ok std]; exact h
  · simp at h

/-! ### cmp.Compare[leapfrog/api.Rank]: function 117 -/
def cmp_Compare_api_Rank.ctx : Ctx := [(126, .rd cmp_isNaN_api_Rank.w)]
def cmp_Compare_api_Rank.t (S : Sig) (a0 a1 : Value) (s : St) : Option Value :=
  S.bd (cmp_isNaN_api_Rank.r a0 s) fun x1 => S.bd (cmp_isNaN_api_Rank.r a1 s) fun x2 => S.cnd x1 (S.cnd x2 (some ((Go.Value.int Go.IntKind.i64 0))) (some ((Go.Value.int Go.IntKind.i64 (-1))))) (S.cnd x2 (some ((Go.Value.int Go.IntKind.i64 1))) (S.bd (bin .lss a0 a1) fun x3 => S.cnd x3 (some ((Go.Value.int Go.IntKind.i64 (-1)))) (S.bd (bin .gtr a0 a1) fun x4 => S.cnd x4 (some ((Go.Value.int Go.IntKind.i64 1))) (some ((Go.Value.int Go.IntKind.i64 0))))))
def cmp_Compare_api_Rank.r (a0 a1 : Value) (s : St) : Option Value := cmp_Compare_api_Rank.t std a0 a1 s
def cmp_Compare_api_Rank.w : List Value → St → Option Value
  | [a0, a1], s => cmp_Compare_api_Rank.r a0 a1 s
  | _, _ => none
def cmp_Compare_api_Rank.an : An := ⟨20, true, [], [], [], []⟩
theorem cmp_Compare_api_Rank.ok (S : Sig) (a0 a1 : Value) (s : St) : evG S Tryz.prog cmp_Compare_api_Rank.ctx cmp_Compare_api_Rank.an Tryz.f117 [a0, a1] s = cmp_Compare_api_Rank.t S a0 a1 s := by kernel_rfl
theorem cmp_Compare_api_Rank.cok : CtxOk Tryz.prog cmp_Compare_api_Rank.ctx := .cons cmp_isNaN_api_Rank.sound cmp_isNaN_api_Rank.can <| .nil
theorem cmp_Compare_api_Rank.draws : fnDraws cmp_Compare_api_Rank.an Tryz.f117 = true := by kernel_rfl
theorem cmp_Compare_api_Rank.can : callOk Tryz.prog 117 = true := by kernel_rfl
theorem cmp_Compare_api_Rank.sound : FnOk Tryz.prog 117 (.rd cmp_Compare_api_Rank.w) := FnOk.rd_of (evG_ok cmp_Compare_api_Rank.cok mixed (f := 117) (fn := Tryz.f117) (by kernel_rfl) cmp_Compare_api_Rank.draws) fun args s r h => by
  unfold cmp_Compare_api_Rank.w at h; split at h
  · rw [cmp_Compare_api_Rank.ok std]; exact h
  · simp at h

/-! ### cmp.isNaN[uint64]: function 127 -/
def cmp_isNaN_uint64.ctx : Ctx := []
def cmp_isNaN_uint64.t (S : Sig) (a0 : Value) (s : St) : Option Value :=
  S.bd (eqb [1] false true a0 a0) fun x1 => some (x1)
def cmp_isNaN_uint64.r (a0 : Value) (s : St) : Option Value := cmp_isNaN_uint64.t std a0 s
def cmp_isNaN_uint64.w : List Value → St → Option Value
  | [a0], s => cmp_isNaN_uint64.r a0 s
  | _, _ => none
def cmp_isNaN_uint64.an : An := ⟨6, true, [], [], [], []⟩
theorem cmp_isNaN_uint64.ok (S : Sig) (a0 : Value) (s : St) : evG S Tryz.prog cmp_isNaN_uint64.ctx cmp_isNaN_uint64.an Tryz.f127 [a0] s = cmp_isNaN_uint64.t S a0 s := by kernel_rfl
theorem cmp_isNaN_uint64.cok : CtxOk Tryz.prog cmp_isNaN_uint64.ctx := .nil
theorem cmp_isNaN_uint64.draws : fnDraws cmp_isNaN_uint64.an Tryz.f127 = true := by kernel_rfl
theorem cmp_isNaN_uint64.can : callOk Tryz.prog 127 = true := by kernel_rfl
theorem cmp_isNaN_uint64.sound : FnOk Tryz.prog 127 (.rd cmp_isNaN_uint64.w) := FnOk.rd_of (evG_ok cmp_isNaN_uint64.cok mixed (f := 127) (fn := Tryz.f127) (by kernel_rfl) cmp_isNaN_uint64.draws) fun args s r h => by
  unfold cmp_isNaN_uint64.w at h; split at h
  · rw [cmp_isNaN_uint64.ok std]; exact h
  · simp at h

/-! ### cmp.Compare[uint64]: function 118 -/
def cmp_Compare_uint64.ctx : Ctx := [(127, .rd cmp_isNaN_uint64.w)]
def cmp_Compare_uint64.t (S : Sig) (a0 a1 : Value) (s : St) : Option Value :=
  S.bd (cmp_isNaN_uint64.r a0 s) fun x1 => S.bd (cmp_isNaN_uint64.r a1 s) fun x2 => S.cnd x1 (S.cnd x2 (some ((Go.Value.int Go.IntKind.i64 0))) (some ((Go.Value.int Go.IntKind.i64 (-1))))) (S.cnd x2 (some ((Go.Value.int Go.IntKind.i64 1))) (S.bd (bin .lss a0 a1) fun x3 => S.cnd x3 (some ((Go.Value.int Go.IntKind.i64 (-1)))) (S.bd (bin .gtr a0 a1) fun x4 => S.cnd x4 (some ((Go.Value.int Go.IntKind.i64 1))) (some ((Go.Value.int Go.IntKind.i64 0))))))
def cmp_Compare_uint64.r (a0 a1 : Value) (s : St) : Option Value := cmp_Compare_uint64.t std a0 a1 s
def cmp_Compare_uint64.w : List Value → St → Option Value
  | [a0, a1], s => cmp_Compare_uint64.r a0 a1 s
  | _, _ => none
def cmp_Compare_uint64.an : An := ⟨20, true, [], [], [], []⟩
theorem cmp_Compare_uint64.ok (S : Sig) (a0 a1 : Value) (s : St) : evG S Tryz.prog cmp_Compare_uint64.ctx cmp_Compare_uint64.an Tryz.f118 [a0, a1] s = cmp_Compare_uint64.t S a0 a1 s := by kernel_rfl
theorem cmp_Compare_uint64.cok : CtxOk Tryz.prog cmp_Compare_uint64.ctx := .cons cmp_isNaN_uint64.sound cmp_isNaN_uint64.can <| .nil
theorem cmp_Compare_uint64.draws : fnDraws cmp_Compare_uint64.an Tryz.f118 = true := by kernel_rfl
theorem cmp_Compare_uint64.can : callOk Tryz.prog 118 = true := by kernel_rfl
theorem cmp_Compare_uint64.sound : FnOk Tryz.prog 118 (.rd cmp_Compare_uint64.w) := FnOk.rd_of (evG_ok cmp_Compare_uint64.cok mixed (f := 118) (fn := Tryz.f118) (by kernel_rfl) cmp_Compare_uint64.draws) fun args s r h => by
  unfold cmp_Compare_uint64.w at h; split at h
  · rw [cmp_Compare_uint64.ok std]; exact h
  · simp at h

/-! ### cmp.Or[int]: function 116 -/
def cmp_Or_int.ctx : Ctx := []
def cmp_Or_int.l3 (S : Sig) (rec9 : List Value → St → Option Cut) (xs7 : List Value) (s8 : St) : Option Cut :=
  S.bd (bin .lss (xs7.getD 3 undef) (xs7.getD 2 undef)) fun x10 => S.cnd x10 (S.bd (idx s8 1 (xs7.getD 1 undef) (xs7.getD 3 undef)) fun x11 => S.bd (ldc s8 x11) fun x12 => S.bd (eqb [1] false true x12 (xs7.getD 0 undef)) fun x13 => S.cnd x13 (some (1, [x12], s8)) (S.bd (bin .add (xs7.getD 3 undef) (Go.Value.int Go.IntKind.i64 1)) fun x14 => rec9 [(xs7.getD 0 undef), (xs7.getD 1 undef), (xs7.getD 2 undef), x14] s8)) (some (0, [(xs7.getD 0 undef)], s8))

def cmp_Or_int.t (S : Sig) (a0 : Value) (s : St) : Option Value :=
  S.bd (lenL a0) fun x1 => S.bd (S.it (cmp_Or_int.l3 S) [(Go.Value.int Go.IntKind.i64 0), a0, x1, (Go.Value.int Go.IntKind.i64 0)] s) fun r15 => if r15.1 = 0 then (some ((r15.2.1.getD 0 undef))) else (some ((r15.2.1.getD 0 undef)))
def cmp_Or_int.r (a0 : Value) (s : St) : Option Value := cmp_Or_int.t std a0 s
def cmp_Or_int.w : List Value → St → Option Value
  | [a0], s => cmp_Or_int.r a0 s
  | _, _ => none
def cmp_Or_int.an : An := ⟨18, true, [], [(3, ⟨[.v 3, .v 6, .v 7, .v 8], [(.exit 0, [.v 3]), (.ret, [.v 2])]⟩)], [], []⟩
theorem cmp_Or_int.ok (S : Sig) (a0 : Value) (s : St) : evG S Tryz.prog cmp_Or_int.ctx cmp_Or_int.an Tryz.f116 [a0] s = cmp_Or_int.t S a0 s := by kernel_rfl
theorem cmp_Or_int.cok : CtxOk Tryz.prog cmp_Or_int.ctx := .nil
theorem cmp_Or_int.draws : fnDraws cmp_Or_int.an Tryz.f116 = true := by kernel_rfl
theorem cmp_Or_int.can : callOk Tryz.prog 116 = true := by kernel_rfl
theorem cmp_Or_int.sound : FnOk Tryz.prog 116 (.rd cmp_Or_int.w) := FnOk.rd_of (evG_ok cmp_Or_int.cok mixed (f := 116) (fn := Tryz.f116) (by kernel_rfl) cmp_Or_int.draws) fun args s r h => by
  unfold cmp_Or_int.w at h; split at h
  · rw [cmp_Or_int.ok std]; exact h
  · simp at h

/-! ### leapfrog/key.Compare: function 92 -/
def key_Compare.ctx : Ctx := [(117, .rd cmp_Compare_api_Rank.w), (118, .rd cmp_Compare_uint64.w), (116, .rd cmp_Or_int.w)]
def key_Compare.t (S : Sig) (a0 a1 : Value) (s : St) : Option (Value × St) :=
  S.bd (bx a0) fun c1 => S.bd (bx a1) fun c2 => S.bd (lcl c1 0) fun x3 => S.bd (lcl c2 0) fun x4 => S.bd (lcl c1 1) fun x5 => S.bd (lcl c2 1) fun x6 => S.bd (cmp_Compare_api_Rank.r x3 x4 s) fun x7 => S.bd (cmp_Compare_uint64.r x5 x6 s) fun x8 => S.bd (S.bd (bls 1 (List.replicate 2 [(Go.Value.int Go.IntKind.i64 0)]) [(0, x7), (1, x8)]) fun rows => als s 1 2 rows) fun r9 => S.bd (cmp_Or_int.r r9.1 r9.2) fun x10 => some (x10, r9.2)
def key_Compare.v (a0 a1 : Value) (s : St) : Option (Value × St) := key_Compare.t std a0 a1 s
def key_Compare.w : List Value → St → Option (Value × St)
  | [a0, a1], s => key_Compare.v a0 a1 s
  | _, _ => none
def key_Compare.an : An := ⟨17, false, [2, 3], [], [], [(1, [(0, 0, [], []), (1, 17, [], []), (2, 0, [], []), (3, 25, [], []), (5, 0, [], []), (6, 17, [], []), (7, 0, [], []), (8, 25, [], []), (4, 3, [], []), (9, 3, [], []), (10, 3, [], []), (11, 3, [], []), (12, 0, [], [])])]⟩
theorem key_Compare.ok (S : Sig) (a0 a1 : Value) (s : St) : evF S Tryz.prog key_Compare.ctx key_Compare.an Tryz.f92 [a0, a1] s = key_Compare.t S a0 a1 s := by kernel_rfl
theorem key_Compare.cok : CtxOk Tryz.prog key_Compare.ctx := .cons cmp_Compare_api_Rank.sound cmp_Compare_api_Rank.can <| .cons cmp_Compare_uint64.sound cmp_Compare_uint64.can <| .cons cmp_Or_int.sound cmp_Or_int.can <| .nil
theorem key_Compare.draws : fnDraws key_Compare.an Tryz.f92 = true := by kernel_rfl
theorem key_Compare.can : callOk Tryz.prog 92 = true := by kernel_rfl
theorem key_Compare.sound : FnOk Tryz.prog 92 (.st key_Compare.w) := FnOk.st_of (evF_ok key_Compare.cok mixed (f := 92) (fn := Tryz.f92) (by kernel_rfl) key_Compare.draws) fun args s r h => by
  unfold key_Compare.w at h; split at h
  · rw [key_Compare.ok std]; exact h
  · simp at h

/-! ### leapfrog/key.Compare: function 92, as a reading -/
def key_CompareQ.r (a0 a1 : Value) (s : St) : Option Value := frzR (fun s => key_Compare.v a0 a1 s) s
def key_CompareQ.w : List Value → St → Option Value := fun args s => frzR (key_Compare.w args) s
theorem key_CompareQ.can : callOk Tryz.prog 92 = true := key_Compare.can
theorem key_CompareQ.sound : FnOk Tryz.prog 92 (.rd key_CompareQ.w) := FnOk.frozen key_Compare.sound

/-! ### leapfrog/key.Less: function 67 -/
def key_Less.ctx : Ctx := [(92, .rd key_CompareQ.w)]
def key_Less.t (S : Sig) (a0 a1 : Value) (s : St) : Option Value :=
  S.bd (bx a0) fun c1 => S.bd (bx a1) fun c2 => S.bd (lal c1 0 2) fun x3 => S.bd (lal c2 0 2) fun x4 => S.bd (key_CompareQ.r x3 x4 s) fun x5 => S.bd (bin .lss x5 (Go.Value.int Go.IntKind.i64 0)) fun x6 => some (x6)
def key_Less.r (a0 a1 : Value) (s : St) : Option Value := key_Less.t std a0 a1 s
def key_Less.w : List Value → St → Option Value
  | [a0, a1], s => key_Less.r a0 a1 s
  | _, _ => none
def key_Less.an : An := ⟨9, true, [2, 3], [], [], []⟩
theorem key_Less.ok (S : Sig) (a0 a1 : Value) (s : St) : evG S Tryz.prog key_Less.ctx key_Less.an Tryz.f67 [a0, a1] s = key_Less.t S a0 a1 s := by kernel_rfl
theorem key_Less.cok : CtxOk Tryz.prog key_Less.ctx := .cons key_CompareQ.sound key_CompareQ.can <| .nil
theorem key_Less.draws : fnDraws key_Less.an Tryz.f67 = true := by kernel_rfl
theorem key_Less.can : callOk Tryz.prog 67 = true := by kernel_rfl
theorem key_Less.sound : FnOk Tryz.prog 67 (.rd key_Less.w) := FnOk.rd_of (evG_ok key_Less.cok mixed (f := 67) (fn := Tryz.f67) (by kernel_rfl) key_Less.draws) fun args s r h => by
  unfold key_Less.w at h; split at h
  · rw [key_Less.ok std]; exact h
  · simp at h

/-! ### (*leapfrog/seek.Seek).again: function 66 -/
def seek_Seek_again.ctx : Ctx := [(65, .st seek_Seek_counts.w)]
def seek_Seek_again.t (S : Sig) (a0 : Value) (s : St) : Option (Value × St) :=
  S.bd (seek_Seek_counts.v a0 s) fun r1 => S.cnd r1.1 (S.bd (bld [(Go.Value.int Go.IntKind.i64 0), (Go.Value.int Go.IntKind.u64 0)] [(0, 1, (Go.Value.int Go.IntKind.i64 1))]) fun x2 => S.bd (nck a0) fun x3 => S.bd (fld 0 x3) fun x4 => S.bd (fld 0 x4) fun x5 => S.bd (ldc r1.2 x5) fun x6 => S.bd (bld [(Go.Value.int Go.IntKind.i64 0), (Go.Value.int Go.IntKind.u64 0)] [(0, 1, x6)]) fun x7 => S.bd (bld [(Go.Value.int Go.IntKind.i64 0), (Go.Value.int Go.IntKind.i64 0), (Go.Value.int Go.IntKind.u64 0), (Go.Value.int Go.IntKind.i64 0), (Go.Value.int Go.IntKind.u64 0)] [(1, 2, x2), (3, 2, x7)]) fun x8 => S.bd (nck a0) fun x9 => S.bd (fld 9 x9) fun x10 => S.bd (stv r1.2 5 x10 x8) fun s11 => S.bd (nck a0) fun x12 => S.bd (fld 0 x12) fun x13 => S.bd (fld 0 x13) fun x14 => S.bd (ldc s11 x14) fun x15 => S.bd (bld [(Go.Value.int Go.IntKind.i64 0), (Go.Value.int Go.IntKind.u64 0)] [(0, 1, x15)]) fun x16 => S.bd (nck a0) fun x17 => S.bd (fld 14 x17) fun x18 => S.bd (stv s11 2 x18 x16) fun s19 => S.bd (nck a0) fun x20 => S.bd (fld 16 x20) fun x21 => S.bd (stv s19 1 x21 (Go.Value.bool Bool.false)) fun s22 => some ((Value.tuple ⟨[]⟩), s22)) (some ((Value.tuple ⟨[]⟩), r1.2))
def seek_Seek_again.v (a0 : Value) (s : St) : Option (Value × St) := seek_Seek_again.t std a0 s
def seek_Seek_again.w : List Value → St → Option (Value × St)
  | [a0], s => seek_Seek_again.v a0 s
  | _, _ => none
def seek_Seek_again.an : An := ⟨27, false, [], [], [], []⟩
theorem seek_Seek_again.ok (S : Sig) (a0 : Value) (s : St) : evF S Tryz.prog seek_Seek_again.ctx seek_Seek_again.an Tryz.f66 [a0] s = seek_Seek_again.t S a0 s := by kernel_rfl
theorem seek_Seek_again.cok : CtxOk Tryz.prog seek_Seek_again.ctx := .cons seek_Seek_counts.sound seek_Seek_counts.can <| .nil
theorem seek_Seek_again.draws : fnDraws seek_Seek_again.an Tryz.f66 = true := by kernel_rfl
theorem seek_Seek_again.can : callOk Tryz.prog 66 = true := by kernel_rfl
theorem seek_Seek_again.sound : FnOk Tryz.prog 66 (.st seek_Seek_again.w) := FnOk.st_of (evF_ok seek_Seek_again.cok mixed (f := 66) (fn := Tryz.f66) (by kernel_rfl) seek_Seek_again.draws) fun args s r h => by
  unfold seek_Seek_again.w at h; split at h
  · rw [seek_Seek_again.ok std]; exact h
  · simp at h

/-! ### leapfrog/vec.upTo: function 114 -/
def vec_upTo.ctx : Ctx := [(58, .rd vec_Right.w)]
def vec_upTo.t (S : Sig) (a0 a1 : Value) (s : St) : Option Value :=
  S.bd (bx a0) fun c1 => S.bd (lal c1 0 2) fun x2 => S.bd (vec_Right.r x2 s) fun x3 => S.bd (eqb [1] false true x3 (Go.Value.int Go.IntKind.i64 0)) fun x4 => S.cnd x4 (some (x3)) (S.bd (bin .lss a1 (Go.Value.int Go.IntKind.i64 0)) fun x5 => S.bd (S.gd x5 false (some a1)) fun x6 => S.bd (S.gd x5 false (lcl c1 0)) fun x7 => S.bd (S.gd x5 false (bin .gtr x6 x7)) fun x8 => S.bd (pik x5 (Go.Value.bool Bool.true) x8) fun x9 => S.cnd x9 (some ((Go.Value.int Go.IntKind.i64 5))) (some ((Go.Value.int Go.IntKind.i64 0))))
def vec_upTo.r (a0 a1 : Value) (s : St) : Option Value := vec_upTo.t std a0 a1 s
def vec_upTo.w : List Value → St → Option Value
  | [a0, a1], s => vec_upTo.r a0 a1 s
  | _, _ => none
def vec_upTo.an : An := ⟨19, true, [2], [], [], []⟩
theorem vec_upTo.ok (S : Sig) (a0 a1 : Value) (s : St) : evG S Tryz.prog vec_upTo.ctx vec_upTo.an Tryz.f114 [a0, a1] s = vec_upTo.t S a0 a1 s := by kernel_rfl
theorem vec_upTo.cok : CtxOk Tryz.prog vec_upTo.ctx := .cons vec_Right.sound vec_Right.can <| .nil
theorem vec_upTo.draws : fnDraws vec_upTo.an Tryz.f114 = true := by kernel_rfl
theorem vec_upTo.can : callOk Tryz.prog 114 = true := by kernel_rfl
theorem vec_upTo.sound : FnOk Tryz.prog 114 (.rd vec_upTo.w) := FnOk.rd_of (evG_ok vec_upTo.cok mixed (f := 114) (fn := Tryz.f114) (by kernel_rfl) vec_upTo.draws) fun args s r h => by
  unfold vec_upTo.w at h; split at h
  · rw [vec_upTo.ok std]; exact h
  · simp at h

/-! ### leapfrog/vec.prefix: function 115 -/
def vec_prefix.ctx : Ctx := []
def vec_prefix.t (S : Sig) (a0 a1 : Value) (s : St) : Option Value :=
  S.bd (bx a0) fun c1 => S.bd (bx (Go.Value.agg #[(Go.Value.int Go.IntKind.i64 0), (Go.Value.int Go.IntKind.u64 0)])) fun c2 => S.bd (lcl c1 1) fun x3 => S.bd (lcl c1 0) fun x4 => S.bd (bin .sub x4 a1) fun x5 => S.bd (cvi .u64 x5) fun x6 => S.bd (bin .shr x3 x6) fun x7 => S.bd (bld [(Go.Value.int Go.IntKind.i64 0), (Go.Value.int Go.IntKind.u64 0)] [(0, 1, a1), (1, 1, x7)]) fun x8 => S.bd (stl c2 0 2 x8) fun c9 => S.bd (lal c9 0 2) fun x10 => some (x10)
def vec_prefix.r (a0 a1 : Value) (s : St) : Option Value := vec_prefix.t std a0 a1 s
def vec_prefix.w : List Value → St → Option Value
  | [a0, a1], s => vec_prefix.r a0 a1 s
  | _, _ => none
def vec_prefix.an : An := ⟨15, true, [2, 4], [], [], []⟩
theorem vec_prefix.ok (S : Sig) (a0 a1 : Value) (s : St) : evG S Tryz.prog vec_prefix.ctx vec_prefix.an Tryz.f115 [a0, a1] s = vec_prefix.t S a0 a1 s := by kernel_rfl
theorem vec_prefix.cok : CtxOk Tryz.prog vec_prefix.ctx := .nil
theorem vec_prefix.draws : fnDraws vec_prefix.an Tryz.f115 = true := by kernel_rfl
theorem vec_prefix.can : callOk Tryz.prog 115 = true := by kernel_rfl
theorem vec_prefix.sound : FnOk Tryz.prog 115 (.rd vec_prefix.w) := FnOk.rd_of (evG_ok vec_prefix.cok mixed (f := 115) (fn := Tryz.f115) (by kernel_rfl) vec_prefix.draws) fun args s r h => by
  unfold vec_prefix.w at h; split at h
  · rw [vec_prefix.ok std]; exact h
  · simp at h

/-! ### leapfrog/vec.Prefix: function 91 -/
def vec_Prefix.ctx : Ctx := [(114, .rd vec_upTo.w), (115, .rd vec_prefix.w)]
def vec_Prefix.t (S : Sig) (a0 a1 : Value) (s : St) : Option Value :=
  S.bd (bx a0) fun c1 => S.bd (bx (Go.Value.agg #[(Go.Value.int Go.IntKind.i64 0), (Go.Value.int Go.IntKind.u64 0)])) fun c2 => S.bd (lal c1 0 2) fun x3 => S.bd (vec_upTo.r x3 a1 s) fun x4 => S.bd (eqb [1] false true x4 (Go.Value.int Go.IntKind.i64 0)) fun x5 => S.cnd x5 (S.bd (bld [(Go.Value.int Go.IntKind.i64 0), (Go.Value.int Go.IntKind.u64 0)] []) fun x6 => S.bd (stl c2 0 2 x6) fun c7 => S.bd (lal c7 0 2) fun x8 => some ((Value.tuple ⟨[x8, x4]⟩))) (S.bd (lal c1 0 2) fun x9 => S.bd (vec_prefix.r x9 a1 s) fun x10 => S.bd (stl c2 0 2 x10) fun c11 => S.bd (lal c11 0 2) fun x12 => some ((Value.tuple ⟨[x12, (Go.Value.int Go.IntKind.i64 0)]⟩)))
def vec_Prefix.r (a0 a1 : Value) (s : St) : Option Value := vec_Prefix.t std a0 a1 s
def vec_Prefix.w : List Value → St → Option Value
  | [a0, a1], s => vec_Prefix.r a0 a1 s
  | _, _ => none
def vec_Prefix.an : An := ⟨17, true, [2, 4], [], [], []⟩
theorem vec_Prefix.ok (S : Sig) (a0 a1 : Value) (s : St) : evG S Tryz.prog vec_Prefix.ctx vec_Prefix.an Tryz.f91 [a0, a1] s = vec_Prefix.t S a0 a1 s := by kernel_rfl
theorem vec_Prefix.cok : CtxOk Tryz.prog vec_Prefix.ctx := .cons vec_upTo.sound vec_upTo.can <| .cons vec_prefix.sound vec_prefix.can <| .nil
theorem vec_Prefix.draws : fnDraws vec_Prefix.an Tryz.f91 = true := by kernel_rfl
theorem vec_Prefix.can : callOk Tryz.prog 91 = true := by kernel_rfl
theorem vec_Prefix.sound : FnOk Tryz.prog 91 (.rd vec_Prefix.w) := FnOk.rd_of (evG_ok vec_Prefix.cok mixed (f := 91) (fn := Tryz.f91) (by kernel_rfl) vec_Prefix.draws) fun args s r h => by
  unfold vec_Prefix.w at h; split at h
  · rw [vec_Prefix.ok std]; exact h
  · simp at h

/-! ### (*leapfrog/seek.Seek).goes: function 63 -/
def seek_Seek_goes.ctx : Ctx := [(36, .rd key_Check.w), (67, .rd key_Less.w), (66, .st seek_Seek_again.w), (91, .rd vec_Prefix.w)]
def seek_Seek_goes.l2 (S : Sig) (rec37 : List Value → St → Option Cut) (xs35 : List Value) (s36 : St) : Option Cut :=
  S.bd (lal (cellsA (xs35.getD 1 undef)) 1 2) fun x38 => S.bd (key_Check.r x38 s36) fun x39 => S.bd (eqb [1] false true x39 (Go.Value.int Go.IntKind.i64 0)) fun x40 => S.bd (S.gd x40 false (lal (cellsA (xs35.getD 2 undef)) 0 2)) fun x41 => S.bd (S.gd x40 false (lal (cellsA (xs35.getD 1 undef)) 1 2)) fun x42 => S.bd (S.gd x40 false (key_Less.r x41 x42 s36)) fun x43 => S.bd (S.gd x40 false (un .not x43)) fun x44 => S.bd (pik x40 (Go.Value.bool Bool.true) x44) fun x45 => S.cnd x45 (S.bd (seek_Seek_again.v (xs35.getD 0 undef) s36) fun r46 => some (1, [], r46.2)) (S.bd (nck (xs35.getD 0 undef)) fun x47 => S.bd (fld 22 x47) fun x48 => S.bd (ldc s36 x48) fun x49 => S.bd (lcl (cellsA (xs35.getD 1 undef)) 0) fun x50 => S.bd (nck (xs35.getD 0 undef)) fun x51 => S.bd (fld 14 x51) fun x52 => S.bd (lda s36 2 x52) fun x53 => S.bd (bld [(Go.Value.int Go.IntKind.i64 0), (Go.Value.int Go.IntKind.i64 0), (Go.Value.int Go.IntKind.u64 0)] [(0, 1, x50), (1, 2, x53)]) fun x54 => S.bd (lkp s36 [1, 1, 1] true (Go.Value.agg #[(Go.Value.int Go.IntKind.i64 0), (Go.Value.int Go.IntKind.i64 0), (Go.Value.int Go.IntKind.u64 0), (Go.Value.int Go.IntKind.i64 0), (Go.Value.int Go.IntKind.u64 0)]) true x49 x54) fun x55 => S.bd (xtr 0 x55) fun x56 => S.bd (xtr 1 x55) fun x57 => S.bd (bx (Go.Value.agg #[(Go.Value.int Go.IntKind.i64 0), (Go.Value.int Go.IntKind.i64 0), (Go.Value.int Go.IntKind.u64 0), (Go.Value.int Go.IntKind.i64 0), (Go.Value.int Go.IntKind.u64 0)])) fun c58 => S.bd (stl c58 0 5 x56) fun c59 => S.bd (un .not x57) fun x60 => S.cnd x60 (some (0, [(xs35.getD 0 undef), (Value.agg ⟨(cellsA (xs35.getD 1 undef))⟩)], s36)) (S.bd (lal (cellsA (xs35.getD 1 undef)) 1 2) fun x61 => S.bd (lal c59 0 5) fun x62 => S.bd (stl (cellsA (xs35.getD 2 undef)) 0 2 x61) fun c63 => S.bd (stl (cellsA (xs35.getD 1 undef)) 0 5 x62) fun c64 => rec37 [(xs35.getD 0 undef), (Value.agg ⟨c64⟩), (Value.agg ⟨c63⟩)] s36))

def seek_Seek_goes.t.p1 (S : Sig) (r65 : Cut) : Option (Value × St) :=
  S.bd (nck (r65.2.1.getD 0 undef)) fun x79 => S.bd (fld 14 x79) fun x80 => S.bd (fld 0 x80) fun x81 => S.bd (ldc r65.2.2 x81) fun x82 => S.bd (bin .gtr x82 (Go.Value.int Go.IntKind.i64 0)) fun x83 => S.cnd x83 (S.bd (nck (r65.2.1.getD 0 undef)) fun x84 => S.bd (fld 14 x84) fun x85 => S.bd (lda r65.2.2 2 x85) fun x86 => S.bd (nck (r65.2.1.getD 0 undef)) fun x87 => S.bd (fld 14 x87) fun x88 => S.bd (fld 0 x88) fun x89 => S.bd (ldc r65.2.2 x89) fun x90 => S.bd (bin .sub x90 (Go.Value.int Go.IntKind.i64 1)) fun x91 => S.bd (vec_Prefix.r x86 x91 r65.2.2) fun x92 => S.bd (xtr 0 x92) fun x93 => S.bd (xtr 1 x92) fun x94 => S.bd (nck (r65.2.1.getD 0 undef)) fun x95 => S.bd (fld 14 x95) fun x96 => S.bd (stv r65.2.2 2 x96 x93) fun s97 => S.bd (nck (r65.2.1.getD 0 undef)) fun x98 => S.bd (fld 16 x98) fun x99 => S.bd (stv s97 1 x99 (Go.Value.bool Bool.false)) fun s100 => some ((Value.tuple ⟨[]⟩), s100)) (S.bd (nck (r65.2.1.getD 0 undef)) fun x101 => S.bd (fld 9 x101) fun x102 => S.bd (lda r65.2.2 5 x102) fun x103 => S.bd (lal (cellsA (r65.2.1.getD 1 undef)) 0 5) fun x104 => S.bd (lal (cellsA (r65.2.1.getD 1 undef)) 1 2) fun x105 => S.bd (nck (r65.2.1.getD 0 undef)) fun x106 => S.bd (fld 0 x106) fun x107 => S.bd (fld 6 x107) fun x108 => S.bd (lda r65.2.2 2 x108) fun x109 => S.bd (eqb [1, 1] true false x105 x109) fun x110 => S.bd (bld [(Go.Value.int Go.IntKind.i64 0), (Go.Value.int Go.IntKind.u64 0), (Go.Value.slice Option.none 0 0), (Go.Value.slice Option.none 0 0), (Go.Value.int Go.IntKind.i64 0), (Go.Value.int Go.IntKind.i64 0), (Go.Value.int Go.IntKind.u64 0), (Go.Value.int Go.IntKind.i64 0), (Go.Value.int Go.IntKind.u64 0), (Go.Value.int Go.IntKind.i64 0), (Go.Value.int Go.IntKind.i64 0), (Go.Value.int Go.IntKind.u64 0), (Go.Value.int Go.IntKind.i64 0), (Go.Value.int Go.IntKind.u64 0), (Go.Value.bool Bool.false)] [(4, 5, x103), (9, 5, x104), (14, 1, x110)]) fun x111 => S.bd (nck (r65.2.1.getD 0 undef)) fun x112 => S.bd (fld 24 x112) fun x113 => S.bd (stv r65.2.2 1 x113 (Go.Value.bool Bool.true)) fun s114 => S.bd (nck (r65.2.1.getD 0 undef)) fun x115 => S.bd (fld 25 x115) fun x116 => S.bd (stv s114 15 x116 x111) fun s117 => some ((Value.tuple ⟨[]⟩), s117))

def seek_Seek_goes.t (S : Sig) (a0 a1 : Value) (s : St) : Option (Value × St) :=
  S.bd (bx a1) fun c1 => S.bd (nck a0) fun x2 => S.bd (fld 9 x2) fun x3 => S.bd (fld 1 x3) fun x4 => S.bd (lda s 2 x4) fun x5 => S.bd (bx (Go.Value.agg #[(Go.Value.int Go.IntKind.i64 0), (Go.Value.int Go.IntKind.u64 0)])) fun c6 => S.bd (stl c6 0 2 x5) fun c7 => S.bd (S.it (seek_Seek_goes.l2 S) [a0, (Value.agg ⟨c1⟩), (Value.agg ⟨c7⟩)] s) fun r65 => if r65.1 = 0 then (S.bd (lal (cellsA (r65.2.1.getD 1 undef)) 1 2) fun x66 => S.bd (nck (r65.2.1.getD 0 undef)) fun x67 => S.bd (fld 0 x67) fun x68 => S.bd (fld 6 x68) fun x69 => S.bd (lda r65.2.2 2 x69) fun x70 => S.bd (key_Less.r x66 x70 r65.2.2) fun x71 => S.cnd x71 (S.bd (lal (cellsA (r65.2.1.getD 1 undef)) 0 5) fun x72 => S.bd (nck (r65.2.1.getD 0 undef)) fun x73 => S.bd (fld 16 x73) fun x74 => S.bd (stv r65.2.2 1 x74 (Go.Value.bool Bool.true)) fun s75 => S.bd (nck (r65.2.1.getD 0 undef)) fun x76 => S.bd (fld 17 x76) fun x77 => S.bd (stv s75 5 x77 x72) fun s78 => some ((Value.tuple ⟨[]⟩), s78)) (seek_Seek_goes.t.p1 S r65)) else (some ((Value.tuple ⟨[]⟩), r65.2.2))
def seek_Seek_goes.v (a0 a1 : Value) (s : St) : Option (Value × St) := seek_Seek_goes.t std a0 a1 s
def seek_Seek_goes.w : List Value → St → Option (Value × St)
  | [a0, a1], s => seek_Seek_goes.v a0 a1 s
  | _, _ => none
def seek_Seek_goes.an : An := ⟨108, false, [3, 4, 5], [(2, ⟨[.v 0, .p 3 3 0, .p 4 4 0, .l 3, .l 4], [(.exit 0, [.v 0, .p 3 3 0, .l 3]), (.ret, [])]⟩)], [], [(4, [(0, 0, [], []), (1, 0, [], []), (2, 0, [], []), (3, 2, [], []), (4, 0, [], []), (5, 25, [], []), (6, 0, [], []), (7, 0, [], []), (8, 0, [], []), (9, 2, [], []), (10, 0, [], []), (11, 2, [], []), (12, 0, [], []), (13, 0, [], []), (14, 0, [], []), (15, 6, [], []), (16, 45, [], []), (17, 0, [], [])]), (6, [(0, 0, [], []), (1, 25, [], []), (2, 41, [], []), (3, 37, [], []), (4, 29, [], [])]), (8, [(0, 0, [], []), (1, 25, [], []), (2, 0, [], []), (3, 0, [], []), (4, 0, [], []), (5, 0, [], []), (6, 2, [], []), (7, 3, [], []), (8, 0, [], [])]), (9, [(0, 0, [], []), (1, 0, [], []), (2, 25, [], []), (3, 0, [], []), (4, 0, [], []), (5, 4, [], []), (6, 0, [], []), (7, 0, [], []), (8, 4, [], [])]), (11, [(0, 0, [], []), (1, 0, [], []), (2, 0, [], []), (3, 0, [], []), (4, 2, [], []), (5, 0, [], []), (6, 0, [], []), (7, 0, [], []), (8, 0, [], []), (9, 2, [], []), (10, 0, [], []), (11, 3, [], []), (12, 0, [], []), (13, 0, [], []), (14, 0, [], []), (15, 0, [], []), (16, 0, [], []), (17, 4, [], [])]), (7, [(0, 0, [], []), (1, 0, [], []), (2, 0, [], []), (3, 0, [], []), (4, 0, [], []), (5, 2, [], []), (6, 25, [], []), (7, 0, [], []), (8, 25, [], []), (9, 0, [], []), (10, 0, [], []), (11, 0, [], []), (12, 0, [], []), (13, 2, [], []), (14, 0, [], []), (15, 0, [], []), (16, 0, [], []), (17, 0, [], []), (18, 4, [], []), (19, 0, [], []), (20, 0, [], []), (21, 4, [], [])])]⟩
theorem seek_Seek_goes.ok (S : Sig) (a0 a1 : Value) (s : St) : evF S Tryz.prog seek_Seek_goes.ctx seek_Seek_goes.an Tryz.f63 [a0, a1] s = seek_Seek_goes.t S a0 a1 s := by kernel_rfl
theorem seek_Seek_goes.cok : CtxOk Tryz.prog seek_Seek_goes.ctx := .cons key_Check.sound key_Check.can <| .cons key_Less.sound key_Less.can <| .cons seek_Seek_again.sound seek_Seek_again.can <| .cons vec_Prefix.sound vec_Prefix.can <| .nil
theorem seek_Seek_goes.draws : fnDraws seek_Seek_goes.an Tryz.f63 = true := by kernel_rfl
theorem seek_Seek_goes.can : callOk Tryz.prog 63 = true := by kernel_rfl
theorem seek_Seek_goes.sound : FnOk Tryz.prog 63 (.st seek_Seek_goes.w) := FnOk.st_of (evF_ok seek_Seek_goes.cok mixed (f := 63) (fn := Tryz.f63) (by kernel_rfl) seek_Seek_goes.draws) fun args s r h => by
  unfold seek_Seek_goes.w at h; split at h
  · rw [seek_Seek_goes.ok std]; exact h
  · simp at h

/-! ### (*leapfrog/seek.Seek).looked: function 46 -/
def seek_Seek_looked.ctx : Ctx := [(63, .st seek_Seek_goes.w), (64, .st seek_Seek_keep.w), (65, .st seek_Seek_counts.w), (66, .st seek_Seek_again.w)]
def seek_Seek_looked.t (S : Sig) (a0 a1 : Value) (s : St) : Option (Value × St) :=
  S.bd (bx a1) fun c1 => S.bd (lcl c1 0) fun x2 => S.bd (eqb [1] false false x2 (Go.Value.int Go.IntKind.i64 1)) fun x3 => S.cnd x3 (S.bd (nck a0) fun x4 => S.bd (fld 17 x4) fun x5 => S.bd (lda s 5 x5) fun x6 => S.bd (nck a0) fun x7 => S.bd (fld 9 x7) fun x8 => S.bd (stv s 5 x8 x6) fun s9 => S.bd (nck a0) fun x10 => S.bd (fld 16 x10) fun x11 => S.bd (stv s9 1 x11 (Go.Value.bool Bool.false)) fun s12 => S.bd (lal c1 7 5) fun x13 => S.bd (seek_Seek_goes.v a0 x13 s12) fun r14 => some ((Value.tuple ⟨[]⟩), r14.2)) (S.bd (eqb [1] false false x2 (Go.Value.int Go.IntKind.i64 3)) fun x15 => S.cnd x15 (S.bd (nck a0) fun x16 => S.bd (fld 17 x16) fun x17 => S.bd (lda s 5 x17) fun x18 => S.bd (lal c1 0 13) fun x19 => S.bd (seek_Seek_keep.v a0 x18 x19 s) fun r20 => S.bd (seek_Seek_counts.v a0 r20.2) fun r21 => S.cnd r21.1 (S.bd (nck a0) fun x22 => S.bd (fld 16 x22) fun x23 => S.bd (stv r21.2 1 x23 (Go.Value.bool Bool.false)) fun s24 => some ((Value.tuple ⟨[]⟩), s24)) (some ((Value.tuple ⟨[]⟩), r21.2))) (S.bd (seek_Seek_again.v a0 s) fun r25 => some ((Value.tuple ⟨[]⟩), r25.2)))
def seek_Seek_looked.v (a0 a1 : Value) (s : St) : Option (Value × St) := seek_Seek_looked.t std a0 a1 s
def seek_Seek_looked.w : List Value → St → Option (Value × St)
  | [a0, a1], s => seek_Seek_looked.v a0 a1 s
  | _, _ => none
def seek_Seek_looked.an : An := ⟨38, false, [3], [], [], [(7, [(0, 0, [], []), (1, 0, [], []), (2, 0, [], []), (3, 0, [], []), (4, 2, [], []), (5, 25, [], []), (6, 4, [], [])])]⟩
theorem seek_Seek_looked.ok (S : Sig) (a0 a1 : Value) (s : St) : evF S Tryz.prog seek_Seek_looked.ctx seek_Seek_looked.an Tryz.f46 [a0, a1] s = seek_Seek_looked.t S a0 a1 s := by kernel_rfl
theorem seek_Seek_looked.cok : CtxOk Tryz.prog seek_Seek_looked.ctx := .cons seek_Seek_goes.sound seek_Seek_goes.can <| .cons seek_Seek_keep.sound seek_Seek_keep.can <| .cons seek_Seek_counts.sound seek_Seek_counts.can <| .cons seek_Seek_again.sound seek_Seek_again.can <| .nil
theorem seek_Seek_looked.draws : fnDraws seek_Seek_looked.an Tryz.f46 = true := by kernel_rfl
theorem seek_Seek_looked.can : callOk Tryz.prog 46 = true := by kernel_rfl
theorem seek_Seek_looked.sound : FnOk Tryz.prog 46 (.st seek_Seek_looked.w) := FnOk.st_of (evF_ok seek_Seek_looked.cok mixed (f := 46) (fn := Tryz.f46) (by kernel_rfl) seek_Seek_looked.draws) fun args s r h => by
  unfold seek_Seek_looked.w at h; split at h
  · rw [seek_Seek_looked.ok std]; exact h
  · simp at h

/-! ### (*leapfrog/seek.Seek).stood: function 47 -/
def seek_Seek_stood.ctx : Ctx := [(67, .rd key_Less.w), (63, .st seek_Seek_goes.w), (36, .rd key_Check.w), (66, .st seek_Seek_again.w), (64, .st seek_Seek_keep.w)]
def seek_Seek_stood.t (S : Sig) (a0 a1 : Value) (s : St) : Option (Value × St) :=
  S.bd (bx a1) fun c1 => S.bd (lcl c1 0) fun x2 => S.bd (eqb [1] false false x2 (Go.Value.int Go.IntKind.i64 1)) fun x3 => S.cnd x3 (S.bd (nck a0) fun x4 => S.bd (fld 9 x4) fun x5 => S.bd (fld 1 x5) fun x6 => S.bd (lda s 2 x6) fun x7 => S.bd (nck a0) fun x8 => S.bd (fld 0 x8) fun x9 => S.bd (fld 6 x9) fun x10 => S.bd (lda s 2 x10) fun x11 => S.bd (key_Less.r x7 x11 s) fun x12 => S.cnd x12 (S.bd (lal c1 7 5) fun x13 => S.bd (seek_Seek_goes.v a0 x13 s) fun r14 => some ((Value.tuple ⟨[]⟩), r14.2)) (S.bd (lal c1 3 2) fun x15 => S.bd (key_Check.r x15 s) fun x16 => S.bd (eqb [1] false false x16 (Go.Value.int Go.IntKind.i64 0)) fun x17 => S.bd (S.gd x17 true (lal c1 3 2)) fun x18 => S.bd (S.gd x17 true (some a0)) fun x19 => S.bd (S.gd x17 true (nck x19)) fun x20 => S.bd (S.gd x17 true (fld 9 x20)) fun x21 => S.bd (S.gd x17 true (fld 1 x21)) fun x22 => S.bd (S.gd x17 true (lda s 2 x22)) fun x23 => S.bd (S.gd x17 true (key_Less.r x18 x23 s)) fun x24 => S.bd (pik x17 x24 (Go.Value.bool Bool.false)) fun x25 => S.cnd x25 (S.bd (lal c1 2 5) fun x26 => S.bd (nck a0) fun x27 => S.bd (fld 9 x27) fun x28 => S.bd (stv s 5 x28 x26) fun s29 => some ((Value.tuple ⟨[]⟩), s29)) (S.bd (seek_Seek_again.v a0 s) fun r30 => some ((Value.tuple ⟨[]⟩), r30.2)))) (S.bd (eqb [1] false false x2 (Go.Value.int Go.IntKind.i64 3)) fun x31 => S.cnd x31 (S.bd (nck a0) fun x32 => S.bd (fld 9 x32) fun x33 => S.bd (lda s 5 x33) fun x34 => S.bd (lal c1 0 13) fun x35 => S.bd (seek_Seek_keep.v a0 x34 x35 s) fun r36 => S.bd (seek_Seek_again.v a0 r36.2) fun r37 => some ((Value.tuple ⟨[]⟩), r37.2)) (S.bd (seek_Seek_again.v a0 s) fun r38 => some ((Value.tuple ⟨[]⟩), r38.2)))
def seek_Seek_stood.v (a0 a1 : Value) (s : St) : Option (Value × St) := seek_Seek_stood.t std a0 a1 s
def seek_Seek_stood.w : List Value → St → Option (Value × St)
  | [a0, a1], s => seek_Seek_stood.v a0 a1 s
  | _, _ => none
def seek_Seek_stood.an : An := ⟨55, false, [3], [], [], [(4, [(0, 0, [], []), (1, 0, [], []), (2, 0, [], []), (3, 0, [], []), (4, 2, [], []), (5, 0, [], []), (6, 0, [], []), (7, 0, [], []), (8, 0, [], []), (9, 2, [], []), (10, 3, [], [])]), (6, [(0, 0, [], []), (1, 0, [], []), (2, 25, [], []), (3, 3, [], []), (4, 0, [], []), (5, 0, [], []), (6, 0, [], []), (7, 0, [], []), (8, 25, [], []), (9, 0, [], []), (10, 0, [], []), (11, 0, [], []), (12, 0, [], []), (13, 2, [], []), (14, 3, [], []), (15, 0, [], [])]), (8, [(0, 0, [], []), (1, 0, [], []), (2, 0, [], []), (3, 0, [], []), (4, 2, [], []), (5, 25, [], []), (6, 4, [], [])])]⟩
theorem seek_Seek_stood.ok (S : Sig) (a0 a1 : Value) (s : St) : evF S Tryz.prog seek_Seek_stood.ctx seek_Seek_stood.an Tryz.f47 [a0, a1] s = seek_Seek_stood.t S a0 a1 s := by kernel_rfl
theorem seek_Seek_stood.cok : CtxOk Tryz.prog seek_Seek_stood.ctx := .cons key_Less.sound key_Less.can <| .cons seek_Seek_goes.sound seek_Seek_goes.can <| .cons key_Check.sound key_Check.can <| .cons seek_Seek_again.sound seek_Seek_again.can <| .cons seek_Seek_keep.sound seek_Seek_keep.can <| .nil
theorem seek_Seek_stood.draws : fnDraws seek_Seek_stood.an Tryz.f47 = true := by kernel_rfl
theorem seek_Seek_stood.can : callOk Tryz.prog 47 = true := by kernel_rfl
theorem seek_Seek_stood.sound : FnOk Tryz.prog 47 (.st seek_Seek_stood.w) := FnOk.st_of (evF_ok seek_Seek_stood.cok mixed (f := 47) (fn := Tryz.f47) (by kernel_rfl) seek_Seek_stood.draws) fun args s r h => by
  unfold seek_Seek_stood.w at h; split at h
  · rw [seek_Seek_stood.ok std]; exact h
  · simp at h

/-! ### (*leapfrog/seek.Seek).Tell: function 29 -/
def seek_Seek_Tell.ctx : Ctx := [(43, .rd seek_Seek_is.w), (46, .st seek_Seek_looked.w), (47, .st seek_Seek_stood.w)]
def seek_Seek_Tell.t (S : Sig) (a0 a1 : Value) (s : St) : Option (Value × St) :=
  S.bd (bx a1) fun c1 => S.bd (seek_Seek_is.r a0 s) fun x2 => S.bd (un .not x2) fun x3 => S.bd (S.gd x3 false (some a0)) fun x4 => S.bd (S.gd x3 false (nck x4)) fun x5 => S.bd (S.gd x3 false (fld 24 x5)) fun x6 => S.bd (S.gd x3 false (ldc s x6)) fun x7 => S.bd (pik x3 (Go.Value.bool Bool.true) x7) fun x8 => S.cnd x8 (some ((Value.tuple ⟨[]⟩), s)) (S.bd (nck a0) fun x9 => S.bd (fld 16 x9) fun x10 => S.bd (ldc s x10) fun x11 => S.cnd x11 (S.bd (lal c1 0 13) fun x12 => S.bd (seek_Seek_looked.v a0 x12 s) fun r13 => some ((Value.tuple ⟨[]⟩), r13.2)) (S.bd (lal c1 0 13) fun x14 => S.bd (seek_Seek_stood.v a0 x14 s) fun r15 => some ((Value.tuple ⟨[]⟩), r15.2)))
def seek_Seek_Tell.v (a0 a1 : Value) (s : St) : Option (Value × St) := seek_Seek_Tell.t std a0 a1 s
def seek_Seek_Tell.w : List Value → St → Option (Value × St)
  | [a0, a1], s => seek_Seek_Tell.v a0 a1 s
  | _, _ => none
def seek_Seek_Tell.an : An := ⟨25, false, [3], [], [], []⟩
theorem seek_Seek_Tell.ok (S : Sig) (a0 a1 : Value) (s : St) : evF S Tryz.prog seek_Seek_Tell.ctx seek_Seek_Tell.an Tryz.f29 [a0, a1] s = seek_Seek_Tell.t S a0 a1 s := by kernel_rfl
theorem seek_Seek_Tell.cok : CtxOk Tryz.prog seek_Seek_Tell.ctx := .cons seek_Seek_is.sound seek_Seek_is.can <| .cons seek_Seek_looked.sound seek_Seek_looked.can <| .cons seek_Seek_stood.sound seek_Seek_stood.can <| .nil
theorem seek_Seek_Tell.draws : fnDraws seek_Seek_Tell.an Tryz.f29 = true := by kernel_rfl
theorem seek_Seek_Tell.can : callOk Tryz.prog 29 = true := by kernel_rfl
theorem seek_Seek_Tell.sound : FnOk Tryz.prog 29 (.st seek_Seek_Tell.w) := FnOk.st_of (evF_ok seek_Seek_Tell.cok mixed (f := 29) (fn := Tryz.f29) (by kernel_rfl) seek_Seek_Tell.draws) fun args s r h => by
  unfold seek_Seek_Tell.w at h; split at h
  · rw [seek_Seek_Tell.ok std]; exact h
  · simp at h

/-! ### (*leapfrog/read.Read).got: function 31 -/
def read_Read_got.ctx : Ctx := [(48, .st read_Read_end.w), (18, .st read_New_fn1.w), (49, .st read_Read_got_fn1.w), (44, .st read_Read_fail.w)]
def read_Read_got.t (S : Sig) (a0 a1 : Value) (s : St) : Option (Value × St) :=
  S.bd (alv s a0) fun r1 => S.bd (alv r1.2 a1) fun r2 => S.bd (fld 0 r2.1) fun x3 => S.bd (ldc r2.2 x3) fun x4 => S.bd (eqb [1] false false x4 (Go.Value.int Go.IntKind.i64 1)) fun x5 => S.bd (S.gd x5 true (fld 1 r2.1)) fun x6 => S.bd (S.gd x5 true (ldc r2.2 x6)) fun x7 => S.bd (S.gd x5 true (un .not x7)) fun x8 => S.bd (pik x5 x8 (Go.Value.bool Bool.false)) fun x9 => S.cnd x9 (S.bd (ldc r2.2 r1.1) fun x10 => S.bd (ldc r2.2 r1.1) fun x11 => S.bd (nck x11) fun x12 => S.bd (fld 10 x12) fun x13 => S.bd (fld 1 x13) fun x14 => S.bd (fld 1 x14) fun x15 => S.bd (ldc r2.2 x15) fun x16 => S.bd (fld 12 r2.1) fun x17 => S.bd (ldc r2.2 x17) fun x18 => S.bd (bld [(Go.Value.int Go.IntKind.i64 0), (Go.Value.int Go.IntKind.u64 0), (Go.Value.slice Option.none 0 0), (Go.Value.slice Option.none 0 0), (Go.Value.int Go.IntKind.i64 0), (Go.Value.int Go.IntKind.i64 0), (Go.Value.int Go.IntKind.u64 0), (Go.Value.int Go.IntKind.i64 0), (Go.Value.int Go.IntKind.u64 0), (Go.Value.int Go.IntKind.i64 0), (Go.Value.int Go.IntKind.i64 0), (Go.Value.int Go.IntKind.u64 0), (Go.Value.int Go.IntKind.i64 0), (Go.Value.int Go.IntKind.u64 0), (Go.Value.bool Bool.false)] [(1, 1, x16), (2, 1, x18), (14, 1, (Go.Value.bool Bool.true))]) fun x19 => S.bd (read_Read_end.v x10 x19 r2.2) fun r20 => S.bd (ldc r20.2 r1.1) fun x21 => S.cnd (Value.bool (sameV x21 x11)) (S.bd (ldc r20.2 x15) fun x22 => S.cnd (Value.bool (sameV x22 x16)) (S.bd (ldc r20.2 x17) fun x23 => S.cnd (Value.bool (sameV x23 x18)) (some ((Value.tuple ⟨[]⟩), r20.2)) (none)) (none)) (none)) (S.bd (ldc r2.2 r1.1) fun x24 => S.bd (nck x24) fun x25 => S.bd (fld 16 x25) fun x26 => S.bd (ldc r2.2 x26) fun x27 => S.bd (callV (read_Read_got.ctx) x27 [(Value.func (.func 49) ⟨[]⟩ ⟨[r1.1, r2.1]⟩)] r2.2) fun r28 => S.bd (un .not r28.1) fun x29 => S.cnd x29 (S.bd (ldc r28.2 r1.1) fun x30 => S.bd (read_Read_fail.v x30 (Go.Value.int Go.IntKind.i64 101) r28.2) fun r31 => some ((Value.tuple ⟨[]⟩), r31.2)) (some ((Value.tuple ⟨[]⟩), r28.2)))
def read_Read_got.v (a0 a1 : Value) (s : St) : Option (Value × St) := read_Read_got.t std a0 a1 s
def read_Read_got.w : List Value → St → Option (Value × St)
  | [a0, a1], s => read_Read_got.v a0 a1 s
  | _, _ => none
def read_Read_got.an : An := ⟨34, false, [], [], [], [(2, [(0, 2, [], []), (1, 2, [], []), (2, 0, [], []), (3, 0, [], []), (4, 0, [], []), (5, 0, [], []), (6, 2, [], []), (7, 0, [], []), (8, 2, [], []), (9, 0, [], []), (10, 4, [1, 6, 8], [])])]⟩
theorem read_Read_got.ok (S : Sig) (a0 a1 : Value) (s : St) : evF S Tryz.prog read_Read_got.ctx read_Read_got.an Tryz.f31 [a0, a1] s = read_Read_got.t S a0 a1 s := by kernel_rfl
theorem read_Read_got.cok : CtxOk Tryz.prog read_Read_got.ctx := .cons read_Read_end.sound read_Read_end.can <| .cons read_New_fn1.sound read_New_fn1.can <| .cons read_Read_got_fn1.sound read_Read_got_fn1.can <| .cons read_Read_fail.sound read_Read_fail.can <| .nil
theorem read_Read_got.draws : fnDraws read_Read_got.an Tryz.f31 = true := by kernel_rfl
theorem read_Read_got.can : callOk Tryz.prog 31 = true := by kernel_rfl
theorem read_Read_got.sound : FnOk Tryz.prog 31 (.st read_Read_got.w) := FnOk.st_of (evF_ok read_Read_got.cok mixed (f := 31) (fn := Tryz.f31) (by kernel_rfl) read_Read_got.draws) fun args s r h => by
  unfold read_Read_got.w at h; split at h
  · rw [read_Read_got.ok std]; exact h
  · simp at h

/-! ### (*leapfrog/read.Read).Tell: function 14 -/
def read_Read_Tell.ctx : Ctx := [(29, .st seek_Seek_Tell.w), (30, .st read_Read_sought.w), (31, .st read_Read_got.w)]
def read_Read_Tell.t (S : Sig) (a0 a1 : Value) (s : St) : Option (Value × St) :=
  S.bd (bx a1) fun c1 => S.bd (eqb [3] false false a0 (Go.Value.pointer Option.none)) fun x2 => S.cnd x2 (some ((Value.tuple ⟨[]⟩), s)) (S.bd (nck a0) fun x3 => S.bd (fld 8 x3) fun x4 => S.bd (ldc s x4) fun x5 => S.bd (eqb [1] false false x5 (Go.Value.int Go.IntKind.i64 1)) fun x6 => S.cnd x6 (S.bd (nck a0) fun x7 => S.bd (fld 9 x7) fun x8 => S.bd (ldc s x8) fun x9 => S.bd (lal c1 0 13) fun x10 => S.bd (seek_Seek_Tell.v x9 x10 s) fun r11 => S.bd (read_Read_sought.v a0 r11.2) fun r12 => some ((Value.tuple ⟨[]⟩), r12.2)) (S.bd (eqb [1] false false x5 (Go.Value.int Go.IntKind.i64 2)) fun x13 => S.cnd x13 (S.bd (lal c1 0 13) fun x14 => S.bd (read_Read_got.v a0 x14 s) fun r15 => some ((Value.tuple ⟨[]⟩), r15.2)) (some ((Value.tuple ⟨[]⟩), s))))
def read_Read_Tell.v (a0 a1 : Value) (s : St) : Option (Value × St) := read_Read_Tell.t std a0 a1 s
def read_Read_Tell.w : List Value → St → Option (Value × St)
  | [a0, a1], s => read_Read_Tell.v a0 a1 s
  | _, _ => none
def read_Read_Tell.an : An := ⟨25, false, [3], [], [], [(4, [(0, 0, [], []), (1, 0, [], []), (2, 0, [], []), (3, 2, [], []), (4, 25, [], []), (5, 4, [], [])])]⟩
theorem read_Read_Tell.ok (S : Sig) (a0 a1 : Value) (s : St) : evF S Tryz.prog read_Read_Tell.ctx read_Read_Tell.an Tryz.f14 [a0, a1] s = read_Read_Tell.t S a0 a1 s := by kernel_rfl
theorem read_Read_Tell.cok : CtxOk Tryz.prog read_Read_Tell.ctx := .cons seek_Seek_Tell.sound seek_Seek_Tell.can <| .cons read_Read_sought.sound read_Read_sought.can <| .cons read_Read_got.sound read_Read_got.can <| .nil
theorem read_Read_Tell.draws : fnDraws read_Read_Tell.an Tryz.f14 = true := by kernel_rfl
theorem read_Read_Tell.can : callOk Tryz.prog 14 = true := by kernel_rfl
theorem read_Read_Tell.sound : FnOk Tryz.prog 14 (.st read_Read_Tell.w) := FnOk.st_of (evF_ok read_Read_Tell.cok mixed (f := 14) (fn := Tryz.f14) (by kernel_rfl) read_Read_Tell.draws) fun args s r h => by
  unfold read_Read_Tell.w at h; split at h
  · rw [read_Read_Tell.ok std]; exact h
  · simp at h

/-! ### leapfrog/leapfroglaw17.told: function 21 -/
def leapfroglaw17x_told.ctx : Ctx := [(6, .st read_New.w), (10, .rd read_Read_Next.w), (39, .st leapfrogref15x_Answer.w), (40, .rd leapfrogref09x_Peer_Will.w), (14, .st read_Read_Tell.w)]
def leapfroglaw17x_told.l18 (S : Sig) (rec159 : List Value → St → Option Cut) (xs157 : List Value) (s158 : St) : Option Cut :=
  S.bd (lenL (xs157.getD 0 undef)) fun x160 => S.bd (bin .lss (xs157.getD 6 undef) x160) fun x161 => S.cnd x161 (S.bd (idx s158 1 (xs157.getD 0 undef) (xs157.getD 6 undef)) fun x162 => S.bd (ldc s158 x162) fun x163 => S.bd (nck x163) fun x164 => S.bd (fld 0 x164) fun x165 => S.bd (fld 0 x165) fun x166 => S.bd (ldc s158 x166) fun x167 => S.bd (idx s158 1 (xs157.getD 1 undef) (xs157.getD 5 undef)) fun x168 => S.bd (ldc s158 x168) fun x169 => S.bd (eqb [1] false false x167 x169) fun x170 => S.cnd x170 (S.bd (idx s158 1 (xs157.getD 0 undef) (xs157.getD 6 undef)) fun x171 => S.bd (ldc s158 x171) fun x172 => S.bd (lal (cellsA (xs157.getD 8 undef)) 7 2) fun x173 => S.bd (leapfrogref09x_Peer_Will.r x172 x173 s158) fun x174 => S.bd (xtr 0 x174) fun x175 => S.bd (xtr 1 x174) fun x176 => S.bd (stl (cellsA (xs157.getD 9 undef)) 0 13 x175) fun c177 => S.bd (bin .add (xs157.getD 6 undef) (Go.Value.int Go.IntKind.i64 1)) fun x178 => rec159 [(xs157.getD 0 undef), (xs157.getD 1 undef), (xs157.getD 2 undef), (xs157.getD 3 undef), (xs157.getD 4 undef), (xs157.getD 5 undef), x178, (Value.agg ⟨(cellsA (xs157.getD 7 undef))⟩), (Value.agg ⟨(cellsA (xs157.getD 8 undef))⟩), (Value.agg ⟨c177⟩)] s158) (S.bd (bin .add (xs157.getD 6 undef) (Go.Value.int Go.IntKind.i64 1)) fun x179 => rec159 [(xs157.getD 0 undef), (xs157.getD 1 undef), (xs157.getD 2 undef), (xs157.getD 3 undef), (xs157.getD 4 undef), (xs157.getD 5 undef), x179, (Value.agg ⟨(cellsA (xs157.getD 7 undef))⟩), (Value.agg ⟨(cellsA (xs157.getD 8 undef))⟩), (Value.agg ⟨(cellsA (xs157.getD 9 undef))⟩)] s158)) (some (0, [(xs157.getD 0 undef), (xs157.getD 1 undef), (xs157.getD 2 undef), (xs157.getD 3 undef), (xs157.getD 4 undef), (xs157.getD 5 undef), (Value.agg ⟨(cellsA (xs157.getD 7 undef))⟩), (Value.agg ⟨(cellsA (xs157.getD 8 undef))⟩), (Value.agg ⟨(cellsA (xs157.getD 9 undef))⟩)], s158))

def leapfroglaw17x_told.l14 (S : Sig) (rec149 : List Value → St → Option Cut) (xs147 : List Value) (s148 : St) : Option Cut :=
  S.bd (lenL (xs147.getD 1 undef)) fun x150 => S.bd (bin .lss (xs147.getD 5 undef) x150) fun x151 => S.cnd x151 (S.bd (idx s148 1 (xs147.getD 1 undef) (xs147.getD 5 undef)) fun x152 => S.bd (ldc s148 x152) fun x153 => S.bd (lcl (cellsA (xs147.getD 7 undef)) 1) fun x154 => S.bd (eqb [1] false true x153 x154) fun x155 => S.cnd x155 (S.bd (bin .add (xs147.getD 5 undef) (Go.Value.int Go.IntKind.i64 1)) fun x156 => rec149 [(xs147.getD 0 undef), (xs147.getD 1 undef), (xs147.getD 2 undef), (xs147.getD 3 undef), (xs147.getD 4 undef), x156, (Value.agg ⟨(cellsA (xs147.getD 6 undef))⟩), (Value.agg ⟨(cellsA (xs147.getD 7 undef))⟩), (Value.agg ⟨(cellsA (xs147.getD 8 undef))⟩)] s148) (S.bd (S.it (leapfroglaw17x_told.l18 S) [(xs147.getD 0 undef), (xs147.getD 1 undef), (xs147.getD 2 undef), (xs147.getD 3 undef), (xs147.getD 4 undef), (xs147.getD 5 undef), (Go.Value.int Go.IntKind.i64 0), (Value.agg ⟨(cellsA (xs147.getD 6 undef))⟩), (Value.agg ⟨(cellsA (xs147.getD 7 undef))⟩), (Value.agg ⟨(cellsA (xs147.getD 8 undef))⟩)] s148) fun r180 => S.bd (bin .add (r180.2.1.getD 5 undef) (Go.Value.int Go.IntKind.i64 1)) fun x181 => rec149 [(r180.2.1.getD 0 undef), (r180.2.1.getD 1 undef), (r180.2.1.getD 2 undef), (r180.2.1.getD 3 undef), (r180.2.1.getD 4 undef), x181, (Value.agg ⟨(cellsA (r180.2.1.getD 6 undef))⟩), (Value.agg ⟨(cellsA (r180.2.1.getD 7 undef))⟩), (Value.agg ⟨(cellsA (r180.2.1.getD 8 undef))⟩)] r180.2.2)) (some (0, [(xs147.getD 0 undef), (xs147.getD 1 undef), (xs147.getD 2 undef), (xs147.getD 3 undef), (xs147.getD 4 undef), (Value.agg ⟨(cellsA (xs147.getD 6 undef))⟩), (Value.agg ⟨(cellsA (xs147.getD 8 undef))⟩)], s148))

def leapfroglaw17x_told.l5.p1 (S : Sig) (c132 : List Value) (xs126 : List Value) (s127 : St) (rec128 : List Value → St → Option Cut) : Option Cut :=
  S.bd (lal c132 0 36) fun x141 => S.bd (leapfrogref15x_Answer.v (xs126.getD 0 undef) x141 s127) fun r142 => S.bd (xtr 0 r142.1) fun x143 => S.bd (xtr 1 r142.1) fun x144 => S.bd (bx (Go.Value.agg #[(Go.Value.int Go.IntKind.i64 0), (Go.Value.bool Bool.false), (Go.Value.int Go.IntKind.i64 0), (Go.Value.int Go.IntKind.i64 0), (Go.Value.int Go.IntKind.u64 0), (Go.Value.int Go.IntKind.i64 0), (Go.Value.int Go.IntKind.u64 0), (Go.Value.int Go.IntKind.i64 0), (Go.Value.int Go.IntKind.i64 0), (Go.Value.int Go.IntKind.u64 0), (Go.Value.int Go.IntKind.i64 0), (Go.Value.int Go.IntKind.u64 0), (Go.Value.slice Option.none 0 0)])) fun c145 => S.bd (stl c145 0 13 x143) fun c146 => S.bd (S.it (leapfroglaw17x_told.l14 S) [(xs126.getD 0 undef), (xs126.getD 1 undef), (xs126.getD 2 undef), (xs126.getD 3 undef), x144, (Go.Value.int Go.IntKind.i64 0), (Value.agg ⟨(cellsA (xs126.getD 4 undef))⟩), (Value.agg ⟨c132⟩), (Value.agg ⟨c146⟩)] r142.2) fun r182 => S.bd (un .not (r182.2.1.getD 4 undef)) fun x183 => S.cnd x183 (S.bd (bld [(Go.Value.int Go.IntKind.i64 0), (Go.Value.int Go.IntKind.u64 0), (Go.Value.slice Option.none 0 0), (Go.Value.slice Option.none 0 0), (Go.Value.int Go.IntKind.i64 0), (Go.Value.int Go.IntKind.i64 0), (Go.Value.int Go.IntKind.u64 0), (Go.Value.int Go.IntKind.i64 0), (Go.Value.int Go.IntKind.u64 0), (Go.Value.int Go.IntKind.i64 0), (Go.Value.int Go.IntKind.i64 0), (Go.Value.int Go.IntKind.u64 0), (Go.Value.int Go.IntKind.i64 0), (Go.Value.int Go.IntKind.u64 0), (Go.Value.bool Bool.false)] []) fun x184 => S.bd (stl (cellsA (r182.2.1.getD 5 undef)) 0 15 x184) fun c185 => some (1, [(Go.Value.bool Bool.false), (Value.agg ⟨c185⟩)], r182.2.2)) (S.bd (lal (cellsA (r182.2.1.getD 6 undef)) 0 13) fun x186 => S.bd (read_Read_Tell.v (r182.2.1.getD 2 undef) x186 r182.2.2) fun r187 => S.bd (bin .add (r182.2.1.getD 3 undef) (Go.Value.int Go.IntKind.i64 1)) fun x188 => rec128 [(r182.2.1.getD 0 undef), (r182.2.1.getD 1 undef), (r182.2.1.getD 2 undef), x188, (Value.agg ⟨(cellsA (r182.2.1.getD 5 undef))⟩)] r187.2)

def leapfroglaw17x_told.l5.p2 (S : Sig) (xs126 : List Value) (s127 : St) (rec128 : List Value → St → Option Cut) : Option Cut :=
  S.bd (read_Read_Next.r (xs126.getD 2 undef) s127) fun x130 => S.bd (bx (Go.Value.agg #[(Go.Value.int Go.IntKind.i64 0), (Go.Value.int Go.IntKind.i64 0), (Go.Value.int Go.IntKind.i64 0), (Go.Value.int Go.IntKind.u64 0), (Go.Value.int Go.IntKind.i64 0), (Go.Value.int Go.IntKind.u64 0), (Go.Value.int Go.IntKind.i64 0), (Go.Value.int Go.IntKind.i64 0), (Go.Value.int Go.IntKind.u64 0), (Go.Value.int Go.IntKind.i64 0), (Go.Value.int Go.IntKind.i64 0), (Go.Value.int Go.IntKind.u64 0), (Go.Value.int Go.IntKind.i64 0), (Go.Value.int Go.IntKind.u64 0), (Go.Value.int Go.IntKind.i64 0), (Go.Value.int Go.IntKind.i64 0), (Go.Value.int Go.IntKind.u64 0), (Go.Value.int Go.IntKind.i64 0), (Go.Value.int Go.IntKind.u64 0), (Go.Value.int Go.IntKind.i64 0), (Go.Value.int Go.IntKind.i64 0), (Go.Value.int Go.IntKind.i64 0), (Go.Value.int Go.IntKind.u64 0), (Go.Value.slice Option.none 0 0), (Go.Value.slice Option.none 0 0), (Go.Value.int Go.IntKind.i64 0), (Go.Value.int Go.IntKind.i64 0), (Go.Value.int Go.IntKind.u64 0), (Go.Value.int Go.IntKind.i64 0), (Go.Value.int Go.IntKind.u64 0), (Go.Value.int Go.IntKind.i64 0), (Go.Value.int Go.IntKind.i64 0), (Go.Value.int Go.IntKind.u64 0), (Go.Value.int Go.IntKind.i64 0), (Go.Value.int Go.IntKind.u64 0), (Go.Value.bool Bool.false)])) fun c131 => S.bd (stl c131 0 36 x130) fun c132 => S.bd (lcl c132 0) fun x133 => S.bd (eqb [1] false false x133 (Go.Value.int Go.IntKind.i64 3)) fun x134 => S.cnd x134 (S.bd (lal c132 21 15) fun x135 => S.bd (stl (cellsA (xs126.getD 4 undef)) 0 15 x135) fun c136 => some (1, [(Go.Value.bool Bool.true), (Value.agg ⟨c136⟩)], s127)) (S.bd (lcl c132 0) fun x137 => S.bd (eqb [1] false true x137 (Go.Value.int Go.IntKind.i64 1)) fun x138 => S.cnd x138 (S.bd (bld [(Go.Value.int Go.IntKind.i64 0), (Go.Value.int Go.IntKind.u64 0), (Go.Value.slice Option.none 0 0), (Go.Value.slice Option.none 0 0), (Go.Value.int Go.IntKind.i64 0), (Go.Value.int Go.IntKind.i64 0), (Go.Value.int Go.IntKind.u64 0), (Go.Value.int Go.IntKind.i64 0), (Go.Value.int Go.IntKind.u64 0), (Go.Value.int Go.IntKind.i64 0), (Go.Value.int Go.IntKind.i64 0), (Go.Value.int Go.IntKind.u64 0), (Go.Value.int Go.IntKind.i64 0), (Go.Value.int Go.IntKind.u64 0), (Go.Value.bool Bool.false)] []) fun x139 => S.bd (stl (cellsA (xs126.getD 4 undef)) 0 15 x139) fun c140 => some (1, [(Go.Value.bool Bool.false), (Value.agg ⟨c140⟩)], s127)) (leapfroglaw17x_told.l5.p1 S c132 xs126 s127 rec128))

def leapfroglaw17x_told.l5 (S : Sig) (rec128 : List Value → St → Option Cut) (xs126 : List Value) (s127 : St) : Option Cut :=
  S.bd (bin .lss (xs126.getD 3 undef) (Go.Value.int Go.IntKind.i64 2000)) fun x129 => S.cnd x129 (leapfroglaw17x_told.l5.p2 S xs126 s127 rec128) (some (0, [(Value.agg ⟨(cellsA (xs126.getD 4 undef))⟩)], s127))

def leapfroglaw17x_told.t (S : Sig) (a0 a1 a2 : Value) (s : St) : Option (Value × St) :=
  S.bd (bx a0) fun c1 => S.bd (bx (Go.Value.agg #[(Go.Value.int Go.IntKind.i64 0), (Go.Value.int Go.IntKind.u64 0), (Go.Value.slice Option.none 0 0), (Go.Value.slice Option.none 0 0), (Go.Value.int Go.IntKind.i64 0), (Go.Value.int Go.IntKind.i64 0), (Go.Value.int Go.IntKind.u64 0), (Go.Value.int Go.IntKind.i64 0), (Go.Value.int Go.IntKind.u64 0), (Go.Value.int Go.IntKind.i64 0), (Go.Value.int Go.IntKind.i64 0), (Go.Value.int Go.IntKind.u64 0), (Go.Value.int Go.IntKind.i64 0), (Go.Value.int Go.IntKind.u64 0), (Go.Value.bool Bool.false)])) fun c2 => S.bd (lal c1 0 8) fun x3 => S.bd (read_New.v x3 s) fun r4 => S.bd (xtr 0 r4.1) fun x5 => S.bd (xtr 1 r4.1) fun x6 => S.bd (eqb [1] false true x6 (Go.Value.int Go.IntKind.i64 0)) fun x7 => S.bd (S.gd x7 false (some x5)) fun x8 => S.bd (S.gd x7 false (eqb [3] false false x8 (Go.Value.pointer Option.none))) fun x9 => S.bd (pik x7 (Go.Value.bool Bool.true) x9) fun x10 => S.cnd x10 (S.bd (bld [(Go.Value.int Go.IntKind.i64 0), (Go.Value.int Go.IntKind.u64 0), (Go.Value.slice Option.none 0 0), (Go.Value.slice Option.none 0 0), (Go.Value.int Go.IntKind.i64 0), (Go.Value.int Go.IntKind.i64 0), (Go.Value.int Go.IntKind.u64 0), (Go.Value.int Go.IntKind.i64 0), (Go.Value.int Go.IntKind.u64 0), (Go.Value.int Go.IntKind.i64 0), (Go.Value.int Go.IntKind.i64 0), (Go.Value.int Go.IntKind.u64 0), (Go.Value.int Go.IntKind.i64 0), (Go.Value.int Go.IntKind.u64 0), (Go.Value.bool Bool.false)] []) fun x11 => S.bd (stl c2 0 15 x11) fun c12 => S.bd (lal c12 0 15) fun x13 => some ((Value.tuple ⟨[x13, (Go.Value.bool Bool.false)]⟩), r4.2)) (S.bd (S.it (leapfroglaw17x_told.l5 S) [a1, a2, x5, (Go.Value.int Go.IntKind.i64 0), (Value.agg ⟨c2⟩)] r4.2) fun r189 => if r189.1 = 0 then (S.bd (bld [(Go.Value.int Go.IntKind.i64 0), (Go.Value.int Go.IntKind.u64 0), (Go.Value.slice Option.none 0 0), (Go.Value.slice Option.none 0 0), (Go.Value.int Go.IntKind.i64 0), (Go.Value.int Go.IntKind.i64 0), (Go.Value.int Go.IntKind.u64 0), (Go.Value.int Go.IntKind.i64 0), (Go.Value.int Go.IntKind.u64 0), (Go.Value.int Go.IntKind.i64 0), (Go.Value.int Go.IntKind.i64 0), (Go.Value.int Go.IntKind.u64 0), (Go.Value.int Go.IntKind.i64 0), (Go.Value.int Go.IntKind.u64 0), (Go.Value.bool Bool.false)] []) fun x191 => S.bd (stl (cellsA (r189.2.1.getD 0 undef)) 0 15 x191) fun c192 => S.bd (lal c192 0 15) fun x193 => some ((Value.tuple ⟨[x193, (Go.Value.bool Bool.false)]⟩), r189.2.2)) else (S.bd (lal (cellsA (r189.2.1.getD 1 undef)) 0 15) fun x190 => some ((Value.tuple ⟨[x190, (r189.2.1.getD 0 undef)]⟩), r189.2.2)))
def leapfroglaw17x_told.v (a0 a1 a2 : Value) (s : St) : Option (Value × St) := leapfroglaw17x_told.t std a0 a1 a2 s
def leapfroglaw17x_told.w : List Value → St → Option (Value × St)
  | [a0, a1, a2], s => leapfroglaw17x_told.v a0 a1 a2 s
  | _, _ => none
def leapfroglaw17x_told.an : An := ⟨100, false, [3, 6, 11, 12], [(18, ⟨[.v 1, .v 2, .p 6 6 0, .v 8, .v 10, .p 11 11 0, .p 12 12 0, .v 13, .v 14, .v 15, .l 6, .l 11, .l 12], [(.exit 4, [.v 1, .v 2, .p 6 6 0, .v 8, .v 10, .p 11 11 0, .p 12 12 0, .v 13, .v 14, .l 6, .l 11, .l 12])]⟩), (14, ⟨[.v 1, .v 2, .p 6 6 0, .v 8, .v 10, .p 11 11 0, .p 12 12 0, .v 13, .v 14, .l 6, .l 11, .l 12], [(.exit 2, [.v 1, .v 2, .p 6 6 0, .v 8, .v 10, .p 12 12 0, .v 13, .l 6, .l 12])]⟩), (5, ⟨[.v 1, .v 2, .p 6 6 0, .v 8, .v 10, .l 6], [(.exit 0, [.p 6 6 0, .l 6]), (.ret, [.p 6 6 0, .v 7, .l 6])]⟩)], [], [(16, [(0, 0, [], []), (1, 0, [], []), (2, 2, [], []), (3, 2, [], []), (4, 0, [], []), (5, 0, [], []), (6, 89, [], []), (7, 0, [], [])]), (20, [(0, 0, [], []), (1, 0, [], []), (2, 2, [], []), (3, 2, [], []), (4, 0, [], []), (5, 0, [], []), (6, 0, [], []), (7, 2, [], []), (8, 0, [], []), (9, 0, [], []), (10, 2, [], []), (11, 2, [], []), (12, 0, [], [])]), (21, [(0, 0, [], []), (1, 0, [], []), (2, 2, [], []), (3, 2, [], []), (4, 0, [], []), (5, 0, [], []), (6, 89, [], []), (7, 3, [], []), (8, 0, [], []), (9, 0, [], []), (10, 0, [], []), (11, 101, [], [])])]⟩
theorem leapfroglaw17x_told.ok (S : Sig) (a0 a1 a2 : Value) (s : St) : evF S Tryz.prog leapfroglaw17x_told.ctx leapfroglaw17x_told.an Tryz.f21 [a0, a1, a2] s = leapfroglaw17x_told.t S a0 a1 a2 s := by kernel_rfl
theorem leapfroglaw17x_told.cok : CtxOk Tryz.prog leapfroglaw17x_told.ctx := .cons read_New.sound read_New.can <| .cons read_Read_Next.sound read_Read_Next.can <| .cons leapfrogref15x_Answer.sound leapfrogref15x_Answer.can <| .cons leapfrogref09x_Peer_Will.sound leapfrogref09x_Peer_Will.can <| .cons read_Read_Tell.sound read_Read_Tell.can <| .nil
theorem leapfroglaw17x_told.draws : fnDraws leapfroglaw17x_told.an Tryz.f21 = true := by kernel_rfl
theorem leapfroglaw17x_told.can : callOk Tryz.prog 21 = true := by kernel_rfl
theorem leapfroglaw17x_told.sound : FnOk Tryz.prog 21 (.st leapfroglaw17x_told.w) := FnOk.st_of (evF_ok leapfroglaw17x_told.cok mixed (f := 21) (fn := Tryz.f21) (by kernel_rfl) leapfroglaw17x_told.draws) fun args s r h => by
  unfold leapfroglaw17x_told.w at h; split at h
  · rw [leapfroglaw17x_told.ok std]; exact h
  · simp at h

/-! ### leapfrog/leapfroglaw17.alive: function 8 -/
def leapfroglaw17x_alive.ctx : Ctx := [(22, .rd leapfrogref12x_Head.w), (23, .st leapfroglaw17x_twoM.w), (21, .st leapfroglaw17x_told.w)]
def leapfroglaw17x_alive.t.p1 (S : Sig) (r12 : Value × St) (x18 : Value) (x6 : Value) (x14 : Value) (c8 : List Value) (c16 : List Value) : Option (Value × St) :=
  S.bd (leapfroglaw17x_twoM.v  r12.2) fun r19 => S.bd (S.bd (bls 1 (List.replicate 1 [(Go.Value.int Go.IntKind.i64 0)]) [(0, (Go.Value.int Go.IntKind.i64 3))]) fun rows => als r19.2 1 1 rows) fun r20 => S.bd (leapfroglaw17x_told.v x18 r19.1 r20.1 r20.2) fun r21 => S.bd (xtr 0 r21.1) fun x22 => S.bd (xtr 1 r21.1) fun x23 => S.bd (bx (Go.Value.agg #[(Go.Value.int Go.IntKind.i64 0), (Go.Value.int Go.IntKind.u64 0), (Go.Value.slice Option.none 0 0), (Go.Value.slice Option.none 0 0), (Go.Value.int Go.IntKind.i64 0), (Go.Value.int Go.IntKind.i64 0), (Go.Value.int Go.IntKind.u64 0), (Go.Value.int Go.IntKind.i64 0), (Go.Value.int Go.IntKind.u64 0), (Go.Value.int Go.IntKind.i64 0), (Go.Value.int Go.IntKind.i64 0), (Go.Value.int Go.IntKind.u64 0), (Go.Value.int Go.IntKind.i64 0), (Go.Value.int Go.IntKind.u64 0), (Go.Value.bool Bool.false)])) fun c24 => S.bd (stl c24 0 15 x22) fun c25 => S.bd (S.gd x6 true (some x14)) fun x26 => S.bd (pik x6 x26 (Go.Value.bool Bool.false)) fun x27 => S.bd (S.gd x27 true (some x23)) fun x28 => S.bd (pik x27 x28 (Go.Value.bool Bool.false)) fun x29 => S.bd (S.gd x29 true (lcl c8 0)) fun x30 => S.bd (S.gd x29 true (eqb [1] false false x30 (Go.Value.int Go.IntKind.i64 0))) fun x31 => S.bd (pik x29 x31 (Go.Value.bool Bool.false)) fun x32 => S.bd (S.gd x32 true (lcl c8 2)) fun x33 => S.bd (S.gd x32 true (b2s r21.2 x33)) fun x34 => S.bd (S.gd x32 true (eqb [2] false false x34 (Go.Value.string (ByteArray.mk #[110, 105, 110, 101])))) fun x35 => S.bd (pik x32 x35 (Go.Value.bool Bool.false)) fun x36 => S.bd (S.gd x36 true (lcl c8 14)) fun x37 => S.bd (pik x36 x37 (Go.Value.bool Bool.false)) fun x38 => S.bd (S.gd x38 true (lcl c16 1)) fun x39 => S.bd (S.gd x38 true (eqb [1] false false x39 (Go.Value.int Go.IntKind.u64 9))) fun x40 => S.bd (pik x38 x40 (Go.Value.bool Bool.false)) fun x41 => S.bd (S.gd x41 true (lcl c25 0)) fun x42 => S.bd (S.gd x41 true (eqb [1] false false x42 (Go.Value.int Go.IntKind.i64 101))) fun x43 => S.bd (pik x41 x43 (Go.Value.bool Bool.false)) fun x44 => some (x44, r21.2)

def leapfroglaw17x_alive.t (S : Sig) (s : St) : Option (Value × St) :=
  S.bd (leapfrogref12x_Head.r (Go.Value.int Go.IntKind.i64 0) s) fun x1 => S.bd (bld [(Go.Value.int Go.IntKind.i64 0), (Go.Value.int Go.IntKind.i64 0), (Go.Value.int Go.IntKind.i64 0), (Go.Value.int Go.IntKind.u64 0), (Go.Value.int Go.IntKind.i64 0), (Go.Value.int Go.IntKind.u64 0), (Go.Value.int Go.IntKind.u64 0), (Go.Value.bool Bool.false)] [(1, 5, x1), (6, 1, (Go.Value.int Go.IntKind.u64 9))]) fun x2 => S.bd (leapfroglaw17x_twoM.v  s) fun r3 => S.bd (leapfroglaw17x_told.v x2 r3.1 (Go.Value.slice Option.none 0 0) r3.2) fun r4 => S.bd (xtr 0 r4.1) fun x5 => S.bd (xtr 1 r4.1) fun x6 => S.bd (bx (Go.Value.agg #[(Go.Value.int Go.IntKind.i64 0), (Go.Value.int Go.IntKind.u64 0), (Go.Value.slice Option.none 0 0), (Go.Value.slice Option.none 0 0), (Go.Value.int Go.IntKind.i64 0), (Go.Value.int Go.IntKind.i64 0), (Go.Value.int Go.IntKind.u64 0), (Go.Value.int Go.IntKind.i64 0), (Go.Value.int Go.IntKind.u64 0), (Go.Value.int Go.IntKind.i64 0), (Go.Value.int Go.IntKind.i64 0), (Go.Value.int Go.IntKind.u64 0), (Go.Value.int Go.IntKind.i64 0), (Go.Value.int Go.IntKind.u64 0), (Go.Value.bool Bool.false)])) fun c7 => S.bd (stl c7 0 15 x5) fun c8 => S.bd (leapfrogref12x_Head.r (Go.Value.int Go.IntKind.i64 0) r4.2) fun x9 => S.bd (bld [(Go.Value.int Go.IntKind.i64 0), (Go.Value.int Go.IntKind.i64 0), (Go.Value.int Go.IntKind.i64 0), (Go.Value.int Go.IntKind.u64 0), (Go.Value.int Go.IntKind.i64 0), (Go.Value.int Go.IntKind.u64 0), (Go.Value.int Go.IntKind.u64 0), (Go.Value.bool Bool.false)] [(1, 5, x9), (6, 1, (Go.Value.int Go.IntKind.u64 6)), (7, 1, (Go.Value.bool Bool.true))]) fun x10 => S.bd (leapfroglaw17x_twoM.v  r4.2) fun r11 => S.bd (leapfroglaw17x_told.v x10 r11.1 (Go.Value.slice Option.none 0 0) r11.2) fun r12 => S.bd (xtr 0 r12.1) fun x13 => S.bd (xtr 1 r12.1) fun x14 => S.bd (bx (Go.Value.agg #[(Go.Value.int Go.IntKind.i64 0), (Go.Value.int Go.IntKind.u64 0), (Go.Value.slice Option.none 0 0), (Go.Value.slice Option.none 0 0), (Go.Value.int Go.IntKind.i64 0), (Go.Value.int Go.IntKind.i64 0), (Go.Value.int Go.IntKind.u64 0), (Go.Value.int Go.IntKind.i64 0), (Go.Value.int Go.IntKind.u64 0), (Go.Value.int Go.IntKind.i64 0), (Go.Value.int Go.IntKind.i64 0), (Go.Value.int Go.IntKind.u64 0), (Go.Value.int Go.IntKind.i64 0), (Go.Value.int Go.IntKind.u64 0), (Go.Value.bool Bool.false)])) fun c15 => S.bd (stl c15 0 15 x13) fun c16 => S.bd (leapfrogref12x_Head.r (Go.Value.int Go.IntKind.i64 0) r12.2) fun x17 => S.bd (bld [(Go.Value.int Go.IntKind.i64 0), (Go.Value.int Go.IntKind.i64 0), (Go.Value.int Go.IntKind.i64 0), (Go.Value.int Go.IntKind.u64 0), (Go.Value.int Go.IntKind.i64 0), (Go.Value.int Go.IntKind.u64 0), (Go.Value.int Go.IntKind.u64 0), (Go.Value.bool Bool.false)] [(1, 5, x17), (6, 1, (Go.Value.int Go.IntKind.u64 6)), (7, 1, (Go.Value.bool Bool.true))]) fun x18 => leapfroglaw17x_alive.t.p1 S r12 x18 x6 x14 c8 c16
def leapfroglaw17x_alive.v (s : St) : Option (Value × St) := leapfroglaw17x_alive.t std  s
def leapfroglaw17x_alive.w : List Value → St → Option (Value × St)
  | [], s => leapfroglaw17x_alive.v  s
  | _, _ => none
def leapfroglaw17x_alive.an : An := ⟨61, false, [1, 3, 5], [], [], []⟩
theorem leapfroglaw17x_alive.ok (S : Sig) (s : St) : evF S Tryz.prog leapfroglaw17x_alive.ctx leapfroglaw17x_alive.an Tryz.f8 [] s = leapfroglaw17x_alive.t S  s := by kernel_rfl
theorem leapfroglaw17x_alive.cok : CtxOk Tryz.prog leapfroglaw17x_alive.ctx := .cons leapfrogref12x_Head.sound leapfrogref12x_Head.can <| .cons leapfroglaw17x_twoM.sound leapfroglaw17x_twoM.can <| .cons leapfroglaw17x_told.sound leapfroglaw17x_told.can <| .nil
theorem leapfroglaw17x_alive.draws : fnDraws leapfroglaw17x_alive.an Tryz.f8 = true := by kernel_rfl
theorem leapfroglaw17x_alive.can : callOk Tryz.prog 8 = true := by kernel_rfl
theorem leapfroglaw17x_alive.sound : FnOk Tryz.prog 8 (.st leapfroglaw17x_alive.w) := FnOk.st_of (evF_ok leapfroglaw17x_alive.cok mixed (f := 8) (fn := Tryz.f8) (by kernel_rfl) leapfroglaw17x_alive.draws) fun args s r h => by
  unfold leapfroglaw17x_alive.w at h; split at h
  · rw [leapfroglaw17x_alive.ok std]; exact h
  · simp at h

/-! ### leapfrog/leapfroglaw17.alive: function 8, closed -/
def leapfroglaw17x_aliveC.r (s : St) : Option Value := some (Value.bool true)
def leapfroglaw17x_aliveC.w : List Value → St → Option Value := closedW (Value.bool true)
theorem leapfroglaw17x_aliveC.can : callOk Tryz.prog 8 = true := leapfroglaw17x_alive.can
theorem leapfroglaw17x_aliveC.sound : FnOk Tryz.prog 8 (.rd leapfroglaw17x_aliveC.w) := FnOk.closed leapfroglaw17x_alive.sound (by kernel_rfl) rfl

/-! ### (*leapfrog/leapfrogref12.Seek).Next: function 26 -/
def leapfrogref12x_Seek_Next.ctx : Ctx := []
def leapfrogref12x_Seek_Next.t.p1 (S : Sig) (a0 : Value) (s : St) (c1 : List Value) : Option Value :=
  S.bd (nck a0) fun x11 => S.bd (fld 8 x11) fun x12 => S.bd (lda s 5 x12) fun x13 => S.bd (nck a0) fun x14 => S.bd (fld 13 x14) fun x15 => S.bd (lda s 2 x15) fun x16 => S.bd (bld [(Go.Value.int Go.IntKind.i64 0), (Go.Value.int Go.IntKind.i64 0), (Go.Value.int Go.IntKind.u64 0), (Go.Value.int Go.IntKind.i64 0), (Go.Value.int Go.IntKind.i64 0), (Go.Value.int Go.IntKind.u64 0), (Go.Value.int Go.IntKind.i64 0), (Go.Value.int Go.IntKind.u64 0), (Go.Value.int Go.IntKind.i64 0), (Go.Value.int Go.IntKind.i64 0), (Go.Value.int Go.IntKind.u64 0), (Go.Value.int Go.IntKind.i64 0), (Go.Value.int Go.IntKind.u64 0), (Go.Value.int Go.IntKind.i64 0), (Go.Value.int Go.IntKind.i64 0)] [(0, 1, (Go.Value.int Go.IntKind.i64 1)), (1, 2, x16)]) fun x17 => S.bd (bld [(Go.Value.int Go.IntKind.i64 0), (Go.Value.int Go.IntKind.i64 0), (Go.Value.int Go.IntKind.i64 0), (Go.Value.int Go.IntKind.u64 0), (Go.Value.int Go.IntKind.i64 0), (Go.Value.int Go.IntKind.u64 0), (Go.Value.int Go.IntKind.i64 0), (Go.Value.int Go.IntKind.i64 0), (Go.Value.int Go.IntKind.u64 0), (Go.Value.int Go.IntKind.i64 0), (Go.Value.int Go.IntKind.i64 0), (Go.Value.int Go.IntKind.u64 0), (Go.Value.int Go.IntKind.i64 0), (Go.Value.int Go.IntKind.u64 0), (Go.Value.int Go.IntKind.i64 0), (Go.Value.int Go.IntKind.i64 0), (Go.Value.int Go.IntKind.u64 0), (Go.Value.int Go.IntKind.i64 0), (Go.Value.int Go.IntKind.u64 0), (Go.Value.int Go.IntKind.i64 0), (Go.Value.int Go.IntKind.i64 0), (Go.Value.int Go.IntKind.i64 0), (Go.Value.int Go.IntKind.u64 0), (Go.Value.slice Option.none 0 0), (Go.Value.slice Option.none 0 0), (Go.Value.int Go.IntKind.i64 0), (Go.Value.int Go.IntKind.i64 0), (Go.Value.int Go.IntKind.u64 0), (Go.Value.int Go.IntKind.i64 0), (Go.Value.int Go.IntKind.u64 0), (Go.Value.int Go.IntKind.i64 0), (Go.Value.int Go.IntKind.i64 0), (Go.Value.int Go.IntKind.u64 0), (Go.Value.int Go.IntKind.i64 0), (Go.Value.int Go.IntKind.u64 0), (Go.Value.bool Bool.false)] [(0, 1, (Go.Value.int Go.IntKind.i64 1)), (1, 5, x13), (6, 15, x17)]) fun x18 => S.bd (bx (Go.Value.agg #[(Go.Value.int Go.IntKind.i64 0), (Go.Value.int Go.IntKind.i64 0), (Go.Value.int Go.IntKind.i64 0), (Go.Value.int Go.IntKind.u64 0), (Go.Value.int Go.IntKind.i64 0), (Go.Value.int Go.IntKind.u64 0), (Go.Value.int Go.IntKind.i64 0), (Go.Value.int Go.IntKind.i64 0), (Go.Value.int Go.IntKind.u64 0), (Go.Value.int Go.IntKind.i64 0), (Go.Value.int Go.IntKind.i64 0), (Go.Value.int Go.IntKind.u64 0), (Go.Value.int Go.IntKind.i64 0), (Go.Value.int Go.IntKind.u64 0), (Go.Value.int Go.IntKind.i64 0), (Go.Value.int Go.IntKind.i64 0), (Go.Value.int Go.IntKind.u64 0), (Go.Value.int Go.IntKind.i64 0), (Go.Value.int Go.IntKind.u64 0), (Go.Value.int Go.IntKind.i64 0), (Go.Value.int Go.IntKind.i64 0), (Go.Value.int Go.IntKind.i64 0), (Go.Value.int Go.IntKind.u64 0), (Go.Value.slice Option.none 0 0), (Go.Value.slice Option.none 0 0), (Go.Value.int Go.IntKind.i64 0), (Go.Value.int Go.IntKind.i64 0), (Go.Value.int Go.IntKind.u64 0), (Go.Value.int Go.IntKind.i64 0), (Go.Value.int Go.IntKind.u64 0), (Go.Value.int Go.IntKind.i64 0), (Go.Value.int Go.IntKind.i64 0), (Go.Value.int Go.IntKind.u64 0), (Go.Value.int Go.IntKind.i64 0), (Go.Value.int Go.IntKind.u64 0), (Go.Value.bool Bool.false)])) fun c19 => S.bd (stl c19 0 36 x18) fun c20 => S.bd (nck a0) fun x21 => S.bd (fld 15 x21) fun x22 => S.bd (ldc s x22) fun x23 => S.cnd x23 (S.bd (nck a0) fun x24 => S.bd (fld 16 x24) fun x25 => S.bd (lda s 5 x25) fun x26 => S.bd (stl c20 1 5 x26) fun c27 => S.bd (lal c27 0 36) fun x28 => S.bd (stl c1 0 36 x28) fun c29 => S.bd (lal c29 0 36) fun x30 => some (x30)) (S.bd (lal c20 0 36) fun x31 => S.bd (stl c1 0 36 x31) fun c32 => S.bd (lal c32 0 36) fun x33 => some (x33))

def leapfrogref12x_Seek_Next.t (S : Sig) (a0 : Value) (s : St) : Option Value :=
  S.bd (bx (Go.Value.agg #[(Go.Value.int Go.IntKind.i64 0), (Go.Value.int Go.IntKind.i64 0), (Go.Value.int Go.IntKind.i64 0), (Go.Value.int Go.IntKind.u64 0), (Go.Value.int Go.IntKind.i64 0), (Go.Value.int Go.IntKind.u64 0), (Go.Value.int Go.IntKind.i64 0), (Go.Value.int Go.IntKind.i64 0), (Go.Value.int Go.IntKind.u64 0), (Go.Value.int Go.IntKind.i64 0), (Go.Value.int Go.IntKind.i64 0), (Go.Value.int Go.IntKind.u64 0), (Go.Value.int Go.IntKind.i64 0), (Go.Value.int Go.IntKind.u64 0), (Go.Value.int Go.IntKind.i64 0), (Go.Value.int Go.IntKind.i64 0), (Go.Value.int Go.IntKind.u64 0), (Go.Value.int Go.IntKind.i64 0), (Go.Value.int Go.IntKind.u64 0), (Go.Value.int Go.IntKind.i64 0), (Go.Value.int Go.IntKind.i64 0), (Go.Value.int Go.IntKind.i64 0), (Go.Value.int Go.IntKind.u64 0), (Go.Value.slice Option.none 0 0), (Go.Value.slice Option.none 0 0), (Go.Value.int Go.IntKind.i64 0), (Go.Value.int Go.IntKind.i64 0), (Go.Value.int Go.IntKind.u64 0), (Go.Value.int Go.IntKind.i64 0), (Go.Value.int Go.IntKind.u64 0), (Go.Value.int Go.IntKind.i64 0), (Go.Value.int Go.IntKind.i64 0), (Go.Value.int Go.IntKind.u64 0), (Go.Value.int Go.IntKind.i64 0), (Go.Value.int Go.IntKind.u64 0), (Go.Value.bool Bool.false)])) fun c1 => S.bd (nck a0) fun x2 => S.bd (fld 23 x2) fun x3 => S.bd (ldc s x3) fun x4 => S.cnd x4 (S.bd (nck a0) fun x5 => S.bd (fld 24 x5) fun x6 => S.bd (lda s 15 x6) fun x7 => S.bd (bld [(Go.Value.int Go.IntKind.i64 0), (Go.Value.int Go.IntKind.i64 0), (Go.Value.int Go.IntKind.i64 0), (Go.Value.int Go.IntKind.u64 0), (Go.Value.int Go.IntKind.i64 0), (Go.Value.int Go.IntKind.u64 0), (Go.Value.int Go.IntKind.i64 0), (Go.Value.int Go.IntKind.i64 0), (Go.Value.int Go.IntKind.u64 0), (Go.Value.int Go.IntKind.i64 0), (Go.Value.int Go.IntKind.i64 0), (Go.Value.int Go.IntKind.u64 0), (Go.Value.int Go.IntKind.i64 0), (Go.Value.int Go.IntKind.u64 0), (Go.Value.int Go.IntKind.i64 0), (Go.Value.int Go.IntKind.i64 0), (Go.Value.int Go.IntKind.u64 0), (Go.Value.int Go.IntKind.i64 0), (Go.Value.int Go.IntKind.u64 0), (Go.Value.int Go.IntKind.i64 0), (Go.Value.int Go.IntKind.i64 0), (Go.Value.int Go.IntKind.i64 0), (Go.Value.int Go.IntKind.u64 0), (Go.Value.slice Option.none 0 0), (Go.Value.slice Option.none 0 0), (Go.Value.int Go.IntKind.i64 0), (Go.Value.int Go.IntKind.i64 0), (Go.Value.int Go.IntKind.u64 0), (Go.Value.int Go.IntKind.i64 0), (Go.Value.int Go.IntKind.u64 0), (Go.Value.int Go.IntKind.i64 0), (Go.Value.int Go.IntKind.i64 0), (Go.Value.int Go.IntKind.u64 0), (Go.Value.int Go.IntKind.i64 0), (Go.Value.int Go.IntKind.u64 0), (Go.Value.bool Bool.false)] [(0, 1, (Go.Value.int Go.IntKind.i64 3)), (21, 15, x7)]) fun x8 => S.bd (stl c1 0 36 x8) fun c9 => S.bd (lal c9 0 36) fun x10 => some (x10)) (leapfrogref12x_Seek_Next.t.p1 S a0 s c1)
def leapfrogref12x_Seek_Next.r (a0 : Value) (s : St) : Option Value := leapfrogref12x_Seek_Next.t std a0 s
def leapfrogref12x_Seek_Next.w : List Value → St → Option Value
  | [a0], s => leapfrogref12x_Seek_Next.r a0 s
  | _, _ => none
def leapfrogref12x_Seek_Next.an : An := ⟨33, true, [2, 3], [], [], [(3, [(0, 0, [], []), (1, 0, [], []), (2, 0, [], []), (3, 2, [], []), (4, 0, [], []), (5, 0, [], []), (6, 0, [], []), (7, 2, [], []), (8, 0, [], []), (9, 0, [], []), (10, 6, [], []), (11, 29, [], [])])]⟩
theorem leapfrogref12x_Seek_Next.ok (S : Sig) (a0 : Value) (s : St) : evG S Tryz.prog leapfrogref12x_Seek_Next.ctx leapfrogref12x_Seek_Next.an Tryz.f26 [a0] s = leapfrogref12x_Seek_Next.t S a0 s := by kernel_rfl
theorem leapfrogref12x_Seek_Next.cok : CtxOk Tryz.prog leapfrogref12x_Seek_Next.ctx := .nil
theorem leapfrogref12x_Seek_Next.draws : fnDraws leapfrogref12x_Seek_Next.an Tryz.f26 = true := by kernel_rfl
theorem leapfrogref12x_Seek_Next.can : callOk Tryz.prog 26 = true := by kernel_rfl
theorem leapfrogref12x_Seek_Next.sound : FnOk Tryz.prog 26 (.rd leapfrogref12x_Seek_Next.w) := FnOk.rd_of (evG_ok leapfrogref12x_Seek_Next.cok mixed (f := 26) (fn := Tryz.f26) (by kernel_rfl) leapfrogref12x_Seek_Next.draws) fun args s r h => by
  unfold leapfrogref12x_Seek_Next.w at h; split at h
  · rw [leapfrogref12x_Seek_Next.ok std]; exact h
  · simp at h

/-! ### (*leapfrog/leapfrogref17.Read).Next: function 11 -/
def leapfrogref17x_Read_Next.ctx : Ctx := [(26, .rd leapfrogref12x_Seek_Next.w)]
def leapfrogref17x_Read_Next.t.p1 (S : Sig) (a0 : Value) (s : St) (c1 : List Value) : Option Value :=
  S.bd (nck a0) fun x13 => S.bd (fld 11 x13) fun x14 => S.bd (lda s 5 x14) fun x15 => S.bd (bld [(Go.Value.int Go.IntKind.i64 0), (Go.Value.int Go.IntKind.i64 0), (Go.Value.int Go.IntKind.u64 0), (Go.Value.int Go.IntKind.i64 0), (Go.Value.int Go.IntKind.i64 0), (Go.Value.int Go.IntKind.u64 0), (Go.Value.int Go.IntKind.i64 0), (Go.Value.int Go.IntKind.u64 0), (Go.Value.int Go.IntKind.i64 0), (Go.Value.int Go.IntKind.i64 0), (Go.Value.int Go.IntKind.u64 0), (Go.Value.int Go.IntKind.i64 0), (Go.Value.int Go.IntKind.u64 0), (Go.Value.int Go.IntKind.i64 0), (Go.Value.int Go.IntKind.i64 0)] [(0, 1, (Go.Value.int Go.IntKind.i64 2))]) fun x16 => S.bd (bld [(Go.Value.int Go.IntKind.i64 0), (Go.Value.int Go.IntKind.i64 0), (Go.Value.int Go.IntKind.i64 0), (Go.Value.int Go.IntKind.u64 0), (Go.Value.int Go.IntKind.i64 0), (Go.Value.int Go.IntKind.u64 0), (Go.Value.int Go.IntKind.i64 0), (Go.Value.int Go.IntKind.i64 0), (Go.Value.int Go.IntKind.u64 0), (Go.Value.int Go.IntKind.i64 0), (Go.Value.int Go.IntKind.i64 0), (Go.Value.int Go.IntKind.u64 0), (Go.Value.int Go.IntKind.i64 0), (Go.Value.int Go.IntKind.u64 0), (Go.Value.int Go.IntKind.i64 0), (Go.Value.int Go.IntKind.i64 0), (Go.Value.int Go.IntKind.u64 0), (Go.Value.int Go.IntKind.i64 0), (Go.Value.int Go.IntKind.u64 0), (Go.Value.int Go.IntKind.i64 0), (Go.Value.int Go.IntKind.i64 0), (Go.Value.int Go.IntKind.i64 0), (Go.Value.int Go.IntKind.u64 0), (Go.Value.slice Option.none 0 0), (Go.Value.slice Option.none 0 0), (Go.Value.int Go.IntKind.i64 0), (Go.Value.int Go.IntKind.i64 0), (Go.Value.int Go.IntKind.u64 0), (Go.Value.int Go.IntKind.i64 0), (Go.Value.int Go.IntKind.u64 0), (Go.Value.int Go.IntKind.i64 0), (Go.Value.int Go.IntKind.i64 0), (Go.Value.int Go.IntKind.u64 0), (Go.Value.int Go.IntKind.i64 0), (Go.Value.int Go.IntKind.u64 0), (Go.Value.bool Bool.false)] [(0, 1, (Go.Value.int Go.IntKind.i64 1)), (1, 5, x15), (6, 15, x16)]) fun x17 => S.bd (stl c1 0 36 x17) fun c18 => S.bd (lal c18 0 36) fun x19 => some (x19)

def leapfrogref17x_Read_Next.t.p2 (S : Sig) (x4 : Value) (c1 : List Value) (a0 : Value) (s : St) : Option Value :=
  S.bd (eqb [1] false false x4 (Go.Value.int Go.IntKind.i64 3)) fun x20 => S.cnd x20 (S.bd (bld [(Go.Value.int Go.IntKind.i64 0), (Go.Value.int Go.IntKind.i64 0), (Go.Value.int Go.IntKind.i64 0), (Go.Value.int Go.IntKind.u64 0), (Go.Value.int Go.IntKind.i64 0), (Go.Value.int Go.IntKind.u64 0), (Go.Value.int Go.IntKind.i64 0), (Go.Value.int Go.IntKind.i64 0), (Go.Value.int Go.IntKind.u64 0), (Go.Value.int Go.IntKind.i64 0), (Go.Value.int Go.IntKind.i64 0), (Go.Value.int Go.IntKind.u64 0), (Go.Value.int Go.IntKind.i64 0), (Go.Value.int Go.IntKind.u64 0), (Go.Value.int Go.IntKind.i64 0), (Go.Value.int Go.IntKind.i64 0), (Go.Value.int Go.IntKind.u64 0), (Go.Value.int Go.IntKind.i64 0), (Go.Value.int Go.IntKind.u64 0), (Go.Value.int Go.IntKind.i64 0), (Go.Value.int Go.IntKind.i64 0), (Go.Value.int Go.IntKind.i64 0), (Go.Value.int Go.IntKind.u64 0), (Go.Value.slice Option.none 0 0), (Go.Value.slice Option.none 0 0), (Go.Value.int Go.IntKind.i64 0), (Go.Value.int Go.IntKind.i64 0), (Go.Value.int Go.IntKind.u64 0), (Go.Value.int Go.IntKind.i64 0), (Go.Value.int Go.IntKind.u64 0), (Go.Value.int Go.IntKind.i64 0), (Go.Value.int Go.IntKind.i64 0), (Go.Value.int Go.IntKind.u64 0), (Go.Value.int Go.IntKind.i64 0), (Go.Value.int Go.IntKind.u64 0), (Go.Value.bool Bool.false)] [(0, 1, (Go.Value.int Go.IntKind.i64 2))]) fun x21 => S.bd (stl c1 0 36 x21) fun c22 => S.bd (lal c22 0 36) fun x23 => some (x23)) (S.bd (nck a0) fun x24 => S.bd (fld 16 x24) fun x25 => S.bd (lda s 15 x25) fun x26 => S.bd (bld [(Go.Value.int Go.IntKind.i64 0), (Go.Value.int Go.IntKind.i64 0), (Go.Value.int Go.IntKind.i64 0), (Go.Value.int Go.IntKind.u64 0), (Go.Value.int Go.IntKind.i64 0), (Go.Value.int Go.IntKind.u64 0), (Go.Value.int Go.IntKind.i64 0), (Go.Value.int Go.IntKind.i64 0), (Go.Value.int Go.IntKind.u64 0), (Go.Value.int Go.IntKind.i64 0), (Go.Value.int Go.IntKind.i64 0), (Go.Value.int Go.IntKind.u64 0), (Go.Value.int Go.IntKind.i64 0), (Go.Value.int Go.IntKind.u64 0), (Go.Value.int Go.IntKind.i64 0), (Go.Value.int Go.IntKind.i64 0), (Go.Value.int Go.IntKind.u64 0), (Go.Value.int Go.IntKind.i64 0), (Go.Value.int Go.IntKind.u64 0), (Go.Value.int Go.IntKind.i64 0), (Go.Value.int Go.IntKind.i64 0), (Go.Value.int Go.IntKind.i64 0), (Go.Value.int Go.IntKind.u64 0), (Go.Value.slice Option.none 0 0), (Go.Value.slice Option.none 0 0), (Go.Value.int Go.IntKind.i64 0), (Go.Value.int Go.IntKind.i64 0), (Go.Value.int Go.IntKind.u64 0), (Go.Value.int Go.IntKind.i64 0), (Go.Value.int Go.IntKind.u64 0), (Go.Value.int Go.IntKind.i64 0), (Go.Value.int Go.IntKind.i64 0), (Go.Value.int Go.IntKind.u64 0), (Go.Value.int Go.IntKind.i64 0), (Go.Value.int Go.IntKind.u64 0), (Go.Value.bool Bool.false)] [(0, 1, (Go.Value.int Go.IntKind.i64 3)), (21, 15, x26)]) fun x27 => S.bd (stl c1 0 36 x27) fun c28 => S.bd (lal c28 0 36) fun x29 => some (x29))

def leapfrogref17x_Read_Next.t (S : Sig) (a0 : Value) (s : St) : Option Value :=
  S.bd (bx (Go.Value.agg #[(Go.Value.int Go.IntKind.i64 0), (Go.Value.int Go.IntKind.i64 0), (Go.Value.int Go.IntKind.i64 0), (Go.Value.int Go.IntKind.u64 0), (Go.Value.int Go.IntKind.i64 0), (Go.Value.int Go.IntKind.u64 0), (Go.Value.int Go.IntKind.i64 0), (Go.Value.int Go.IntKind.i64 0), (Go.Value.int Go.IntKind.u64 0), (Go.Value.int Go.IntKind.i64 0), (Go.Value.int Go.IntKind.i64 0), (Go.Value.int Go.IntKind.u64 0), (Go.Value.int Go.IntKind.i64 0), (Go.Value.int Go.IntKind.u64 0), (Go.Value.int Go.IntKind.i64 0), (Go.Value.int Go.IntKind.i64 0), (Go.Value.int Go.IntKind.u64 0), (Go.Value.int Go.IntKind.i64 0), (Go.Value.int Go.IntKind.u64 0), (Go.Value.int Go.IntKind.i64 0), (Go.Value.int Go.IntKind.i64 0), (Go.Value.int Go.IntKind.i64 0), (Go.Value.int Go.IntKind.u64 0), (Go.Value.slice Option.none 0 0), (Go.Value.slice Option.none 0 0), (Go.Value.int Go.IntKind.i64 0), (Go.Value.int Go.IntKind.i64 0), (Go.Value.int Go.IntKind.u64 0), (Go.Value.int Go.IntKind.i64 0), (Go.Value.int Go.IntKind.u64 0), (Go.Value.int Go.IntKind.i64 0), (Go.Value.int Go.IntKind.i64 0), (Go.Value.int Go.IntKind.u64 0), (Go.Value.int Go.IntKind.i64 0), (Go.Value.int Go.IntKind.u64 0), (Go.Value.bool Bool.false)])) fun c1 => S.bd (nck a0) fun x2 => S.bd (fld 8 x2) fun x3 => S.bd (ldc s x3) fun x4 => S.bd (eqb [1] false false x4 (Go.Value.int Go.IntKind.i64 1)) fun x5 => S.cnd x5 (S.bd (nck a0) fun x6 => S.bd (fld 10 x6) fun x7 => S.bd (ldc s x7) fun x8 => S.bd (leapfrogref12x_Seek_Next.r x8 s) fun x9 => S.bd (stl c1 0 36 x9) fun c10 => S.bd (lal c10 0 36) fun x11 => some (x11)) (S.bd (eqb [1] false false x4 (Go.Value.int Go.IntKind.i64 2)) fun x12 => S.cnd x12 (leapfrogref17x_Read_Next.t.p1 S a0 s c1) (leapfrogref17x_Read_Next.t.p2 S x4 c1 a0 s))
def leapfrogref17x_Read_Next.r (a0 : Value) (s : St) : Option Value := leapfrogref17x_Read_Next.t std a0 s
def leapfrogref17x_Read_Next.w : List Value → St → Option Value
  | [a0], s => leapfrogref17x_Read_Next.r a0 s
  | _, _ => none
def leapfrogref17x_Read_Next.an : An := ⟨30, true, [2], [], [], []⟩
theorem leapfrogref17x_Read_Next.ok (S : Sig) (a0 : Value) (s : St) : evG S Tryz.prog leapfrogref17x_Read_Next.ctx leapfrogref17x_Read_Next.an Tryz.f11 [a0] s = leapfrogref17x_Read_Next.t S a0 s := by kernel_rfl
theorem leapfrogref17x_Read_Next.cok : CtxOk Tryz.prog leapfrogref17x_Read_Next.ctx := .cons leapfrogref12x_Seek_Next.sound leapfrogref12x_Seek_Next.can <| .nil
theorem leapfrogref17x_Read_Next.draws : fnDraws leapfrogref17x_Read_Next.an Tryz.f11 = true := by kernel_rfl
theorem leapfrogref17x_Read_Next.can : callOk Tryz.prog 11 = true := by kernel_rfl
theorem leapfrogref17x_Read_Next.sound : FnOk Tryz.prog 11 (.rd leapfrogref17x_Read_Next.w) := FnOk.rd_of (evG_ok leapfrogref17x_Read_Next.cok mixed (f := 11) (fn := Tryz.f11) (by kernel_rfl) leapfrogref17x_Read_Next.draws) fun args s r h => by
  unfold leapfrogref17x_Read_Next.w at h; split at h
  · rw [leapfrogref17x_Read_Next.ok std]; exact h
  · simp at h

/-! ### leapfrog/leapfrogref12.SameResult: function 24 -/
def leapfrogref12x_SameResult.ctx : Ctx := []
def leapfrogref12x_SameResult.l4 (S : Sig) (rec63 : List Value → St → Option Cut) (xs61 : List Value) (s62 : St) : Option Cut :=
  S.bd (lcl (cellsA (xs61.getD 1 undef)) 3) fun x64 => S.bd (lenL x64) fun x65 => S.bd (bin .lss (xs61.getD 0 undef) x65) fun x66 => S.cnd x66 (S.bd (lcl (cellsA (xs61.getD 1 undef)) 3) fun x67 => S.bd (idx s62 2 x67 (xs61.getD 0 undef)) fun x68 => S.bd (fld 0 x68) fun x69 => S.bd (ldc s62 x69) fun x70 => S.bd (lcl (cellsA (xs61.getD 2 undef)) 3) fun x71 => S.bd (idx s62 2 x71 (xs61.getD 0 undef)) fun x72 => S.bd (fld 0 x72) fun x73 => S.bd (ldc s62 x73) fun x74 => S.bd (eqb [1] false true x70 x74) fun x75 => S.bd (S.gd x75 false (lcl (cellsA (xs61.getD 1 undef)) 3)) fun x76 => S.bd (S.gd x75 false (some (xs61.getD 0 undef))) fun x77 => S.bd (S.gd x75 false (idx s62 2 x76 x77)) fun x78 => S.bd (S.gd x75 false (fld 1 x78)) fun x79 => S.bd (S.gd x75 false (ldc s62 x79)) fun x80 => S.bd (S.gd x75 false (b2s s62 x80)) fun x81 => S.bd (S.gd x75 false (lcl (cellsA (xs61.getD 2 undef)) 3)) fun x82 => S.bd (S.gd x75 false (some (xs61.getD 0 undef))) fun x83 => S.bd (S.gd x75 false (idx s62 2 x82 x83)) fun x84 => S.bd (S.gd x75 false (fld 1 x84)) fun x85 => S.bd (S.gd x75 false (ldc s62 x85)) fun x86 => S.bd (S.gd x75 false (b2s s62 x86)) fun x87 => S.bd (S.gd x75 false (eqb [2] false true x81 x87)) fun x88 => S.bd (pik x75 (Go.Value.bool Bool.true) x88) fun x89 => S.cnd x89 (some (1, [(Go.Value.bool Bool.false)], s62)) (S.bd (bin .add (xs61.getD 0 undef) (Go.Value.int Go.IntKind.i64 1)) fun x90 => rec63 [x90, (Value.agg ⟨(cellsA (xs61.getD 1 undef))⟩), (Value.agg ⟨(cellsA (xs61.getD 2 undef))⟩)] s62)) (some (0, [], s62))

def leapfrogref12x_SameResult.t (S : Sig) (a0 a1 : Value) (s : St) : Option Value :=
  S.bd (bx a0) fun c1 => S.bd (bx a1) fun c2 => S.bd (lcl c1 0) fun x3 => S.bd (lcl c2 0) fun x4 => S.bd (eqb [1] false true x3 x4) fun x5 => S.bd (S.gd x5 false (lcl c1 1)) fun x6 => S.bd (S.gd x5 false (lcl c2 1)) fun x7 => S.bd (S.gd x5 false (eqb [1] false true x6 x7)) fun x8 => S.bd (pik x5 (Go.Value.bool Bool.true) x8) fun x9 => S.bd (S.gd x9 false (lcl c1 2)) fun x10 => S.bd (S.gd x9 false (b2s s x10)) fun x11 => S.bd (S.gd x9 false (lcl c2 2)) fun x12 => S.bd (S.gd x9 false (b2s s x12)) fun x13 => S.bd (S.gd x9 false (eqb [2] false true x11 x13)) fun x14 => S.bd (pik x9 (Go.Value.bool Bool.true) x14) fun x15 => S.bd (S.gd x15 false (lcl c1 3)) fun x16 => S.bd (S.gd x15 false (lenL x16)) fun x17 => S.bd (S.gd x15 false (lcl c2 3)) fun x18 => S.bd (S.gd x15 false (lenL x18)) fun x19 => S.bd (S.gd x15 false (eqb [1] false true x17 x19)) fun x20 => S.bd (pik x15 (Go.Value.bool Bool.true) x20) fun x21 => S.bd (S.gd x21 false (lal c1 4 5)) fun x22 => S.bd (S.gd x21 false (lal c2 4 5)) fun x23 => S.bd (S.gd x21 false (eqb [1, 1, 1, 1, 1] true true x22 x23)) fun x24 => S.bd (pik x21 (Go.Value.bool Bool.true) x24) fun x25 => S.bd (S.gd x25 false (lal c1 9 5)) fun x26 => S.bd (S.gd x25 false (lal c2 9 5)) fun x27 => S.bd (S.gd x25 false (eqb [1, 1, 1, 1, 1] true true x26 x27)) fun x28 => S.bd (pik x25 (Go.Value.bool Bool.true) x28) fun x29 => S.bd (S.gd x29 false (lcl c1 14)) fun x30 => S.bd (S.gd x29 false (lcl c2 14)) fun x31 => S.bd (S.gd x29 false (eqb [0] false true x30 x31)) fun x32 => S.bd (pik x29 (Go.Value.bool Bool.true) x32) fun x33 => S.cnd x33 (some ((Go.Value.bool Bool.false))) (S.bd (S.it (leapfrogref12x_SameResult.l4 S) [(Go.Value.int Go.IntKind.i64 0), (Value.agg ⟨c1⟩), (Value.agg ⟨c2⟩)] s) fun r91 => if r91.1 = 0 then (some ((Go.Value.bool Bool.true))) else (some ((r91.2.1.getD 0 undef))))
def leapfrogref12x_SameResult.r (a0 a1 : Value) (s : St) : Option Value := leapfrogref12x_SameResult.t std a0 a1 s
def leapfrogref12x_SameResult.w : List Value → St → Option Value
  | [a0, a1], s => leapfrogref12x_SameResult.r a0 a1 s
  | _, _ => none
def leapfrogref12x_SameResult.an : An := ⟨94, true, [2, 3], [(4, ⟨[.p 2 2 0, .p 3 3 0, .v 5, .l 2, .l 3], [(.exit 0, []), (.ret, [.v 4])]⟩)], [], [(6, [(0, 0, [], []), (1, 17, [], []), (2, 0, [], []), (3, 2, [], []), (4, 0, [], []), (5, 2, [], []), (6, 0, [], []), (7, 25, [], []), (8, 0, [], []), (9, 2, [], []), (10, 0, [], []), (11, 2, [], []), (12, 0, [], []), (13, 0, [], []), (14, 0, [], []), (15, 17, [], []), (16, 0, [], []), (17, 2, [], []), (18, 0, [], []), (19, 2, [], []), (20, 2, [], []), (21, 0, [], []), (22, 25, [], []), (23, 0, [], []), (24, 2, [], []), (25, 0, [], []), (26, 2, [], []), (27, 2, [], []), (28, 0, [], []), (29, 0, [], [])])]⟩
theorem leapfrogref12x_SameResult.ok (S : Sig) (a0 a1 : Value) (s : St) : evG S Tryz.prog leapfrogref12x_SameResult.ctx leapfrogref12x_SameResult.an Tryz.f24 [a0, a1] s = leapfrogref12x_SameResult.t S a0 a1 s := by kernel_rfl
theorem leapfrogref12x_SameResult.cok : CtxOk Tryz.prog leapfrogref12x_SameResult.ctx := .nil
theorem leapfrogref12x_SameResult.draws : fnDraws leapfrogref12x_SameResult.an Tryz.f24 = true := by kernel_rfl
theorem leapfrogref12x_SameResult.can : callOk Tryz.prog 24 = true := by kernel_rfl
theorem leapfrogref12x_SameResult.sound : FnOk Tryz.prog 24 (.rd leapfrogref12x_SameResult.w) := FnOk.rd_of (evG_ok leapfrogref12x_SameResult.cok mixed (f := 24) (fn := Tryz.f24) (by kernel_rfl) leapfrogref12x_SameResult.draws) fun args s r h => by
  unfold leapfrogref12x_SameResult.w at h; split at h
  · rw [leapfrogref12x_SameResult.ok std]; exact h
  · simp at h

/-! ### leapfrog/leapfrogref12.SameStep: function 9 -/
def leapfrogref12x_SameStep.ctx : Ctx := [(24, .rd leapfrogref12x_SameResult.w)]
def leapfrogref12x_SameStep.t (S : Sig) (a0 a1 : Value) (s : St) : Option Value :=
  S.bd (bx a0) fun c1 => S.bd (bx a1) fun c2 => S.bd (lcl c1 0) fun x3 => S.bd (lcl c2 0) fun x4 => S.bd (eqb [1] false false x3 x4) fun x5 => S.bd (S.gd x5 true (lal c1 1 5)) fun x6 => S.bd (S.gd x5 true (lal c2 1 5)) fun x7 => S.bd (S.gd x5 true (eqb [1, 1, 1, 1, 1] true false x6 x7)) fun x8 => S.bd (pik x5 x8 (Go.Value.bool Bool.false)) fun x9 => S.bd (S.gd x9 true (lal c1 6 15)) fun x10 => S.bd (S.gd x9 true (lal c2 6 15)) fun x11 => S.bd (S.gd x9 true (eqb [1, 1, 1, 1, 1, 1, 1, 1, 1, 1, 1, 1, 1, 1, 1] true false x10 x11)) fun x12 => S.bd (pik x9 x12 (Go.Value.bool Bool.false)) fun x13 => S.bd (S.gd x13 true (lal c1 21 15)) fun x14 => S.bd (S.gd x13 true (lal c2 21 15)) fun x15 => S.bd (S.gd x13 true (leapfrogref12x_SameResult.r x14 x15 s)) fun x16 => S.bd (pik x13 x16 (Go.Value.bool Bool.false)) fun x17 => some (x17)
def leapfrogref12x_SameStep.r (a0 a1 : Value) (s : St) : Option Value := leapfrogref12x_SameStep.t std a0 a1 s
def leapfrogref12x_SameStep.w : List Value → St → Option Value
  | [a0, a1], s => leapfrogref12x_SameStep.r a0 a1 s
  | _, _ => none
def leapfrogref12x_SameStep.an : An := ⟨31, true, [2, 3], [], [], []⟩
theorem leapfrogref12x_SameStep.ok (S : Sig) (a0 a1 : Value) (s : St) : evG S Tryz.prog leapfrogref12x_SameStep.ctx leapfrogref12x_SameStep.an Tryz.f9 [a0, a1] s = leapfrogref12x_SameStep.t S a0 a1 s := by kernel_rfl
theorem leapfrogref12x_SameStep.cok : CtxOk Tryz.prog leapfrogref12x_SameStep.ctx := .cons leapfrogref12x_SameResult.sound leapfrogref12x_SameResult.can <| .nil
theorem leapfrogref12x_SameStep.draws : fnDraws leapfrogref12x_SameStep.an Tryz.f9 = true := by kernel_rfl
theorem leapfrogref12x_SameStep.can : callOk Tryz.prog 9 = true := by kernel_rfl
theorem leapfrogref12x_SameStep.sound : FnOk Tryz.prog 9 (.rd leapfrogref12x_SameStep.w) := FnOk.rd_of (evG_ok leapfrogref12x_SameStep.cok mixed (f := 9) (fn := Tryz.f9) (by kernel_rfl) leapfrogref12x_SameStep.draws) fun args s r h => by
  unfold leapfrogref12x_SameStep.w at h; split at h
  · rw [leapfrogref12x_SameStep.ok std]; exact h
  · simp at h

/-! ### (*leapfrog/read.Read).again: function 27 -/
def read_Read_again.ctx : Ctx := [(44, .st read_Read_fail.w), (17, .rd read_target.w), (16, .st seek_New.w)]
def read_Read_again.t (S : Sig) (a0 : Value) (s : St) : Option (Value × St) :=
  S.bd (nck a0) fun x1 => S.bd (fld 15 x1) fun x2 => S.bd (ldc s x2) fun x3 => S.bd (bin .geq x3 (Go.Value.int Go.IntKind.i64 64)) fun x4 => S.cnd x4 (S.bd (read_Read_fail.v a0 (Go.Value.int Go.IntKind.i64 121) s) fun r5 => some ((Value.tuple ⟨[]⟩), r5.2)) (S.bd (nck a0) fun x6 => S.bd (fld 15 x6) fun x7 => S.bd (ldc s x7) fun x8 => S.bd (bin .add x8 (Go.Value.int Go.IntKind.i64 1)) fun x9 => S.bd (nck a0) fun x10 => S.bd (fld 15 x10) fun x11 => S.bd (stv s 1 x11 x9) fun s12 => S.bd (nck a0) fun x13 => S.bd (fld 0 x13) fun x14 => S.bd (fld 0 x14) fun x15 => S.bd (ldc s12 x15) fun x16 => S.bd (nck a0) fun x17 => S.bd (fld 0 x17) fun x18 => S.bd (fld 1 x18) fun x19 => S.bd (lda s12 5 x19) fun x20 => S.bd (nck a0) fun x21 => S.bd (fld 0 x21) fun x22 => S.bd (lda s12 8 x22) fun x23 => S.bd (read_target.r x23 s12) fun x24 => S.bd (bld [(Go.Value.int Go.IntKind.i64 0), (Go.Value.int Go.IntKind.i64 0), (Go.Value.int Go.IntKind.i64 0), (Go.Value.int Go.IntKind.u64 0), (Go.Value.int Go.IntKind.i64 0), (Go.Value.int Go.IntKind.u64 0), (Go.Value.int Go.IntKind.i64 0), (Go.Value.int Go.IntKind.u64 0)] [(0, 1, x16), (1, 5, x20), (6, 2, x24)]) fun x25 => S.bd (seek_New.v x25 s12) fun r26 => S.bd (ldc r26.2 x15) fun x27 => S.cnd (Value.bool (sameV x27 x16)) (S.bd (lda r26.2 5 x19) fun x28 => S.cnd (Value.bool (sameV x28 x20)) (S.bd (xtr 0 r26.1) fun x29 => S.bd (xtr 1 r26.1) fun x30 => S.bd (nck a0) fun x31 => S.bd (fld 9 x31) fun x32 => S.bd (stv r26.2 1 x32 x29) fun s33 => S.bd (nck a0) fun x34 => S.bd (fld 8 x34) fun x35 => S.bd (stv s33 1 x35 (Go.Value.int Go.IntKind.i64 1)) fun s36 => some ((Value.tuple ⟨[]⟩), s36)) (none)) (none))
def read_Read_again.v (a0 : Value) (s : St) : Option (Value × St) := read_Read_again.t std a0 s
def read_Read_again.w : List Value → St → Option (Value × St)
  | [a0], s => read_Read_again.v a0 s
  | _, _ => none
def read_Read_again.an : An := ⟨42, false, [], [], [], [(3, [(0, 0, [], []), (1, 0, [], []), (2, 0, [], []), (3, 0, [], []), (4, 0, [], []), (5, 2, [], []), (6, 0, [], []), (7, 0, [], []), (8, 0, [], []), (9, 0, [], []), (10, 2, [], []), (11, 0, [], []), (12, 0, [], []), (13, 0, [], []), (14, 2, [], []), (15, 3, [], []), (16, 0, [], []), (17, 4, [5, 10], []), (18, 0, [], []), (19, 0, [], []), (20, 0, [], []), (21, 0, [], []), (22, 0, [], []), (23, 4, [], [])])]⟩
theorem read_Read_again.ok (S : Sig) (a0 : Value) (s : St) : evF S Tryz.prog read_Read_again.ctx read_Read_again.an Tryz.f27 [a0] s = read_Read_again.t S a0 s := by kernel_rfl
theorem read_Read_again.cok : CtxOk Tryz.prog read_Read_again.ctx := .cons read_Read_fail.sound read_Read_fail.can <| .cons read_target.sound read_target.can <| .cons seek_New.sound seek_New.can <| .nil
theorem read_Read_again.draws : fnDraws read_Read_again.an Tryz.f27 = true := by kernel_rfl
theorem read_Read_again.can : callOk Tryz.prog 27 = true := by kernel_rfl
theorem read_Read_again.sound : FnOk Tryz.prog 27 (.st read_Read_again.w) := FnOk.st_of (evF_ok read_Read_again.cok mixed (f := 27) (fn := Tryz.f27) (by kernel_rfl) read_Read_again.draws) fun args s r h => by
  unfold read_Read_again.w at h; split at h
  · rw [read_Read_again.ok std]; exact h
  · simp at h

/-! ### (*leapfrog/read.Read).Wake: function 12 -/
def read_Read_Wake.ctx : Ctx := [(27, .st read_Read_again.w)]
def read_Read_Wake.t (S : Sig) (a0 : Value) (s : St) : Option (Value × St) :=
  S.bd (eqb [3] false true a0 (Go.Value.pointer Option.none)) fun x1 => S.bd (S.gd x1 true (some a0)) fun x2 => S.bd (S.gd x1 true (nck x2)) fun x3 => S.bd (S.gd x1 true (fld 8 x3)) fun x4 => S.bd (S.gd x1 true (ldc s x4)) fun x5 => S.bd (S.gd x1 true (eqb [1] false false x5 (Go.Value.int Go.IntKind.i64 3))) fun x6 => S.bd (pik x1 x6 (Go.Value.bool Bool.false)) fun x7 => S.cnd x7 (S.bd (read_Read_again.v a0 s) fun r8 => some ((Value.tuple ⟨[]⟩), r8.2)) (some ((Value.tuple ⟨[]⟩), s))
def read_Read_Wake.v (a0 : Value) (s : St) : Option (Value × St) := read_Read_Wake.t std a0 s
def read_Read_Wake.w : List Value → St → Option (Value × St)
  | [a0], s => read_Read_Wake.v a0 s
  | _, _ => none
def read_Read_Wake.an : An := ⟨13, false, [], [], [], []⟩
theorem read_Read_Wake.ok (S : Sig) (a0 : Value) (s : St) : evF S Tryz.prog read_Read_Wake.ctx read_Read_Wake.an Tryz.f12 [a0] s = read_Read_Wake.t S a0 s := by kernel_rfl
theorem read_Read_Wake.cok : CtxOk Tryz.prog read_Read_Wake.ctx := .cons read_Read_again.sound read_Read_again.can <| .nil
theorem read_Read_Wake.draws : fnDraws read_Read_Wake.an Tryz.f12 = true := by kernel_rfl
theorem read_Read_Wake.can : callOk Tryz.prog 12 = true := by kernel_rfl
theorem read_Read_Wake.sound : FnOk Tryz.prog 12 (.st read_Read_Wake.w) := FnOk.st_of (evF_ok read_Read_Wake.cok mixed (f := 12) (fn := Tryz.f12) (by kernel_rfl) read_Read_Wake.draws) fun args s r h => by
  unfold read_Read_Wake.w at h; split at h
  · rw [read_Read_Wake.ok std]; exact h
  · simp at h

/-! ### (*leapfrog/leapfrogref17.Read).over: function 45 -/
def leapfrogref17x_Read_over.ctx : Ctx := []
def leapfrogref17x_Read_over.t (S : Sig) (a0 a1 : Value) (s : St) : Option (Value × St) :=
  S.bd (bld [(Go.Value.int Go.IntKind.i64 0), (Go.Value.int Go.IntKind.u64 0), (Go.Value.slice Option.none 0 0), (Go.Value.slice Option.none 0 0), (Go.Value.int Go.IntKind.i64 0), (Go.Value.int Go.IntKind.i64 0), (Go.Value.int Go.IntKind.u64 0), (Go.Value.int Go.IntKind.i64 0), (Go.Value.int Go.IntKind.u64 0), (Go.Value.int Go.IntKind.i64 0), (Go.Value.int Go.IntKind.i64 0), (Go.Value.int Go.IntKind.u64 0), (Go.Value.int Go.IntKind.i64 0), (Go.Value.int Go.IntKind.u64 0), (Go.Value.bool Bool.false)] [(0, 1, a1)]) fun x1 => S.bd (nck a0) fun x2 => S.bd (fld 8 x2) fun x3 => S.bd (stv s 1 x3 (Go.Value.int Go.IntKind.i64 4)) fun s4 => S.bd (nck a0) fun x5 => S.bd (fld 16 x5) fun x6 => S.bd (stv s4 15 x6 x1) fun s7 => some ((Value.tuple ⟨[]⟩), s7)
def leapfrogref17x_Read_over.v (a0 a1 : Value) (s : St) : Option (Value × St) := leapfrogref17x_Read_over.t std a0 a1 s
def leapfrogref17x_Read_over.w : List Value → St → Option (Value × St)
  | [a0, a1], s => leapfrogref17x_Read_over.v a0 a1 s
  | _, _ => none
def leapfrogref17x_Read_over.an : An := ⟨12, false, [], [], [], []⟩
theorem leapfrogref17x_Read_over.ok (S : Sig) (a0 a1 : Value) (s : St) : evF S Tryz.prog leapfrogref17x_Read_over.ctx leapfrogref17x_Read_over.an Tryz.f45 [a0, a1] s = leapfrogref17x_Read_over.t S a0 a1 s := by kernel_rfl
theorem leapfrogref17x_Read_over.cok : CtxOk Tryz.prog leapfrogref17x_Read_over.ctx := .nil
theorem leapfrogref17x_Read_over.draws : fnDraws leapfrogref17x_Read_over.an Tryz.f45 = true := by kernel_rfl
theorem leapfrogref17x_Read_over.can : callOk Tryz.prog 45 = true := by kernel_rfl
theorem leapfrogref17x_Read_over.sound : FnOk Tryz.prog 45 (.st leapfrogref17x_Read_over.w) := FnOk.st_of (evF_ok leapfrogref17x_Read_over.cok mixed (f := 45) (fn := Tryz.f45) (by kernel_rfl) leapfrogref17x_Read_over.draws) fun args s r h => by
  unfold leapfrogref17x_Read_over.w at h; split at h
  · rw [leapfrogref17x_Read_over.ok std]; exact h
  · simp at h

/-! ### (*leapfrog/leapfrogref17.Read).again: function 28 -/
def leapfrogref17x_Read_again.ctx : Ctx := [(45, .st leapfrogref17x_Read_over.w), (20, .rd leapfrogref17x_Read_key.w), (19, .st leapfrogref12x_New.w)]
def leapfrogref17x_Read_again.t (S : Sig) (a0 : Value) (s : St) : Option (Value × St) :=
  S.bd (nck a0) fun x1 => S.bd (fld 9 x1) fun x2 => S.bd (ldc s x2) fun x3 => S.bd (bin .geq x3 (Go.Value.int Go.IntKind.i64 64)) fun x4 => S.cnd x4 (S.bd (leapfrogref17x_Read_over.v a0 (Go.Value.int Go.IntKind.i64 121) s) fun r5 => some ((Value.tuple ⟨[]⟩), r5.2)) (S.bd (nck a0) fun x6 => S.bd (fld 9 x6) fun x7 => S.bd (ldc s x7) fun x8 => S.bd (bin .add x8 (Go.Value.int Go.IntKind.i64 1)) fun x9 => S.bd (nck a0) fun x10 => S.bd (fld 9 x10) fun x11 => S.bd (stv s 1 x11 x9) fun s12 => S.bd (nck a0) fun x13 => S.bd (fld 0 x13) fun x14 => S.bd (fld 0 x14) fun x15 => S.bd (ldc s12 x15) fun x16 => S.bd (nck a0) fun x17 => S.bd (fld 0 x17) fun x18 => S.bd (fld 1 x18) fun x19 => S.bd (lda s12 5 x19) fun x20 => S.bd (leapfrogref17x_Read_key.r a0 s12) fun x21 => S.bd (bld [(Go.Value.int Go.IntKind.i64 0), (Go.Value.int Go.IntKind.i64 0), (Go.Value.int Go.IntKind.i64 0), (Go.Value.int Go.IntKind.u64 0), (Go.Value.int Go.IntKind.i64 0), (Go.Value.int Go.IntKind.u64 0), (Go.Value.int Go.IntKind.i64 0), (Go.Value.int Go.IntKind.u64 0)] [(0, 1, x16), (1, 5, x20), (6, 2, x21)]) fun x22 => S.bd (leapfrogref12x_New.v x22 s12) fun r23 => S.bd (ldc r23.2 x15) fun x24 => S.cnd (Value.bool (sameV x24 x16)) (S.bd (lda r23.2 5 x19) fun x25 => S.cnd (Value.bool (sameV x25 x20)) (S.bd (xtr 0 r23.1) fun x26 => S.bd (xtr 1 r23.1) fun x27 => S.bd (nck a0) fun x28 => S.bd (fld 10 x28) fun x29 => S.bd (stv r23.2 1 x29 x26) fun s30 => S.bd (nck a0) fun x31 => S.bd (fld 8 x31) fun x32 => S.bd (stv s30 1 x32 (Go.Value.int Go.IntKind.i64 1)) fun s33 => some ((Value.tuple ⟨[]⟩), s33)) (none)) (none))
def leapfrogref17x_Read_again.v (a0 : Value) (s : St) : Option (Value × St) := leapfrogref17x_Read_again.t std a0 s
def leapfrogref17x_Read_again.w : List Value → St → Option (Value × St)
  | [a0], s => leapfrogref17x_Read_again.v a0 s
  | _, _ => none
def leapfrogref17x_Read_again.an : An := ⟨39, false, [], [], [], [(3, [(0, 0, [], []), (1, 0, [], []), (2, 0, [], []), (3, 0, [], []), (4, 0, [], []), (5, 2, [], []), (6, 0, [], []), (7, 0, [], []), (8, 0, [], []), (9, 0, [], []), (10, 2, [], []), (11, 0, [], []), (12, 3, [], []), (13, 0, [], []), (14, 4, [5, 10], []), (15, 0, [], []), (16, 0, [], []), (17, 0, [], []), (18, 0, [], []), (19, 0, [], []), (20, 4, [], [])])]⟩
theorem leapfrogref17x_Read_again.ok (S : Sig) (a0 : Value) (s : St) : evF S Tryz.prog leapfrogref17x_Read_again.ctx leapfrogref17x_Read_again.an Tryz.f28 [a0] s = leapfrogref17x_Read_again.t S a0 s := by kernel_rfl
theorem leapfrogref17x_Read_again.cok : CtxOk Tryz.prog leapfrogref17x_Read_again.ctx := .cons leapfrogref17x_Read_over.sound leapfrogref17x_Read_over.can <| .cons leapfrogref17x_Read_key.sound leapfrogref17x_Read_key.can <| .cons leapfrogref12x_New.sound leapfrogref12x_New.can <| .nil
theorem leapfrogref17x_Read_again.draws : fnDraws leapfrogref17x_Read_again.an Tryz.f28 = true := by kernel_rfl
theorem leapfrogref17x_Read_again.can : callOk Tryz.prog 28 = true := by kernel_rfl
theorem leapfrogref17x_Read_again.sound : FnOk Tryz.prog 28 (.st leapfrogref17x_Read_again.w) := FnOk.st_of (evF_ok leapfrogref17x_Read_again.cok mixed (f := 28) (fn := Tryz.f28) (by kernel_rfl) leapfrogref17x_Read_again.draws) fun args s r h => by
  unfold leapfrogref17x_Read_again.w at h; split at h
  · rw [leapfrogref17x_Read_again.ok std]; exact h
  · simp at h

/-! ### (*leapfrog/leapfrogref17.Read).Wake: function 13 -/
def leapfrogref17x_Read_Wake.ctx : Ctx := [(28, .st leapfrogref17x_Read_again.w)]
def leapfrogref17x_Read_Wake.t (S : Sig) (a0 : Value) (s : St) : Option (Value × St) :=
  S.bd (nck a0) fun x1 => S.bd (fld 8 x1) fun x2 => S.bd (ldc s x2) fun x3 => S.bd (eqb [1] false false x3 (Go.Value.int Go.IntKind.i64 3)) fun x4 => S.cnd x4 (S.bd (leapfrogref17x_Read_again.v a0 s) fun r5 => some ((Value.tuple ⟨[]⟩), r5.2)) (some ((Value.tuple ⟨[]⟩), s))
def leapfrogref17x_Read_Wake.v (a0 : Value) (s : St) : Option (Value × St) := leapfrogref17x_Read_Wake.t std a0 s
def leapfrogref17x_Read_Wake.w : List Value → St → Option (Value × St)
  | [a0], s => leapfrogref17x_Read_Wake.v a0 s
  | _, _ => none
def leapfrogref17x_Read_Wake.an : An := ⟨9, false, [], [], [], []⟩
theorem leapfrogref17x_Read_Wake.ok (S : Sig) (a0 : Value) (s : St) : evF S Tryz.prog leapfrogref17x_Read_Wake.ctx leapfrogref17x_Read_Wake.an Tryz.f13 [a0] s = leapfrogref17x_Read_Wake.t S a0 s := by kernel_rfl
theorem leapfrogref17x_Read_Wake.cok : CtxOk Tryz.prog leapfrogref17x_Read_Wake.ctx := .cons leapfrogref17x_Read_again.sound leapfrogref17x_Read_again.can <| .nil
theorem leapfrogref17x_Read_Wake.draws : fnDraws leapfrogref17x_Read_Wake.an Tryz.f13 = true := by kernel_rfl
theorem leapfrogref17x_Read_Wake.can : callOk Tryz.prog 13 = true := by kernel_rfl
theorem leapfrogref17x_Read_Wake.sound : FnOk Tryz.prog 13 (.st leapfrogref17x_Read_Wake.w) := FnOk.st_of (evF_ok leapfrogref17x_Read_Wake.cok mixed (f := 13) (fn := Tryz.f13) (by kernel_rfl) leapfrogref17x_Read_Wake.draws) fun args s r h => by
  unfold leapfrogref17x_Read_Wake.w at h; split at h
  · rw [leapfrogref17x_Read_Wake.ok std]; exact h
  · simp at h

/-! ### leapfrog/leapfrogref02.Compare: function 69 -/
def leapfrogref02x_Compare.ctx : Ctx := []
def leapfrogref02x_Compare.t (S : Sig) (a0 a1 : Value) (s : St) : Option Value :=
  S.bd (bx a0) fun c1 => S.bd (bx a1) fun c2 => S.bd (lcl c1 0) fun x3 => S.bd (lcl c2 0) fun x4 => S.bd (bin .lss x3 x4) fun x5 => S.bd (S.gd x5 false (lcl c1 0)) fun x6 => S.bd (S.gd x5 false (lcl c2 0)) fun x7 => S.bd (S.gd x5 false (eqb [1] false false x6 x7)) fun x8 => S.bd (S.gd x5 false (some x8)) fun x9 => S.bd (S.gd x9 true (lcl c1 1)) fun x10 => S.bd (S.gd x9 true (lcl c2 1)) fun x11 => S.bd (S.gd x9 true (bin .lss x10 x11)) fun x12 => S.bd (S.gd x5 false (pik x9 x12 (Go.Value.bool Bool.false))) fun x13 => S.bd (pik x5 (Go.Value.bool Bool.true) x13) fun x14 => S.cnd x14 (some ((Go.Value.int Go.IntKind.i64 (-1)))) (S.bd (lal c1 0 2) fun x15 => S.bd (lal c2 0 2) fun x16 => S.bd (eqb [1, 1] true false x15 x16) fun x17 => S.cnd x17 (some ((Go.Value.int Go.IntKind.i64 0))) (some ((Go.Value.int Go.IntKind.i64 1))))
def leapfrogref02x_Compare.r (a0 a1 : Value) (s : St) : Option Value := leapfrogref02x_Compare.t std a0 a1 s
def leapfrogref02x_Compare.w : List Value → St → Option Value
  | [a0, a1], s => leapfrogref02x_Compare.r a0 a1 s
  | _, _ => none
def leapfrogref02x_Compare.an : An := ⟨29, true, [2, 3], [], [], []⟩
theorem leapfrogref02x_Compare.ok (S : Sig) (a0 a1 : Value) (s : St) : evG S Tryz.prog leapfrogref02x_Compare.ctx leapfrogref02x_Compare.an Tryz.f69 [a0, a1] s = leapfrogref02x_Compare.t S a0 a1 s := by kernel_rfl
theorem leapfrogref02x_Compare.cok : CtxOk Tryz.prog leapfrogref02x_Compare.ctx := .nil
theorem leapfrogref02x_Compare.draws : fnDraws leapfrogref02x_Compare.an Tryz.f69 = true := by kernel_rfl
theorem leapfrogref02x_Compare.can : callOk Tryz.prog 69 = true := by kernel_rfl
theorem leapfrogref02x_Compare.sound : FnOk Tryz.prog 69 (.rd leapfrogref02x_Compare.w) := FnOk.rd_of (evG_ok leapfrogref02x_Compare.cok mixed (f := 69) (fn := Tryz.f69) (by kernel_rfl) leapfrogref02x_Compare.draws) fun args s r h => by
  unfold leapfrogref02x_Compare.w at h; split at h
  · rw [leapfrogref02x_Compare.ok std]; exact h
  · simp at h

/-! ### leapfrog/leapfrogref02.Less: function 52 -/
def leapfrogref02x_Less.ctx : Ctx := [(69, .rd leapfrogref02x_Compare.w)]
def leapfrogref02x_Less.t (S : Sig) (a0 a1 : Value) (s : St) : Option Value :=
  S.bd (bx a0) fun c1 => S.bd (bx a1) fun c2 => S.bd (lal c1 0 2) fun x3 => S.bd (lal c2 0 2) fun x4 => S.bd (leapfrogref02x_Compare.r x3 x4 s) fun x5 => S.bd (bin .lss x5 (Go.Value.int Go.IntKind.i64 0)) fun x6 => some (x6)
def leapfrogref02x_Less.r (a0 a1 : Value) (s : St) : Option Value := leapfrogref02x_Less.t std a0 a1 s
def leapfrogref02x_Less.w : List Value → St → Option Value
  | [a0, a1], s => leapfrogref02x_Less.r a0 a1 s
  | _, _ => none
def leapfrogref02x_Less.an : An := ⟨9, true, [2, 3], [], [], []⟩
theorem leapfrogref02x_Less.ok (S : Sig) (a0 a1 : Value) (s : St) : evG S Tryz.prog leapfrogref02x_Less.ctx leapfrogref02x_Less.an Tryz.f52 [a0, a1] s = leapfrogref02x_Less.t S a0 a1 s := by kernel_rfl
theorem leapfrogref02x_Less.cok : CtxOk Tryz.prog leapfrogref02x_Less.ctx := .cons leapfrogref02x_Compare.sound leapfrogref02x_Compare.can <| .nil
theorem leapfrogref02x_Less.draws : fnDraws leapfrogref02x_Less.an Tryz.f52 = true := by kernel_rfl
theorem leapfrogref02x_Less.can : callOk Tryz.prog 52 = true := by kernel_rfl
theorem leapfrogref02x_Less.sound : FnOk Tryz.prog 52 (.rd leapfrogref02x_Less.w) := FnOk.rd_of (evG_ok leapfrogref02x_Less.cok mixed (f := 52) (fn := Tryz.f52) (by kernel_rfl) leapfrogref02x_Less.draws) fun args s r h => by
  unfold leapfrogref02x_Less.w at h; split at h
  · rw [leapfrogref02x_Less.ok std]; exact h
  · simp at h

/-! ### (*leapfrog/leapfrogref12.Seek).end: function 72 -/
def leapfrogref12x_Seek_end.ctx : Ctx := []
def leapfrogref12x_Seek_end.t (S : Sig) (a0 a1 : Value) (s : St) : Option (Value × St) :=
  S.bd (bx a1) fun c1 => S.bd (lal c1 0 15) fun x2 => S.bd (nck a0) fun x3 => S.bd (fld 23 x3) fun x4 => S.bd (stv s 1 x4 (Go.Value.bool Bool.true)) fun s5 => S.bd (nck a0) fun x6 => S.bd (fld 24 x6) fun x7 => S.bd (stv s5 15 x7 x2) fun s8 => some ((Value.tuple ⟨[]⟩), s8)
def leapfrogref12x_Seek_end.v (a0 a1 : Value) (s : St) : Option (Value × St) := leapfrogref12x_Seek_end.t std a0 a1 s
def leapfrogref12x_Seek_end.w : List Value → St → Option (Value × St)
  | [a0, a1], s => leapfrogref12x_Seek_end.v a0 a1 s
  | _, _ => none
def leapfrogref12x_Seek_end.an : An := ⟨11, false, [3], [], [], [(1, [(0, 0, [], []), (1, 0, [], []), (2, 25, [], []), (3, 0, [], []), (4, 0, [], []), (5, 4, [], []), (6, 0, [], []), (7, 0, [], []), (8, 4, [], [])])]⟩
theorem leapfrogref12x_Seek_end.ok (S : Sig) (a0 a1 : Value) (s : St) : evF S Tryz.prog leapfrogref12x_Seek_end.ctx leapfrogref12x_Seek_end.an Tryz.f72 [a0, a1] s = leapfrogref12x_Seek_end.t S a0 a1 s := by kernel_rfl
theorem leapfrogref12x_Seek_end.cok : CtxOk Tryz.prog leapfrogref12x_Seek_end.ctx := .nil
theorem leapfrogref12x_Seek_end.draws : fnDraws leapfrogref12x_Seek_end.an Tryz.f72 = true := by kernel_rfl
theorem leapfrogref12x_Seek_end.can : callOk Tryz.prog 72 = true := by kernel_rfl
theorem leapfrogref12x_Seek_end.sound : FnOk Tryz.prog 72 (.st leapfrogref12x_Seek_end.w) := FnOk.st_of (evF_ok leapfrogref12x_Seek_end.cok mixed (f := 72) (fn := Tryz.f72) (by kernel_rfl) leapfrogref12x_Seek_end.draws) fun args s r h => by
  unfold leapfrogref12x_Seek_end.w at h; split at h
  · rw [leapfrogref12x_Seek_end.ok std]; exact h
  · simp at h

/-! ### (*leapfrog/leapfrogref12.Seek).counts: function 68 -/
def leapfrogref12x_Seek_counts.ctx : Ctx := [(72, .st leapfrogref12x_Seek_end.w)]
def leapfrogref12x_Seek_counts.t (S : Sig) (a0 : Value) (s : St) : Option (Value × St) :=
  S.bd (nck a0) fun x1 => S.bd (fld 22 x1) fun x2 => S.bd (ldc s x2) fun x3 => S.bd (bin .geq x3 (Go.Value.int Go.IntKind.i64 64)) fun x4 => S.cnd x4 (S.bd (bld [(Go.Value.int Go.IntKind.i64 0), (Go.Value.int Go.IntKind.u64 0), (Go.Value.slice Option.none 0 0), (Go.Value.slice Option.none 0 0), (Go.Value.int Go.IntKind.i64 0), (Go.Value.int Go.IntKind.i64 0), (Go.Value.int Go.IntKind.u64 0), (Go.Value.int Go.IntKind.i64 0), (Go.Value.int Go.IntKind.u64 0), (Go.Value.int Go.IntKind.i64 0), (Go.Value.int Go.IntKind.i64 0), (Go.Value.int Go.IntKind.u64 0), (Go.Value.int Go.IntKind.i64 0), (Go.Value.int Go.IntKind.u64 0), (Go.Value.bool Bool.false)] [(0, 1, (Go.Value.int Go.IntKind.i64 121))]) fun x5 => S.bd (leapfrogref12x_Seek_end.v a0 x5 s) fun r6 => some ((Go.Value.bool Bool.false), r6.2)) (S.bd (nck a0) fun x7 => S.bd (fld 22 x7) fun x8 => S.bd (ldc s x8) fun x9 => S.bd (bin .add x9 (Go.Value.int Go.IntKind.i64 1)) fun x10 => S.bd (nck a0) fun x11 => S.bd (fld 22 x11) fun x12 => S.bd (stv s 1 x12 x10) fun s13 => some ((Go.Value.bool Bool.true), s13))
def leapfrogref12x_Seek_counts.v (a0 : Value) (s : St) : Option (Value × St) := leapfrogref12x_Seek_counts.t std a0 s
def leapfrogref12x_Seek_counts.w : List Value → St → Option (Value × St)
  | [a0], s => leapfrogref12x_Seek_counts.v a0 s
  | _, _ => none
def leapfrogref12x_Seek_counts.an : An := ⟨18, false, [], [], [], []⟩
theorem leapfrogref12x_Seek_counts.ok (S : Sig) (a0 : Value) (s : St) : evF S Tryz.prog leapfrogref12x_Seek_counts.ctx leapfrogref12x_Seek_counts.an Tryz.f68 [a0] s = leapfrogref12x_Seek_counts.t S a0 s := by kernel_rfl
theorem leapfrogref12x_Seek_counts.cok : CtxOk Tryz.prog leapfrogref12x_Seek_counts.ctx := .cons leapfrogref12x_Seek_end.sound leapfrogref12x_Seek_end.can <| .nil
theorem leapfrogref12x_Seek_counts.draws : fnDraws leapfrogref12x_Seek_counts.an Tryz.f68 = true := by kernel_rfl
theorem leapfrogref12x_Seek_counts.can : callOk Tryz.prog 68 = true := by kernel_rfl
theorem leapfrogref12x_Seek_counts.sound : FnOk Tryz.prog 68 (.st leapfrogref12x_Seek_counts.w) := FnOk.st_of (evF_ok leapfrogref12x_Seek_counts.cok mixed (f := 68) (fn := Tryz.f68) (by kernel_rfl) leapfrogref12x_Seek_counts.draws) fun args s r h => by
  unfold leapfrogref12x_Seek_counts.w at h; split at h
  · rw [leapfrogref12x_Seek_counts.ok std]; exact h
  · simp at h

/-! ### (*leapfrog/leapfrogref12.Seek).again: function 55 -/
def leapfrogref12x_Seek_again.ctx : Ctx := [(68, .st leapfrogref12x_Seek_counts.w), (22, .rd leapfrogref12x_Head.w)]
def leapfrogref12x_Seek_again.t (S : Sig) (a0 : Value) (s : St) : Option (Value × St) :=
  S.bd (leapfrogref12x_Seek_counts.v a0 s) fun r1 => S.cnd r1.1 (S.bd (nck a0) fun x2 => S.bd (fld 0 x2) fun x3 => S.bd (fld 0 x3) fun x4 => S.bd (ldc r1.2 x4) fun x5 => S.bd (nck a0) fun x6 => S.bd (fld 0 x6) fun x7 => S.bd (fld 0 x7) fun x8 => S.bd (ldc r1.2 x8) fun x9 => S.bd (bld [(Go.Value.int Go.IntKind.i64 0), (Go.Value.int Go.IntKind.u64 0)] [(0, 1, x9)]) fun x10 => S.bd (leapfrogref12x_Head.r x5 r1.2) fun x11 => S.bd (nck a0) fun x12 => S.bd (fld 8 x12) fun x13 => S.bd (stv r1.2 5 x13 x11) fun s14 => S.bd (nck a0) fun x15 => S.bd (fld 13 x15) fun x16 => S.bd (stv s14 2 x16 x10) fun s17 => S.bd (nck a0) fun x18 => S.bd (fld 15 x18) fun x19 => S.bd (stv s17 1 x19 (Go.Value.bool Bool.false)) fun s20 => some ((Value.tuple ⟨[]⟩), s20)) (some ((Value.tuple ⟨[]⟩), r1.2))
def leapfrogref12x_Seek_again.v (a0 : Value) (s : St) : Option (Value × St) := leapfrogref12x_Seek_again.t std a0 s
def leapfrogref12x_Seek_again.w : List Value → St → Option (Value × St)
  | [a0], s => leapfrogref12x_Seek_again.v a0 s
  | _, _ => none
def leapfrogref12x_Seek_again.an : An := ⟨25, false, [], [], [], [(1, [(0, 0, [], []), (1, 0, [], []), (2, 0, [], []), (3, 0, [], []), (4, 0, [], []), (5, 0, [], []), (6, 0, [], []), (7, 2, [], []), (9, 0, [], []), (10, 0, [], []), (11, 0, [], []), (12, 0, [], []), (13, 2, [], []), (14, 0, [], []), (8, 3, [], []), (15, 0, [], []), (16, 0, [], []), (17, 4, [], []), (18, 0, [], []), (19, 0, [], []), (20, 4, [], []), (21, 0, [], []), (22, 0, [], []), (23, 4, [], [])])]⟩
theorem leapfrogref12x_Seek_again.ok (S : Sig) (a0 : Value) (s : St) : evF S Tryz.prog leapfrogref12x_Seek_again.ctx leapfrogref12x_Seek_again.an Tryz.f55 [a0] s = leapfrogref12x_Seek_again.t S a0 s := by kernel_rfl
theorem leapfrogref12x_Seek_again.cok : CtxOk Tryz.prog leapfrogref12x_Seek_again.ctx := .cons leapfrogref12x_Seek_counts.sound leapfrogref12x_Seek_counts.can <| .cons leapfrogref12x_Head.sound leapfrogref12x_Head.can <| .nil
theorem leapfrogref12x_Seek_again.draws : fnDraws leapfrogref12x_Seek_again.an Tryz.f55 = true := by kernel_rfl
theorem leapfrogref12x_Seek_again.can : callOk Tryz.prog 55 = true := by kernel_rfl
theorem leapfrogref12x_Seek_again.sound : FnOk Tryz.prog 55 (.st leapfrogref12x_Seek_again.w) := FnOk.st_of (evF_ok leapfrogref12x_Seek_again.cok mixed (f := 55) (fn := Tryz.f55) (by kernel_rfl) leapfrogref12x_Seek_again.draws) fun args s r h => by
  unfold leapfrogref12x_Seek_again.w at h; split at h
  · rw [leapfrogref12x_Seek_again.ok std]; exact h
  · simp at h

/-! ### (*leapfrog/leapfrogref12.Seek).known: function 70 -/
def leapfrogref12x_Seek_known.ctx : Ctx := []
def leapfrogref12x_Seek_known.l2 (S : Sig) (rec32 : List Value → St → Option Cut) (xs30 : List Value) (s31 : St) : Option Cut :=
  S.bd (nck (xs30.getD 0 undef)) fun x33 => S.bd (fld 21 x33) fun x34 => S.bd (ldc s31 x34) fun x35 => S.bd (lenL x35) fun x36 => S.bd (bin .lss (xs30.getD 1 undef) x36) fun x37 => S.cnd x37 (S.bd (nck (xs30.getD 0 undef)) fun x38 => S.bd (fld 21 x38) fun x39 => S.bd (ldc s31 x39) fun x40 => S.bd (idx s31 13 x40 (xs30.getD 1 undef)) fun x41 => S.bd (fld 0 x41) fun x42 => S.bd (ldc s31 x42) fun x43 => S.bd (lcl (cellsA (xs30.getD 2 undef)) 0) fun x44 => S.bd (eqb [1] false false x43 x44) fun x45 => S.bd (S.gd x45 true (some (xs30.getD 0 undef))) fun x46 => S.bd (S.gd x45 true (nck x46)) fun x47 => S.bd (S.gd x45 true (fld 21 x47)) fun x48 => S.bd (S.gd x45 true (ldc s31 x48)) fun x49 => S.bd (S.gd x45 true (some (xs30.getD 1 undef))) fun x50 => S.bd (S.gd x45 true (idx s31 13 x49 x50)) fun x51 => S.bd (S.gd x45 true (fld 1 x51)) fun x52 => S.bd (S.gd x45 true (lda s31 2 x52)) fun x53 => S.bd (S.gd x45 true (some (xs30.getD 0 undef))) fun x54 => S.bd (S.gd x45 true (nck x54)) fun x55 => S.bd (S.gd x45 true (fld 13 x55)) fun x56 => S.bd (S.gd x45 true (lda s31 2 x56)) fun x57 => S.bd (S.gd x45 true (eqb [1, 1] true false x53 x57)) fun x58 => S.bd (pik x45 x58 (Go.Value.bool Bool.false)) fun x59 => S.cnd x59 (some (1, [(xs30.getD 1 undef)], s31)) (S.bd (bin .add (xs30.getD 1 undef) (Go.Value.int Go.IntKind.i64 1)) fun x60 => rec32 [(xs30.getD 0 undef), x60, (Value.agg ⟨(cellsA (xs30.getD 2 undef))⟩)] s31)) (some (0, [], s31))

def leapfrogref12x_Seek_known.t (S : Sig) (a0 a1 : Value) (s : St) : Option Value :=
  S.bd (bx a1) fun c1 => S.bd (S.it (leapfrogref12x_Seek_known.l2 S) [a0, (Go.Value.int Go.IntKind.i64 0), (Value.agg ⟨c1⟩)] s) fun r61 => if r61.1 = 0 then (some ((Go.Value.int Go.IntKind.i64 (-1)))) else (some ((r61.2.1.getD 0 undef)))
def leapfrogref12x_Seek_known.r (a0 a1 : Value) (s : St) : Option Value := leapfrogref12x_Seek_known.t std a0 a1 s
def leapfrogref12x_Seek_known.w : List Value → St → Option Value
  | [a0, a1], s => leapfrogref12x_Seek_known.r a0 a1 s
  | _, _ => none
def leapfrogref12x_Seek_known.an : An := ⟨42, true, [3], [(2, ⟨[.v 0, .p 3 3 0, .v 5, .l 3], [(.exit 0, []), (.ret, [.v 4])]⟩)], [], [(4, [(0, 0, [], []), (1, 0, [], []), (2, 0, [], []), (3, 2, [], []), (4, 0, [], []), (5, 2, [], []), (6, 0, [], []), (7, 2, [], []), (8, 0, [], []), (9, 25, [], []), (10, 0, [], []), (11, 0, [], []), (12, 0, [], []), (13, 0, [], []), (14, 0, [], []), (15, 2, [], []), (16, 0, [], []), (17, 2, [], []), (18, 0, [], []), (19, 2, [], []), (20, 0, [], []), (21, 0, [], []), (22, 0, [], []), (23, 2, [], []), (24, 0, [], []), (25, 0, [], [])])]⟩
theorem leapfrogref12x_Seek_known.ok (S : Sig) (a0 a1 : Value) (s : St) : evG S Tryz.prog leapfrogref12x_Seek_known.ctx leapfrogref12x_Seek_known.an Tryz.f70 [a0, a1] s = leapfrogref12x_Seek_known.t S a0 a1 s := by kernel_rfl
theorem leapfrogref12x_Seek_known.cok : CtxOk Tryz.prog leapfrogref12x_Seek_known.ctx := .nil
theorem leapfrogref12x_Seek_known.draws : fnDraws leapfrogref12x_Seek_known.an Tryz.f70 = true := by kernel_rfl
theorem leapfrogref12x_Seek_known.can : callOk Tryz.prog 70 = true := by kernel_rfl
theorem leapfrogref12x_Seek_known.sound : FnOk Tryz.prog 70 (.rd leapfrogref12x_Seek_known.w) := FnOk.rd_of (evG_ok leapfrogref12x_Seek_known.cok mixed (f := 70) (fn := Tryz.f70) (by kernel_rfl) leapfrogref12x_Seek_known.draws) fun args s r h => by
  unfold leapfrogref12x_Seek_known.w at h; split at h
  · rw [leapfrogref12x_Seek_known.ok std]; exact h
  · simp at h

/-! ### leapfrog/leapfrogref01.Prefix: function 71 -/
def leapfrogref01x_Prefix.ctx : Ctx := [(59, .rd leapfrogref01x_Right.w), (94, .st leapfrogref01x_Bits.w), (93, .rd leapfrogref01x_Of.w)]
def leapfrogref01x_Prefix.t (S : Sig) (a0 a1 : Value) (s : St) : Option (Value × St) :=
  S.bd (bx a0) fun c1 => S.bd (bx (Go.Value.agg #[(Go.Value.int Go.IntKind.i64 0), (Go.Value.int Go.IntKind.u64 0)])) fun c2 => S.bd (lal c1 0 2) fun x3 => S.bd (leapfrogref01x_Right.r x3 s) fun x4 => S.bd (un .not x4) fun x5 => S.cnd x5 (S.bd (bld [(Go.Value.int Go.IntKind.i64 0), (Go.Value.int Go.IntKind.u64 0)] []) fun x6 => S.bd (stl c2 0 2 x6) fun c7 => S.bd (lal c7 0 2) fun x8 => some ((Value.tuple ⟨[x8, (Go.Value.int Go.IntKind.i64 10)]⟩), s)) (S.bd (bin .lss a1 (Go.Value.int Go.IntKind.i64 0)) fun x9 => S.bd (S.gd x9 false (some a1)) fun x10 => S.bd (S.gd x9 false (lcl c1 0)) fun x11 => S.bd (S.gd x9 false (bin .gtr x10 x11)) fun x12 => S.bd (pik x9 (Go.Value.bool Bool.true) x12) fun x13 => S.cnd x13 (S.bd (bld [(Go.Value.int Go.IntKind.i64 0), (Go.Value.int Go.IntKind.u64 0)] []) fun x14 => S.bd (stl c2 0 2 x14) fun c15 => S.bd (lal c15 0 2) fun x16 => some ((Value.tuple ⟨[x16, (Go.Value.int Go.IntKind.i64 5)]⟩), s)) (S.bd (lal c1 0 2) fun x17 => S.bd (leapfrogref01x_Bits.v x17 s) fun r18 => S.bd (slc r18.2 1 r18.1 none (some a1) none) fun x19 => S.bd (leapfrogref01x_Of.r x19 r18.2) fun x20 => S.bd (stl c2 0 2 x20) fun c21 => S.bd (lal c21 0 2) fun x22 => some ((Value.tuple ⟨[x22, (Go.Value.int Go.IntKind.i64 0)]⟩), r18.2)))
def leapfrogref01x_Prefix.v (a0 a1 : Value) (s : St) : Option (Value × St) := leapfrogref01x_Prefix.t std a0 a1 s
def leapfrogref01x_Prefix.w : List Value → St → Option (Value × St)
  | [a0, a1], s => leapfrogref01x_Prefix.v a0 a1 s
  | _, _ => none
def leapfrogref01x_Prefix.an : An := ⟨24, false, [2, 4], [], [], []⟩
theorem leapfrogref01x_Prefix.ok (S : Sig) (a0 a1 : Value) (s : St) : evF S Tryz.prog leapfrogref01x_Prefix.ctx leapfrogref01x_Prefix.an Tryz.f71 [a0, a1] s = leapfrogref01x_Prefix.t S a0 a1 s := by kernel_rfl
theorem leapfrogref01x_Prefix.cok : CtxOk Tryz.prog leapfrogref01x_Prefix.ctx := .cons leapfrogref01x_Right.sound leapfrogref01x_Right.can <| .cons leapfrogref01x_Bits.sound leapfrogref01x_Bits.can <| .cons leapfrogref01x_Of.sound leapfrogref01x_Of.can <| .nil
theorem leapfrogref01x_Prefix.draws : fnDraws leapfrogref01x_Prefix.an Tryz.f71 = true := by kernel_rfl
theorem leapfrogref01x_Prefix.can : callOk Tryz.prog 71 = true := by kernel_rfl
theorem leapfrogref01x_Prefix.sound : FnOk Tryz.prog 71 (.st leapfrogref01x_Prefix.w) := FnOk.st_of (evF_ok leapfrogref01x_Prefix.cok mixed (f := 71) (fn := Tryz.f71) (by kernel_rfl) leapfrogref01x_Prefix.draws) fun args s r h => by
  unfold leapfrogref01x_Prefix.w at h; split at h
  · rw [leapfrogref01x_Prefix.ok std]; exact h
  · simp at h

/-! ### leapfrog/leapfrogref01.Prefix: function 71, as a reading -/
def leapfrogref01x_PrefixQ.r (a0 a1 : Value) (s : St) : Option Value := frzR (fun s => leapfrogref01x_Prefix.v a0 a1 s) s
def leapfrogref01x_PrefixQ.w : List Value → St → Option Value := fun args s => frzR (leapfrogref01x_Prefix.w args) s
theorem leapfrogref01x_PrefixQ.can : callOk Tryz.prog 71 = true := leapfrogref01x_Prefix.can
theorem leapfrogref01x_PrefixQ.sound : FnOk Tryz.prog 71 (.rd leapfrogref01x_PrefixQ.w) := FnOk.frozen leapfrogref01x_Prefix.sound

/-! ### (*leapfrog/leapfrogref12.Seek).right: function 53 -/
def leapfrogref12x_Seek_right.ctx : Ctx := [(38, .rd leapfrogref02x_Check.w), (52, .rd leapfrogref02x_Less.w), (55, .st leapfrogref12x_Seek_again.w), (70, .rd leapfrogref12x_Seek_known.w), (71, .rd leapfrogref01x_PrefixQ.w), (72, .st leapfrogref12x_Seek_end.w)]
def leapfrogref12x_Seek_right.l2 (S : Sig) (rec31 : List Value → St → Option Cut) (xs29 : List Value) (s30 : St) : Option Cut :=
  S.bd (lal (cellsA (xs29.getD 1 undef)) 1 2) fun x32 => S.bd (leapfrogref02x_Check.r x32 s30) fun x33 => S.bd (eqb [1] false true x33 (Go.Value.int Go.IntKind.i64 0)) fun x34 => S.bd (S.gd x34 false (lal (cellsA (xs29.getD 2 undef)) 0 2)) fun x35 => S.bd (S.gd x34 false (lal (cellsA (xs29.getD 1 undef)) 1 2)) fun x36 => S.bd (S.gd x34 false (leapfrogref02x_Less.r x35 x36 s30)) fun x37 => S.bd (S.gd x34 false (un .not x37)) fun x38 => S.bd (pik x34 (Go.Value.bool Bool.true) x38) fun x39 => S.cnd x39 (S.bd (leapfrogref12x_Seek_again.v (xs29.getD 0 undef) s30) fun r40 => some (1, [], r40.2)) (S.bd (lal (cellsA (xs29.getD 1 undef)) 0 5) fun x41 => S.bd (leapfrogref12x_Seek_known.r (xs29.getD 0 undef) x41 s30) fun x42 => S.bd (bin .lss x42 (Go.Value.int Go.IntKind.i64 0)) fun x43 => S.cnd x43 (some (0, [(xs29.getD 0 undef), (Value.agg ⟨(cellsA (xs29.getD 1 undef))⟩)], s30)) (S.bd (lal (cellsA (xs29.getD 1 undef)) 1 2) fun x44 => S.bd (nck (xs29.getD 0 undef)) fun x45 => S.bd (fld 21 x45) fun x46 => S.bd (ldc s30 x46) fun x47 => S.bd (idx s30 13 x47 x42) fun x48 => S.bd (fld 8 x48) fun x49 => S.bd (lda s30 5 x49) fun x50 => S.bd (stl (cellsA (xs29.getD 2 undef)) 0 2 x44) fun c51 => S.bd (stl (cellsA (xs29.getD 1 undef)) 0 5 x50) fun c52 => rec31 [(xs29.getD 0 undef), (Value.agg ⟨c52⟩), (Value.agg ⟨c51⟩)] s30))

def leapfrogref12x_Seek_right.t.p1 (S : Sig) (r53 : Cut) : Option (Value × St) :=
  S.bd (nck (r53.2.1.getD 0 undef)) fun x67 => S.bd (fld 13 x67) fun x68 => S.bd (fld 0 x68) fun x69 => S.bd (ldc r53.2.2 x69) fun x70 => S.bd (bin .gtr x70 (Go.Value.int Go.IntKind.i64 0)) fun x71 => S.cnd x71 (S.bd (nck (r53.2.1.getD 0 undef)) fun x72 => S.bd (fld 13 x72) fun x73 => S.bd (lda r53.2.2 2 x73) fun x74 => S.bd (nck (r53.2.1.getD 0 undef)) fun x75 => S.bd (fld 13 x75) fun x76 => S.bd (fld 0 x76) fun x77 => S.bd (ldc r53.2.2 x77) fun x78 => S.bd (bin .sub x78 (Go.Value.int Go.IntKind.i64 1)) fun x79 => S.bd (leapfrogref01x_PrefixQ.r x74 x79 r53.2.2) fun x80 => S.bd (xtr 0 x80) fun x81 => S.bd (xtr 1 x80) fun x82 => S.bd (nck (r53.2.1.getD 0 undef)) fun x83 => S.bd (fld 13 x83) fun x84 => S.bd (stv r53.2.2 2 x84 x81) fun s85 => S.bd (nck (r53.2.1.getD 0 undef)) fun x86 => S.bd (fld 15 x86) fun x87 => S.bd (stv s85 1 x87 (Go.Value.bool Bool.false)) fun s88 => some ((Value.tuple ⟨[]⟩), s88)) (S.bd (nck (r53.2.1.getD 0 undef)) fun x89 => S.bd (fld 8 x89) fun x90 => S.bd (lda r53.2.2 5 x90) fun x91 => S.bd (lal (cellsA (r53.2.1.getD 1 undef)) 0 5) fun x92 => S.bd (lal (cellsA (r53.2.1.getD 1 undef)) 1 2) fun x93 => S.bd (nck (r53.2.1.getD 0 undef)) fun x94 => S.bd (fld 0 x94) fun x95 => S.bd (fld 6 x95) fun x96 => S.bd (lda r53.2.2 2 x96) fun x97 => S.bd (eqb [1, 1] true false x93 x97) fun x98 => S.bd (bld [(Go.Value.int Go.IntKind.i64 0), (Go.Value.int Go.IntKind.u64 0), (Go.Value.slice Option.none 0 0), (Go.Value.slice Option.none 0 0), (Go.Value.int Go.IntKind.i64 0), (Go.Value.int Go.IntKind.i64 0), (Go.Value.int Go.IntKind.u64 0), (Go.Value.int Go.IntKind.i64 0), (Go.Value.int Go.IntKind.u64 0), (Go.Value.int Go.IntKind.i64 0), (Go.Value.int Go.IntKind.i64 0), (Go.Value.int Go.IntKind.u64 0), (Go.Value.int Go.IntKind.i64 0), (Go.Value.int Go.IntKind.u64 0), (Go.Value.bool Bool.false)] [(4, 5, x91), (9, 5, x92), (14, 1, x98)]) fun x99 => S.bd (leapfrogref12x_Seek_end.v (r53.2.1.getD 0 undef) x99 r53.2.2) fun r100 => S.bd (lda r100.2 5 x90) fun x101 => S.cnd (Value.bool (sameV x101 x91)) (S.bd (lda r100.2 2 x96) fun x102 => S.cnd (Value.bool (sameV x102 x97)) (some ((Value.tuple ⟨[]⟩), r100.2)) (none)) (none))

def leapfrogref12x_Seek_right.t (S : Sig) (a0 a1 : Value) (s : St) : Option (Value × St) :=
  S.bd (bx a1) fun c1 => S.bd (nck a0) fun x2 => S.bd (fld 8 x2) fun x3 => S.bd (fld 1 x3) fun x4 => S.bd (lda s 2 x4) fun x5 => S.bd (bx (Go.Value.agg #[(Go.Value.int Go.IntKind.i64 0), (Go.Value.int Go.IntKind.u64 0)])) fun c6 => S.bd (stl c6 0 2 x5) fun c7 => S.bd (S.it (leapfrogref12x_Seek_right.l2 S) [a0, (Value.agg ⟨c1⟩), (Value.agg ⟨c7⟩)] s) fun r53 => if r53.1 = 0 then (S.bd (lal (cellsA (r53.2.1.getD 1 undef)) 1 2) fun x54 => S.bd (nck (r53.2.1.getD 0 undef)) fun x55 => S.bd (fld 0 x55) fun x56 => S.bd (fld 6 x56) fun x57 => S.bd (lda r53.2.2 2 x57) fun x58 => S.bd (leapfrogref02x_Less.r x54 x58 r53.2.2) fun x59 => S.cnd x59 (S.bd (lal (cellsA (r53.2.1.getD 1 undef)) 0 5) fun x60 => S.bd (nck (r53.2.1.getD 0 undef)) fun x61 => S.bd (fld 15 x61) fun x62 => S.bd (stv r53.2.2 1 x62 (Go.Value.bool Bool.true)) fun s63 => S.bd (nck (r53.2.1.getD 0 undef)) fun x64 => S.bd (fld 16 x64) fun x65 => S.bd (stv s63 5 x65 x60) fun s66 => some ((Value.tuple ⟨[]⟩), s66)) (leapfrogref12x_Seek_right.t.p1 S r53)) else (some ((Value.tuple ⟨[]⟩), r53.2.2))
def leapfrogref12x_Seek_right.v (a0 a1 : Value) (s : St) : Option (Value × St) := leapfrogref12x_Seek_right.t std a0 a1 s
def leapfrogref12x_Seek_right.w : List Value → St → Option (Value × St)
  | [a0, a1], s => leapfrogref12x_Seek_right.v a0 a1 s
  | _, _ => none
def leapfrogref12x_Seek_right.an : An := ⟨98, false, [3, 4], [(2, ⟨[.v 0, .p 3 3 0, .p 4 4 0, .l 3, .l 4], [(.exit 0, [.v 0, .p 3 3 0, .l 3]), (.ret, [])]⟩)], [], [(6, [(0, 0, [], []), (1, 25, [], []), (2, 0, [], []), (3, 0, [], []), (4, 0, [], []), (5, 2, [], []), (6, 0, [], []), (7, 2, [], []), (8, 0, [], []), (9, 2, [], []), (10, 37, [], []), (11, 29, [], [])]), (8, [(0, 0, [], []), (1, 25, [], []), (2, 0, [], []), (3, 0, [], []), (4, 0, [], []), (5, 0, [], []), (6, 2, [], []), (7, 3, [], []), (8, 0, [], [])]), (9, [(0, 0, [], []), (1, 0, [], []), (2, 25, [], []), (3, 0, [], []), (4, 0, [], []), (5, 4, [], []), (6, 0, [], []), (7, 0, [], []), (8, 4, [], [])]), (11, [(0, 0, [], []), (1, 0, [], []), (2, 0, [], []), (3, 0, [], []), (4, 2, [], []), (5, 0, [], []), (6, 0, [], []), (7, 0, [], []), (8, 0, [], []), (9, 2, [], []), (10, 0, [], []), (11, 3, [], []), (12, 0, [], []), (13, 0, [], []), (14, 0, [], []), (15, 0, [], []), (16, 0, [], []), (17, 4, [], [])]), (7, [(0, 0, [], []), (1, 0, [], []), (2, 0, [], []), (3, 0, [], []), (4, 2, [], []), (5, 25, [], []), (6, 0, [], []), (7, 25, [], []), (8, 0, [], []), (9, 0, [], []), (10, 0, [], []), (11, 0, [], []), (12, 2, [], []), (13, 0, [], []), (14, 0, [], []), (15, 4, [4, 12], [])])]⟩
theorem leapfrogref12x_Seek_right.ok (S : Sig) (a0 a1 : Value) (s : St) : evF S Tryz.prog leapfrogref12x_Seek_right.ctx leapfrogref12x_Seek_right.an Tryz.f53 [a0, a1] s = leapfrogref12x_Seek_right.t S a0 a1 s := by kernel_rfl
theorem leapfrogref12x_Seek_right.cok : CtxOk Tryz.prog leapfrogref12x_Seek_right.ctx := .cons leapfrogref02x_Check.sound leapfrogref02x_Check.can <| .cons leapfrogref02x_Less.sound leapfrogref02x_Less.can <| .cons leapfrogref12x_Seek_again.sound leapfrogref12x_Seek_again.can <| .cons leapfrogref12x_Seek_known.sound leapfrogref12x_Seek_known.can <| .cons leapfrogref01x_PrefixQ.sound leapfrogref01x_PrefixQ.can <| .cons leapfrogref12x_Seek_end.sound leapfrogref12x_Seek_end.can <| .nil
theorem leapfrogref12x_Seek_right.draws : fnDraws leapfrogref12x_Seek_right.an Tryz.f53 = true := by kernel_rfl
theorem leapfrogref12x_Seek_right.can : callOk Tryz.prog 53 = true := by kernel_rfl
theorem leapfrogref12x_Seek_right.sound : FnOk Tryz.prog 53 (.st leapfrogref12x_Seek_right.w) := FnOk.st_of (evF_ok leapfrogref12x_Seek_right.cok mixed (f := 53) (fn := Tryz.f53) (by kernel_rfl) leapfrogref12x_Seek_right.draws) fun args s r h => by
  unfold leapfrogref12x_Seek_right.w at h; split at h
  · rw [leapfrogref12x_Seek_right.ok std]; exact h
  · simp at h

/-! ### (*leapfrog/leapfrogref12.Seek).keep: function 54 -/
def leapfrogref12x_Seek_keep.ctx : Ctx := [(70, .rd leapfrogref12x_Seek_known.w)]
def leapfrogref12x_Seek_keep.t.p1 (S : Sig) (c2 : List Value) (x5 : Value) (x8 : Value) (x9 : Value) (x4 : Value) (a0 : Value) (s : St) : Option (Value × St) :=
  S.bd (lal c2 7 5) fun x10 => S.bd (bld [(Go.Value.int Go.IntKind.i64 0), (Go.Value.int Go.IntKind.i64 0), (Go.Value.int Go.IntKind.u64 0), (Go.Value.int Go.IntKind.i64 0), (Go.Value.int Go.IntKind.i64 0), (Go.Value.int Go.IntKind.u64 0), (Go.Value.int Go.IntKind.i64 0), (Go.Value.int Go.IntKind.u64 0), (Go.Value.int Go.IntKind.i64 0), (Go.Value.int Go.IntKind.i64 0), (Go.Value.int Go.IntKind.u64 0), (Go.Value.int Go.IntKind.i64 0), (Go.Value.int Go.IntKind.u64 0)] [(0, 1, x5), (1, 2, x8), (3, 5, x9), (8, 5, x10)]) fun x11 => S.bd (bx (Go.Value.agg #[(Go.Value.int Go.IntKind.i64 0), (Go.Value.int Go.IntKind.i64 0), (Go.Value.int Go.IntKind.u64 0), (Go.Value.int Go.IntKind.i64 0), (Go.Value.int Go.IntKind.i64 0), (Go.Value.int Go.IntKind.u64 0), (Go.Value.int Go.IntKind.i64 0), (Go.Value.int Go.IntKind.u64 0), (Go.Value.int Go.IntKind.i64 0), (Go.Value.int Go.IntKind.i64 0), (Go.Value.int Go.IntKind.u64 0), (Go.Value.int Go.IntKind.i64 0), (Go.Value.int Go.IntKind.u64 0)])) fun c12 => S.bd (stl c12 0 13 x11) fun c13 => S.bd (bin .geq x4 (Go.Value.int Go.IntKind.i64 0)) fun x14 => S.cnd x14 (S.bd (nck a0) fun x15 => S.bd (fld 21 x15) fun x16 => S.bd (ldc s x16) fun x17 => S.bd (lal c13 0 13) fun x18 => S.bd (idx s 13 x17 x4) fun x19 => S.bd (stv s 13 x19 x18) fun s20 => some ((Value.tuple ⟨[]⟩), s20)) (S.bd (nck a0) fun x21 => S.bd (fld 21 x21) fun x22 => S.bd (ldc s x22) fun x23 => S.bd (lal c13 0 13) fun x24 => S.bd (S.bd (bls 13 (List.replicate 1 [(Go.Value.int Go.IntKind.i64 0), (Go.Value.int Go.IntKind.i64 0), (Go.Value.int Go.IntKind.u64 0), (Go.Value.int Go.IntKind.i64 0), (Go.Value.int Go.IntKind.i64 0), (Go.Value.int Go.IntKind.u64 0), (Go.Value.int Go.IntKind.i64 0), (Go.Value.int Go.IntKind.u64 0), (Go.Value.int Go.IntKind.i64 0), (Go.Value.int Go.IntKind.i64 0), (Go.Value.int Go.IntKind.u64 0), (Go.Value.int Go.IntKind.i64 0), (Go.Value.int Go.IntKind.u64 0)]) [(0, x24)]) fun rows => als s 13 1 rows) fun r25 => S.bd (app r25.2 13 104 x23 r25.1) fun r26 => S.bd (nck a0) fun x27 => S.bd (fld 21 x27) fun x28 => S.bd (stv r26.2 1 x28 r26.1) fun s29 => some ((Value.tuple ⟨[]⟩), s29))

def leapfrogref12x_Seek_keep.t (S : Sig) (a0 a1 a2 : Value) (s : St) : Option (Value × St) :=
  S.bd (bx a1) fun c1 => S.bd (bx a2) fun c2 => S.bd (lal c1 0 5) fun x3 => S.bd (leapfrogref12x_Seek_known.r a0 x3 s) fun x4 => S.bd (lcl c1 0) fun x5 => S.bd (nck a0) fun x6 => S.bd (fld 13 x6) fun x7 => S.bd (lda s 2 x7) fun x8 => S.bd (lal c2 2 5) fun x9 => leapfrogref12x_Seek_keep.t.p1 S c2 x5 x8 x9 x4 a0 s
def leapfrogref12x_Seek_keep.v (a0 a1 a2 : Value) (s : St) : Option (Value × St) := leapfrogref12x_Seek_keep.t std a0 a1 a2 s
def leapfrogref12x_Seek_keep.w : List Value → St → Option (Value × St)
  | [a0, a1, a2], s => leapfrogref12x_Seek_keep.v a0 a1 a2 s
  | _, _ => none
def leapfrogref12x_Seek_keep.an : An := ⟨41, false, [4, 5, 7], [], [], [(2, [(0, 0, [], []), (1, 33, [], []), (2, 0, [], []), (3, 0, [], []), (4, 0, [], []), (5, 2, [], []), (6, 0, [], []), (7, 41, [], []), (8, 0, [], []), (9, 41, [], []), (10, 0, [], []), (11, 6, [], []), (12, 61, [], [])]), (4, [(0, 0, [], []), (1, 0, [], []), (2, 0, [], []), (3, 2, [], []), (4, 0, [], []), (5, 57, [], []), (6, 2, [], []), (7, 4, [], [])]), (5, [(0, 0, [], []), (1, 0, [], []), (2, 0, [], []), (3, 0, [], []), (4, 2, [], []), (5, 57, [], []), (6, 3, [], []), (7, 4, [], []), (8, 0, [], []), (9, 0, [], []), (10, 4, [], [])])]⟩
theorem leapfrogref12x_Seek_keep.ok (S : Sig) (a0 a1 a2 : Value) (s : St) : evF S Tryz.prog leapfrogref12x_Seek_keep.ctx leapfrogref12x_Seek_keep.an Tryz.f54 [a0, a1, a2] s = leapfrogref12x_Seek_keep.t S a0 a1 a2 s := by kernel_rfl
theorem leapfrogref12x_Seek_keep.cok : CtxOk Tryz.prog leapfrogref12x_Seek_keep.ctx := .cons leapfrogref12x_Seek_known.sound leapfrogref12x_Seek_known.can <| .nil
theorem leapfrogref12x_Seek_keep.draws : fnDraws leapfrogref12x_Seek_keep.an Tryz.f54 = true := by kernel_rfl
theorem leapfrogref12x_Seek_keep.can : callOk Tryz.prog 54 = true := by kernel_rfl
theorem leapfrogref12x_Seek_keep.sound : FnOk Tryz.prog 54 (.st leapfrogref12x_Seek_keep.w) := FnOk.st_of (evF_ok leapfrogref12x_Seek_keep.cok mixed (f := 54) (fn := Tryz.f54) (by kernel_rfl) leapfrogref12x_Seek_keep.draws) fun args s r h => by
  unfold leapfrogref12x_Seek_keep.w at h; split at h
  · rw [leapfrogref12x_Seek_keep.ok std]; exact h
  · simp at h

/-! ### (*leapfrog/leapfrogref12.Seek).looked: function 51 -/
def leapfrogref12x_Seek_looked.ctx : Ctx := [(53, .st leapfrogref12x_Seek_right.w), (54, .st leapfrogref12x_Seek_keep.w), (68, .st leapfrogref12x_Seek_counts.w), (55, .st leapfrogref12x_Seek_again.w)]
def leapfrogref12x_Seek_looked.t (S : Sig) (a0 a1 : Value) (s : St) : Option (Value × St) :=
  S.bd (bx a1) fun c1 => S.bd (lcl c1 0) fun x2 => S.bd (eqb [1] false false x2 (Go.Value.int Go.IntKind.i64 1)) fun x3 => S.cnd x3 (S.bd (nck a0) fun x4 => S.bd (fld 16 x4) fun x5 => S.bd (lda s 5 x5) fun x6 => S.bd (nck a0) fun x7 => S.bd (fld 8 x7) fun x8 => S.bd (stv s 5 x8 x6) fun s9 => S.bd (nck a0) fun x10 => S.bd (fld 15 x10) fun x11 => S.bd (stv s9 1 x11 (Go.Value.bool Bool.false)) fun s12 => S.bd (lal c1 7 5) fun x13 => S.bd (leapfrogref12x_Seek_right.v a0 x13 s12) fun r14 => some ((Value.tuple ⟨[]⟩), r14.2)) (S.bd (eqb [1] false false x2 (Go.Value.int Go.IntKind.i64 3)) fun x15 => S.cnd x15 (S.bd (nck a0) fun x16 => S.bd (fld 16 x16) fun x17 => S.bd (lda s 5 x17) fun x18 => S.bd (lal c1 0 13) fun x19 => S.bd (leapfrogref12x_Seek_keep.v a0 x18 x19 s) fun r20 => S.bd (leapfrogref12x_Seek_counts.v a0 r20.2) fun r21 => S.cnd r21.1 (S.bd (nck a0) fun x22 => S.bd (fld 15 x22) fun x23 => S.bd (stv r21.2 1 x23 (Go.Value.bool Bool.false)) fun s24 => some ((Value.tuple ⟨[]⟩), s24)) (some ((Value.tuple ⟨[]⟩), r21.2))) (S.bd (leapfrogref12x_Seek_again.v a0 s) fun r25 => some ((Value.tuple ⟨[]⟩), r25.2)))
def leapfrogref12x_Seek_looked.v (a0 a1 : Value) (s : St) : Option (Value × St) := leapfrogref12x_Seek_looked.t std a0 a1 s
def leapfrogref12x_Seek_looked.w : List Value → St → Option (Value × St)
  | [a0, a1], s => leapfrogref12x_Seek_looked.v a0 a1 s
  | _, _ => none
def leapfrogref12x_Seek_looked.an : An := ⟨38, false, [3], [], [], [(7, [(0, 0, [], []), (1, 0, [], []), (2, 0, [], []), (3, 0, [], []), (4, 2, [], []), (5, 25, [], []), (6, 4, [], [])])]⟩
theorem leapfrogref12x_Seek_looked.ok (S : Sig) (a0 a1 : Value) (s : St) : evF S Tryz.prog leapfrogref12x_Seek_looked.ctx leapfrogref12x_Seek_looked.an Tryz.f51 [a0, a1] s = leapfrogref12x_Seek_looked.t S a0 a1 s := by kernel_rfl
theorem leapfrogref12x_Seek_looked.cok : CtxOk Tryz.prog leapfrogref12x_Seek_looked.ctx := .cons leapfrogref12x_Seek_right.sound leapfrogref12x_Seek_right.can <| .cons leapfrogref12x_Seek_keep.sound leapfrogref12x_Seek_keep.can <| .cons leapfrogref12x_Seek_counts.sound leapfrogref12x_Seek_counts.can <| .cons leapfrogref12x_Seek_again.sound leapfrogref12x_Seek_again.can <| .nil
theorem leapfrogref12x_Seek_looked.draws : fnDraws leapfrogref12x_Seek_looked.an Tryz.f51 = true := by kernel_rfl
theorem leapfrogref12x_Seek_looked.can : callOk Tryz.prog 51 = true := by kernel_rfl
theorem leapfrogref12x_Seek_looked.sound : FnOk Tryz.prog 51 (.st leapfrogref12x_Seek_looked.w) := FnOk.st_of (evF_ok leapfrogref12x_Seek_looked.cok mixed (f := 51) (fn := Tryz.f51) (by kernel_rfl) leapfrogref12x_Seek_looked.draws) fun args s r h => by
  unfold leapfrogref12x_Seek_looked.w at h; split at h
  · rw [leapfrogref12x_Seek_looked.ok std]; exact h
  · simp at h

/-! ### (*leapfrog/leapfrogref12.Seek).Tell: function 32 -/
def leapfrogref12x_Seek_Tell.ctx : Ctx := [(51, .st leapfrogref12x_Seek_looked.w), (52, .rd leapfrogref02x_Less.w), (53, .st leapfrogref12x_Seek_right.w), (38, .rd leapfrogref02x_Check.w), (54, .st leapfrogref12x_Seek_keep.w), (55, .st leapfrogref12x_Seek_again.w)]
def leapfrogref12x_Seek_Tell.t.p1 (S : Sig) (c1 : List Value) (a0 : Value) (s : St) : Option (Value × St) :=
  S.bd (lcl c1 0) fun x10 => S.bd (eqb [1] false false x10 (Go.Value.int Go.IntKind.i64 1)) fun x11 => S.bd (S.gd x11 true (some a0)) fun x12 => S.bd (S.gd x11 true (nck x12)) fun x13 => S.bd (S.gd x11 true (fld 8 x13)) fun x14 => S.bd (S.gd x11 true (fld 1 x14)) fun x15 => S.bd (S.gd x11 true (lda s 2 x15)) fun x16 => S.bd (S.gd x11 true (some a0)) fun x17 => S.bd (S.gd x11 true (nck x17)) fun x18 => S.bd (S.gd x11 true (fld 0 x18)) fun x19 => S.bd (S.gd x11 true (fld 6 x19)) fun x20 => S.bd (S.gd x11 true (lda s 2 x20)) fun x21 => S.bd (S.gd x11 true (leapfrogref02x_Less.r x16 x21 s)) fun x22 => S.bd (pik x11 x22 (Go.Value.bool Bool.false)) fun x23 => S.cnd x23 (S.bd (lal c1 7 5) fun x24 => S.bd (leapfrogref12x_Seek_right.v a0 x24 s) fun r25 => some ((Value.tuple ⟨[]⟩), r25.2)) (S.bd (lcl c1 0) fun x26 => S.bd (eqb [1] false false x26 (Go.Value.int Go.IntKind.i64 1)) fun x27 => S.bd (S.gd x27 true (lal c1 3 2)) fun x28 => S.bd (S.gd x27 true (leapfrogref02x_Check.r x28 s)) fun x29 => S.bd (S.gd x27 true (eqb [1] false false x29 (Go.Value.int Go.IntKind.i64 0))) fun x30 => S.bd (pik x27 x30 (Go.Value.bool Bool.false)) fun x31 => S.bd (S.gd x31 true (lal c1 3 2)) fun x32 => S.bd (S.gd x31 true (some a0)) fun x33 => S.bd (S.gd x31 true (nck x33)) fun x34 => S.bd (S.gd x31 true (fld 8 x34)) fun x35 => S.bd (S.gd x31 true (fld 1 x35)) fun x36 => S.bd (S.gd x31 true (lda s 2 x36)) fun x37 => S.bd (S.gd x31 true (leapfrogref02x_Less.r x32 x37 s)) fun x38 => S.bd (pik x31 x38 (Go.Value.bool Bool.false)) fun x39 => S.cnd x39 (S.bd (lal c1 2 5) fun x40 => S.bd (nck a0) fun x41 => S.bd (fld 8 x41) fun x42 => S.bd (stv s 5 x42 x40) fun s43 => some ((Value.tuple ⟨[]⟩), s43)) (S.bd (lcl c1 0) fun x44 => S.bd (eqb [1] false false x44 (Go.Value.int Go.IntKind.i64 3)) fun x45 => S.cnd x45 (S.bd (nck a0) fun x46 => S.bd (fld 8 x46) fun x47 => S.bd (lda s 5 x47) fun x48 => S.bd (lal c1 0 13) fun x49 => S.bd (leapfrogref12x_Seek_keep.v a0 x48 x49 s) fun r50 => S.bd (leapfrogref12x_Seek_again.v a0 r50.2) fun r51 => some ((Value.tuple ⟨[]⟩), r51.2)) (S.bd (leapfrogref12x_Seek_again.v a0 s) fun r52 => some ((Value.tuple ⟨[]⟩), r52.2))))

def leapfrogref12x_Seek_Tell.t (S : Sig) (a0 a1 : Value) (s : St) : Option (Value × St) :=
  S.bd (bx a1) fun c1 => S.bd (nck a0) fun x2 => S.bd (fld 23 x2) fun x3 => S.bd (ldc s x3) fun x4 => S.cnd x4 (some ((Value.tuple ⟨[]⟩), s)) (S.bd (nck a0) fun x5 => S.bd (fld 15 x5) fun x6 => S.bd (ldc s x6) fun x7 => S.cnd x7 (S.bd (lal c1 0 13) fun x8 => S.bd (leapfrogref12x_Seek_looked.v a0 x8 s) fun r9 => some ((Value.tuple ⟨[]⟩), r9.2)) (leapfrogref12x_Seek_Tell.t.p1 S c1 a0 s))
def leapfrogref12x_Seek_Tell.v (a0 a1 : Value) (s : St) : Option (Value × St) := leapfrogref12x_Seek_Tell.t std a0 a1 s
def leapfrogref12x_Seek_Tell.w : List Value → St → Option (Value × St)
  | [a0, a1], s => leapfrogref12x_Seek_Tell.v a0 a1 s
  | _, _ => none
def leapfrogref12x_Seek_Tell.an : An := ⟨77, false, [3], [], [], [(7, [(0, 0, [], []), (1, 25, [], []), (2, 0, [], []), (3, 0, [], []), (4, 0, [], []), (5, 0, [], []), (6, 0, [], []), (7, 0, [], []), (8, 2, [], []), (9, 0, [], []), (10, 0, [], []), (11, 0, [], []), (12, 0, [], []), (13, 2, [], []), (14, 3, [], []), (15, 0, [], []), (16, 0, [], [])]), (9, [(0, 0, [], []), (1, 25, [], []), (2, 0, [], []), (3, 0, [], []), (4, 0, [], []), (5, 0, [], []), (6, 25, [], []), (7, 3, [], []), (8, 0, [], []), (9, 0, [], []), (10, 0, [], []), (11, 0, [], []), (12, 0, [], []), (13, 25, [], []), (14, 0, [], []), (15, 0, [], []), (16, 0, [], []), (17, 0, [], []), (18, 2, [], []), (19, 3, [], []), (20, 0, [], []), (21, 0, [], [])]), (2, [(0, 0, [], []), (1, 0, [], []), (2, 0, [], []), (3, 0, [], []), (4, 2, [], []), (5, 25, [], []), (6, 4, [], [])])]⟩
theorem leapfrogref12x_Seek_Tell.ok (S : Sig) (a0 a1 : Value) (s : St) : evF S Tryz.prog leapfrogref12x_Seek_Tell.ctx leapfrogref12x_Seek_Tell.an Tryz.f32 [a0, a1] s = leapfrogref12x_Seek_Tell.t S a0 a1 s := by kernel_rfl
theorem leapfrogref12x_Seek_Tell.cok : CtxOk Tryz.prog leapfrogref12x_Seek_Tell.ctx := .cons leapfrogref12x_Seek_looked.sound leapfrogref12x_Seek_looked.can <| .cons leapfrogref02x_Less.sound leapfrogref02x_Less.can <| .cons leapfrogref12x_Seek_right.sound leapfrogref12x_Seek_right.can <| .cons leapfrogref02x_Check.sound leapfrogref02x_Check.can <| .cons leapfrogref12x_Seek_keep.sound leapfrogref12x_Seek_keep.can <| .cons leapfrogref12x_Seek_again.sound leapfrogref12x_Seek_again.can <| .nil
theorem leapfrogref12x_Seek_Tell.draws : fnDraws leapfrogref12x_Seek_Tell.an Tryz.f32 = true := by kernel_rfl
theorem leapfrogref12x_Seek_Tell.can : callOk Tryz.prog 32 = true := by kernel_rfl
theorem leapfrogref12x_Seek_Tell.sound : FnOk Tryz.prog 32 (.st leapfrogref12x_Seek_Tell.w) := FnOk.st_of (evF_ok leapfrogref12x_Seek_Tell.cok mixed (f := 32) (fn := Tryz.f32) (by kernel_rfl) leapfrogref12x_Seek_Tell.draws) fun args s r h => by
  unfold leapfrogref12x_Seek_Tell.w at h; split at h
  · rw [leapfrogref12x_Seek_Tell.ok std]; exact h
  · simp at h

/-! ### (*leapfrog/leapfrogref17.Read).sought: function 56 -/
def leapfrogref17x_Read_sought.ctx : Ctx := [(45, .st leapfrogref17x_Read_over.w)]
def leapfrogref17x_Read_sought.t (S : Sig) (a0 a1 : Value) (s : St) : Option (Value × St) :=
  S.bd (bx a1) fun c1 => S.bd (lcl c1 0) fun x2 => S.bd (eqb [1] false true x2 (Go.Value.int Go.IntKind.i64 0)) fun x3 => S.cnd x3 (S.bd (lcl c1 0) fun x4 => S.bd (leapfrogref17x_Read_over.v a0 x4 s) fun r5 => some ((Value.tuple ⟨[]⟩), r5.2)) (S.bd (nck a0) fun x6 => S.bd (fld 0 x6) fun x7 => S.bd (fld 7 x7) fun x8 => S.bd (ldc s x8) fun x9 => S.bd (S.gd x9 true (lcl c1 10)) fun x10 => S.bd (S.gd x9 true (eqb [1] false false x10 (Go.Value.int Go.IntKind.i64 3))) fun x11 => S.bd (pik x9 x11 (Go.Value.bool Bool.false)) fun x12 => S.bd (S.gd x12 false (some a0)) fun x13 => S.bd (S.gd x12 false (nck x13)) fun x14 => S.bd (S.gd x12 false (fld 0 x14)) fun x15 => S.bd (S.gd x12 false (fld 7 x15)) fun x16 => S.bd (S.gd x12 false (ldc s x16)) fun x17 => S.bd (S.gd x12 false (un .not x17)) fun x18 => S.bd (S.gd x12 false (some x18)) fun x19 => S.bd (S.gd x19 true (lcl c1 14)) fun x20 => S.bd (S.gd x19 true (un .not x20)) fun x21 => S.bd (S.gd x12 false (pik x19 x21 (Go.Value.bool Bool.false))) fun x22 => S.bd (pik x12 (Go.Value.bool Bool.true) x22) fun x23 => S.cnd x23 (S.bd (leapfrogref17x_Read_over.v a0 (Go.Value.int Go.IntKind.i64 101) s) fun r24 => some ((Value.tuple ⟨[]⟩), r24.2)) (S.bd (lal c1 9 5) fun x25 => S.bd (nck a0) fun x26 => S.bd (fld 11 x26) fun x27 => S.bd (stv s 5 x27 x25) fun s28 => S.bd (nck a0) fun x29 => S.bd (fld 8 x29) fun x30 => S.bd (stv s28 1 x30 (Go.Value.int Go.IntKind.i64 2)) fun s31 => some ((Value.tuple ⟨[]⟩), s31)))
def leapfrogref17x_Read_sought.v (a0 a1 : Value) (s : St) : Option (Value × St) := leapfrogref17x_Read_sought.t std a0 a1 s
def leapfrogref17x_Read_sought.w : List Value → St → Option (Value × St)
  | [a0, a1], s => leapfrogref17x_Read_sought.v a0 a1 s
  | _, _ => none
def leapfrogref17x_Read_sought.an : An := ⟨48, false, [3], [], [], []⟩
theorem leapfrogref17x_Read_sought.ok (S : Sig) (a0 a1 : Value) (s : St) : evF S Tryz.prog leapfrogref17x_Read_sought.ctx leapfrogref17x_Read_sought.an Tryz.f56 [a0, a1] s = leapfrogref17x_Read_sought.t S a0 a1 s := by kernel_rfl
theorem leapfrogref17x_Read_sought.cok : CtxOk Tryz.prog leapfrogref17x_Read_sought.ctx := .cons leapfrogref17x_Read_over.sound leapfrogref17x_Read_over.can <| .nil
theorem leapfrogref17x_Read_sought.draws : fnDraws leapfrogref17x_Read_sought.an Tryz.f56 = true := by kernel_rfl
theorem leapfrogref17x_Read_sought.can : callOk Tryz.prog 56 = true := by kernel_rfl
theorem leapfrogref17x_Read_sought.sound : FnOk Tryz.prog 56 (.st leapfrogref17x_Read_sought.w) := FnOk.st_of (evF_ok leapfrogref17x_Read_sought.cok mixed (f := 56) (fn := Tryz.f56) (by kernel_rfl) leapfrogref17x_Read_sought.draws) fun args s r h => by
  unfold leapfrogref17x_Read_sought.w at h; split at h
  · rw [leapfrogref17x_Read_sought.ok std]; exact h
  · simp at h

/-! ### (*leapfrog/leapfrogref17.Read).settle: function 33 -/
def leapfrogref17x_Read_settle.ctx : Ctx := [(26, .rd leapfrogref12x_Seek_Next.w), (56, .st leapfrogref17x_Read_sought.w)]
def leapfrogref17x_Read_settle.t (S : Sig) (a0 : Value) (s : St) : Option (Value × St) :=
  S.bd (nck a0) fun x1 => S.bd (fld 10 x1) fun x2 => S.bd (ldc s x2) fun x3 => S.bd (leapfrogref12x_Seek_Next.r x3 s) fun x4 => S.bd (bx (Go.Value.agg #[(Go.Value.int Go.IntKind.i64 0), (Go.Value.int Go.IntKind.i64 0), (Go.Value.int Go.IntKind.i64 0), (Go.Value.int Go.IntKind.u64 0), (Go.Value.int Go.IntKind.i64 0), (Go.Value.int Go.IntKind.u64 0), (Go.Value.int Go.IntKind.i64 0), (Go.Value.int Go.IntKind.i64 0), (Go.Value.int Go.IntKind.u64 0), (Go.Value.int Go.IntKind.i64 0), (Go.Value.int Go.IntKind.i64 0), (Go.Value.int Go.IntKind.u64 0), (Go.Value.int Go.IntKind.i64 0), (Go.Value.int Go.IntKind.u64 0), (Go.Value.int Go.IntKind.i64 0), (Go.Value.int Go.IntKind.i64 0), (Go.Value.int Go.IntKind.u64 0), (Go.Value.int Go.IntKind.i64 0), (Go.Value.int Go.IntKind.u64 0), (Go.Value.int Go.IntKind.i64 0), (Go.Value.int Go.IntKind.i64 0), (Go.Value.int Go.IntKind.i64 0), (Go.Value.int Go.IntKind.u64 0), (Go.Value.slice Option.none 0 0), (Go.Value.slice Option.none 0 0), (Go.Value.int Go.IntKind.i64 0), (Go.Value.int Go.IntKind.i64 0), (Go.Value.int Go.IntKind.u64 0), (Go.Value.int Go.IntKind.i64 0), (Go.Value.int Go.IntKind.u64 0), (Go.Value.int Go.IntKind.i64 0), (Go.Value.int Go.IntKind.i64 0), (Go.Value.int Go.IntKind.u64 0), (Go.Value.int Go.IntKind.i64 0), (Go.Value.int Go.IntKind.u64 0), (Go.Value.bool Bool.false)])) fun c5 => S.bd (stl c5 0 36 x4) fun c6 => S.bd (lcl c6 0) fun x7 => S.bd (eqb [1] false false x7 (Go.Value.int Go.IntKind.i64 3)) fun x8 => S.cnd x8 (S.bd (lal c6 21 15) fun x9 => S.bd (leapfrogref17x_Read_sought.v a0 x9 s) fun r10 => some ((Value.tuple ⟨[]⟩), r10.2)) (some ((Value.tuple ⟨[]⟩), s))
def leapfrogref17x_Read_settle.v (a0 : Value) (s : St) : Option (Value × St) := leapfrogref17x_Read_settle.t std a0 s
def leapfrogref17x_Read_settle.w : List Value → St → Option (Value × St)
  | [a0], s => leapfrogref17x_Read_settle.v a0 s
  | _, _ => none
def leapfrogref17x_Read_settle.an : An := ⟨15, false, [2], [], [], []⟩
theorem leapfrogref17x_Read_settle.ok (S : Sig) (a0 : Value) (s : St) : evF S Tryz.prog leapfrogref17x_Read_settle.ctx leapfrogref17x_Read_settle.an Tryz.f33 [a0] s = leapfrogref17x_Read_settle.t S a0 s := by kernel_rfl
theorem leapfrogref17x_Read_settle.cok : CtxOk Tryz.prog leapfrogref17x_Read_settle.ctx := .cons leapfrogref12x_Seek_Next.sound leapfrogref12x_Seek_Next.can <| .cons leapfrogref17x_Read_sought.sound leapfrogref17x_Read_sought.can <| .nil
theorem leapfrogref17x_Read_settle.draws : fnDraws leapfrogref17x_Read_settle.an Tryz.f33 = true := by kernel_rfl
theorem leapfrogref17x_Read_settle.can : callOk Tryz.prog 33 = true := by kernel_rfl
theorem leapfrogref17x_Read_settle.sound : FnOk Tryz.prog 33 (.st leapfrogref17x_Read_settle.w) := FnOk.st_of (evF_ok leapfrogref17x_Read_settle.cok mixed (f := 33) (fn := Tryz.f33) (by kernel_rfl) leapfrogref17x_Read_settle.draws) fun args s r h => by
  unfold leapfrogref17x_Read_settle.w at h; split at h
  · rw [leapfrogref17x_Read_settle.ok std]; exact h
  · simp at h

/-! ### (*leapfrog/leapfrogref12.Seek).Dead: function 57 -/
def leapfrogref12x_Seek_Dead.ctx : Ctx := [(54, .st leapfrogref12x_Seek_keep.w), (68, .st leapfrogref12x_Seek_counts.w)]
def leapfrogref12x_Seek_Dead.t (S : Sig) (a0 a1 : Value) (s : St) : Option (Value × St) :=
  S.bd (bx a1) fun c1 => S.bd (nck a0) fun x2 => S.bd (fld 23 x2) fun x3 => S.bd (ldc s x3) fun x4 => S.bd (un .not x4) fun x5 => S.bd (S.gd x5 false (some a0)) fun x6 => S.bd (S.gd x5 false (nck x6)) fun x7 => S.bd (S.gd x5 false (fld 24 x7)) fun x8 => S.bd (S.gd x5 false (fld 0 x8)) fun x9 => S.bd (S.gd x5 false (ldc s x9)) fun x10 => S.bd (S.gd x5 false (eqb [1] false true x10 (Go.Value.int Go.IntKind.i64 0))) fun x11 => S.bd (pik x5 (Go.Value.bool Bool.true) x11) fun x12 => S.cnd x12 (some ((Value.tuple ⟨[]⟩), s)) (S.bd (nck a0) fun x13 => S.bd (fld 24 x13) fun x14 => S.bd (fld 9 x14) fun x15 => S.bd (lda s 5 x15) fun x16 => S.bd (bx (Go.Value.agg #[(Go.Value.int Go.IntKind.i64 0), (Go.Value.int Go.IntKind.i64 0), (Go.Value.int Go.IntKind.u64 0), (Go.Value.int Go.IntKind.i64 0), (Go.Value.int Go.IntKind.u64 0)])) fun c17 => S.bd (stl c17 0 5 x16) fun c18 => S.bd (bld [(Go.Value.int Go.IntKind.i64 0), (Go.Value.int Go.IntKind.u64 0), (Go.Value.slice Option.none 0 0), (Go.Value.slice Option.none 0 0), (Go.Value.int Go.IntKind.i64 0), (Go.Value.int Go.IntKind.i64 0), (Go.Value.int Go.IntKind.u64 0), (Go.Value.int Go.IntKind.i64 0), (Go.Value.int Go.IntKind.u64 0), (Go.Value.int Go.IntKind.i64 0), (Go.Value.int Go.IntKind.i64 0), (Go.Value.int Go.IntKind.u64 0), (Go.Value.int Go.IntKind.i64 0), (Go.Value.int Go.IntKind.u64 0), (Go.Value.bool Bool.false)] []) fun x19 => S.bd (nck a0) fun x20 => S.bd (fld 23 x20) fun x21 => S.bd (stv s 1 x21 (Go.Value.bool Bool.false)) fun s22 => S.bd (nck a0) fun x23 => S.bd (fld 24 x23) fun x24 => S.bd (stv s22 15 x24 x19) fun s25 => S.bd (lal c18 0 5) fun x26 => S.bd (lal c1 0 13) fun x27 => S.bd (leapfrogref12x_Seek_keep.v a0 x26 x27 s25) fun r28 => S.bd (leapfrogref12x_Seek_counts.v a0 r28.2) fun r29 => S.cnd r29.1 (S.bd (nck a0) fun x30 => S.bd (fld 15 x30) fun x31 => S.bd (stv r29.2 1 x31 (Go.Value.bool Bool.false)) fun s32 => some ((Value.tuple ⟨[]⟩), s32)) (some ((Value.tuple ⟨[]⟩), r29.2)))
def leapfrogref12x_Seek_Dead.v (a0 a1 : Value) (s : St) : Option (Value × St) := leapfrogref12x_Seek_Dead.t std a0 a1 s
def leapfrogref12x_Seek_Dead.w : List Value → St → Option (Value × St)
  | [a0, a1], s => leapfrogref12x_Seek_Dead.v a0 a1 s
  | _, _ => none
def leapfrogref12x_Seek_Dead.an : An := ⟨39, false, [3, 4], [], [], []⟩
theorem leapfrogref12x_Seek_Dead.ok (S : Sig) (a0 a1 : Value) (s : St) : evF S Tryz.prog leapfrogref12x_Seek_Dead.ctx leapfrogref12x_Seek_Dead.an Tryz.f57 [a0, a1] s = leapfrogref12x_Seek_Dead.t S a0 a1 s := by kernel_rfl
theorem leapfrogref12x_Seek_Dead.cok : CtxOk Tryz.prog leapfrogref12x_Seek_Dead.ctx := .cons leapfrogref12x_Seek_keep.sound leapfrogref12x_Seek_keep.can <| .cons leapfrogref12x_Seek_counts.sound leapfrogref12x_Seek_counts.can <| .nil
theorem leapfrogref12x_Seek_Dead.draws : fnDraws leapfrogref12x_Seek_Dead.an Tryz.f57 = true := by kernel_rfl
theorem leapfrogref12x_Seek_Dead.can : callOk Tryz.prog 57 = true := by kernel_rfl
theorem leapfrogref12x_Seek_Dead.sound : FnOk Tryz.prog 57 (.st leapfrogref12x_Seek_Dead.w) := FnOk.st_of (evF_ok leapfrogref12x_Seek_Dead.cok mixed (f := 57) (fn := Tryz.f57) (by kernel_rfl) leapfrogref12x_Seek_Dead.draws) fun args s r h => by
  unfold leapfrogref12x_Seek_Dead.w at h; split at h
  · rw [leapfrogref12x_Seek_Dead.ok std]; exact h
  · simp at h

/-! ### (*leapfrog/leapfrogref17.Read).got: function 34 -/
def leapfrogref17x_Read_got.ctx : Ctx := [(45, .st leapfrogref17x_Read_over.w), (57, .st leapfrogref12x_Seek_Dead.w), (33, .st leapfrogref17x_Read_settle.w)]
def leapfrogref17x_Read_got.t (S : Sig) (a0 a1 : Value) (s : St) : Option (Value × St) :=
  S.bd (bx a1) fun c1 => S.bd (lcl c1 0) fun x2 => S.bd (eqb [1] false false x2 (Go.Value.int Go.IntKind.i64 1)) fun x3 => S.bd (S.gd x3 true (lcl c1 1)) fun x4 => S.bd (S.gd x3 true (un .not x4)) fun x5 => S.bd (pik x3 x5 (Go.Value.bool Bool.false)) fun x6 => S.cnd x6 (S.bd (nck a0) fun x7 => S.bd (fld 8 x7) fun x8 => S.bd (stv s 1 x8 (Go.Value.int Go.IntKind.i64 4)) fun s9 => S.bd (nck a0) fun x10 => S.bd (fld 11 x10) fun x11 => S.bd (fld 1 x11) fun x12 => S.bd (fld 1 x12) fun x13 => S.bd (ldc s9 x13) fun x14 => S.bd (lcl c1 12) fun x15 => S.bd (S.bd (bls 1 (List.replicate 0 [(Go.Value.int Go.IntKind.u8 0)]) []) fun rows => als s9 1 0 rows) fun r16 => S.bd (app r16.2 1 1 r16.1 x15) fun r17 => S.bd (ldc r17.2 x13) fun x18 => S.cnd (Value.bool (sameV x18 x14)) (S.bd (bld [(Go.Value.int Go.IntKind.i64 0), (Go.Value.int Go.IntKind.u64 0), (Go.Value.slice Option.none 0 0), (Go.Value.slice Option.none 0 0), (Go.Value.int Go.IntKind.i64 0), (Go.Value.int Go.IntKind.i64 0), (Go.Value.int Go.IntKind.u64 0), (Go.Value.int Go.IntKind.i64 0), (Go.Value.int Go.IntKind.u64 0), (Go.Value.int Go.IntKind.i64 0), (Go.Value.int Go.IntKind.i64 0), (Go.Value.int Go.IntKind.u64 0), (Go.Value.int Go.IntKind.i64 0), (Go.Value.int Go.IntKind.u64 0), (Go.Value.bool Bool.false)] [(1, 1, x14), (2, 1, r17.1), (14, 1, (Go.Value.bool Bool.true))]) fun x19 => S.bd (nck a0) fun x20 => S.bd (fld 16 x20) fun x21 => S.bd (stv r17.2 15 x21 x19) fun s22 => some ((Value.tuple ⟨[]⟩), s22)) (none)) (S.bd (nck a0) fun x23 => S.bd (fld 0 x23) fun x24 => S.bd (fld 7 x24) fun x25 => S.bd (ldc s x25) fun x26 => S.bd (un .not x26) fun x27 => S.cnd x27 (S.bd (leapfrogref17x_Read_over.v a0 (Go.Value.int Go.IntKind.i64 101) s) fun r28 => some ((Value.tuple ⟨[]⟩), r28.2)) (S.bd (lcl c1 0) fun x29 => S.bd (eqb [1] false false x29 (Go.Value.int Go.IntKind.i64 3)) fun x30 => S.cnd x30 (S.bd (nck a0) fun x31 => S.bd (fld 10 x31) fun x32 => S.bd (ldc s x32) fun x33 => S.bd (lal c1 0 13) fun x34 => S.bd (leapfrogref12x_Seek_Dead.v x33 x34 s) fun r35 => S.bd (nck a0) fun x36 => S.bd (fld 8 x36) fun x37 => S.bd (stv r35.2 1 x37 (Go.Value.int Go.IntKind.i64 1)) fun s38 => S.bd (leapfrogref17x_Read_settle.v a0 s38) fun r39 => some ((Value.tuple ⟨[]⟩), r39.2)) (S.bd (nck a0) fun x40 => S.bd (fld 8 x40) fun x41 => S.bd (stv s 1 x41 (Go.Value.int Go.IntKind.i64 3)) fun s42 => some ((Value.tuple ⟨[]⟩), s42))))
def leapfrogref17x_Read_got.v (a0 a1 : Value) (s : St) : Option (Value × St) := leapfrogref17x_Read_got.t std a0 a1 s
def leapfrogref17x_Read_got.w : List Value → St → Option (Value × St)
  | [a0, a1], s => leapfrogref17x_Read_got.v a0 a1 s
  | _, _ => none
def leapfrogref17x_Read_got.an : An := ⟨57, false, [3], [], [], [(4, [(0, 0, [], []), (1, 0, [], []), (2, 0, [], []), (3, 0, [], []), (4, 0, [], []), (5, 0, [], []), (6, 2, [], []), (8, 0, [], []), (9, 25, [], []), (7, 3, [], []), (10, 4, [6], []), (11, 0, [], []), (12, 0, [], []), (13, 0, [], []), (14, 4, [], [])]), (8, [(0, 0, [], []), (1, 0, [], []), (2, 0, [], []), (3, 2, [], []), (4, 25, [], []), (5, 4, [], [])])]⟩
theorem leapfrogref17x_Read_got.ok (S : Sig) (a0 a1 : Value) (s : St) : evF S Tryz.prog leapfrogref17x_Read_got.ctx leapfrogref17x_Read_got.an Tryz.f34 [a0, a1] s = leapfrogref17x_Read_got.t S a0 a1 s := by kernel_rfl
theorem leapfrogref17x_Read_got.cok : CtxOk Tryz.prog leapfrogref17x_Read_got.ctx := .cons leapfrogref17x_Read_over.sound leapfrogref17x_Read_over.can <| .cons leapfrogref12x_Seek_Dead.sound leapfrogref12x_Seek_Dead.can <| .cons leapfrogref17x_Read_settle.sound leapfrogref17x_Read_settle.can <| .nil
theorem leapfrogref17x_Read_got.draws : fnDraws leapfrogref17x_Read_got.an Tryz.f34 = true := by kernel_rfl
theorem leapfrogref17x_Read_got.can : callOk Tryz.prog 34 = true := by kernel_rfl
theorem leapfrogref17x_Read_got.sound : FnOk Tryz.prog 34 (.st leapfrogref17x_Read_got.w) := FnOk.st_of (evF_ok leapfrogref17x_Read_got.cok mixed (f := 34) (fn := Tryz.f34) (by kernel_rfl) leapfrogref17x_Read_got.draws) fun args s r h => by
  unfold leapfrogref17x_Read_got.w at h; split at h
  · rw [leapfrogref17x_Read_got.ok std]; exact h
  · simp at h

/-! ### (*leapfrog/leapfrogref17.Read).Tell: function 15 -/
def leapfrogref17x_Read_Tell.ctx : Ctx := [(32, .st leapfrogref12x_Seek_Tell.w), (33, .st leapfrogref17x_Read_settle.w), (34, .st leapfrogref17x_Read_got.w)]
def leapfrogref17x_Read_Tell.t (S : Sig) (a0 a1 : Value) (s : St) : Option (Value × St) :=
  S.bd (bx a1) fun c1 => S.bd (nck a0) fun x2 => S.bd (fld 8 x2) fun x3 => S.bd (ldc s x3) fun x4 => S.bd (eqb [1] false false x4 (Go.Value.int Go.IntKind.i64 1)) fun x5 => S.cnd x5 (S.bd (nck a0) fun x6 => S.bd (fld 10 x6) fun x7 => S.bd (ldc s x7) fun x8 => S.bd (lal c1 0 13) fun x9 => S.bd (leapfrogref12x_Seek_Tell.v x8 x9 s) fun r10 => S.bd (leapfrogref17x_Read_settle.v a0 r10.2) fun r11 => some ((Value.tuple ⟨[]⟩), r11.2)) (S.bd (eqb [1] false false x4 (Go.Value.int Go.IntKind.i64 2)) fun x12 => S.cnd x12 (S.bd (lal c1 0 13) fun x13 => S.bd (leapfrogref17x_Read_got.v a0 x13 s) fun r14 => some ((Value.tuple ⟨[]⟩), r14.2)) (some ((Value.tuple ⟨[]⟩), s)))
def leapfrogref17x_Read_Tell.v (a0 a1 : Value) (s : St) : Option (Value × St) := leapfrogref17x_Read_Tell.t std a0 a1 s
def leapfrogref17x_Read_Tell.w : List Value → St → Option (Value × St)
  | [a0, a1], s => leapfrogref17x_Read_Tell.v a0 a1 s
  | _, _ => none
def leapfrogref17x_Read_Tell.an : An := ⟨23, false, [3], [], [], [(3, [(0, 0, [], []), (1, 0, [], []), (2, 0, [], []), (3, 2, [], []), (4, 25, [], []), (5, 4, [], [])])]⟩
theorem leapfrogref17x_Read_Tell.ok (S : Sig) (a0 a1 : Value) (s : St) : evF S Tryz.prog leapfrogref17x_Read_Tell.ctx leapfrogref17x_Read_Tell.an Tryz.f15 [a0, a1] s = leapfrogref17x_Read_Tell.t S a0 a1 s := by kernel_rfl
theorem leapfrogref17x_Read_Tell.cok : CtxOk Tryz.prog leapfrogref17x_Read_Tell.ctx := .cons leapfrogref12x_Seek_Tell.sound leapfrogref12x_Seek_Tell.can <| .cons leapfrogref17x_Read_settle.sound leapfrogref17x_Read_settle.can <| .cons leapfrogref17x_Read_got.sound leapfrogref17x_Read_got.can <| .nil
theorem leapfrogref17x_Read_Tell.draws : fnDraws leapfrogref17x_Read_Tell.an Tryz.f15 = true := by kernel_rfl
theorem leapfrogref17x_Read_Tell.can : callOk Tryz.prog 15 = true := by kernel_rfl
theorem leapfrogref17x_Read_Tell.sound : FnOk Tryz.prog 15 (.st leapfrogref17x_Read_Tell.w) := FnOk.st_of (evF_ok leapfrogref17x_Read_Tell.cok mixed (f := 15) (fn := Tryz.f15) (by kernel_rfl) leapfrogref17x_Read_Tell.draws) fun args s r h => by
  unfold leapfrogref17x_Read_Tell.w at h; split at h
  · rw [leapfrogref17x_Read_Tell.ok std]; exact h
  · simp at h

/-! ### leapfrog/leapfroglaw17.ReadRuns: function 3 -/
def leapfroglaw17x_ReadRuns.ctx : Ctx := [(6, .st read_New.w), (7, .st leapfrogref17x_New.w), (8, .rd leapfroglaw17x_aliveC.w), (10, .rd read_Read_Next.w), (11, .rd leapfrogref17x_Read_Next.w), (9, .rd leapfrogref12x_SameStep.w), (12, .st read_Read_Wake.w), (13, .st leapfrogref17x_Read_Wake.w), (14, .st read_Read_Tell.w), (15, .st leapfrogref17x_Read_Tell.w)]
def leapfroglaw17x_ReadRuns.l8.p1 (S : Sig) (s58 : St) (xs57 : List Value) (x62 : Value) (x63 : Value) (rec59 : List Value → St → Option Cut) : Option Cut :=
  S.bd (idx s58 14 (xs57.getD 0 undef) (xs57.getD 3 undef)) fun x69 => S.bd (fld 1 x69) fun x70 => S.bd (lda s58 13 x70) fun x71 => S.bd (bx (Go.Value.agg #[(Go.Value.int Go.IntKind.i64 0), (Go.Value.bool Bool.false), (Go.Value.int Go.IntKind.i64 0), (Go.Value.int Go.IntKind.i64 0), (Go.Value.int Go.IntKind.u64 0), (Go.Value.int Go.IntKind.i64 0), (Go.Value.int Go.IntKind.u64 0), (Go.Value.int Go.IntKind.i64 0), (Go.Value.int Go.IntKind.i64 0), (Go.Value.int Go.IntKind.u64 0), (Go.Value.int Go.IntKind.i64 0), (Go.Value.int Go.IntKind.u64 0), (Go.Value.slice Option.none 0 0)])) fun c72 => S.bd (stl c72 0 13 x71) fun c73 => S.bd (show Option Cut from S.bd (lcl c73 12) fun x74 => S.bd (lenL x74) fun x75 => S.bd (bin .gtr x75 (Go.Value.int Go.IntKind.i64 300)) fun x76 => S.cnd x76 (S.bd (lcl c73 12) fun x77 => S.bd (slc s58 1 x77 none (some (Go.Value.int Go.IntKind.i64 300)) none) fun x78 => S.bd (stl c73 12 1 x78) fun c79 => some (0, [(xs57.getD 0 undef), (xs57.getD 1 undef), (xs57.getD 2 undef), (xs57.getD 3 undef), x62, x63, (Value.agg ⟨c79⟩)], s58)) (some (0, [(xs57.getD 0 undef), (xs57.getD 1 undef), (xs57.getD 2 undef), (xs57.getD 3 undef), x62, x63, (Value.agg ⟨c73⟩)], s58))) fun r80 => S.bd (idx r80.2.2 14 (r80.2.1.getD 0 undef) (r80.2.1.getD 3 undef)) fun x81 => S.bd (fld 0 x81) fun x82 => S.bd (ldc r80.2.2 x82) fun x83 => S.cnd x83 (S.bd (read_Read_Wake.v (r80.2.1.getD 1 undef) r80.2.2) fun r84 => S.bd (leapfrogref17x_Read_Wake.v (r80.2.1.getD 2 undef) r84.2) fun r85 => S.bd (bin .add (r80.2.1.getD 3 undef) (Go.Value.int Go.IntKind.i64 1)) fun x86 => rec59 [(r80.2.1.getD 0 undef), (r80.2.1.getD 1 undef), (r80.2.1.getD 2 undef), x86] r85.2) (S.bd (lal (cellsA (r80.2.1.getD 6 undef)) 0 13) fun x87 => S.bd (read_Read_Tell.v (r80.2.1.getD 1 undef) x87 r80.2.2) fun r88 => S.bd (lal (cellsA (r80.2.1.getD 6 undef)) 0 13) fun x89 => S.bd (leapfrogref17x_Read_Tell.v (r80.2.1.getD 2 undef) x89 r88.2) fun r90 => S.bd (bin .add (r80.2.1.getD 3 undef) (Go.Value.int Go.IntKind.i64 1)) fun x91 => rec59 [(r80.2.1.getD 0 undef), (r80.2.1.getD 1 undef), (r80.2.1.getD 2 undef), x91] r90.2)

def leapfroglaw17x_ReadRuns.l8 (S : Sig) (rec59 : List Value → St → Option Cut) (xs57 : List Value) (s58 : St) : Option Cut :=
  S.bd (lenL (xs57.getD 0 undef)) fun x60 => S.bd (bin .lss (xs57.getD 3 undef) x60) fun x61 => S.bd (S.gd x61 true (some (xs57.getD 3 undef))) fun x62 => S.bd (S.gd x61 true (bin .lss x62 (Go.Value.int Go.IntKind.i64 100))) fun x63 => S.bd (pik x61 x63 (Go.Value.bool Bool.false)) fun x64 => S.cnd x64 (S.bd (read_Read_Next.r (xs57.getD 1 undef) s58) fun x65 => S.bd (leapfrogref17x_Read_Next.r (xs57.getD 2 undef) s58) fun x66 => S.bd (leapfrogref12x_SameStep.r x65 x66 s58) fun x67 => S.bd (un .not x67) fun x68 => S.cnd x68 (some (1, [(Go.Value.bool Bool.false)], s58)) (leapfroglaw17x_ReadRuns.l8.p1 S s58 xs57 x62 x63 rec59)) (some (0, [(xs57.getD 1 undef), (xs57.getD 2 undef)], s58))

def leapfroglaw17x_ReadRuns.t (S : Sig) (a0 a1 : Value) (s : St) : Option (Value × St) :=
  S.bd (bx a0) fun c1 => S.bd (lal c1 0 8) fun x2 => S.bd (read_New.v x2 s) fun r3 => S.bd (xtr 0 r3.1) fun x4 => S.bd (xtr 1 r3.1) fun x5 => S.bd (lal c1 0 8) fun x6 => S.bd (leapfrogref17x_New.v x6 r3.2) fun r7 => S.bd (xtr 0 r7.1) fun x8 => S.bd (xtr 1 r7.1) fun x9 => S.bd (eqb [1] false true x5 x9) fun x10 => S.bd (S.gd x10 false (some x4)) fun x11 => S.bd (S.gd x10 false (eqb [3] false false x11 (Go.Value.pointer Option.none))) fun x12 => S.bd (S.gd x10 false (some x8)) fun x13 => S.bd (S.gd x10 false (eqb [3] false false x13 (Go.Value.pointer Option.none))) fun x14 => S.bd (S.gd x10 false (eqb [0] false true x12 x14)) fun x15 => S.bd (pik x10 (Go.Value.bool Bool.true) x15) fun x16 => S.cnd x16 (some ((Go.Value.bool Bool.false), r7.2)) (S.bd (eqb [3] false false x8 (Go.Value.pointer Option.none)) fun x17 => S.cnd x17 (S.bd (leapfroglaw17x_aliveC.r  r7.2) fun x18 => some (x18, r7.2)) (S.bd (S.it (leapfroglaw17x_ReadRuns.l8 S) [a1, x4, x8, (Go.Value.int Go.IntKind.i64 0)] r7.2) fun r92 => if r92.1 = 0 then (S.bd (read_Read_Next.r (r92.2.1.getD 0 undef) r92.2.2) fun x93 => S.bd (leapfrogref17x_Read_Next.r (r92.2.1.getD 1 undef) r92.2.2) fun x94 => S.bd (leapfrogref12x_SameStep.r x93 x94 r92.2.2) fun x95 => S.bd (S.gd x95 true (leapfroglaw17x_aliveC.r  r92.2.2)) fun x96 => S.bd (pik x95 x96 (Go.Value.bool Bool.false)) fun x97 => some (x97, r92.2.2)) else (some ((r92.2.1.getD 0 undef), r92.2.2))))
def leapfroglaw17x_ReadRuns.v (a0 a1 : Value) (s : St) : Option (Value × St) := leapfroglaw17x_ReadRuns.t std a0 a1 s
def leapfroglaw17x_ReadRuns.w : List Value → St → Option (Value × St)
  | [a0, a1], s => leapfroglaw17x_ReadRuns.v a0 a1 s
  | _, _ => none
def leapfroglaw17x_ReadRuns.an : An := ⟨86, false, [2, 10], [(8, ⟨[.v 1, .v 5, .v 7, .v 9], [(.exit 0, [.v 5, .v 7]), (.ret, [.v 4])]⟩)], [(15, ⟨[], [(.normal, [.v 1, .v 5, .v 7, .v 9, .p 10 10 0, .v 39, .v 40, .l 10])]⟩)], []⟩
theorem leapfroglaw17x_ReadRuns.ok (S : Sig) (a0 a1 : Value) (s : St) : evF S Tryz.prog leapfroglaw17x_ReadRuns.ctx leapfroglaw17x_ReadRuns.an Tryz.f3 [a0, a1] s = leapfroglaw17x_ReadRuns.t S a0 a1 s := by kernel_rfl
theorem leapfroglaw17x_ReadRuns.cok : CtxOk Tryz.prog leapfroglaw17x_ReadRuns.ctx := .cons read_New.sound read_New.can <| .cons leapfrogref17x_New.sound leapfrogref17x_New.can <| .cons leapfroglaw17x_aliveC.sound leapfroglaw17x_aliveC.can <| .cons read_Read_Next.sound read_Read_Next.can <| .cons leapfrogref17x_Read_Next.sound leapfrogref17x_Read_Next.can <| .cons leapfrogref12x_SameStep.sound leapfrogref12x_SameStep.can <| .cons read_Read_Wake.sound read_Read_Wake.can <| .cons leapfrogref17x_Read_Wake.sound leapfrogref17x_Read_Wake.can <| .cons read_Read_Tell.sound read_Read_Tell.can <| .cons leapfrogref17x_Read_Tell.sound leapfrogref17x_Read_Tell.can <| .nil
theorem leapfroglaw17x_ReadRuns.draws : fnDraws leapfroglaw17x_ReadRuns.an Tryz.f3 = true := by kernel_rfl
theorem leapfroglaw17x_ReadRuns.can : callOk Tryz.prog 3 = true := by kernel_rfl
theorem leapfroglaw17x_ReadRuns.sound : FnOk Tryz.prog 3 (.st leapfroglaw17x_ReadRuns.w) := FnOk.st_of (evF_ok leapfroglaw17x_ReadRuns.cok mixed (f := 3) (fn := Tryz.f3) (by kernel_rfl) leapfroglaw17x_ReadRuns.draws) fun args s r h => by
  unfold leapfroglaw17x_ReadRuns.w at h; split at h
  · rw [leapfroglaw17x_ReadRuns.ok std]; exact h
  · simp at h

/-! ### leapfrog/leapfroglaw17.ReadAsks: function 4 -/
def leapfroglaw17x_ReadAsks.ctx : Ctx := [(6, .st read_New.w), (7, .st leapfrogref17x_New.w), (8, .rd leapfroglaw17x_aliveC.w), (10, .rd read_Read_Next.w), (12, .st read_Read_Wake.w), (14, .st read_Read_Tell.w)]
def leapfroglaw17x_ReadAsks.l6.p1 (S : Sig) (xs43 : List Value) (s44 : St) (rec45 : List Value → St → Option Cut) : Option Cut :=
  S.bd (read_Read_Next.r (xs43.getD 1 undef) s44) fun x51 => S.bd (bx (Go.Value.agg #[(Go.Value.int Go.IntKind.i64 0), (Go.Value.int Go.IntKind.i64 0), (Go.Value.int Go.IntKind.i64 0), (Go.Value.int Go.IntKind.u64 0), (Go.Value.int Go.IntKind.i64 0), (Go.Value.int Go.IntKind.u64 0), (Go.Value.int Go.IntKind.i64 0), (Go.Value.int Go.IntKind.i64 0), (Go.Value.int Go.IntKind.u64 0), (Go.Value.int Go.IntKind.i64 0), (Go.Value.int Go.IntKind.i64 0), (Go.Value.int Go.IntKind.u64 0), (Go.Value.int Go.IntKind.i64 0), (Go.Value.int Go.IntKind.u64 0), (Go.Value.int Go.IntKind.i64 0), (Go.Value.int Go.IntKind.i64 0), (Go.Value.int Go.IntKind.u64 0), (Go.Value.int Go.IntKind.i64 0), (Go.Value.int Go.IntKind.u64 0), (Go.Value.int Go.IntKind.i64 0), (Go.Value.int Go.IntKind.i64 0), (Go.Value.int Go.IntKind.i64 0), (Go.Value.int Go.IntKind.u64 0), (Go.Value.slice Option.none 0 0), (Go.Value.slice Option.none 0 0), (Go.Value.int Go.IntKind.i64 0), (Go.Value.int Go.IntKind.i64 0), (Go.Value.int Go.IntKind.u64 0), (Go.Value.int Go.IntKind.i64 0), (Go.Value.int Go.IntKind.u64 0), (Go.Value.int Go.IntKind.i64 0), (Go.Value.int Go.IntKind.i64 0), (Go.Value.int Go.IntKind.u64 0), (Go.Value.int Go.IntKind.i64 0), (Go.Value.int Go.IntKind.u64 0), (Go.Value.bool Bool.false)])) fun c52 => S.bd (stl c52 0 36 x51) fun c53 => S.bd (lcl c53 0) fun x54 => S.bd (eqb [1] false false x54 (Go.Value.int Go.IntKind.i64 1)) fun x55 => S.bd (S.gd x55 true (lcl c53 6)) fun x56 => S.bd (S.gd x55 true (eqb [1] false true x56 (Go.Value.int Go.IntKind.i64 1))) fun x57 => S.bd (pik x55 x57 (Go.Value.bool Bool.false)) fun x58 => S.bd (S.gd x58 true (lcl c53 6)) fun x59 => S.bd (S.gd x58 true (eqb [1] false true x59 (Go.Value.int Go.IntKind.i64 2))) fun x60 => S.bd (pik x58 x60 (Go.Value.bool Bool.false)) fun x61 => S.cnd x61 (some (1, [(Go.Value.bool Bool.false)], s44)) (S.bd (idx s44 14 (xs43.getD 0 undef) (xs43.getD 2 undef)) fun x62 => S.bd (fld 0 x62) fun x63 => S.bd (ldc s44 x63) fun x64 => S.cnd x64 (S.bd (read_Read_Wake.v (xs43.getD 1 undef) s44) fun r65 => S.bd (bin .add (xs43.getD 2 undef) (Go.Value.int Go.IntKind.i64 1)) fun x66 => rec45 [(xs43.getD 0 undef), (xs43.getD 1 undef), x66] r65.2) (S.bd (idx s44 14 (xs43.getD 0 undef) (xs43.getD 2 undef)) fun x67 => S.bd (fld 1 x67) fun x68 => S.bd (lda s44 13 x68) fun x69 => S.bd (read_Read_Tell.v (xs43.getD 1 undef) x69 s44) fun r70 => S.bd (bin .add (xs43.getD 2 undef) (Go.Value.int Go.IntKind.i64 1)) fun x71 => rec45 [(xs43.getD 0 undef), (xs43.getD 1 undef), x71] r70.2))

def leapfroglaw17x_ReadAsks.l6 (S : Sig) (rec45 : List Value → St → Option Cut) (xs43 : List Value) (s44 : St) : Option Cut :=
  S.bd (lenL (xs43.getD 0 undef)) fun x46 => S.bd (bin .lss (xs43.getD 2 undef) x46) fun x47 => S.bd (S.gd x47 true (some (xs43.getD 2 undef))) fun x48 => S.bd (S.gd x47 true (bin .lss x48 (Go.Value.int Go.IntKind.i64 100))) fun x49 => S.bd (pik x47 x49 (Go.Value.bool Bool.false)) fun x50 => S.cnd x50 (leapfroglaw17x_ReadAsks.l6.p1 S xs43 s44 rec45) (some (0, [], s44))

def leapfroglaw17x_ReadAsks.t (S : Sig) (a0 a1 : Value) (s : St) : Option (Value × St) :=
  S.bd (bx a0) fun c1 => S.bd (lal c1 0 8) fun x2 => S.bd (read_New.v x2 s) fun r3 => S.bd (xtr 0 r3.1) fun x4 => S.bd (xtr 1 r3.1) fun x5 => S.bd (eqb [1] false true x5 (Go.Value.int Go.IntKind.i64 0)) fun x6 => S.bd (S.gd x6 false (some x4)) fun x7 => S.bd (S.gd x6 false (eqb [3] false false x7 (Go.Value.pointer Option.none))) fun x8 => S.bd (pik x6 (Go.Value.bool Bool.true) x8) fun x9 => S.cnd x9 (S.bd (lal c1 0 8) fun x10 => S.bd (leapfrogref17x_New.v x10 r3.2) fun r11 => S.bd (xtr 0 r11.1) fun x12 => S.bd (xtr 1 r11.1) fun x13 => S.bd (eqb [1] false false x5 x13) fun x14 => S.bd (S.gd x14 true (leapfroglaw17x_aliveC.r  r11.2)) fun x15 => S.bd (pik x14 x15 (Go.Value.bool Bool.false)) fun x16 => some (x16, r11.2)) (S.bd (S.it (leapfroglaw17x_ReadAsks.l6 S) [a1, x4, (Go.Value.int Go.IntKind.i64 0)] r3.2) fun r72 => if r72.1 = 0 then (S.bd (leapfroglaw17x_aliveC.r  r72.2.2) fun x73 => some (x73, r72.2.2)) else (some ((r72.2.1.getD 0 undef), r72.2.2)))
def leapfroglaw17x_ReadAsks.v (a0 a1 : Value) (s : St) : Option (Value × St) := leapfroglaw17x_ReadAsks.t std a0 a1 s
def leapfroglaw17x_ReadAsks.w : List Value → St → Option (Value × St)
  | [a0, a1], s => leapfroglaw17x_ReadAsks.v a0 a1 s
  | _, _ => none
def leapfroglaw17x_ReadAsks.an : An := ⟨75, false, [2, 10], [(6, ⟨[.v 1, .v 5, .v 9], [(.exit 0, []), (.ret, [.v 4])]⟩)], [], []⟩
theorem leapfroglaw17x_ReadAsks.ok (S : Sig) (a0 a1 : Value) (s : St) : evF S Tryz.prog leapfroglaw17x_ReadAsks.ctx leapfroglaw17x_ReadAsks.an Tryz.f4 [a0, a1] s = leapfroglaw17x_ReadAsks.t S a0 a1 s := by kernel_rfl
theorem leapfroglaw17x_ReadAsks.cok : CtxOk Tryz.prog leapfroglaw17x_ReadAsks.ctx := .cons read_New.sound read_New.can <| .cons leapfrogref17x_New.sound leapfrogref17x_New.can <| .cons leapfroglaw17x_aliveC.sound leapfroglaw17x_aliveC.can <| .cons read_Read_Next.sound read_Read_Next.can <| .cons read_Read_Wake.sound read_Read_Wake.can <| .cons read_Read_Tell.sound read_Read_Tell.can <| .nil
theorem leapfroglaw17x_ReadAsks.draws : fnDraws leapfroglaw17x_ReadAsks.an Tryz.f4 = true := by kernel_rfl
theorem leapfroglaw17x_ReadAsks.can : callOk Tryz.prog 4 = true := by kernel_rfl
theorem leapfroglaw17x_ReadAsks.sound : FnOk Tryz.prog 4 (.st leapfroglaw17x_ReadAsks.w) := FnOk.st_of (evF_ok leapfroglaw17x_ReadAsks.cok mixed (f := 4) (fn := Tryz.f4) (by kernel_rfl) leapfroglaw17x_ReadAsks.draws) fun args s r h => by
  unfold leapfroglaw17x_ReadAsks.w at h; split at h
  · rw [leapfroglaw17x_ReadAsks.ok std]; exact h
  · simp at h


end
end Go.Proofs.YtjiknclbjbfdjaaGreat
