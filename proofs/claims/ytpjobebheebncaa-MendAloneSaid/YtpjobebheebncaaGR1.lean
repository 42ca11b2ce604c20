/-
  What the functions answer that MendAlone reaches (part 1): for each function of the program a plain function over abstract values, and that the model answers as it does.
-/
import Derived.Test.YtpjobebheebncaaGR0
set_option linter.unusedVariables false
set_option maxRecDepth 100000
namespace Go.Proofs.Ytpjobebheebncaa
open Go.Sim
noncomputable section
/-! ### (*leapfrog/leapfrogref09.Peer).mark: function 49 -/
def leapfrogref09x_Peer_mark.ctx : Ctx := [(74, .rd leapfrogref09x_no.w), (41, .st leapfrogref09x_told.w), (80, .st leapfrogref09x_Peer_marked.w)]
def leapfrogref09x_Peer_mark.t (S : Sig) (a0 a1 : Value) (s : St) : Option (Value × St) :=
  S.bd (nck a0) fun x1 => S.bd (fld 6 x1) fun x2 => S.bd (ldc s x2) fun x3 => S.cnd x3 (S.bd (leapfrogref09x_no.r  s) fun x4 => S.bd (leapfrogref09x_told.v a1 x4 s) fun r5 => some (r5.1, r5.2)) (S.bd (nck a0) fun x6 => S.bd (fld 7 x6) fun x7 => S.bd (ldc s x7) fun x8 => S.bd (un .not x8) fun x9 => S.cnd x9 (S.bd (S.bd (bls 6 (List.replicate 0 [(Go.Value.int Go.IntKind.i64 0), (Go.Value.bool Bool.false), (Go.Value.int Go.IntKind.i64 0), (Go.Value.int Go.IntKind.u64 0), (Go.Value.int Go.IntKind.i64 0), (Go.Value.int Go.IntKind.i64 0)]) []) fun rows => als s 6 0 rows) fun r10 => S.bd (nck a0) fun x11 => S.bd (fld 10 x11) fun x12 => S.bd (ldc r10.2 x12) fun x13 => S.bd (app r10.2 6 48 r10.1 x13) fun r14 => S.bd (bld [(Go.Value.int Go.IntKind.i64 0), (Go.Value.bool Bool.false), (Go.Value.int Go.IntKind.i64 0), (Go.Value.int Go.IntKind.u64 0), (Go.Value.int Go.IntKind.i64 0), (Go.Value.int Go.IntKind.i64 0)] [(0, 1, a1), (1, 1, (Go.Value.bool Bool.true))]) fun x15 => S.bd (S.bd (bls 6 (List.replicate 1 [(Go.Value.int Go.IntKind.i64 0), (Go.Value.bool Bool.false), (Go.Value.int Go.IntKind.i64 0), (Go.Value.int Go.IntKind.u64 0), (Go.Value.int Go.IntKind.i64 0), (Go.Value.int Go.IntKind.i64 0)]) [(0, x15)]) fun rows => als r14.2 6 1 rows) fun r16 => S.bd (app r16.2 6 48 r14.1 r16.1) fun r17 => S.bd (nck a0) fun x18 => S.bd (fld 10 x18) fun x19 => S.bd (stv r17.2 1 x19 r17.1) fun s20 => some ((Go.Value.slice Option.none 0 0), s20)) (S.bd (leapfrogref09x_Peer_marked.v a0 s) fun r21 => S.bd (leapfrogref09x_told.v a1 r21.1 r21.2) fun r22 => some (r22.1, r22.2)))
def leapfrogref09x_Peer_mark.v (a0 a1 : Value) (s : St) : Option (Value × St) := leapfrogref09x_Peer_mark.t std a0 a1 s
def leapfrogref09x_Peer_mark.w : List Value → St → Option (Value × St)
  | [a0, a1], s => leapfrogref09x_Peer_mark.v a0 a1 s
  | _, _ => none
def leapfrogref09x_Peer_mark.an : An := ⟨34, false, [], [], [], []⟩
theorem leapfrogref09x_Peer_mark.ok (S : Sig) (a0 a1 : Value) (s : St) : evF S Try.prog leapfrogref09x_Peer_mark.ctx leapfrogref09x_Peer_mark.an Try.f49 [a0, a1] s = leapfrogref09x_Peer_mark.t S a0 a1 s := by kernel_rfl
theorem leapfrogref09x_Peer_mark.cok : CtxOk Try.prog leapfrogref09x_Peer_mark.ctx := .cons leapfrogref09x_no.sound leapfrogref09x_no.can <| .cons leapfrogref09x_told.sound leapfrogref09x_told.can <| .cons leapfrogref09x_Peer_marked.sound leapfrogref09x_Peer_marked.can <| .nil
theorem leapfrogref09x_Peer_mark.draws : fnDraws leapfrogref09x_Peer_mark.an Try.f49 = true := by kernel_rfl
theorem leapfrogref09x_Peer_mark.can : callOk Try.prog 49 = true := by kernel_rfl
theorem leapfrogref09x_Peer_mark.sound : FnOk Try.prog 49 (.st leapfrogref09x_Peer_mark.w) := FnOk.st_of (evF_ok leapfrogref09x_Peer_mark.cok mixed (f := 49) (fn := Try.f49) (by kernel_rfl) leapfrogref09x_Peer_mark.draws) fun args s r h => by
  unfold leapfrogref09x_Peer_mark.w at h; split at h
  · rw [leapfrogref09x_Peer_mark.ok std]; exact h
  · simp at h

/-! ### (*leapfrog/leapfrogref09.Peer).joined: function 50 -/
def leapfrogref09x_Peer_joined.ctx : Ctx := [(74, .rd leapfrogref09x_no.w), (41, .st leapfrogref09x_told.w), (77, .rd leapfrogref09x_ok.w), (80, .st leapfrogref09x_Peer_marked.w)]
def leapfrogref09x_Peer_joined.l7.p1 (S : Sig) (xs47 : List Value) (s48 : St) (rec49 : List Value → St → Option Cut) : Option Cut :=
  S.bd (nck (xs47.getD 0 undef)) fun x61 => S.bd (fld 10 x61) fun x62 => S.bd (ldc s48 x62) fun x63 => S.bd (idx s48 6 x63 (xs47.getD 3 undef)) fun x64 => S.bd (fld 0 x64) fun x65 => S.bd (ldc s48 x65) fun x66 => S.bd (leapfrogref09x_Peer_marked.v (xs47.getD 0 undef) s48) fun r67 => S.bd (ldc r67.2 x62) fun x68 => S.cnd (Value.bool (sameV x68 x63)) (S.bd (idx r67.2 6 x63 (xs47.getD 3 undef)) fun x69 => S.cnd (Value.bool (sameV x69 x64)) (S.bd (ldc r67.2 x65) fun x70 => S.cnd (Value.bool (sameV x70 x66)) (S.bd (bld [(Go.Value.int Go.IntKind.i64 0), (Go.Value.int Go.IntKind.i64 0), (Go.Value.bool Bool.false), (Go.Value.int Go.IntKind.i64 0), (Go.Value.int Go.IntKind.i64 0), (Go.Value.int Go.IntKind.u64 0), (Go.Value.int Go.IntKind.i64 0), (Go.Value.int Go.IntKind.u64 0), (Go.Value.int Go.IntKind.i64 0), (Go.Value.int Go.IntKind.i64 0), (Go.Value.int Go.IntKind.u64 0), (Go.Value.int Go.IntKind.i64 0), (Go.Value.int Go.IntKind.u64 0), (Go.Value.slice Option.none 0 0)] [(0, 1, x66), (1, 13, r67.1)]) fun x71 => S.bd (S.bd (bls 14 (List.replicate 1 [(Go.Value.int Go.IntKind.i64 0), (Go.Value.int Go.IntKind.i64 0), (Go.Value.bool Bool.false), (Go.Value.int Go.IntKind.i64 0), (Go.Value.int Go.IntKind.i64 0), (Go.Value.int Go.IntKind.u64 0), (Go.Value.int Go.IntKind.i64 0), (Go.Value.int Go.IntKind.u64 0), (Go.Value.int Go.IntKind.i64 0), (Go.Value.int Go.IntKind.i64 0), (Go.Value.int Go.IntKind.u64 0), (Go.Value.int Go.IntKind.i64 0), (Go.Value.int Go.IntKind.u64 0), (Go.Value.slice Option.none 0 0)]) [(0, x71)]) fun rows => als r67.2 14 1 rows) fun r72 => S.bd (app r72.2 14 128 (xs47.getD 1 undef) r72.1) fun r73 => S.bd (ldc r73.2 x62) fun x74 => S.cnd (Value.bool (sameV x74 x63)) (S.bd (idx r73.2 6 x63 (xs47.getD 3 undef)) fun x75 => S.cnd (Value.bool (sameV x75 x64)) (S.bd (ldc r73.2 x65) fun x76 => S.cnd (Value.bool (sameV x76 x66)) (S.bd (bin .add (xs47.getD 3 undef) (Go.Value.int Go.IntKind.i64 1)) fun x77 => rec49 [(xs47.getD 0 undef), r73.1, (xs47.getD 2 undef), x77] r73.2) (none)) (none)) (none)) (none)) (none)) (none)

def leapfrogref09x_Peer_joined.l7 (S : Sig) (rec49 : List Value → St → Option Cut) (xs47 : List Value) (s48 : St) : Option Cut :=
  S.bd (nck (xs47.getD 0 undef)) fun x50 => S.bd (fld 10 x50) fun x51 => S.bd (ldc s48 x51) fun x52 => S.bd (lenL x52) fun x53 => S.bd (bin .lss (xs47.getD 3 undef) x53) fun x54 => S.cnd x54 (S.bd (nck (xs47.getD 0 undef)) fun x55 => S.bd (fld 10 x55) fun x56 => S.bd (ldc s48 x56) fun x57 => S.bd (idx s48 6 x57 (xs47.getD 3 undef)) fun x58 => S.bd (fld 1 x58) fun x59 => S.bd (ldc s48 x59) fun x60 => S.cnd x60 (leapfrogref09x_Peer_joined.l7.p1 S xs47 s48 rec49) (S.bd (nck (xs47.getD 0 undef)) fun x78 => S.bd (fld 10 x78) fun x79 => S.bd (ldc s48 x79) fun x80 => S.bd (idx s48 6 x80 (xs47.getD 3 undef)) fun x81 => S.bd (lda s48 6 x81) fun x82 => S.bd (S.bd (bls 6 (List.replicate 1 [(Go.Value.int Go.IntKind.i64 0), (Go.Value.bool Bool.false), (Go.Value.int Go.IntKind.i64 0), (Go.Value.int Go.IntKind.u64 0), (Go.Value.int Go.IntKind.i64 0), (Go.Value.int Go.IntKind.i64 0)]) [(0, x82)]) fun rows => als s48 6 1 rows) fun r83 => S.bd (app r83.2 6 48 (xs47.getD 2 undef) r83.1) fun r84 => S.bd (bin .add (xs47.getD 3 undef) (Go.Value.int Go.IntKind.i64 1)) fun x85 => rec49 [(xs47.getD 0 undef), (xs47.getD 1 undef), r84.1, x85] r84.2)) (some (0, [(xs47.getD 0 undef), (xs47.getD 1 undef), (xs47.getD 2 undef)], s48))

def leapfrogref09x_Peer_joined.t (S : Sig) (a0 a1 : Value) (s : St) : Option (Value × St) :=
  S.bd (nck a0) fun x1 => S.bd (fld 6 x1) fun x2 => S.bd (ldc s x2) fun x3 => S.cnd x3 (S.bd (leapfrogref09x_no.r  s) fun x4 => S.bd (leapfrogref09x_told.v a1 x4 s) fun r5 => some (r5.1, r5.2)) (S.bd (nck a0) fun x6 => S.bd (fld 7 x6) fun x7 => S.bd (stv s 1 x7 (Go.Value.bool Bool.true)) fun s8 => S.bd (leapfrogref09x_ok.r  s8) fun x9 => S.bd (leapfrogref09x_told.v a1 x9 s8) fun r10 => S.bd (S.it (leapfrogref09x_Peer_joined.l7 S) [a0, r10.1, (Go.Value.slice Option.none 0 0), (Go.Value.int Go.IntKind.i64 0)] r10.2) fun r86 => S.bd (nck (r86.2.1.getD 0 undef)) fun x87 => S.bd (fld 10 x87) fun x88 => S.bd (stv r86.2.2 1 x88 (r86.2.1.getD 2 undef)) fun s89 => some ((r86.2.1.getD 1 undef), s89))
def leapfrogref09x_Peer_joined.v (a0 a1 : Value) (s : St) : Option (Value × St) := leapfrogref09x_Peer_joined.t std a0 a1 s
def leapfrogref09x_Peer_joined.w : List Value → St → Option (Value × St)
  | [a0, a1], s => leapfrogref09x_Peer_joined.v a0 a1 s
  | _, _ => none
def leapfrogref09x_Peer_joined.an : An := ⟨67, false, [], [(7, ⟨[.v 0, .v 5, .v 6, .v 7], [(.exit 0, [.v 0, .v 5, .v 6])]⟩)], [], [(10, [(0, 0, [], []), (1, 0, [], []), (2, 0, [], []), (3, 0, [], []), (4, 2, [], []), (5, 0, [], []), (6, 2, [], []), (7, 0, [], []), (8, 2, [], []), (9, 0, [], []), (10, 4, [4, 6, 8], []), (11, 0, [], []), (12, 3, [], []), (13, 4, [4, 6, 8], []), (14, 0, [], [])])]⟩
theorem leapfrogref09x_Peer_joined.ok (S : Sig) (a0 a1 : Value) (s : St) : evF S Try.prog leapfrogref09x_Peer_joined.ctx leapfrogref09x_Peer_joined.an Try.f50 [a0, a1] s = leapfrogref09x_Peer_joined.t S a0 a1 s := by kernel_rfl
theorem leapfrogref09x_Peer_joined.cok : CtxOk Try.prog leapfrogref09x_Peer_joined.ctx := .cons leapfrogref09x_no.sound leapfrogref09x_no.can <| .cons leapfrogref09x_told.sound leapfrogref09x_told.can <| .cons leapfrogref09x_ok.sound leapfrogref09x_ok.can <| .cons leapfrogref09x_Peer_marked.sound leapfrogref09x_Peer_marked.can <| .nil
theorem leapfrogref09x_Peer_joined.draws : fnDraws leapfrogref09x_Peer_joined.an Try.f50 = true := by kernel_rfl
theorem leapfrogref09x_Peer_joined.can : callOk Try.prog 50 = true := by kernel_rfl
theorem leapfrogref09x_Peer_joined.sound : FnOk Try.prog 50 (.st leapfrogref09x_Peer_joined.w) := FnOk.st_of (evF_ok leapfrogref09x_Peer_joined.cok mixed (f := 50) (fn := Try.f50) (by kernel_rfl) leapfrogref09x_Peer_joined.draws) fun args s r h => by
  unfold leapfrogref09x_Peer_joined.w at h; split at h
  · rw [leapfrogref09x_Peer_joined.ok std]; exact h
  · simp at h

/-! ### (*leapfrog/leapfrogref09.Peer).Ask: function 16 -/
def leapfrogref09x_Peer_Ask.ctx : Ctx := [(39, .rd leapfrogref04x_CheckAsk.w), (40, .rd leapfrogref09x_Peer_rec.w), (42, .rd leapfrogref09x_gone.w), (41, .st leapfrogref09x_told.w), (43, .rd leapfrogref09x_Peer_of.w), (44, .st leapfrogref09x_Peer_lock.w), (45, .st leapfrogref09x_Peer_free.w), (46, .st leapfrogref09x_Peer_beside.w), (47, .st leapfrogref09x_Peer_enter.w), (48, .st leapfrogref09x_Peer_out.w), (49, .st leapfrogref09x_Peer_mark.w), (50, .st leapfrogref09x_Peer_joined.w)]
def leapfrogref09x_Peer_Ask.t.p1 (S : Sig) (r81 : Cut) : Option Cut :=
  S.bd (lal (cellsA (r81.2.1.getD 4 undef)) 1 2) fun x82 => S.bd (bx (Go.Value.agg #[(Go.Value.int Go.IntKind.i64 0), (Go.Value.int Go.IntKind.u64 0)])) fun c83 => S.bd (stl c83 0 2 x82) fun c84 => S.bd (show Option Cut from S.bd (lcl (cellsA (r81.2.1.getD 4 undef)) 0) fun x85 => S.bd (eqb [1] false false x85 (Go.Value.int Go.IntKind.i64 2)) fun x86 => S.cnd x86 (S.bd (bld [(Go.Value.int Go.IntKind.i64 0), (Go.Value.int Go.IntKind.u64 0)] []) fun x87 => S.bd (stl c84 0 2 x87) fun c88 => some (0, [(r81.2.1.getD 0 undef), (r81.2.1.getD 1 undef), (Value.agg ⟨(cellsA (r81.2.1.getD 4 undef))⟩), (Value.agg ⟨c88⟩)], r81.2.2)) (some (0, [(r81.2.1.getD 0 undef), (r81.2.1.getD 1 undef), (Value.agg ⟨(cellsA (r81.2.1.getD 4 undef))⟩), (Value.agg ⟨c84⟩)], r81.2.2))) fun r89 => S.bd (lal (cellsA (r89.2.1.getD 3 undef)) 0 2) fun x90 => S.bd (leapfrogref09x_Peer_rec.r (r89.2.1.getD 0 undef) x90 r89.2.2) fun x91 => S.bd (xtr 0 x91) fun x92 => S.bd (xtr 1 x91) fun x93 => S.bd (bx (Go.Value.agg #[(Go.Value.int Go.IntKind.i64 0), (Go.Value.int Go.IntKind.u64 0), (Go.Value.int Go.IntKind.i64 0), (Go.Value.int Go.IntKind.i64 0), (Go.Value.int Go.IntKind.u64 0), (Go.Value.int Go.IntKind.i64 0), (Go.Value.int Go.IntKind.u64 0), (Go.Value.int Go.IntKind.i64 0), (Go.Value.int Go.IntKind.i64 0), (Go.Value.int Go.IntKind.u64 0), (Go.Value.int Go.IntKind.i64 0), (Go.Value.int Go.IntKind.u64 0), (Go.Value.bool Bool.false), (Go.Value.int Go.IntKind.i64 0), (Go.Value.int Go.IntKind.i64 0), (Go.Value.slice Option.none 0 0)])) fun c94 => S.bd (stl c94 0 16 x92) fun c95 => S.bd (un .not x93) fun x96 => S.cnd x96 (S.bd (leapfrogref09x_gone.r  r89.2.2) fun x97 => S.bd (leapfrogref09x_told.v (r89.2.1.getD 1 undef) x97 r89.2.2) fun r98 => some (1, [r98.1, (Go.Value.int Go.IntKind.i64 0)], r98.2)) (S.bd (lal c95 0 16) fun x99 => S.bd (leapfrogref09x_Peer_of.r (r89.2.1.getD 0 undef) x99 r89.2.2) fun x100 => S.bd (bx (Go.Value.agg #[(Go.Value.int Go.IntKind.i64 0), (Go.Value.bool Bool.false), (Go.Value.int Go.IntKind.i64 0), (Go.Value.int Go.IntKind.i64 0), (Go.Value.int Go.IntKind.u64 0), (Go.Value.int Go.IntKind.i64 0), (Go.Value.int Go.IntKind.u64 0), (Go.Value.int Go.IntKind.i64 0), (Go.Value.int Go.IntKind.i64 0), (Go.Value.int Go.IntKind.u64 0), (Go.Value.int Go.IntKind.i64 0), (Go.Value.int Go.IntKind.u64 0), (Go.Value.slice Option.none 0 0)])) fun c101 => S.bd (stl c101 0 13 x100) fun c102 => S.bd (show Option Cut from S.bd (lcl (cellsA (r89.2.1.getD 2 undef)) 0) fun x103 => S.bd (eqb [1] false false x103 (Go.Value.int Go.IntKind.i64 2)) fun x104 => S.cnd x104 (S.bd (S.bd (bls 1 (List.replicate 0 [(Go.Value.int Go.IntKind.u8 0)]) []) fun rows => als r89.2.2 1 0 rows) fun r105 => S.bd (nck (r89.2.1.getD 0 undef)) fun x106 => S.bd (fld 5 x106) fun x107 => S.bd (ldc r105.2 x107) fun x108 => S.bd (app r105.2 1 1 r105.1 x108) fun r109 => S.bd (stl c102 12 1 r109.1) fun c110 => some (0, [(r89.2.1.getD 1 undef), (Value.agg ⟨c110⟩)], r109.2)) (some (0, [(r89.2.1.getD 1 undef), (Value.agg ⟨c102⟩)], r89.2.2))) fun r111 => S.bd (lal (cellsA (r111.2.1.getD 1 undef)) 0 13) fun x112 => S.bd (leapfrogref09x_told.v (r111.2.1.getD 0 undef) x112 r111.2.2) fun r113 => some (1, [r113.1, (Go.Value.int Go.IntKind.i64 0)], r113.2))

def leapfrogref09x_Peer_Ask.t.p2 (S : Sig) (r81 : Cut) : Option Cut :=
  S.bd (show Option Cut from S.bd (eqb [1] false false (r81.2.1.getD 2 undef) (Go.Value.int Go.IntKind.i64 5)) fun x120 => S.cnd x120 (some (0, [(r81.2.1.getD 0 undef), (r81.2.1.getD 1 undef), (r81.2.1.getD 2 undef), x120, (Value.agg ⟨(cellsA (r81.2.1.getD 4 undef))⟩)], r81.2.2)) (S.bd (eqb [1] false false (r81.2.1.getD 2 undef) (Go.Value.int Go.IntKind.i64 6)) fun x121 => some (0, [(r81.2.1.getD 0 undef), (r81.2.1.getD 1 undef), (r81.2.1.getD 2 undef), x121, (Value.agg ⟨(cellsA (r81.2.1.getD 4 undef))⟩)], r81.2.2))) fun r122 => S.cnd (r122.2.1.getD 3 undef) (S.bd (lal (cellsA (r122.2.1.getD 4 undef)) 0 15) fun x123 => S.bd (leapfrogref09x_Peer_beside.v (r122.2.1.getD 0 undef) x123 r122.2.2) fun r124 => S.bd (leapfrogref09x_told.v (r122.2.1.getD 1 undef) r124.1 r124.2) fun r125 => some (1, [r125.1, (Go.Value.int Go.IntKind.i64 0)], r125.2)) (S.bd (eqb [1] false false (r122.2.1.getD 2 undef) (Go.Value.int Go.IntKind.i64 7)) fun x126 => S.cnd x126 (S.bd (lal (cellsA (r122.2.1.getD 4 undef)) 0 15) fun x127 => S.bd (leapfrogref09x_Peer_enter.v (r122.2.1.getD 0 undef) x127 r122.2.2) fun r128 => S.bd (leapfrogref09x_told.v (r122.2.1.getD 1 undef) r128.1 r128.2) fun r129 => some (1, [r129.1, (Go.Value.int Go.IntKind.i64 0)], r129.2)) (S.bd (eqb [1] false false (r122.2.1.getD 2 undef) (Go.Value.int Go.IntKind.i64 8)) fun x130 => S.cnd x130 (S.bd (lal (cellsA (r122.2.1.getD 4 undef)) 0 15) fun x131 => S.bd (leapfrogref09x_Peer_out.v (r122.2.1.getD 0 undef) (r122.2.1.getD 1 undef) x131 r122.2.2) fun r132 => some (1, [r132.1, (Go.Value.int Go.IntKind.i64 0)], r132.2)) (S.bd (eqb [1] false false (r122.2.1.getD 2 undef) (Go.Value.int Go.IntKind.i64 9)) fun x133 => S.cnd x133 (S.bd (leapfrogref09x_Peer_mark.v (r122.2.1.getD 0 undef) (r122.2.1.getD 1 undef) r122.2.2) fun r134 => some (1, [r134.1, (Go.Value.int Go.IntKind.i64 0)], r134.2)) (some (0, [(r122.2.1.getD 0 undef), (r122.2.1.getD 1 undef)], r122.2.2)))))

def leapfrogref09x_Peer_Ask.t (S : Sig) (a0 a1 a2 : Value) (s : St) : Option (Value × St) :=
  S.bd (bx a2) fun c1 => S.bd (lal c1 0 15) fun x2 => S.bd (leapfrogref04x_CheckAsk.r x2 s) fun x3 => S.bd (eqb [1] false true x3 (Go.Value.int Go.IntKind.i64 0)) fun x4 => S.cnd x4 (some ((Value.tuple ⟨[(Go.Value.slice Option.none 0 0), (Go.Value.int Go.IntKind.i64 91)]⟩), s)) (S.bd (show Option Cut from S.bd (lcl c1 0) fun x78 => S.bd (show Option Cut from S.bd (eqb [1] false false x78 (Go.Value.int Go.IntKind.i64 1)) fun x79 => S.cnd x79 (some (0, [a0, a1, x78, x79, (Value.agg ⟨c1⟩)], s)) (S.bd (eqb [1] false false x78 (Go.Value.int Go.IntKind.i64 2)) fun x80 => some (0, [a0, a1, x78, x80, (Value.agg ⟨c1⟩)], s))) fun r81 => S.cnd (r81.2.1.getD 3 undef) (leapfrogref09x_Peer_Ask.t.p1 S r81) (S.bd (eqb [1] false false (r81.2.1.getD 2 undef) (Go.Value.int Go.IntKind.i64 3)) fun x114 => S.cnd x114 (S.bd (lal (cellsA (r81.2.1.getD 4 undef)) 0 15) fun x115 => S.bd (leapfrogref09x_Peer_lock.v (r81.2.1.getD 0 undef) (r81.2.1.getD 1 undef) x115 r81.2.2) fun r116 => some (1, [r116.1, (Go.Value.int Go.IntKind.i64 0)], r116.2)) (S.bd (eqb [1] false false (r81.2.1.getD 2 undef) (Go.Value.int Go.IntKind.i64 4)) fun x117 => S.cnd x117 (S.bd (lal (cellsA (r81.2.1.getD 4 undef)) 0 15) fun x118 => S.bd (leapfrogref09x_Peer_free.v (r81.2.1.getD 0 undef) (r81.2.1.getD 1 undef) x118 r81.2.2) fun r119 => some (1, [r119.1, (Go.Value.int Go.IntKind.i64 0)], r119.2)) (leapfrogref09x_Peer_Ask.t.p2 S r81)))) fun r135 => if r135.1 = 0 then (S.bd (leapfrogref09x_Peer_joined.v (r135.2.1.getD 0 undef) (r135.2.1.getD 1 undef) r135.2.2) fun r136 => some ((Value.tuple ⟨[r136.1, (Go.Value.int Go.IntKind.i64 0)]⟩), r136.2)) else (some ((Value.tuple ⟨[(r135.2.1.getD 0 undef), (r135.2.1.getD 1 undef)]⟩), r135.2.2)))
def leapfrogref09x_Peer_Ask.v (a0 a1 a2 : Value) (s : St) : Option (Value × St) := leapfrogref09x_Peer_Ask.t std a0 a1 a2 s
def leapfrogref09x_Peer_Ask.w : List Value → St → Option (Value × St)
  | [a0, a1, a2], s => leapfrogref09x_Peer_Ask.v a0 a1 a2 s
  | _, _ => none
def leapfrogref09x_Peer_Ask.an : An := ⟨94, false, [5, 8, 9, 11], [], [(6, ⟨[], [(.normal, [.v 0, .v 1, .p 5 5 0, .v 16, .v 17, .l 5])]⟩), (9, ⟨[], [(.normal, [.v 0, .v 1, .p 5 5 0, .p 8 8 0, .l 5, .l 8])]⟩), (15, ⟨[], [(.normal, [.v 1, .p 11 11 0, .l 11])]⟩), (22, ⟨[], [(.normal, [.v 0, .v 1, .p 5 5 0, .v 16, .v 65, .l 5])]⟩), (29, ⟨[], [(.normal, [.v 0, .v 1]), (.ret, [.v 6, .v 7])]⟩)], []⟩
theorem leapfrogref09x_Peer_Ask.ok (S : Sig) (a0 a1 a2 : Value) (s : St) : evF S Try.prog leapfrogref09x_Peer_Ask.ctx leapfrogref09x_Peer_Ask.an Try.f16 [a0, a1, a2] s = leapfrogref09x_Peer_Ask.t S a0 a1 a2 s := by kernel_rfl
theorem leapfrogref09x_Peer_Ask.cok : CtxOk Try.prog leapfrogref09x_Peer_Ask.ctx := .cons leapfrogref04x_CheckAsk.sound leapfrogref04x_CheckAsk.can <| .cons leapfrogref09x_Peer_rec.sound leapfrogref09x_Peer_rec.can <| .cons leapfrogref09x_gone.sound leapfrogref09x_gone.can <| .cons leapfrogref09x_told.sound leapfrogref09x_told.can <| .cons leapfrogref09x_Peer_of.sound leapfrogref09x_Peer_of.can <| .cons leapfrogref09x_Peer_lock.sound leapfrogref09x_Peer_lock.can <| .cons leapfrogref09x_Peer_free.sound leapfrogref09x_Peer_free.can <| .cons leapfrogref09x_Peer_beside.sound leapfrogref09x_Peer_beside.can <| .cons leapfrogref09x_Peer_enter.sound leapfrogref09x_Peer_enter.can <| .cons leapfrogref09x_Peer_out.sound leapfrogref09x_Peer_out.can <| .cons leapfrogref09x_Peer_mark.sound leapfrogref09x_Peer_mark.can <| .cons leapfrogref09x_Peer_joined.sound leapfrogref09x_Peer_joined.can <| .nil
theorem leapfrogref09x_Peer_Ask.draws : fnDraws leapfrogref09x_Peer_Ask.an Try.f16 = true := by kernel_rfl
theorem leapfrogref09x_Peer_Ask.can : callOk Try.prog 16 = true := by kernel_rfl
theorem leapfrogref09x_Peer_Ask.sound : FnOk Try.prog 16 (.st leapfrogref09x_Peer_Ask.w) := FnOk.st_of (evF_ok leapfrogref09x_Peer_Ask.cok mixed (f := 16) (fn := Try.f16) (by kernel_rfl) leapfrogref09x_Peer_Ask.draws) fun args s r h => by
  unfold leapfrogref09x_Peer_Ask.w at h; split at h
  · rw [leapfrogref09x_Peer_Ask.ok std]; exact h
  · simp at h

/-! ### leapfrog/leapfrogref15.Answer: function 67 -/
def leapfrogref15x_Answer.ctx : Ctx := [(16, .st leapfrogref09x_Peer_Ask.w)]
def leapfrogref15x_Answer.l2.p1 (S : Sig) (s33 : St) (xs32 : List Value) (rec34 : List Value → St → Option Cut) : Option Cut :=
  S.bd (idx s33 1 (xs32.getD 0 undef) (xs32.getD 1 undef)) fun x37 => S.bd (ldc s33 x37) fun x38 => S.bd (nck x38) fun x39 => S.bd (fld 0 x39) fun x40 => S.bd (fld 0 x40) fun x41 => S.bd (ldc s33 x41) fun x42 => S.bd (lcl (cellsA (xs32.getD 2 undef)) 1) fun x43 => S.bd (eqb [1] false true x42 x43) fun x44 => S.cnd x44 (S.bd (bin .add (xs32.getD 1 undef) (Go.Value.int Go.IntKind.i64 1)) fun x45 => rec34 [(xs32.getD 0 undef), x45, (Value.agg ⟨(cellsA (xs32.getD 2 undef))⟩), (Value.agg ⟨(cellsA (xs32.getD 3 undef))⟩)] s33) (S.bd (idx s33 1 (xs32.getD 0 undef) (xs32.getD 1 undef)) fun x46 => S.bd (ldc s33 x46) fun x47 => S.bd (lal (cellsA (xs32.getD 2 undef)) 6 15) fun x48 => S.bd (leapfrogref09x_Peer_Ask.v x47 (Go.Value.int Go.IntKind.i64 1) x48 s33) fun r49 => S.bd (idx r49.2 1 (xs32.getD 0 undef) (xs32.getD 1 undef)) fun x50 => S.cnd (Value.bool (sameV x50 x46)) (S.bd (xtr 0 r49.1) fun x51 => S.bd (xtr 1 r49.1) fun x52 => S.bd (eqb [1] false true x52 (Go.Value.int Go.IntKind.i64 0)) fun x53 => S.bd (S.gd x53 false (some x51)) fun x54 => S.bd (S.gd x53 false (lenL x54)) fun x55 => S.bd (S.gd x53 false (eqb [1] false true x55 (Go.Value.int Go.IntKind.i64 1))) fun x56 => S.bd (pik x53 (Go.Value.bool Bool.true) x56) fun x57 => S.cnd x57 (S.bd (bld [(Go.Value.int Go.IntKind.i64 0), (Go.Value.bool Bool.false), (Go.Value.int Go.IntKind.i64 0), (Go.Value.int Go.IntKind.i64 0), (Go.Value.int Go.IntKind.u64 0), (Go.Value.int Go.IntKind.i64 0), (Go.Value.int Go.IntKind.u64 0), (Go.Value.int Go.IntKind.i64 0), (Go.Value.int Go.IntKind.i64 0), (Go.Value.int Go.IntKind.u64 0), (Go.Value.int Go.IntKind.i64 0), (Go.Value.int Go.IntKind.u64 0), (Go.Value.slice Option.none 0 0)] []) fun x58 => S.bd (stl (cellsA (xs32.getD 3 undef)) 0 13 x58) fun c59 => some (1, [(Go.Value.bool Bool.false), (Value.agg ⟨c59⟩)], r49.2)) (S.bd (idx r49.2 14 x51 (Go.Value.int Go.IntKind.i64 0)) fun x60 => S.bd (fld 1 x60) fun x61 => S.bd (lda r49.2 13 x61) fun x62 => S.bd (stl (cellsA (xs32.getD 3 undef)) 0 13 x62) fun c63 => some (1, [(Go.Value.bool Bool.true), (Value.agg ⟨c63⟩)], r49.2))) (none))

def leapfrogref15x_Answer.l2 (S : Sig) (rec34 : List Value → St → Option Cut) (xs32 : List Value) (s33 : St) : Option Cut :=
  S.bd (lenL (xs32.getD 0 undef)) fun x35 => S.bd (bin .lss (xs32.getD 1 undef) x35) fun x36 => S.cnd x36 (leapfrogref15x_Answer.l2.p1 S s33 xs32 rec34) (some (0, [(Value.agg ⟨(cellsA (xs32.getD 3 undef))⟩)], s33))

def leapfrogref15x_Answer.t (S : Sig) (a0 a1 : Value) (s : St) : Option (Value × St) :=
  S.bd (bx a1) fun c1 => S.bd (bx (Go.Value.agg #[(Go.Value.int Go.IntKind.i64 0), (Go.Value.bool Bool.false), (Go.Value.int Go.IntKind.i64 0), (Go.Value.int Go.IntKind.i64 0), (Go.Value.int Go.IntKind.u64 0), (Go.Value.int Go.IntKind.i64 0), (Go.Value.int Go.IntKind.u64 0), (Go.Value.int Go.IntKind.i64 0), (Go.Value.int Go.IntKind.i64 0), (Go.Value.int Go.IntKind.u64 0), (Go.Value.int Go.IntKind.i64 0), (Go.Value.int Go.IntKind.u64 0), (Go.Value.slice Option.none 0 0)])) fun c2 => S.bd (S.it (leapfrogref15x_Answer.l2 S) [a0, (Go.Value.int Go.IntKind.i64 0), (Value.agg ⟨c1⟩), (Value.agg ⟨c2⟩)] s) fun r64 => if r64.1 = 0 then (S.bd (bld [(Go.Value.int Go.IntKind.i64 0), (Go.Value.bool Bool.false), (Go.Value.int Go.IntKind.i64 0), (Go.Value.int Go.IntKind.i64 0), (Go.Value.int Go.IntKind.u64 0), (Go.Value.int Go.IntKind.i64 0), (Go.Value.int Go.IntKind.u64 0), (Go.Value.int Go.IntKind.i64 0), (Go.Value.int Go.IntKind.i64 0), (Go.Value.int Go.IntKind.u64 0), (Go.Value.int Go.IntKind.i64 0), (Go.Value.int Go.IntKind.u64 0), (Go.Value.slice Option.none 0 0)] []) fun x66 => S.bd (stl (cellsA (r64.2.1.getD 0 undef)) 0 13 x66) fun c67 => S.bd (lal c67 0 13) fun x68 => some ((Value.tuple ⟨[x68, (Go.Value.bool Bool.false)]⟩), r64.2.2)) else (S.bd (lal (cellsA (r64.2.1.getD 1 undef)) 0 13) fun x65 => some ((Value.tuple ⟨[x65, (r64.2.1.getD 0 undef)]⟩), r64.2.2))
def leapfrogref15x_Answer.v (a0 a1 : Value) (s : St) : Option (Value × St) := leapfrogref15x_Answer.t std a0 a1 s
def leapfrogref15x_Answer.w : List Value → St → Option (Value × St)
  | [a0, a1], s => leapfrogref15x_Answer.v a0 a1 s
  | _, _ => none
def leapfrogref15x_Answer.an : An := ⟨50, false, [3, 4], [(2, ⟨[.v 0, .p 3 3 0, .p 4 4 0, .v 6, .l 3, .l 4], [(.exit 0, [.p 4 4 0, .l 4]), (.ret, [.p 4 4 0, .v 5, .l 4])]⟩)], [], [(4, [(0, 0, [], []), (1, 0, [], []), (2, 2, [], []), (3, 2, [], []), (4, 0, [], []), (5, 0, [], []), (6, 0, [], []), (7, 2, [], []), (8, 0, [], []), (9, 0, [], []), (10, 25, [], []), (11, 0, [], [])]), (5, [(0, 0, [], []), (1, 0, [], []), (2, 2, [], []), (3, 2, [], []), (4, 0, [], []), (5, 25, [], []), (6, 4, [2], []), (7, 0, [], []), (8, 0, [], []), (9, 0, [], []), (10, 0, [], []), (11, 0, [], [])])]⟩
theorem leapfrogref15x_Answer.ok (S : Sig) (a0 a1 : Value) (s : St) : evF S Try.prog leapfrogref15x_Answer.ctx leapfrogref15x_Answer.an Try.f67 [a0, a1] s = leapfrogref15x_Answer.t S a0 a1 s := by kernel_rfl
theorem leapfrogref15x_Answer.cok : CtxOk Try.prog leapfrogref15x_Answer.ctx := .cons leapfrogref09x_Peer_Ask.sound leapfrogref09x_Peer_Ask.can <| .nil
theorem leapfrogref15x_Answer.draws : fnDraws leapfrogref15x_Answer.an Try.f67 = true := by kernel_rfl
theorem leapfrogref15x_Answer.can : callOk Try.prog 67 = true := by kernel_rfl
theorem leapfrogref15x_Answer.sound : FnOk Try.prog 67 (.st leapfrogref15x_Answer.w) := FnOk.st_of (evF_ok leapfrogref15x_Answer.cok mixed (f := 67) (fn := Try.f67) (by kernel_rfl) leapfrogref15x_Answer.draws) fun args s r h => by
  unfold leapfrogref15x_Answer.w at h; split at h
  · rw [leapfrogref15x_Answer.ok std]; exact h
  · simp at h

/-! ### leapfrog/leapfroglaw20.answer: function 38 -/
def leapfroglaw20x_answer.ctx : Ctx := [(7, .rd leapfroglaw20x_dead.w), (25, .rd leapfrogref09x_Peer_Will.w), (67, .st leapfrogref15x_Answer.w)]
def leapfroglaw20x_answer.l2.p1 (S : Sig) (x40 : Value) (xs28 : List Value) (x41 : Value) (s29 : St) (rec30 : List Value → St → Option Cut) : Option Cut :=
  S.bd (S.gd x40 true (lcl (cellsA (xs28.getD 3 undef)) 1)) fun x42 => S.bd (S.gd x40 true (leapfroglaw20x_dead.r x41 x42 s29)) fun x43 => S.bd (pik x40 x43 (Go.Value.bool Bool.false)) fun x44 => S.cnd x44 (S.bd (idx s29 1 (xs28.getD 0 undef) (xs28.getD 2 undef)) fun x45 => S.bd (ldc s29 x45) fun x46 => S.bd (lal (cellsA (xs28.getD 3 undef)) 7 2) fun x47 => S.bd (alv s29 (Go.Value.agg #[(Go.Value.int Go.IntKind.i64 0), (Go.Value.bool Bool.false), (Go.Value.int Go.IntKind.i64 0), (Go.Value.int Go.IntKind.i64 0), (Go.Value.int Go.IntKind.u64 0), (Go.Value.int Go.IntKind.i64 0), (Go.Value.int Go.IntKind.u64 0), (Go.Value.int Go.IntKind.i64 0), (Go.Value.int Go.IntKind.i64 0), (Go.Value.int Go.IntKind.u64 0), (Go.Value.int Go.IntKind.i64 0), (Go.Value.int Go.IntKind.u64 0), (Go.Value.slice Option.none 0 0)])) fun _ => S.bd (leapfrogref09x_Peer_Will.r x46 x47 s29) fun x48 => S.bd (xtr 0 x48) fun x49 => S.bd (xtr 1 x48) fun x50 => S.bd (alv s29 (Go.Value.agg #[(Go.Value.int Go.IntKind.i64 0), (Go.Value.bool Bool.false), (Go.Value.int Go.IntKind.i64 0), (Go.Value.int Go.IntKind.i64 0), (Go.Value.int Go.IntKind.u64 0), (Go.Value.int Go.IntKind.i64 0), (Go.Value.int Go.IntKind.u64 0), (Go.Value.int Go.IntKind.i64 0), (Go.Value.int Go.IntKind.i64 0), (Go.Value.int Go.IntKind.u64 0), (Go.Value.int Go.IntKind.i64 0), (Go.Value.int Go.IntKind.u64 0), (Go.Value.slice Option.none 0 0)])) fun r51 => S.bd (stv r51.2 13 r51.1 x49) fun s52 => S.bd (lda s52 13 r51.1) fun x53 => S.bd (stl (cellsA (xs28.getD 4 undef)) 0 13 x53) fun c54 => some (1, [(Go.Value.bool Bool.true), (Value.agg ⟨c54⟩)], s52)) (S.bd (bin .add (xs28.getD 2 undef) (Go.Value.int Go.IntKind.i64 1)) fun x55 => rec30 [(xs28.getD 0 undef), (xs28.getD 1 undef), x55, (Value.agg ⟨(cellsA (xs28.getD 3 undef))⟩), (Value.agg ⟨(cellsA (xs28.getD 4 undef))⟩)] s29)

def leapfroglaw20x_answer.l2 (S : Sig) (rec30 : List Value → St → Option Cut) (xs28 : List Value) (s29 : St) : Option Cut :=
  S.bd (lenL (xs28.getD 0 undef)) fun x31 => S.bd (bin .lss (xs28.getD 2 undef) x31) fun x32 => S.cnd x32 (S.bd (idx s29 1 (xs28.getD 0 undef) (xs28.getD 2 undef)) fun x33 => S.bd (ldc s29 x33) fun x34 => S.bd (nck x34) fun x35 => S.bd (fld 0 x35) fun x36 => S.bd (fld 0 x36) fun x37 => S.bd (ldc s29 x37) fun x38 => S.bd (lcl (cellsA (xs28.getD 3 undef)) 1) fun x39 => S.bd (eqb [1] false false x38 x39) fun x40 => S.bd (S.gd x40 true (some (xs28.getD 1 undef))) fun x41 => leapfroglaw20x_answer.l2.p1 S x40 xs28 x41 s29 rec30) (some (0, [(xs28.getD 0 undef), (Value.agg ⟨(cellsA (xs28.getD 3 undef))⟩), (Value.agg ⟨(cellsA (xs28.getD 4 undef))⟩)], s29))

def leapfroglaw20x_answer.t (S : Sig) (a0 a1 a2 : Value) (s : St) : Option (Value × St) :=
  S.bd (bx a2) fun c1 => S.bd (bx (Go.Value.agg #[(Go.Value.int Go.IntKind.i64 0), (Go.Value.bool Bool.false), (Go.Value.int Go.IntKind.i64 0), (Go.Value.int Go.IntKind.i64 0), (Go.Value.int Go.IntKind.u64 0), (Go.Value.int Go.IntKind.i64 0), (Go.Value.int Go.IntKind.u64 0), (Go.Value.int Go.IntKind.i64 0), (Go.Value.int Go.IntKind.i64 0), (Go.Value.int Go.IntKind.u64 0), (Go.Value.int Go.IntKind.i64 0), (Go.Value.int Go.IntKind.u64 0), (Go.Value.slice Option.none 0 0)])) fun c2 => S.bd (S.it (leapfroglaw20x_answer.l2 S) [a0, a1, (Go.Value.int Go.IntKind.i64 0), (Value.agg ⟨c1⟩), (Value.agg ⟨c2⟩)] s) fun r56 => if r56.1 = 0 then (S.bd (lal (cellsA (r56.2.1.getD 1 undef)) 0 36) fun x58 => S.bd (leapfrogref15x_Answer.v (r56.2.1.getD 0 undef) x58 r56.2.2) fun r59 => S.bd (xtr 0 r59.1) fun x60 => S.bd (xtr 1 r59.1) fun x61 => S.bd (stl (cellsA (r56.2.1.getD 2 undef)) 0 13 x60) fun c62 => S.bd (lal c62 0 13) fun x63 => some ((Value.tuple ⟨[x63, x61]⟩), r59.2)) else (S.bd (lal (cellsA (r56.2.1.getD 1 undef)) 0 13) fun x57 => some ((Value.tuple ⟨[x57, (r56.2.1.getD 0 undef)]⟩), r56.2.2))
def leapfroglaw20x_answer.v (a0 a1 a2 : Value) (s : St) : Option (Value × St) := leapfroglaw20x_answer.t std a0 a1 a2 s
def leapfroglaw20x_answer.w : List Value → St → Option (Value × St)
  | [a0, a1, a2], s => leapfroglaw20x_answer.v a0 a1 a2 s
  | _, _ => none
def leapfroglaw20x_answer.an : An := ⟨53, false, [5, 6], [(2, ⟨[.v 0, .v 1, .p 5 5 0, .p 6 6 0, .v 8, .l 5, .l 6], [(.exit 0, [.v 0, .p 5 5 0, .p 6 6 0, .l 5, .l 6]), (.ret, [.p 6 6 0, .v 7, .l 6])]⟩)], [], [(4, [(0, 0, [], []), (1, 0, [], []), (2, 2, [], []), (3, 2, [], []), (4, 0, [], []), (5, 0, [], []), (6, 0, [], []), (7, 2, [], []), (8, 0, [], []), (9, 0, [], []), (10, 41, [], []), (11, 0, [], []), (12, 0, [], []), (13, 0, [], []), (14, 0, [], []), (15, 0, [], []), (16, 41, [], []), (17, 3, [], []), (18, 0, [], [])]), (5, [(0, 0, [], []), (1, 0, [], []), (2, 2, [], []), (3, 2, [], []), (4, 0, [], []), (5, 0, [], []), (6, 41, [], []), (7, 3, [], [11]), (8, 0, [], []), (9, 0, [], []), (10, 0, [], []), (11, 3, [], []), (12, 4, [], []), (13, 0, [], [])])]⟩
theorem leapfroglaw20x_answer.ok (S : Sig) (a0 a1 a2 : Value) (s : St) : evF S Try.prog leapfroglaw20x_answer.ctx leapfroglaw20x_answer.an Try.f38 [a0, a1, a2] s = leapfroglaw20x_answer.t S a0 a1 a2 s := by kernel_rfl
theorem leapfroglaw20x_answer.cok : CtxOk Try.prog leapfroglaw20x_answer.ctx := .cons leapfroglaw20x_dead.sound leapfroglaw20x_dead.can <| .cons leapfrogref09x_Peer_Will.sound leapfrogref09x_Peer_Will.can <| .cons leapfrogref15x_Answer.sound leapfrogref15x_Answer.can <| .nil
theorem leapfroglaw20x_answer.draws : fnDraws leapfroglaw20x_answer.an Try.f38 = true := by kernel_rfl
theorem leapfroglaw20x_answer.can : callOk Try.prog 38 = true := by kernel_rfl
theorem leapfroglaw20x_answer.sound : FnOk Try.prog 38 (.st leapfroglaw20x_answer.w) := FnOk.st_of (evF_ok leapfroglaw20x_answer.cok mixed (f := 38) (fn := Try.f38) (by kernel_rfl) leapfroglaw20x_answer.draws) fun args s r h => by
  unfold leapfroglaw20x_answer.w at h; split at h
  · rw [leapfroglaw20x_answer.ok std]; exact h
  · simp at h

/-! ### cmp.isNaN[leapfrog/api.Rank]: function 94 -/
def cmp_isNaN_api_Rank.ctx : Ctx := []
def cmp_isNaN_api_Rank.t (S : Sig) (a0 : Value) (s : St) : Option Value :=
  S.bd (eqb [1] false true a0 a0) fun x1 => some (x1)
def cmp_isNaN_api_Rank.r (a0 : Value) (s : St) : Option Value := cmp_isNaN_api_Rank.t std a0 s
def cmp_isNaN_api_Rank.w : List Value → St → Option Value
  | [a0], s => cmp_isNaN_api_Rank.r a0 s
  | _, _ => none
def cmp_isNaN_api_Rank.an : An := ⟨6, true, [], [], [], []⟩
theorem cmp_isNaN_api_Rank.ok (S : Sig) (a0 : Value) (s : St) : evG S Try.prog cmp_isNaN_api_Rank.ctx cmp_isNaN_api_Rank.an Try.f94 [a0] s = cmp_isNaN_api_Rank.t S a0 s := by kernel_rfl
theorem cmp_isNaN_api_Rank.cok : CtxOk Try.prog cmp_isNaN_api_Rank.ctx := .nil
theorem cmp_isNaN_api_Rank.draws : fnDraws cmp_isNaN_api_Rank.an Try.f94 = true := by kernel_rfl
theorem cmp_isNaN_api_Rank.can : callOk Try.prog 94 = true := by kernel_rfl
theorem cmp_isNaN_api_Rank.sound : FnOk Try.prog 94 (.rd cmp_isNaN_api_Rank.w) := FnOk.rd_of (evG_ok cmp_isNaN_api_Rank.cok mixed (f := 94) (fn := Try.f94) (by kernel_rfl) cmp_isNaN_api_Rank.draws) fun args s r h => by
  unfold cmp_isNaN_api_Rank.w at h; split at h
  · rw [cmp_isNaN_api_Rank.ok std]; exact h
  · simp at h

/-! ### cmp.Compare[leapfrog/api.Rank]: function 92 -/
def cmp_Compare_api_Rank.ctx : Ctx := [(94, .rd cmp_isNaN_api_Rank.w)]
def cmp_Compare_api_Rank.t (S : Sig) (a0 a1 : Value) (s : St) : Option Value :=
  S.bd (cmp_isNaN_api_Rank.r a0 s) fun x1 => S.bd (cmp_isNaN_api_Rank.r a1 s) fun x2 => S.cnd x1 (S.cnd x2 (some ((Go.Value.int Go.IntKind.i64 0))) (some ((Go.Value.int Go.IntKind.i64 (-1))))) (S.cnd x2 (some ((Go.Value.int Go.IntKind.i64 1))) (S.bd (bin .lss a0 a1) fun x3 => S.cnd x3 (some ((Go.Value.int Go.IntKind.i64 (-1)))) (S.bd (bin .gtr a0 a1) fun x4 => S.cnd x4 (some ((Go.Value.int Go.IntKind.i64 1))) (some ((Go.Value.int Go.IntKind.i64 0))))))
def cmp_Compare_api_Rank.r (a0 a1 : Value) (s : St) : Option Value := cmp_Compare_api_Rank.t std a0 a1 s
def cmp_Compare_api_Rank.w : List Value → St → Option Value
  | [a0, a1], s => cmp_Compare_api_Rank.r a0 a1 s
  | _, _ => none
def cmp_Compare_api_Rank.an : An := ⟨20, true, [], [], [], []⟩
theorem cmp_Compare_api_Rank.ok (S : Sig) (a0 a1 : Value) (s : St) : evG S Try.prog cmp_Compare_api_Rank.ctx cmp_Compare_api_Rank.an Try.f92 [a0, a1] s = cmp_Compare_api_Rank.t S a0 a1 s := by kernel_rfl
theorem cmp_Compare_api_Rank.cok : CtxOk Try.prog cmp_Compare_api_Rank.ctx := .cons cmp_isNaN_api_Rank.sound cmp_isNaN_api_Rank.can <| .nil
theorem cmp_Compare_api_Rank.draws : fnDraws cmp_Compare_api_Rank.an Try.f92 = true := by kernel_rfl
theorem cmp_Compare_api_Rank.can : callOk Try.prog 92 = true := by kernel_rfl
theorem cmp_Compare_api_Rank.sound : FnOk Try.prog 92 (.rd cmp_Compare_api_Rank.w) := FnOk.rd_of (evG_ok cmp_Compare_api_Rank.cok mixed (f := 92) (fn := Try.f92) (by kernel_rfl) cmp_Compare_api_Rank.draws) fun args s r h => by
  unfold cmp_Compare_api_Rank.w at h; split at h
  · rw [cmp_Compare_api_Rank.ok std]; exact h
  · simp at h

/-! ### cmp.isNaN[uint64]: function 95 -/
def cmp_isNaN_uint64.ctx : Ctx := []
def cmp_isNaN_uint64.t (S : Sig) (a0 : Value) (s : St) : Option Value :=
  S.bd (eqb [1] false true a0 a0) fun x1 => some (x1)
def cmp_isNaN_uint64.r (a0 : Value) (s : St) : Option Value := cmp_isNaN_uint64.t std a0 s
def cmp_isNaN_uint64.w : List Value → St → Option Value
  | [a0], s => cmp_isNaN_uint64.r a0 s
  | _, _ => none
def cmp_isNaN_uint64.an : An := ⟨6, true, [], [], [], []⟩
theorem cmp_isNaN_uint64.ok (S : Sig) (a0 : Value) (s : St) : evG S Try.prog cmp_isNaN_uint64.ctx cmp_isNaN_uint64.an Try.f95 [a0] s = cmp_isNaN_uint64.t S a0 s := by kernel_rfl
theorem cmp_isNaN_uint64.cok : CtxOk Try.prog cmp_isNaN_uint64.ctx := .nil
theorem cmp_isNaN_uint64.draws : fnDraws cmp_isNaN_uint64.an Try.f95 = true := by kernel_rfl
theorem cmp_isNaN_uint64.can : callOk Try.prog 95 = true := by kernel_rfl
theorem cmp_isNaN_uint64.sound : FnOk Try.prog 95 (.rd cmp_isNaN_uint64.w) := FnOk.rd_of (evG_ok cmp_isNaN_uint64.cok mixed (f := 95) (fn := Try.f95) (by kernel_rfl) cmp_isNaN_uint64.draws) fun args s r h => by
  unfold cmp_isNaN_uint64.w at h; split at h
  · rw [cmp_isNaN_uint64.ok std]; exact h
  · simp at h

/-! ### cmp.Compare[uint64]: function 93 -/
def cmp_Compare_uint64.ctx : Ctx := [(95, .rd cmp_isNaN_uint64.w)]
def cmp_Compare_uint64.t (S : Sig) (a0 a1 : Value) (s : St) : Option Value :=
  S.bd (cmp_isNaN_uint64.r a0 s) fun x1 => S.bd (cmp_isNaN_uint64.r a1 s) fun x2 => S.cnd x1 (S.cnd x2 (some ((Go.Value.int Go.IntKind.i64 0))) (some ((Go.Value.int Go.IntKind.i64 (-1))))) (S.cnd x2 (some ((Go.Value.int Go.IntKind.i64 1))) (S.bd (bin .lss a0 a1) fun x3 => S.cnd x3 (some ((Go.Value.int Go.IntKind.i64 (-1)))) (S.bd (bin .gtr a0 a1) fun x4 => S.cnd x4 (some ((Go.Value.int Go.IntKind.i64 1))) (some ((Go.Value.int Go.IntKind.i64 0))))))
def cmp_Compare_uint64.r (a0 a1 : Value) (s : St) : Option Value := cmp_Compare_uint64.t std a0 a1 s
def cmp_Compare_uint64.w : List Value → St → Option Value
  | [a0, a1], s => cmp_Compare_uint64.r a0 a1 s
  | _, _ => none
def cmp_Compare_uint64.an : An := ⟨20, true, [], [], [], []⟩
theorem cmp_Compare_uint64.ok (S : Sig) (a0 a1 : Value) (s : St) : evG S Try.prog cmp_Compare_uint64.ctx cmp_Compare_uint64.an Try.f93 [a0, a1] s = cmp_Compare_uint64.t S a0 a1 s := by kernel_rfl
theorem cmp_Compare_uint64.cok : CtxOk Try.prog cmp_Compare_uint64.ctx := .cons cmp_isNaN_uint64.sound cmp_isNaN_uint64.can <| .nil
theorem cmp_Compare_uint64.draws : fnDraws cmp_Compare_uint64.an Try.f93 = true := by kernel_rfl
theorem cmp_Compare_uint64.can : callOk Try.prog 93 = true := by kernel_rfl
theorem cmp_Compare_uint64.sound : FnOk Try.prog 93 (.rd cmp_Compare_uint64.w) := FnOk.rd_of (evG_ok cmp_Compare_uint64.cok mixed (f := 93) (fn := Try.f93) (by kernel_rfl) cmp_Compare_uint64.draws) fun args s r h => by
  unfold cmp_Compare_uint64.w at h; split at h
  · rw [cmp_Compare_uint64.ok std]; exact h
  · simp at h

/-! ### cmp.Or[int]: function 91 -/
def cmp_Or_int.ctx : Ctx := []
def cmp_Or_int.l3 (S : Sig) (rec9 : List Value → St → Option Cut) (xs7 : List Value) (s8 : St) : Option Cut :=
  S.bd (bin .lss (xs7.getD 3 undef) (xs7.getD 2 undef)) fun x10 => S.cnd x10 (S.bd (idx s8 1 (xs7.getD 1 undef) (xs7.getD 3 undef)) fun x11 => S.bd (ldc s8 x11) fun x12 => S.bd (eqb [1] false true x12 (xs7.getD 0 undef)) fun x13 => S.cnd x13 (some (1, [x12], s8)) (S.bd (bin .add (xs7.getD 3 undef) (Go.Value.int Go.IntKind.i64 1)) fun x14 => rec9 [(xs7.getD 0 undef), (xs7.getD 1 undef), (xs7.getD 2 undef), x14] s8)) (some (0, [(xs7.getD 0 undef)], s8))

def cmp_Or_int.t (S : Sig) (a0 : Value) (s : St) : Option Value :=
  S.bd (lenL a0) fun x1 => S.bd (S.it (cmp_Or_int.l3 S) [(Go.Value.int Go.IntKind.i64 0), a0, x1, (Go.Value.int Go.IntKind.i64 0)] s) fun r15 => if r15.1 = 0 then (some ((r15.2.1.getD 0 undef))) else (some ((r15.2.1.getD 0 undef)))
def cmp_Or_int.r (a0 : Value) (s : St) : Option Value := cmp_Or_int.t std a0 s
def cmp_Or_int.w : List Value → St → Option Value
  | [a0], s => cmp_Or_int.r a0 s
  | _, _ => none
def cmp_Or_int.an : An := ⟨18, true, [], [(3, ⟨[.v 3, .v 6, .v 7, .v 8], [(.exit 0, [.v 3]), (.ret, [.v 2])]⟩)], [], []⟩
theorem cmp_Or_int.ok (S : Sig) (a0 : Value) (s : St) : evG S Try.prog cmp_Or_int.ctx cmp_Or_int.an Try.f91 [a0] s = cmp_Or_int.t S a0 s := by kernel_rfl
theorem cmp_Or_int.cok : CtxOk Try.prog cmp_Or_int.ctx := .nil
theorem cmp_Or_int.draws : fnDraws cmp_Or_int.an Try.f91 = true := by kernel_rfl
theorem cmp_Or_int.can : callOk Try.prog 91 = true := by kernel_rfl
theorem cmp_Or_int.sound : FnOk Try.prog 91 (.rd cmp_Or_int.w) := FnOk.rd_of (evG_ok cmp_Or_int.cok mixed (f := 91) (fn := Try.f91) (by kernel_rfl) cmp_Or_int.draws) fun args s r h => by
  unfold cmp_Or_int.w at h; split at h
  · rw [cmp_Or_int.ok std]; exact h
  · simp at h

/-! ### leapfrog/key.Compare: function 90 -/
def key_Compare.ctx : Ctx := [(92, .rd cmp_Compare_api_Rank.w), (93, .rd cmp_Compare_uint64.w), (91, .rd cmp_Or_int.w)]
def key_Compare.t (S : Sig) (a0 a1 : Value) (s : St) : Option (Value × St) :=
  S.bd (bx a0) fun c1 => S.bd (bx a1) fun c2 => S.bd (lcl c1 0) fun x3 => S.bd (lcl c2 0) fun x4 => S.bd (lcl c1 1) fun x5 => S.bd (lcl c2 1) fun x6 => S.bd (cmp_Compare_api_Rank.r x3 x4 s) fun x7 => S.bd (cmp_Compare_uint64.r x5 x6 s) fun x8 => S.bd (S.bd (bls 1 (List.replicate 2 [(Go.Value.int Go.IntKind.i64 0)]) [(0, x7), (1, x8)]) fun rows => als s 1 2 rows) fun r9 => S.bd (cmp_Or_int.r r9.1 r9.2) fun x10 => some (x10, r9.2)
def key_Compare.v (a0 a1 : Value) (s : St) : Option (Value × St) := key_Compare.t std a0 a1 s
def key_Compare.w : List Value → St → Option (Value × St)
  | [a0, a1], s => key_Compare.v a0 a1 s
  | _, _ => none
def key_Compare.an : An := ⟨17, false, [2, 3], [], [], [(1, [(0, 0, [], []), (1, 17, [], []), (2, 0, [], []), (3, 25, [], []), (5, 0, [], []), (6, 17, [], []), (7, 0, [], []), (8, 25, [], []), (4, 3, [], []), (9, 3, [], []), (10, 3, [], []), (11, 3, [], []), (12, 0, [], [])])]⟩
theorem key_Compare.ok (S : Sig) (a0 a1 : Value) (s : St) : evF S Try.prog key_Compare.ctx key_Compare.an Try.f90 [a0, a1] s = key_Compare.t S a0 a1 s := by kernel_rfl
theorem key_Compare.cok : CtxOk Try.prog key_Compare.ctx := .cons cmp_Compare_api_Rank.sound cmp_Compare_api_Rank.can <| .cons cmp_Compare_uint64.sound cmp_Compare_uint64.can <| .cons cmp_Or_int.sound cmp_Or_int.can <| .nil
theorem key_Compare.draws : fnDraws key_Compare.an Try.f90 = true := by kernel_rfl
theorem key_Compare.can : callOk Try.prog 90 = true := by kernel_rfl
theorem key_Compare.sound : FnOk Try.prog 90 (.st key_Compare.w) := FnOk.st_of (evF_ok key_Compare.cok mixed (f := 90) (fn := Try.f90) (by kernel_rfl) key_Compare.draws) fun args s r h => by
  unfold key_Compare.w at h; split at h
  · rw [key_Compare.ok std]; exact h
  · simp at h

/-! ### leapfrog/key.Compare: function 90, as a reading -/
def key_CompareQ.r (a0 a1 : Value) (s : St) : Option Value := frzR (fun s => key_Compare.v a0 a1 s) s
def key_CompareQ.w : List Value → St → Option Value := fun args s => frzR (key_Compare.w args) s
theorem key_CompareQ.can : callOk Try.prog 90 = true := key_Compare.can
theorem key_CompareQ.sound : FnOk Try.prog 90 (.rd key_CompareQ.w) := FnOk.frozen key_Compare.sound

/-! ### leapfrog/key.Less: function 89 -/
def key_Less.ctx : Ctx := [(90, .rd key_CompareQ.w)]
def key_Less.t (S : Sig) (a0 a1 : Value) (s : St) : Option Value :=
  S.bd (bx a0) fun c1 => S.bd (bx a1) fun c2 => S.bd (lal c1 0 2) fun x3 => S.bd (lal c2 0 2) fun x4 => S.bd (key_CompareQ.r x3 x4 s) fun x5 => S.bd (bin .lss x5 (Go.Value.int Go.IntKind.i64 0)) fun x6 => some (x6)
def key_Less.r (a0 a1 : Value) (s : St) : Option Value := key_Less.t std a0 a1 s
def key_Less.w : List Value → St → Option Value
  | [a0, a1], s => key_Less.r a0 a1 s
  | _, _ => none
def key_Less.an : An := ⟨9, true, [2, 3], [], [], []⟩
theorem key_Less.ok (S : Sig) (a0 a1 : Value) (s : St) : evG S Try.prog key_Less.ctx key_Less.an Try.f89 [a0, a1] s = key_Less.t S a0 a1 s := by kernel_rfl
theorem key_Less.cok : CtxOk Try.prog key_Less.ctx := .cons key_CompareQ.sound key_CompareQ.can <| .nil
theorem key_Less.draws : fnDraws key_Less.an Try.f89 = true := by kernel_rfl
theorem key_Less.can : callOk Try.prog 89 = true := by kernel_rfl
theorem key_Less.sound : FnOk Try.prog 89 (.rd key_Less.w) := FnOk.rd_of (evG_ok key_Less.cok mixed (f := 89) (fn := Try.f89) (by kernel_rfl) key_Less.draws) fun args s r h => by
  unfold key_Less.w at h; split at h
  · rw [key_Less.ok std]; exact h
  · simp at h

/-! ### (*leapfrog/mend.Mend).fail: function 58 -/
def mend_Mend_fail.ctx : Ctx := []
def mend_Mend_fail.t (S : Sig) (a0 : Value) (s : St) : Option (Value × St) :=
  S.bd (bld [(Go.Value.int Go.IntKind.i64 0), (Go.Value.int Go.IntKind.u64 0), (Go.Value.slice Option.none 0 0), (Go.Value.slice Option.none 0 0), (Go.Value.int Go.IntKind.i64 0), (Go.Value.int Go.IntKind.i64 0), (Go.Value.int Go.IntKind.u64 0), (Go.Value.int Go.IntKind.i64 0), (Go.Value.int Go.IntKind.u64 0), (Go.Value.int Go.IntKind.i64 0), (Go.Value.int Go.IntKind.i64 0), (Go.Value.int Go.IntKind.u64 0), (Go.Value.int Go.IntKind.i64 0), (Go.Value.int Go.IntKind.u64 0), (Go.Value.bool Bool.false)] [(0, 1, (Go.Value.int Go.IntKind.i64 131))]) fun x1 => S.bd (nck a0) fun x2 => S.bd (fld 9 x2) fun x3 => S.bd (stv s 1 x3 (Go.Value.int Go.IntKind.i64 5)) fun s4 => S.bd (nck a0) fun x5 => S.bd (fld 19 x5) fun x6 => S.bd (stv s4 15 x6 x1) fun s7 => some ((Value.tuple ⟨[]⟩), s7)
def mend_Mend_fail.v (a0 : Value) (s : St) : Option (Value × St) := mend_Mend_fail.t std a0 s
def mend_Mend_fail.w : List Value → St → Option (Value × St)
  | [a0], s => mend_Mend_fail.v a0 s
  | _, _ => none
def mend_Mend_fail.an : An := ⟨9, false, [], [], [], []⟩
theorem mend_Mend_fail.ok (S : Sig) (a0 : Value) (s : St) : evF S Try.prog mend_Mend_fail.ctx mend_Mend_fail.an Try.f58 [a0] s = mend_Mend_fail.t S a0 s := by kernel_rfl
theorem mend_Mend_fail.cok : CtxOk Try.prog mend_Mend_fail.ctx := .nil
theorem mend_Mend_fail.draws : fnDraws mend_Mend_fail.an Try.f58 = true := by kernel_rfl
theorem mend_Mend_fail.can : callOk Try.prog 58 = true := by kernel_rfl
theorem mend_Mend_fail.sound : FnOk Try.prog 58 (.st mend_Mend_fail.w) := FnOk.st_of (evF_ok mend_Mend_fail.cok mixed (f := 58) (fn := Try.f58) (by kernel_rfl) mend_Mend_fail.draws) fun args s r h => by
  unfold mend_Mend_fail.w at h; split at h
  · rw [mend_Mend_fail.ok std]; exact h
  · simp at h

/-! ### (*leapfrog/mend.Mend).look: function 82 -/
def mend_Mend_look.ctx : Ctx := [(89, .rd key_Less.w), (58, .st mend_Mend_fail.w)]
def mend_Mend_look.t (S : Sig) (a0 a1 : Value) (s : St) : Option (Value × St) :=
  S.bd (bx a1) fun c1 => S.bd (nck a0) fun x2 => S.bd (fld 15 x2) fun x3 => S.bd (lda s 2 x3) fun x4 => S.bd (lal c1 1 2) fun x5 => S.bd (key_Less.r x4 x5 s) fun x6 => S.bd (un .not x6) fun x7 => S.cnd x7 (S.bd (mend_Mend_fail.v a0 s) fun r8 => some ((Value.tuple ⟨[]⟩), r8.2)) (S.bd (lal c1 0 5) fun x9 => S.bd (nck a0) fun x10 => S.bd (fld 10 x10) fun x11 => S.bd (stv s 5 x11 x9) fun s12 => S.bd (nck a0) fun x13 => S.bd (fld 9 x13) fun x14 => S.bd (stv s12 1 x14 (Go.Value.int Go.IntKind.i64 2)) fun s15 => some ((Value.tuple ⟨[]⟩), s15))
def mend_Mend_look.v (a0 a1 : Value) (s : St) : Option (Value × St) := mend_Mend_look.t std a0 a1 s
def mend_Mend_look.w : List Value → St → Option (Value × St)
  | [a0, a1], s => mend_Mend_look.v a0 a1 s
  | _, _ => none
def mend_Mend_look.an : An := ⟨21, false, [3], [], [], [(1, [(0, 0, [], []), (1, 0, [], []), (2, 0, [], []), (3, 2, [], []), (4, 0, [], []), (5, 25, [], []), (6, 3, [], []), (7, 0, [], [])])]⟩
theorem mend_Mend_look.ok (S : Sig) (a0 a1 : Value) (s : St) : evF S Try.prog mend_Mend_look.ctx mend_Mend_look.an Try.f82 [a0, a1] s = mend_Mend_look.t S a0 a1 s := by kernel_rfl
theorem mend_Mend_look.cok : CtxOk Try.prog mend_Mend_look.ctx := .cons key_Less.sound key_Less.can <| .cons mend_Mend_fail.sound mend_Mend_fail.can <| .nil
theorem mend_Mend_look.draws : fnDraws mend_Mend_look.an Try.f82 = true := by kernel_rfl
theorem mend_Mend_look.can : callOk Try.prog 82 = true := by kernel_rfl
theorem mend_Mend_look.sound : FnOk Try.prog 82 (.st mend_Mend_look.w) := FnOk.st_of (evF_ok mend_Mend_look.cok mixed (f := 82) (fn := Try.f82) (by kernel_rfl) mend_Mend_look.draws) fun args s r h => by
  unfold mend_Mend_look.w at h; split at h
  · rw [mend_Mend_look.ok std]; exact h
  · simp at h

/-! ### (*leapfrog/mend.Mend).end: function 57 -/
def mend_Mend_end.ctx : Ctx := []
def mend_Mend_end.t (S : Sig) (a0 a1 : Value) (s : St) : Option (Value × St) :=
  S.bd (bld [(Go.Value.int Go.IntKind.i64 0), (Go.Value.int Go.IntKind.u64 0), (Go.Value.slice Option.none 0 0), (Go.Value.slice Option.none 0 0), (Go.Value.int Go.IntKind.i64 0), (Go.Value.int Go.IntKind.i64 0), (Go.Value.int Go.IntKind.u64 0), (Go.Value.int Go.IntKind.i64 0), (Go.Value.int Go.IntKind.u64 0), (Go.Value.int Go.IntKind.i64 0), (Go.Value.int Go.IntKind.i64 0), (Go.Value.int Go.IntKind.u64 0), (Go.Value.int Go.IntKind.i64 0), (Go.Value.int Go.IntKind.u64 0), (Go.Value.bool Bool.false)] [(0, 1, a1)]) fun x1 => S.bd (nck a0) fun x2 => S.bd (fld 9 x2) fun x3 => S.bd (stv s 1 x3 (Go.Value.int Go.IntKind.i64 6)) fun s4 => S.bd (nck a0) fun x5 => S.bd (fld 19 x5) fun x6 => S.bd (stv s4 15 x6 x1) fun s7 => some ((Value.tuple ⟨[]⟩), s7)
def mend_Mend_end.v (a0 a1 : Value) (s : St) : Option (Value × St) := mend_Mend_end.t std a0 a1 s
def mend_Mend_end.w : List Value → St → Option (Value × St)
  | [a0, a1], s => mend_Mend_end.v a0 a1 s
  | _, _ => none
def mend_Mend_end.an : An := ⟨12, false, [], [], [], []⟩
theorem mend_Mend_end.ok (S : Sig) (a0 a1 : Value) (s : St) : evF S Try.prog mend_Mend_end.ctx mend_Mend_end.an Try.f57 [a0, a1] s = mend_Mend_end.t S a0 a1 s := by kernel_rfl
theorem mend_Mend_end.cok : CtxOk Try.prog mend_Mend_end.ctx := .nil
theorem mend_Mend_end.draws : fnDraws mend_Mend_end.an Try.f57 = true := by kernel_rfl
theorem mend_Mend_end.can : callOk Try.prog 57 = true := by kernel_rfl
theorem mend_Mend_end.sound : FnOk Try.prog 57 (.st mend_Mend_end.w) := FnOk.st_of (evF_ok mend_Mend_end.cok mixed (f := 57) (fn := Try.f57) (by kernel_rfl) mend_Mend_end.draws) fun args s r h => by
  unfold mend_Mend_end.w at h; split at h
  · rw [mend_Mend_end.ok std]; exact h
  · simp at h

/-! ### (*leapfrog/mend.Mend).locked: function 55 -/
def mend_Mend_locked.ctx : Ctx := [(82, .st mend_Mend_look.w), (57, .st mend_Mend_end.w)]
def mend_Mend_locked.t (S : Sig) (a0 a1 : Value) (s : St) : Option (Value × St) :=
  S.bd (bx a1) fun c1 => S.bd (lcl c1 0) fun x2 => S.bd (eqb [1] false false x2 (Go.Value.int Go.IntKind.i64 1)) fun x3 => S.cnd x3 (S.bd (nck a0) fun x4 => S.bd (fld 0 x4) fun x5 => S.bd (fld 2 x5) fun x6 => S.bd (fld 1 x6) fun x7 => S.bd (lda s 2 x7) fun x8 => S.bd (nck a0) fun x9 => S.bd (fld 15 x9) fun x10 => S.bd (stv s 2 x10 x8) fun s11 => S.bd (nck a0) fun x12 => S.bd (fld 17 x12) fun x13 => S.bd (stv s11 1 x13 (Go.Value.bool Bool.false)) fun s14 => S.bd (lal c1 7 5) fun x15 => S.bd (mend_Mend_look.v a0 x15 s14) fun r16 => some ((Value.tuple ⟨[]⟩), r16.2)) (S.bd (eqb [1] false false x2 (Go.Value.int Go.IntKind.i64 3)) fun x17 => S.cnd x17 (S.bd (mend_Mend_end.v a0 (Go.Value.int Go.IntKind.i64 132) s) fun r18 => some ((Value.tuple ⟨[]⟩), r18.2)) (S.bd (eqb [1] false false x2 (Go.Value.int Go.IntKind.i64 2)) fun x19 => S.cnd x19 (S.bd (mend_Mend_end.v a0 (Go.Value.int Go.IntKind.i64 0) s) fun r20 => some ((Value.tuple ⟨[]⟩), r20.2)) (S.bd (mend_Mend_end.v a0 (Go.Value.int Go.IntKind.i64 131) s) fun r21 => some ((Value.tuple ⟨[]⟩), r21.2))))
def mend_Mend_locked.v (a0 a1 : Value) (s : St) : Option (Value × St) := mend_Mend_locked.t std a0 a1 s
def mend_Mend_locked.w : List Value → St → Option (Value × St)
  | [a0, a1], s => mend_Mend_locked.v a0 a1 s
  | _, _ => none
def mend_Mend_locked.an : An := ⟨34, false, [3], [], [], []⟩
theorem mend_Mend_locked.ok (S : Sig) (a0 a1 : Value) (s : St) : evF S Try.prog mend_Mend_locked.ctx mend_Mend_locked.an Try.f55 [a0, a1] s = mend_Mend_locked.t S a0 a1 s := by kernel_rfl
theorem mend_Mend_locked.cok : CtxOk Try.prog mend_Mend_locked.ctx := .cons mend_Mend_look.sound mend_Mend_look.can <| .cons mend_Mend_end.sound mend_Mend_end.can <| .nil
theorem mend_Mend_locked.draws : fnDraws mend_Mend_locked.an Try.f55 = true := by kernel_rfl
theorem mend_Mend_locked.can : callOk Try.prog 55 = true := by kernel_rfl
theorem mend_Mend_locked.sound : FnOk Try.prog 55 (.st mend_Mend_locked.w) := FnOk.st_of (evF_ok mend_Mend_locked.cok mixed (f := 55) (fn := Try.f55) (by kernel_rfl) mend_Mend_locked.draws) fun args s r h => by
  unfold mend_Mend_locked.w at h; split at h
  · rw [mend_Mend_locked.ok std]; exact h
  · simp at h

/-! ### (*leapfrog/mend.Mend).done: function 59 -/
def mend_Mend_done.ctx : Ctx := []
def mend_Mend_done.t (S : Sig) (a0 a1 : Value) (s : St) : Option (Value × St) :=
  S.bd (nck a0) fun x1 => S.bd (fld 10 x1) fun x2 => S.bd (lda s 5 x2) fun x3 => S.bd (bld [(Go.Value.int Go.IntKind.i64 0), (Go.Value.int Go.IntKind.u64 0), (Go.Value.slice Option.none 0 0), (Go.Value.slice Option.none 0 0), (Go.Value.int Go.IntKind.i64 0), (Go.Value.int Go.IntKind.i64 0), (Go.Value.int Go.IntKind.u64 0), (Go.Value.int Go.IntKind.i64 0), (Go.Value.int Go.IntKind.u64 0), (Go.Value.int Go.IntKind.i64 0), (Go.Value.int Go.IntKind.i64 0), (Go.Value.int Go.IntKind.u64 0), (Go.Value.int Go.IntKind.i64 0), (Go.Value.int Go.IntKind.u64 0), (Go.Value.bool Bool.false)] [(9, 5, x3), (14, 1, a1)]) fun x4 => S.bd (nck a0) fun x5 => S.bd (fld 9 x5) fun x6 => S.bd (stv s 1 x6 (Go.Value.int Go.IntKind.i64 5)) fun s7 => S.bd (nck a0) fun x8 => S.bd (fld 19 x8) fun x9 => S.bd (stv s7 15 x9 x4) fun s10 => some ((Value.tuple ⟨[]⟩), s10)
def mend_Mend_done.v (a0 a1 : Value) (s : St) : Option (Value × St) := mend_Mend_done.t std a0 a1 s
def mend_Mend_done.w : List Value → St → Option (Value × St)
  | [a0, a1], s => mend_Mend_done.v a0 a1 s
  | _, _ => none
def mend_Mend_done.an : An := ⟨16, false, [], [], [], []⟩
theorem mend_Mend_done.ok (S : Sig) (a0 a1 : Value) (s : St) : evF S Try.prog mend_Mend_done.ctx mend_Mend_done.an Try.f59 [a0, a1] s = mend_Mend_done.t S a0 a1 s := by kernel_rfl
theorem mend_Mend_done.cok : CtxOk Try.prog mend_Mend_done.ctx := .nil
theorem mend_Mend_done.draws : fnDraws mend_Mend_done.an Try.f59 = true := by kernel_rfl
theorem mend_Mend_done.can : callOk Try.prog 59 = true := by kernel_rfl
theorem mend_Mend_done.sound : FnOk Try.prog 59 (.st mend_Mend_done.w) := FnOk.st_of (evF_ok mend_Mend_done.cok mixed (f := 59) (fn := Try.f59) (by kernel_rfl) mend_Mend_done.draws) fun args s r h => by
  unfold mend_Mend_done.w at h; split at h
  · rw [mend_Mend_done.ok std]; exact h
  · simp at h

/-! ### (*leapfrog/mend.Mend).looked: function 56 -/
def mend_Mend_looked.ctx : Ctx := [(82, .st mend_Mend_look.w), (58, .st mend_Mend_fail.w), (59, .st mend_Mend_done.w)]
def mend_Mend_looked.t (S : Sig) (a0 a1 : Value) (s : St) : Option (Value × St) :=
  S.bd (bx a1) fun c1 => S.bd (lcl c1 0) fun x2 => S.bd (eqb [1] false false x2 (Go.Value.int Go.IntKind.i64 3)) fun x3 => S.cnd x3 (S.bd (nck a0) fun x4 => S.bd (fld 10 x4) fun x5 => S.bd (fld 1 x5) fun x6 => S.bd (lda s 2 x6) fun x7 => S.bd (nck a0) fun x8 => S.bd (fld 15 x8) fun x9 => S.bd (stv s 2 x9 x7) fun s10 => S.bd (nck a0) fun x11 => S.bd (fld 17 x11) fun x12 => S.bd (stv s10 1 x12 (Go.Value.bool Bool.true)) fun s13 => S.bd (lal c1 7 5) fun x14 => S.bd (mend_Mend_look.v a0 x14 s13) fun r15 => some ((Value.tuple ⟨[]⟩), r15.2)) (S.bd (lcl c1 0) fun x16 => S.bd (eqb [1] false true x16 (Go.Value.int Go.IntKind.i64 1)) fun x17 => S.cnd x17 (S.bd (mend_Mend_fail.v a0 s) fun r18 => some ((Value.tuple ⟨[]⟩), r18.2)) (S.bd (nck a0) fun x19 => S.bd (fld 17 x19) fun x20 => S.bd (ldc s x20) fun x21 => S.cnd x21 (S.bd (nck a0) fun x22 => S.bd (fld 9 x22) fun x23 => S.bd (stv s 1 x23 (Go.Value.int Go.IntKind.i64 3)) fun s24 => some ((Value.tuple ⟨[]⟩), s24)) (S.bd (lal c1 2 5) fun x25 => S.bd (nck a0) fun x26 => S.bd (fld 0 x26) fun x27 => S.bd (fld 2 x27) fun x28 => S.bd (lda s 5 x28) fun x29 => S.bd (eqb [1, 1, 1, 1, 1] true false x25 x29) fun x30 => S.cnd x30 (S.bd (mend_Mend_done.v a0 (Go.Value.bool Bool.false) s) fun r31 => some ((Value.tuple ⟨[]⟩), r31.2)) (S.bd (nck a0) fun x32 => S.bd (fld 9 x32) fun x33 => S.bd (stv s 1 x33 (Go.Value.int Go.IntKind.i64 4)) fun s34 => some ((Value.tuple ⟨[]⟩), s34)))))
def mend_Mend_looked.v (a0 a1 : Value) (s : St) : Option (Value × St) := mend_Mend_looked.t std a0 a1 s
def mend_Mend_looked.w : List Value → St → Option (Value × St)
  | [a0, a1], s => mend_Mend_looked.v a0 a1 s
  | _, _ => none
def mend_Mend_looked.an : An := ⟨51, false, [3], [], [], [(9, [(0, 0, [], []), (1, 25, [], []), (2, 0, [], []), (3, 0, [], []), (4, 0, [], []), (5, 0, [], []), (6, 2, [], []), (7, 0, [], []), (8, 0, [], [])])]⟩
theorem mend_Mend_looked.ok (S : Sig) (a0 a1 : Value) (s : St) : evF S Try.prog mend_Mend_looked.ctx mend_Mend_looked.an Try.f56 [a0, a1] s = mend_Mend_looked.t S a0 a1 s := by kernel_rfl
theorem mend_Mend_looked.cok : CtxOk Try.prog mend_Mend_looked.ctx := .cons mend_Mend_look.sound mend_Mend_look.can <| .cons mend_Mend_fail.sound mend_Mend_fail.can <| .cons mend_Mend_done.sound mend_Mend_done.can <| .nil
theorem mend_Mend_looked.draws : fnDraws mend_Mend_looked.an Try.f56 = true := by kernel_rfl
theorem mend_Mend_looked.can : callOk Try.prog 56 = true := by kernel_rfl
theorem mend_Mend_looked.sound : FnOk Try.prog 56 (.st mend_Mend_looked.w) := FnOk.st_of (evF_ok mend_Mend_looked.cok mixed (f := 56) (fn := Try.f56) (by kernel_rfl) mend_Mend_looked.draws) fun args s r h => by
  unfold mend_Mend_looked.w at h; split at h
  · rw [mend_Mend_looked.ok std]; exact h
  · simp at h

/-! ### (*leapfrog/mend.Mend).Tell: function 21 -/
def mend_Mend_Tell.ctx : Ctx := [(55, .st mend_Mend_locked.w), (56, .st mend_Mend_looked.w), (57, .st mend_Mend_end.w), (58, .st mend_Mend_fail.w), (59, .st mend_Mend_done.w)]
def mend_Mend_Tell.t.p1 (S : Sig) (a0 : Value) (s : St) (c1 : List Value) : Option (Value × St) :=
  S.bd (nck a0) fun x3 => S.bd (fld 9 x3) fun x4 => S.bd (ldc s x4) fun x5 => S.bd (show Option Cut from S.bd (eqb [1] false false x5 (Go.Value.int Go.IntKind.i64 1)) fun x28 => S.cnd x28 (S.bd (lal c1 0 13) fun x29 => S.bd (mend_Mend_locked.v a0 x29 s) fun r30 => some (0, [], r30.2)) (S.bd (eqb [1] false false x5 (Go.Value.int Go.IntKind.i64 2)) fun x31 => S.cnd x31 (S.bd (lal c1 0 13) fun x32 => S.bd (mend_Mend_looked.v a0 x32 s) fun r33 => some (0, [], r33.2)) (S.bd (eqb [1] false false x5 (Go.Value.int Go.IntKind.i64 3)) fun x34 => S.cnd x34 (S.bd (lcl c1 0) fun x35 => S.bd (eqb [1] false false x35 (Go.Value.int Go.IntKind.i64 1)) fun x36 => S.cnd x36 (S.bd (nck a0) fun x37 => S.bd (fld 9 x37) fun x38 => S.bd (stv s 1 x38 (Go.Value.int Go.IntKind.i64 4)) fun s39 => some (0, [], s39)) (S.bd (eqb [1] false false x35 (Go.Value.int Go.IntKind.i64 3)) fun x40 => S.cnd x40 (S.bd (mend_Mend_end.v a0 (Go.Value.int Go.IntKind.i64 132) s) fun r41 => some (0, [], r41.2)) (S.bd (mend_Mend_fail.v a0 s) fun r42 => some (0, [], r42.2)))) (S.bd (eqb [1] false false x5 (Go.Value.int Go.IntKind.i64 4)) fun x43 => S.cnd x43 (S.bd (lcl c1 0) fun x44 => S.bd (eqb [1] false false x44 (Go.Value.int Go.IntKind.i64 3)) fun x45 => S.cnd x45 (S.bd (mend_Mend_fail.v a0 s) fun r46 => some (0, [], r46.2)) (S.bd (mend_Mend_done.v a0 (Go.Value.bool Bool.true) s) fun r47 => some (0, [], r47.2))) (S.bd (eqb [1] false false x5 (Go.Value.int Go.IntKind.i64 5)) fun x48 => S.cnd x48 (some (1, [a0], s)) (S.bd (eqb [1] false false x5 (Go.Value.int Go.IntKind.i64 6)) fun x49 => S.cnd x49 (some (1, [a0], s)) (some (0, [], s)))))))) fun r50 => if r50.1 = 0 then (some ((Value.tuple ⟨[]⟩), r50.2.2)) else (S.bd (nck (r50.2.1.getD 0 undef)) fun x51 => S.bd (fld 9 x51) fun x52 => S.bd (ldc r50.2.2 x52) fun x53 => S.bd (eqb [1] false false x53 (Go.Value.int Go.IntKind.i64 5)) fun x54 => S.cnd x54 (S.bd (nck (r50.2.1.getD 0 undef)) fun x55 => S.bd (fld 9 x55) fun x56 => S.bd (stv r50.2.2 1 x56 (Go.Value.int Go.IntKind.i64 6)) fun s57 => some ((Value.tuple ⟨[]⟩), s57)) (some ((Value.tuple ⟨[]⟩), r50.2.2)))

def mend_Mend_Tell.t (S : Sig) (a0 a1 : Value) (s : St) : Option (Value × St) :=
  S.bd (bx a1) fun c1 => S.bd (eqb [3] false false a0 (Go.Value.pointer Option.none)) fun x2 => S.cnd x2 (some ((Value.tuple ⟨[]⟩), s)) (mend_Mend_Tell.t.p1 S a0 s c1)
def mend_Mend_Tell.v (a0 a1 : Value) (s : St) : Option (Value × St) := mend_Mend_Tell.t std a0 a1 s
def mend_Mend_Tell.w : List Value → St → Option (Value × St)
  | [a0, a1], s => mend_Mend_Tell.v a0 a1 s
  | _, _ => none
def mend_Mend_Tell.an : An := ⟨56, false, [3], [], [(20, ⟨[], [(.exit 0, []), (.normal, [.v 0])]⟩)], []⟩
theorem mend_Mend_Tell.ok (S : Sig) (a0 a1 : Value) (s : St) : evF S Try.prog mend_Mend_Tell.ctx mend_Mend_Tell.an Try.f21 [a0, a1] s = mend_Mend_Tell.t S a0 a1 s := by kernel_rfl
theorem mend_Mend_Tell.cok : CtxOk Try.prog mend_Mend_Tell.ctx := .cons mend_Mend_locked.sound mend_Mend_locked.can <| .cons mend_Mend_looked.sound mend_Mend_looked.can <| .cons mend_Mend_end.sound mend_Mend_end.can <| .cons mend_Mend_fail.sound mend_Mend_fail.can <| .cons mend_Mend_done.sound mend_Mend_done.can <| .nil
theorem mend_Mend_Tell.draws : fnDraws mend_Mend_Tell.an Try.f21 = true := by kernel_rfl
theorem mend_Mend_Tell.can : callOk Try.prog 21 = true := by kernel_rfl
theorem mend_Mend_Tell.sound : FnOk Try.prog 21 (.st mend_Mend_Tell.w) := FnOk.st_of (evF_ok mend_Mend_Tell.cok mixed (f := 21) (fn := Try.f21) (by kernel_rfl) mend_Mend_Tell.draws) fun args s r h => by
  unfold mend_Mend_Tell.w at h; split at h
  · rw [mend_Mend_Tell.ok std]; exact h
  · simp at h

/-! ### leapfrog/leapfroglaw20.play: function 15 -/
def leapfroglaw20x_play.ctx : Ctx := [(20, .st mend_Mend_Next.w), (38, .st leapfroglaw20x_answer.w), (21, .st mend_Mend_Tell.w)]
def leapfroglaw20x_play.l2.p1 (S : Sig) (c32 : List Value) (xs26 : List Value) (r30 : Value × St) (rec28 : List Value → St → Option Cut) : Option Cut :=
  S.bd (lal c32 0 36) fun x37 => S.bd (leapfroglaw20x_answer.v (xs26.getD 1 undef) (xs26.getD 2 undef) x37 r30.2) fun r38 => S.bd (xtr 0 r38.1) fun x39 => S.bd (xtr 1 r38.1) fun x40 => S.bd (bx (Go.Value.agg #[(Go.Value.int Go.IntKind.i64 0), (Go.Value.bool Bool.false), (Go.Value.int Go.IntKind.i64 0), (Go.Value.int Go.IntKind.i64 0), (Go.Value.int Go.IntKind.u64 0), (Go.Value.int Go.IntKind.i64 0), (Go.Value.int Go.IntKind.u64 0), (Go.Value.int Go.IntKind.i64 0), (Go.Value.int Go.IntKind.i64 0), (Go.Value.int Go.IntKind.u64 0), (Go.Value.int Go.IntKind.i64 0), (Go.Value.int Go.IntKind.u64 0), (Go.Value.slice Option.none 0 0)])) fun c41 => S.bd (stl c41 0 13 x39) fun c42 => S.bd (lcl c32 0) fun x43 => S.bd (eqb [1] false true x43 (Go.Value.int Go.IntKind.i64 1)) fun x44 => S.bd (S.gd x44 false (some x40)) fun x45 => S.bd (S.gd x44 false (un .not x45)) fun x46 => S.bd (pik x44 (Go.Value.bool Bool.true) x46) fun x47 => S.cnd x47 (S.bd (bld [(Go.Value.int Go.IntKind.i64 0), (Go.Value.int Go.IntKind.u64 0), (Go.Value.slice Option.none 0 0), (Go.Value.slice Option.none 0 0), (Go.Value.int Go.IntKind.i64 0), (Go.Value.int Go.IntKind.i64 0), (Go.Value.int Go.IntKind.u64 0), (Go.Value.int Go.IntKind.i64 0), (Go.Value.int Go.IntKind.u64 0), (Go.Value.int Go.IntKind.i64 0), (Go.Value.int Go.IntKind.i64 0), (Go.Value.int Go.IntKind.u64 0), (Go.Value.int Go.IntKind.i64 0), (Go.Value.int Go.IntKind.u64 0), (Go.Value.bool Bool.false)] []) fun x48 => S.bd (stl (cellsA (xs26.getD 4 undef)) 0 15 x48) fun c49 => some (1, [(Go.Value.bool Bool.false), (Value.agg ⟨c49⟩)], r38.2)) (S.bd (lal c42 0 13) fun x50 => S.bd (mend_Mend_Tell.v (xs26.getD 0 undef) x50 r38.2) fun r51 => S.bd (bin .add (xs26.getD 3 undef) (Go.Value.int Go.IntKind.i64 1)) fun x52 => rec28 [(xs26.getD 0 undef), (xs26.getD 1 undef), (xs26.getD 2 undef), x52, (Value.agg ⟨(cellsA (xs26.getD 4 undef))⟩)] r51.2)

def leapfroglaw20x_play.l2 (S : Sig) (rec28 : List Value → St → Option Cut) (xs26 : List Value) (s27 : St) : Option Cut :=
  S.bd (bin .lss (xs26.getD 3 undef) (Go.Value.int Go.IntKind.i64 200)) fun x29 => S.cnd x29 (S.bd (mend_Mend_Next.v (xs26.getD 0 undef) s27) fun r30 => S.bd (bx (Go.Value.agg #[(Go.Value.int Go.IntKind.i64 0), (Go.Value.int Go.IntKind.i64 0), (Go.Value.int Go.IntKind.i64 0), (Go.Value.int Go.IntKind.u64 0), (Go.Value.int Go.IntKind.i64 0), (Go.Value.int Go.IntKind.u64 0), (Go.Value.int Go.IntKind.i64 0), (Go.Value.int Go.IntKind.i64 0), (Go.Value.int Go.IntKind.u64 0), (Go.Value.int Go.IntKind.i64 0), (Go.Value.int Go.IntKind.i64 0), (Go.Value.int Go.IntKind.u64 0), (Go.Value.int Go.IntKind.i64 0), (Go.Value.int Go.IntKind.u64 0), (Go.Value.int Go.IntKind.i64 0), (Go.Value.int Go.IntKind.i64 0), (Go.Value.int Go.IntKind.u64 0), (Go.Value.int Go.IntKind.i64 0), (Go.Value.int Go.IntKind.u64 0), (Go.Value.int Go.IntKind.i64 0), (Go.Value.int Go.IntKind.i64 0), (Go.Value.int Go.IntKind.i64 0), (Go.Value.int Go.IntKind.u64 0), (Go.Value.slice Option.none 0 0), (Go.Value.slice Option.none 0 0), (Go.Value.int Go.IntKind.i64 0), (Go.Value.int Go.IntKind.i64 0), (Go.Value.int Go.IntKind.u64 0), (Go.Value.int Go.IntKind.i64 0), (Go.Value.int Go.IntKind.u64 0), (Go.Value.int Go.IntKind.i64 0), (Go.Value.int Go.IntKind.i64 0), (Go.Value.int Go.IntKind.u64 0), (Go.Value.int Go.IntKind.i64 0), (Go.Value.int Go.IntKind.u64 0), (Go.Value.bool Bool.false)])) fun c31 => S.bd (stl c31 0 36 r30.1) fun c32 => S.bd (lcl c32 0) fun x33 => S.bd (eqb [1] false false x33 (Go.Value.int Go.IntKind.i64 3)) fun x34 => S.cnd x34 (S.bd (lal c32 21 15) fun x35 => S.bd (stl (cellsA (xs26.getD 4 undef)) 0 15 x35) fun c36 => some (1, [(Go.Value.bool Bool.true), (Value.agg ⟨c36⟩)], r30.2)) (leapfroglaw20x_play.l2.p1 S c32 xs26 r30 rec28)) (some (0, [(Value.agg ⟨(cellsA (xs26.getD 4 undef))⟩)], s27))

def leapfroglaw20x_play.t (S : Sig) (a0 a1 a2 : Value) (s : St) : Option (Value × St) :=
  S.bd (bx (Go.Value.agg #[(Go.Value.int Go.IntKind.i64 0), (Go.Value.int Go.IntKind.u64 0), (Go.Value.slice Option.none 0 0), (Go.Value.slice Option.none 0 0), (Go.Value.int Go.IntKind.i64 0), (Go.Value.int Go.IntKind.i64 0), (Go.Value.int Go.IntKind.u64 0), (Go.Value.int Go.IntKind.i64 0), (Go.Value.int Go.IntKind.u64 0), (Go.Value.int Go.IntKind.i64 0), (Go.Value.int Go.IntKind.i64 0), (Go.Value.int Go.IntKind.u64 0), (Go.Value.int Go.IntKind.i64 0), (Go.Value.int Go.IntKind.u64 0), (Go.Value.bool Bool.false)])) fun c1 => S.bd (S.it (leapfroglaw20x_play.l2 S) [a0, a1, a2, (Go.Value.int Go.IntKind.i64 0), (Value.agg ⟨c1⟩)] s) fun r53 => if r53.1 = 0 then (S.bd (bld [(Go.Value.int Go.IntKind.i64 0), (Go.Value.int Go.IntKind.u64 0), (Go.Value.slice Option.none 0 0), (Go.Value.slice Option.none 0 0), (Go.Value.int Go.IntKind.i64 0), (Go.Value.int Go.IntKind.i64 0), (Go.Value.int Go.IntKind.u64 0), (Go.Value.int Go.IntKind.i64 0), (Go.Value.int Go.IntKind.u64 0), (Go.Value.int Go.IntKind.i64 0), (Go.Value.int Go.IntKind.i64 0), (Go.Value.int Go.IntKind.u64 0), (Go.Value.int Go.IntKind.i64 0), (Go.Value.int Go.IntKind.u64 0), (Go.Value.bool Bool.false)] []) fun x55 => S.bd (stl (cellsA (r53.2.1.getD 0 undef)) 0 15 x55) fun c56 => S.bd (lal c56 0 15) fun x57 => some ((Value.tuple ⟨[x57, (Go.Value.bool Bool.false)]⟩), r53.2.2)) else (S.bd (lal (cellsA (r53.2.1.getD 1 undef)) 0 15) fun x54 => some ((Value.tuple ⟨[x54, (r53.2.1.getD 0 undef)]⟩), r53.2.2))
def leapfroglaw20x_play.v (a0 a1 a2 : Value) (s : St) : Option (Value × St) := leapfroglaw20x_play.t std a0 a1 a2 s
def leapfroglaw20x_play.w : List Value → St → Option (Value × St)
  | [a0, a1, a2], s => leapfroglaw20x_play.v a0 a1 a2 s
  | _, _ => none
def leapfroglaw20x_play.an : An := ⟨42, false, [6, 9, 10], [(2, ⟨[.v 0, .v 1, .v 2, .p 6 6 0, .v 8, .l 6], [(.exit 0, [.p 6 6 0, .l 6]), (.ret, [.p 6 6 0, .v 7, .l 6])]⟩)], [], []⟩
theorem leapfroglaw20x_play.ok (S : Sig) (a0 a1 a2 : Value) (s : St) : evF S Try.prog leapfroglaw20x_play.ctx leapfroglaw20x_play.an Try.f15 [a0, a1, a2] s = leapfroglaw20x_play.t S a0 a1 a2 s := by kernel_rfl
theorem leapfroglaw20x_play.cok : CtxOk Try.prog leapfroglaw20x_play.ctx := .cons mend_Mend_Next.sound mend_Mend_Next.can <| .cons leapfroglaw20x_answer.sound leapfroglaw20x_answer.can <| .cons mend_Mend_Tell.sound mend_Mend_Tell.can <| .nil
theorem leapfroglaw20x_play.draws : fnDraws leapfroglaw20x_play.an Try.f15 = true := by kernel_rfl
theorem leapfroglaw20x_play.can : callOk Try.prog 15 = true := by kernel_rfl
theorem leapfroglaw20x_play.sound : FnOk Try.prog 15 (.st leapfroglaw20x_play.w) := FnOk.st_of (evF_ok leapfroglaw20x_play.cok mixed (f := 15) (fn := Try.f15) (by kernel_rfl) leapfroglaw20x_play.draws) fun args s r h => by
  unfold leapfroglaw20x_play.w at h; split at h
  · rw [leapfroglaw20x_play.ok std]; exact h
  · simp at h

/-! ### leapfrog/leapfrogref12.Tail: function 26 -/
def leapfrogref12x_Tail.ctx : Ctx := []
def leapfrogref12x_Tail.t (S : Sig) (a0 : Value) (s : St) : Option Value :=
  S.bd (bx (Go.Value.agg #[(Go.Value.int Go.IntKind.i64 0), (Go.Value.int Go.IntKind.i64 0), (Go.Value.int Go.IntKind.u64 0), (Go.Value.int Go.IntKind.i64 0), (Go.Value.int Go.IntKind.u64 0)])) fun c1 => S.bd (bld [(Go.Value.int Go.IntKind.i64 0), (Go.Value.int Go.IntKind.u64 0)] [(0, 1, (Go.Value.int Go.IntKind.i64 3))]) fun x2 => S.bd (bld [(Go.Value.int Go.IntKind.i64 0), (Go.Value.int Go.IntKind.u64 0)] [(0, 1, a0)]) fun x3 => S.bd (bld [(Go.Value.int Go.IntKind.i64 0), (Go.Value.int Go.IntKind.i64 0), (Go.Value.int Go.IntKind.u64 0), (Go.Value.int Go.IntKind.i64 0), (Go.Value.int Go.IntKind.u64 0)] [(0, 1, (Go.Value.int Go.IntKind.i64 1)), (1, 2, x2), (3, 2, x3)]) fun x4 => S.bd (stl c1 0 5 x4) fun c5 => S.bd (lal c5 0 5) fun x6 => some (x6)
def leapfrogref12x_Tail.r (a0 : Value) (s : St) : Option Value := leapfrogref12x_Tail.t std a0 s
def leapfrogref12x_Tail.w : List Value → St → Option Value
  | [a0], s => leapfrogref12x_Tail.r a0 s
  | _, _ => none
def leapfrogref12x_Tail.an : An := ⟨7, true, [2], [], [], []⟩
theorem leapfrogref12x_Tail.ok (S : Sig) (a0 : Value) (s : St) : evG S Try.prog leapfrogref12x_Tail.ctx leapfrogref12x_Tail.an Try.f26 [a0] s = leapfrogref12x_Tail.t S a0 s := by kernel_rfl
theorem leapfrogref12x_Tail.cok : CtxOk Try.prog leapfrogref12x_Tail.ctx := .nil
theorem leapfrogref12x_Tail.draws : fnDraws leapfrogref12x_Tail.an Try.f26 = true := by kernel_rfl
theorem leapfrogref12x_Tail.can : callOk Try.prog 26 = true := by kernel_rfl
theorem leapfrogref12x_Tail.sound : FnOk Try.prog 26 (.rd leapfrogref12x_Tail.w) := FnOk.rd_of (evG_ok leapfrogref12x_Tail.cok mixed (f := 26) (fn := Try.f26) (by kernel_rfl) leapfrogref12x_Tail.draws) fun args s r h => by
  unfold leapfrogref12x_Tail.w at h; split at h
  · rw [leapfrogref12x_Tail.ok std]; exact h
  · simp at h

/-! ### leapfrog/leapfroglaw20.alive: function 8 -/
def leapfroglaw20x_alive.ctx : Ctx := [(13, .st leapfrogref15x_Quiet.w), (9, .rd leapfrogref12x_Head.w), (14, .st mend_New.w), (15, .st leapfroglaw20x_play.w), (25, .rd leapfrogref09x_Peer_Will.w), (26, .rd leapfrogref12x_Tail.w)]
def leapfroglaw20x_alive.t.p1 (S : Sig) (x36 : Value) (x22 : Value) (x30 : Value) (c24 : List Value) (r20 : Value × St) (c32 : List Value) : Option (Value × St) :=
  S.bd (xtr 0 x36) fun x37 => S.bd (xtr 1 x36) fun x38 => S.bd (bx (Go.Value.agg #[(Go.Value.int Go.IntKind.i64 0), (Go.Value.bool Bool.false), (Go.Value.int Go.IntKind.i64 0), (Go.Value.int Go.IntKind.i64 0), (Go.Value.int Go.IntKind.u64 0), (Go.Value.int Go.IntKind.i64 0), (Go.Value.int Go.IntKind.u64 0), (Go.Value.int Go.IntKind.i64 0), (Go.Value.int Go.IntKind.i64 0), (Go.Value.int Go.IntKind.u64 0), (Go.Value.int Go.IntKind.i64 0), (Go.Value.int Go.IntKind.u64 0), (Go.Value.slice Option.none 0 0)])) fun c39 => S.bd (stl c39 0 13 x37) fun c40 => S.bd (S.gd x22 true (some x30)) fun x41 => S.bd (S.gd x22 true (eqb [1] false false x41 (Go.Value.int Go.IntKind.i64 0))) fun x42 => S.bd (pik x22 x42 (Go.Value.bool Bool.false)) fun x43 => S.bd (S.gd x43 true (some x38)) fun x44 => S.bd (S.gd x43 true (eqb [1] false false x44 (Go.Value.int Go.IntKind.i64 0))) fun x45 => S.bd (pik x43 x45 (Go.Value.bool Bool.false)) fun x46 => S.bd (S.gd x46 true (lcl c24 0)) fun x47 => S.bd (S.gd x46 true (eqb [1] false false x47 (Go.Value.int Go.IntKind.i64 0))) fun x48 => S.bd (pik x46 x48 (Go.Value.bool Bool.false)) fun x49 => S.bd (S.gd x49 true (lcl c24 14)) fun x50 => S.bd (pik x49 x50 (Go.Value.bool Bool.false)) fun x51 => S.bd (S.gd x51 true (lal c24 9 5)) fun x52 => S.bd (S.gd x51 true (leapfrogref12x_Tail.r (Go.Value.int Go.IntKind.i64 0) r20.2)) fun x53 => S.bd (S.gd x51 true (eqb [1, 1, 1, 1, 1] true false x52 x53)) fun x54 => S.bd (pik x51 x54 (Go.Value.bool Bool.false)) fun x55 => S.bd (S.gd x55 true (lal c32 7 5)) fun x56 => S.bd (S.gd x55 true (leapfrogref12x_Tail.r (Go.Value.int Go.IntKind.i64 0) r20.2)) fun x57 => S.bd (S.gd x55 true (eqb [1, 1, 1, 1, 1] true false x56 x57)) fun x58 => S.bd (pik x55 x58 (Go.Value.bool Bool.false)) fun x59 => S.bd (S.gd x59 true (lal c40 2 5)) fun x60 => S.bd (S.gd x59 true (leapfrogref12x_Head.r (Go.Value.int Go.IntKind.i64 0) r20.2)) fun x61 => S.bd (S.gd x59 true (eqb [1, 1, 1, 1, 1] true false x60 x61)) fun x62 => S.bd (pik x59 x62 (Go.Value.bool Bool.false)) fun x63 => some (x63, r20.2)

def leapfroglaw20x_alive.t.p2 (S : Sig) (r8 : Value × St) (x9 : Value) (r4 : Value × St) : Option (Value × St) :=
  S.bd (S.bd (bls 1 (List.replicate 1 [(Go.Value.int Go.IntKind.i64 0)]) [(0, (Go.Value.int Go.IntKind.i64 2))]) fun rows => als r8.2 1 1 rows) fun r19 => S.bd (leapfroglaw20x_play.v x9 r4.1 r19.1 r19.2) fun r20 => S.bd (xtr 0 r20.1) fun x21 => S.bd (xtr 1 r20.1) fun x22 => S.bd (bx (Go.Value.agg #[(Go.Value.int Go.IntKind.i64 0), (Go.Value.int Go.IntKind.u64 0), (Go.Value.slice Option.none 0 0), (Go.Value.slice Option.none 0 0), (Go.Value.int Go.IntKind.i64 0), (Go.Value.int Go.IntKind.i64 0), (Go.Value.int Go.IntKind.u64 0), (Go.Value.int Go.IntKind.i64 0), (Go.Value.int Go.IntKind.u64 0), (Go.Value.int Go.IntKind.i64 0), (Go.Value.int Go.IntKind.i64 0), (Go.Value.int Go.IntKind.u64 0), (Go.Value.int Go.IntKind.i64 0), (Go.Value.int Go.IntKind.u64 0), (Go.Value.bool Bool.false)])) fun c23 => S.bd (stl c23 0 15 x21) fun c24 => S.bd (idx r20.2 1 r4.1 (Go.Value.int Go.IntKind.i64 0)) fun x25 => S.bd (ldc r20.2 x25) fun x26 => S.bd (bld [(Go.Value.int Go.IntKind.i64 0), (Go.Value.int Go.IntKind.u64 0)] []) fun x27 => S.bd (leapfrogref09x_Peer_Will.r x26 x27 r20.2) fun x28 => S.bd (xtr 0 x28) fun x29 => S.bd (xtr 1 x28) fun x30 => S.bd (bx (Go.Value.agg #[(Go.Value.int Go.IntKind.i64 0), (Go.Value.bool Bool.false), (Go.Value.int Go.IntKind.i64 0), (Go.Value.int Go.IntKind.i64 0), (Go.Value.int Go.IntKind.u64 0), (Go.Value.int Go.IntKind.i64 0), (Go.Value.int Go.IntKind.u64 0), (Go.Value.int Go.IntKind.i64 0), (Go.Value.int Go.IntKind.i64 0), (Go.Value.int Go.IntKind.u64 0), (Go.Value.int Go.IntKind.i64 0), (Go.Value.int Go.IntKind.u64 0), (Go.Value.slice Option.none 0 0)])) fun c31 => S.bd (stl c31 0 13 x29) fun c32 => S.bd (idx r20.2 1 r4.1 (Go.Value.int Go.IntKind.i64 1)) fun x33 => S.bd (ldc r20.2 x33) fun x34 => S.bd (bld [(Go.Value.int Go.IntKind.i64 0), (Go.Value.int Go.IntKind.u64 0)] []) fun x35 => S.bd (leapfrogref09x_Peer_Will.r x34 x35 r20.2) fun x36 => leapfroglaw20x_alive.t.p1 S x36 x22 x30 c24 r20 c32

def leapfroglaw20x_alive.t (S : Sig) (s : St) : Option (Value × St) :=
  S.bd (bld [(Go.Value.int Go.IntKind.i64 0), (Go.Value.int Go.IntKind.u64 0)] [(0, 1, (Go.Value.int Go.IntKind.i64 2)), (1, 1, (Go.Value.int Go.IntKind.u64 5))]) fun x1 => S.bd (bld [(Go.Value.int Go.IntKind.i64 0), (Go.Value.int Go.IntKind.i64 0), (Go.Value.int Go.IntKind.u64 0), (Go.Value.int Go.IntKind.i64 0), (Go.Value.int Go.IntKind.u64 0)] [(0, 1, (Go.Value.int Go.IntKind.i64 2)), (1, 2, x1)]) fun x2 => S.bd (S.bd (bls 5 (List.replicate 1 [(Go.Value.int Go.IntKind.i64 0), (Go.Value.int Go.IntKind.i64 0), (Go.Value.int Go.IntKind.u64 0), (Go.Value.int Go.IntKind.i64 0), (Go.Value.int Go.IntKind.u64 0)]) [(0, x2)]) fun rows => als s 5 1 rows) fun r3 => S.bd (leapfrogref15x_Quiet.v (Go.Value.int Go.IntKind.i64 0) r3.1 (Go.Value.slice Option.none 0 0) r3.2) fun r4 => S.bd (leapfrogref12x_Head.r (Go.Value.int Go.IntKind.i64 0) r4.2) fun x5 => S.bd (bld [(Go.Value.int Go.IntKind.i64 0), (Go.Value.int Go.IntKind.i64 0)] [(1, 1, (Go.Value.int Go.IntKind.i64 1))]) fun x6 => S.bd (bld [(Go.Value.int Go.IntKind.i64 0), (Go.Value.int Go.IntKind.u64 0), (Go.Value.int Go.IntKind.i64 0), (Go.Value.int Go.IntKind.i64 0), (Go.Value.int Go.IntKind.u64 0), (Go.Value.int Go.IntKind.i64 0), (Go.Value.int Go.IntKind.u64 0), (Go.Value.int Go.IntKind.i64 0), (Go.Value.int Go.IntKind.i64 0)] [(2, 5, x5), (7, 2, x6)]) fun x7 => S.bd (mend_New.v x7 r4.2) fun r8 => S.bd (xtr 0 r8.1) fun x9 => S.bd (xtr 1 r8.1) fun x10 => S.bd (eqb [1] false true x10 (Go.Value.int Go.IntKind.i64 0)) fun x11 => S.bd (S.gd x11 false (some x9)) fun x12 => S.bd (S.gd x11 false (eqb [3] false false x12 (Go.Value.pointer Option.none))) fun x13 => S.bd (pik x11 (Go.Value.bool Bool.true) x13) fun x14 => S.bd (S.gd x14 false (some r4.1)) fun x15 => S.bd (S.gd x14 false (lenL x15)) fun x16 => S.bd (S.gd x14 false (eqb [1] false true x16 (Go.Value.int Go.IntKind.i64 3))) fun x17 => S.bd (pik x14 (Go.Value.bool Bool.true) x17) fun x18 => S.cnd x18 (some ((Go.Value.bool Bool.false), r8.2)) (leapfroglaw20x_alive.t.p2 S r8 x9 r4)
def leapfroglaw20x_alive.v (s : St) : Option (Value × St) := leapfroglaw20x_alive.t std  s
def leapfroglaw20x_alive.w : List Value → St → Option (Value × St)
  | [], s => leapfroglaw20x_alive.v  s
  | _, _ => none
def leapfroglaw20x_alive.an : An := ⟨91, false, [4, 6, 8], [], [], [(8, [(0, 0, [], []), (1, 0, [], []), (2, 0, [], []), (3, 0, [], []), (4, 0, [], []), (5, 0, [], []), (6, 0, [], []), (7, 0, [], []), (8, 0, [], []), (9, 0, [], []), (10, 0, [], []), (11, 33, [], []), (12, 0, [], []), (13, 0, [], []), (14, 0, [], []), (15, 0, [], []), (16, 33, [], []), (17, 0, [], []), (18, 0, [], []), (19, 0, [], []), (20, 33, [], []), (21, 3, [], []), (22, 0, [], []), (23, 0, [], []), (24, 0, [], []), (25, 0, [], []), (26, 49, [], []), (27, 3, [], []), (28, 0, [], []), (29, 0, [], []), (30, 0, [], []), (31, 0, [], []), (32, 65, [], []), (33, 3, [], []), (34, 0, [], []), (35, 0, [], []), (36, 0, [], [])])]⟩
theorem leapfroglaw20x_alive.ok (S : Sig) (s : St) : evF S Try.prog leapfroglaw20x_alive.ctx leapfroglaw20x_alive.an Try.f8 [] s = leapfroglaw20x_alive.t S  s := by kernel_rfl
theorem leapfroglaw20x_alive.cok : CtxOk Try.prog leapfroglaw20x_alive.ctx := .cons leapfrogref15x_Quiet.sound leapfrogref15x_Quiet.can <| .cons leapfrogref12x_Head.sound leapfrogref12x_Head.can <| .cons mend_New.sound mend_New.can <| .cons leapfroglaw20x_play.sound leapfroglaw20x_play.can <| .cons leapfrogref09x_Peer_Will.sound leapfrogref09x_Peer_Will.can <| .cons leapfrogref12x_Tail.sound leapfrogref12x_Tail.can <| .nil
theorem leapfroglaw20x_alive.draws : fnDraws leapfroglaw20x_alive.an Try.f8 = true := by kernel_rfl
theorem leapfroglaw20x_alive.can : callOk Try.prog 8 = true := by kernel_rfl
theorem leapfroglaw20x_alive.sound : FnOk Try.prog 8 (.st leapfroglaw20x_alive.w) := FnOk.st_of (evF_ok leapfroglaw20x_alive.cok mixed (f := 8) (fn := Try.f8) (by kernel_rfl) leapfroglaw20x_alive.draws) fun args s r h => by
  unfold leapfroglaw20x_alive.w at h; split at h
  · rw [leapfroglaw20x_alive.ok std]; exact h
  · simp at h

/-! ### leapfrog/leapfroglaw20.alive: function 8, closed -/
def leapfroglaw20x_aliveC.r (s : St) : Option Value := some (Value.bool true)
def leapfroglaw20x_aliveC.w : List Value → St → Option Value := closedW (Value.bool true)
theorem leapfroglaw20x_aliveC.can : callOk Try.prog 8 = true := leapfroglaw20x_alive.can
theorem leapfroglaw20x_aliveC.sound : FnOk Try.prog 8 (.rd leapfroglaw20x_aliveC.w) := FnOk.closed leapfroglaw20x_alive.sound (by kernel_rfl) rfl

/-! ### leapfrog/leapfroglaw20.MendAlone: function 4 -/
def leapfroglaw20x_MendAlone.ctx : Ctx := [(14, .st mend_New.w), (19, .st leapfrogref20x_New.w), (8, .rd leapfroglaw20x_aliveC.w), (20, .st mend_Mend_Next.w), (21, .st mend_Mend_Tell.w)]
def leapfroglaw20x_MendAlone.l7.p1 (S : Sig) (r92 : Value × St) (xs84 : List Value) (c94 : List Value) (x89 : Value) (x90 : Value) (x102 : Value) (x103 : Value) (x104 : Value) (x105 : Value) (x106 : Value) (x107 : Value) (x108 : Value) (x109 : Value) (x110 : Value) (x111 : Value) (x113 : Value) (x114 : Value) (x116 : Value) (x117 : Value) (x119 : Value) (x120 : Value) (rec86 : List Value → St → Option Cut) : Option Cut :=
  S.bd (idx r92.2 13 (xs84.getD 0 undef) (xs84.getD 3 undef)) fun x122 => S.bd (lda r92.2 13 x122) fun x123 => S.bd (mend_Mend_Tell.v (xs84.getD 1 undef) x123 r92.2) fun r124 => S.bd (show Option Cut from S.bd (lcl c94 6) fun x125 => S.bd (eqb [1] false false x125 (Go.Value.int Go.IntKind.i64 3)) fun x126 => S.cnd x126 (S.bd (idx r124.2 13 (xs84.getD 0 undef) (xs84.getD 3 undef)) fun x127 => S.bd (fld 0 x127) fun x128 => S.bd (ldc r124.2 x128) fun x129 => S.bd (eqb [1] false false x129 (Go.Value.int Go.IntKind.i64 1)) fun x130 => some (0, [(xs84.getD 0 undef), (xs84.getD 1 undef), x130, (xs84.getD 3 undef), x89, x90, x102, x103, x104, x105, x106, x107, x108, x109, x110, x111, x113, x114, x116, x117, x119, x120, (Value.agg ⟨(cellsA (xs84.getD 4 undef))⟩), (Value.agg ⟨c94⟩)], r124.2)) (some (0, [(xs84.getD 0 undef), (xs84.getD 1 undef), (xs84.getD 2 undef), (xs84.getD 3 undef), x89, x90, x102, x103, x104, x105, x106, x107, x108, x109, x110, x111, x113, x114, x116, x117, x119, x120, (Value.agg ⟨(cellsA (xs84.getD 4 undef))⟩), (Value.agg ⟨c94⟩)], r124.2))) fun r131 => S.bd (lcl (cellsA (r131.2.1.getD 23 undef)) 6) fun x132 => S.bd (eqb [1] false false x132 (Go.Value.int Go.IntKind.i64 4)) fun x133 => S.bd (S.gd x133 false (lal (cellsA (r131.2.1.getD 23 undef)) 1 5)) fun x134 => S.bd (S.gd x133 false (lal (cellsA (r131.2.1.getD 22 undef)) 2 5)) fun x135 => S.bd (S.gd x133 false (eqb [1, 1, 1, 1, 1] true false x134 x135)) fun x136 => S.bd (S.gd x133 false (some x136)) fun x137 => S.bd (S.gd x137 true (some (r131.2.1.getD 0 undef))) fun x138 => S.bd (S.gd x137 true (some (r131.2.1.getD 3 undef))) fun x139 => S.bd (S.gd x137 true (idx r131.2.2 13 x138 x139)) fun x140 => S.bd (S.gd x137 true (fld 0 x140)) fun x141 => S.bd (S.gd x137 true (ldc r131.2.2 x141)) fun x142 => S.bd (S.gd x137 true (eqb [1] false false x142 (Go.Value.int Go.IntKind.i64 3))) fun x143 => S.bd (S.gd x133 false (pik x137 x143 (Go.Value.bool Bool.false))) fun x144 => S.bd (pik x133 (Go.Value.bool Bool.true) x144) fun x145 => S.cnd x145 (S.bd (bin .add (r131.2.1.getD 3 undef) (Go.Value.int Go.IntKind.i64 1)) fun x146 => rec86 [(r131.2.1.getD 0 undef), (r131.2.1.getD 1 undef), (Go.Value.bool Bool.false), x146, (Value.agg ⟨(cellsA (r131.2.1.getD 22 undef))⟩)] r131.2.2) (S.bd (bin .add (r131.2.1.getD 3 undef) (Go.Value.int Go.IntKind.i64 1)) fun x147 => rec86 [(r131.2.1.getD 0 undef), (r131.2.1.getD 1 undef), (r131.2.1.getD 2 undef), x147, (Value.agg ⟨(cellsA (r131.2.1.getD 22 undef))⟩)] r131.2.2)

def leapfroglaw20x_MendAlone.l7.p2 (S : Sig) (xs84 : List Value) (s85 : St) (x89 : Value) (x90 : Value) (rec86 : List Value → St → Option Cut) : Option Cut :=
  S.bd (mend_Mend_Next.v (xs84.getD 1 undef) s85) fun r92 => S.bd (bx (Go.Value.agg #[(Go.Value.int Go.IntKind.i64 0), (Go.Value.int Go.IntKind.i64 0), (Go.Value.int Go.IntKind.i64 0), (Go.Value.int Go.IntKind.u64 0), (Go.Value.int Go.IntKind.i64 0), (Go.Value.int Go.IntKind.u64 0), (Go.Value.int Go.IntKind.i64 0), (Go.Value.int Go.IntKind.i64 0), (Go.Value.int Go.IntKind.u64 0), (Go.Value.int Go.IntKind.i64 0), (Go.Value.int Go.IntKind.i64 0), (Go.Value.int Go.IntKind.u64 0), (Go.Value.int Go.IntKind.i64 0), (Go.Value.int Go.IntKind.u64 0), (Go.Value.int Go.IntKind.i64 0), (Go.Value.int Go.IntKind.i64 0), (Go.Value.int Go.IntKind.u64 0), (Go.Value.int Go.IntKind.i64 0), (Go.Value.int Go.IntKind.u64 0), (Go.Value.int Go.IntKind.i64 0), (Go.Value.int Go.IntKind.i64 0), (Go.Value.int Go.IntKind.i64 0), (Go.Value.int Go.IntKind.u64 0), (Go.Value.slice Option.none 0 0), (Go.Value.slice Option.none 0 0), (Go.Value.int Go.IntKind.i64 0), (Go.Value.int Go.IntKind.i64 0), (Go.Value.int Go.IntKind.u64 0), (Go.Value.int Go.IntKind.i64 0), (Go.Value.int Go.IntKind.u64 0), (Go.Value.int Go.IntKind.i64 0), (Go.Value.int Go.IntKind.i64 0), (Go.Value.int Go.IntKind.u64 0), (Go.Value.int Go.IntKind.i64 0), (Go.Value.int Go.IntKind.u64 0), (Go.Value.bool Bool.false)])) fun c93 => S.bd (stl c93 0 36 r92.1) fun c94 => S.bd (lcl c94 0) fun x95 => S.bd (eqb [1] false false x95 (Go.Value.int Go.IntKind.i64 3)) fun x96 => S.cnd x96 (S.bd (un .not (xs84.getD 2 undef)) fun x97 => S.bd (S.gd x97 true (leapfroglaw20x_aliveC.r  r92.2)) fun x98 => S.bd (pik x97 x98 (Go.Value.bool Bool.false)) fun x99 => some (1, [x99], r92.2)) (S.bd (lcl c94 0) fun x100 => S.bd (eqb [1] false true x100 (Go.Value.int Go.IntKind.i64 1)) fun x101 => S.bd (S.gd x101 false (lcl c94 6)) fun x102 => S.bd (S.gd x101 false (eqb [1] false false x102 (Go.Value.int Go.IntKind.i64 3))) fun x103 => S.bd (S.gd x101 false (some x103)) fun x104 => S.bd (S.gd x104 true (some (xs84.getD 2 undef))) fun x105 => S.bd (S.gd x104 true (some x105)) fun x106 => S.bd (S.gd x106 false (lal c94 1 5)) fun x107 => S.bd (S.gd x106 false (lal (cellsA (xs84.getD 4 undef)) 2 5)) fun x108 => S.bd (S.gd x106 false (eqb [1, 1, 1, 1, 1] true true x107 x108)) fun x109 => S.bd (S.gd x104 true (pik x106 (Go.Value.bool Bool.true) x109)) fun x110 => S.bd (S.gd x101 false (pik x104 x110 (Go.Value.bool Bool.false))) fun x111 => S.bd (pik x101 (Go.Value.bool Bool.true) x111) fun x112 => S.bd (S.gd x112 false (lcl c94 6)) fun x113 => S.bd (S.gd x112 false (eqb [1] false false x113 (Go.Value.int Go.IntKind.i64 7))) fun x114 => S.bd (pik x112 (Go.Value.bool Bool.true) x114) fun x115 => S.bd (S.gd x115 false (lcl c94 6)) fun x116 => S.bd (S.gd x115 false (eqb [1] false false x116 (Go.Value.int Go.IntKind.i64 8))) fun x117 => S.bd (pik x115 (Go.Value.bool Bool.true) x117) fun x118 => S.bd (S.gd x118 false (lcl c94 6)) fun x119 => S.bd (S.gd x118 false (eqb [1] false false x119 (Go.Value.int Go.IntKind.i64 9))) fun x120 => S.bd (pik x118 (Go.Value.bool Bool.true) x120) fun x121 => S.cnd x121 (some (1, [(Go.Value.bool Bool.false)], r92.2)) (leapfroglaw20x_MendAlone.l7.p1 S r92 xs84 c94 x89 x90 x102 x103 x104 x105 x106 x107 x108 x109 x110 x111 x113 x114 x116 x117 x119 x120 rec86))

def leapfroglaw20x_MendAlone.l7 (S : Sig) (rec86 : List Value → St → Option Cut) (xs84 : List Value) (s85 : St) : Option Cut :=
  S.bd (lenL (xs84.getD 0 undef)) fun x87 => S.bd (bin .lss (xs84.getD 3 undef) x87) fun x88 => S.bd (S.gd x88 true (some (xs84.getD 3 undef))) fun x89 => S.bd (S.gd x88 true (bin .lss x89 (Go.Value.int Go.IntKind.i64 60))) fun x90 => S.bd (pik x88 x90 (Go.Value.bool Bool.false)) fun x91 => S.cnd x91 (leapfroglaw20x_MendAlone.l7.p2 S xs84 s85 x89 x90 rec86) (some (0, [], s85))

def leapfroglaw20x_MendAlone.t (S : Sig) (a0 a1 : Value) (s : St) : Option (Value × St) :=
  S.bd (bx a0) fun c1 => S.bd (lal c1 0 9) fun x2 => S.bd (mend_New.v x2 s) fun r3 => S.bd (xtr 0 r3.1) fun x4 => S.bd (xtr 1 r3.1) fun x5 => S.bd (eqb [1] false true x5 (Go.Value.int Go.IntKind.i64 0)) fun x6 => S.bd (S.gd x6 false (some x4)) fun x7 => S.bd (S.gd x6 false (eqb [3] false false x7 (Go.Value.pointer Option.none))) fun x8 => S.bd (pik x6 (Go.Value.bool Bool.true) x8) fun x9 => S.cnd x9 (S.bd (lal c1 0 9) fun x10 => S.bd (leapfrogref20x_New.v x10 r3.2) fun r11 => S.bd (xtr 0 r11.1) fun x12 => S.bd (xtr 1 r11.1) fun x13 => S.bd (eqb [1] false false x5 x13) fun x14 => S.bd (S.gd x14 true (leapfroglaw20x_aliveC.r  r11.2)) fun x15 => S.bd (pik x14 x15 (Go.Value.bool Bool.false)) fun x16 => some (x16, r11.2)) (S.bd (S.it (leapfroglaw20x_MendAlone.l7 S) [a1, x4, (Go.Value.bool Bool.false), (Go.Value.int Go.IntKind.i64 0), (Value.agg ⟨c1⟩)] r3.2) fun r148 => if r148.1 = 0 then (S.bd (leapfroglaw20x_aliveC.r  r148.2.2) fun x149 => some (x149, r148.2.2)) else (some ((r148.2.1.getD 0 undef), r148.2.2)))
def leapfroglaw20x_MendAlone.v (a0 a1 : Value) (s : St) : Option (Value × St) := leapfroglaw20x_MendAlone.t std a0 a1 s
def leapfroglaw20x_MendAlone.w : List Value → St → Option (Value × St)
  | [a0, a1], s => leapfroglaw20x_MendAlone.v a0 a1 s
  | _, _ => none
def leapfroglaw20x_MendAlone.an : An := ⟨127, false, [2, 11], [(7, ⟨[.v 1, .p 2 2 0, .v 5, .v 9, .v 10, .l 2], [(.exit 0, []), (.ret, [.v 4])]⟩)], [(17, ⟨[], [(.normal, [.v 1, .p 2 2 0, .v 5, .v 9, .v 10, .p 11 11 0, .v 39, .v 40, .v 60, .v 61, .v 62, .v 63, .v 64, .v 66, .v 68, .v 69, .v 70, .v 71, .v 76, .v 77, .v 82, .v 83, .v 88, .v 89, .l 2, .l 11])]⟩)], []⟩
theorem leapfroglaw20x_MendAlone.ok (S : Sig) (a0 a1 : Value) (s : St) : evF S Try.prog leapfroglaw20x_MendAlone.ctx leapfroglaw20x_MendAlone.an Try.f4 [a0, a1] s = leapfroglaw20x_MendAlone.t S a0 a1 s := by kernel_rfl
theorem leapfroglaw20x_MendAlone.cok : CtxOk Try.prog leapfroglaw20x_MendAlone.ctx := .cons mend_New.sound mend_New.can <| .cons leapfrogref20x_New.sound leapfrogref20x_New.can <| .cons leapfroglaw20x_aliveC.sound leapfroglaw20x_aliveC.can <| .cons mend_Mend_Next.sound mend_Mend_Next.can <| .cons mend_Mend_Tell.sound mend_Mend_Tell.can <| .nil
theorem leapfroglaw20x_MendAlone.draws : fnDraws leapfroglaw20x_MendAlone.an Try.f4 = true := by kernel_rfl
theorem leapfroglaw20x_MendAlone.can : callOk Try.prog 4 = true := by kernel_rfl
theorem leapfroglaw20x_MendAlone.sound : FnOk Try.prog 4 (.st leapfroglaw20x_MendAlone.w) := FnOk.st_of (evF_ok leapfroglaw20x_MendAlone.cok mixed (f := 4) (fn := Try.f4) (by kernel_rfl) leapfroglaw20x_MendAlone.draws) fun args s r h => by
  unfold leapfroglaw20x_MendAlone.w at h; split at h
  · rw [leapfroglaw20x_MendAlone.ok std]; exact h
  · simp at h


end
end Go.Proofs.Ytpjobebheebncaa
