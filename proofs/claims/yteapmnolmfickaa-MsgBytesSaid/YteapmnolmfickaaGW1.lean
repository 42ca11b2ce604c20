/-
  What the functions answer that MsgForms, MsgReplies, MsgBytes, MsgBack, MsgApart, MsgAnswers reaches (part 1): for each function of the program a plain function over abstract values, and that the model answers as it does.
-/
import Derived.Test.YteapmnolmfickaaGW0
set_option linter.unusedVariables false
set_option maxRecDepth 100000
namespace Go.Proofs.Yteapmnolmfickaa
open Go.Sim
noncomputable section
def Q2k.ctx:Ctx:=[(61,.rd Q2p.w),(40,.rd Q2t.w),(62,.st Q2m.w)]
def Q2k.t (S:Sig) (a0:Value) (s:St):Option (Value×St) :=
  S.bd (bx a0) fun c1=>S.bd (lcl c1 0) fun x2=>S.bd (cvi .u64 x2) fun x3=>S.bd (Q2p.r x3 s) fun x4=>S.bd (S.bd (bls 14 (List.replicate 1 [(.int .i64 0),(.int .u64 0),(.int .i64 0),(.bool Bool.false),(.slice none 0 0),(.int .i64 0),(.int .u64 0),(.int .i64 0),(.int .u64 0),(.int .i64 0),(.int .i64 0),(.int .u64 0),(.int .i64 0),(.int .u64 0)]) [(0,x4)]) fun rows=>als s 14 1 rows) fun r5=>S.bd (show Option Cut from S.bd (lcl c1 0) fun x21=>S.bd (eqb [1] false false x21 (.int .i64 1)) fun x22=>S.bd (S.gd x22 false (lcl c1 0)) fun x23=>S.bd (S.gd x22 false (eqb [1] false false x23 (.int .i64 3))) fun x24=>S.bd (pik x22 (.bool Bool.true) x24) fun x25=>S.cnd x25 (S.bd (lcl c1 1) fun x26=>S.bd (Q2t.r x26 r5.2) fun x27=>S.bd (S.bd (bls 14 (List.replicate 1 [(.int .i64 0),(.int .u64 0),(.int .i64 0),(.bool Bool.false),(.slice none 0 0),(.int .i64 0),(.int .u64 0),(.int .i64 0),(.int .u64 0),(.int .i64 0),(.int .i64 0),(.int .u64 0),(.int .i64 0),(.int .u64 0)]) [(0,x27)]) fun rows=>als r5.2 14 1 rows) fun r28=>S.bd (app r28.2 14 128 r5.1 r28.1) fun r29=>S.bd (lal c1 2 5) fun x30=>S.bd (lal c1 7 5) fun x31=>S.bd (Q2m.v x30 r29.2) fun r32=>S.bd (app r32.2 14 128 r29.1 r32.1) fun r33=>S.bd (Q2m.v x31 r33.2) fun r34=>S.bd (app r34.2 14 128 r33.1 r34.1) fun r35=>some (0,[r35.1,(Value.agg ⟨c1⟩)],r35.2)) (some (0,[r5.1,(Value.agg ⟨c1⟩)],r5.2))) fun r36=>S.bd (lcl (cellsA (r36.2.1.getD 1 undef)) 0) fun x37=>S.bd (eqb [1] false false x37 (.int .i64 1)) fun x38=>S.cnd x38 (S.bd (lcl (cellsA (r36.2.1.getD 1 undef)) 12) fun x39=>S.bd (bld [(.int .i64 0),(.int .u64 0),(.int .i64 0),(.bool Bool.false),(.slice none 0 0),(.int .i64 0),(.int .u64 0),(.int .i64 0),(.int .u64 0),(.int .i64 0),(.int .i64 0),(.int .u64 0),(.int .i64 0),(.int .u64 0)] [(0,1,(.int .i64 4)),(4,1,x39)]) fun x40=>S.bd (S.bd (bls 14 (List.replicate 1 [(.int .i64 0),(.int .u64 0),(.int .i64 0),(.bool Bool.false),(.slice none 0 0),(.int .i64 0),(.int .u64 0),(.int .i64 0),(.int .u64 0),(.int .i64 0),(.int .i64 0),(.int .u64 0),(.int .i64 0),(.int .u64 0)]) [(0,x40)]) fun rows=>als r36.2.2 14 1 rows) fun r41=>S.bd (app r41.2 14 128 (r36.2.1.getD 0 undef) r41.1) fun r42=>some (r42.1,r42.2)) (some ((r36.2.1.getD 0 undef),r36.2.2))
def Q2k.v (a0:Value) (s:St):Option (Value×St):=Q2k.t std a0 s
def Q2k.w:List Value→St→Option (Value×St)
  | [a0],s=>Q2k.v a0 s
  | _,_=>none
def Q2k.an:An:=⟨42,false,[1],[],[(5,⟨[],[(.normal,[.p 1 1 0,.v 3,.l 1])]⟩)],[(4,[(z4 0 0),(z4 1 0),(z4 2 9),(z4 5 0),(z4 6 9),(z4 3 4),(z4 4 4),(z4 7 4),(z4 8 4),(z4 9 0)])],[],[]⟩
theorem Q2k.ok (S:Sig) (a0:Value) (s:St):evF S Try.prog Q2k.ctx Q2k.an Try.f42 [a0] s=Q2k.t S a0 s:=by kernel_rfl
theorem Q2k.cok:CtxOk Try.prog Q2k.ctx:=.cons Q2p.sound Q2p.can <| .cons Q2t.sound Q2t.can <| .cons Q2m.sound Q2m.can <| .nil
theorem Q2k.draws:fnDraws Q2k.an Try.f42=true:=by kernel_rfl
theorem Q2k.can:callOk Try.prog 42=true:=by kernel_rfl
theorem Q2k.sound:FnOk Try.prog 42 (.st Q2k.w):=FnOk.st_of (evF_ok Q2k.cok mixed (f:=42) (fn:=Try.f42) (by kernel_rfl) Q2k.draws) fun args s r h=>by
  unfold Q2k.w at h; split at h
  · rw [Q2k.ok std]; exact h
  · simp at h
def Q2l.ctx:Ctx:=[(61,.rd Q2p.w),(31,.rd Q2n.w),(63,.rd Q2r.w),(41,.rd Q2u.w)]
def Q2l.t.p1 (S:Sig) (x7:Value) (x8:Value) (c1:List Value) (r5:Value×St) (x9:Value):Option (Value×St) :=
  S.bd (xtr 2 x7) fun x10=>S.bd (xtr 3 x7) fun x11=>S.bd (show Option Cut from S.cnd x8 (S.bd (lal c1 1 2) fun x16=>S.bd (bld [(.int .i64 0),(.int .u64 0),(.int .i64 0),(.bool Bool.false),(.slice none 0 0),(.int .i64 0),(.int .u64 0),(.int .i64 0),(.int .u64 0),(.int .i64 0),(.int .i64 0),(.int .u64 0),(.int .i64 0),(.int .u64 0)] [(0,1,(.int .i64 5)),(5,2,x16)]) fun x17=>S.bd (S.bd (bls 14 (List.replicate 1 [(.int .i64 0),(.int .u64 0),(.int .i64 0),(.bool Bool.false),(.slice none 0 0),(.int .i64 0),(.int .u64 0),(.int .i64 0),(.int .u64 0),(.int .i64 0),(.int .i64 0),(.int .u64 0),(.int .i64 0),(.int .u64 0)]) [(0,x17)]) fun rows=>als r5.2 14 1 rows) fun r18=>S.bd (app r18.2 14 128 r5.1 r18.1) fun r19=>some (0,[r19.1,x9,x10,x11,(Value.agg ⟨c1⟩)],r19.2)) (some (0,[r5.1,x9,x10,x11,(Value.agg ⟨c1⟩)],r5.2))) fun r20=>S.bd (show Option Cut from S.cnd (r20.2.1.getD 1 undef) (S.bd (lal (cellsA (r20.2.1.getD 4 undef)) 3 5) fun x25=>S.bd (Q2r.r x25 r20.2.2) fun x26=>S.bd (S.bd (bls 14 (List.replicate 1 [(.int .i64 0),(.int .u64 0),(.int .i64 0),(.bool Bool.false),(.slice none 0 0),(.int .i64 0),(.int .u64 0),(.int .i64 0),(.int .u64 0),(.int .i64 0),(.int .i64 0),(.int .u64 0),(.int .i64 0),(.int .u64 0)]) [(0,x26)]) fun rows=>als r20.2.2 14 1 rows) fun r27=>S.bd (app r27.2 14 128 (r20.2.1.getD 0 undef) r27.1) fun r28=>some (0,[r28.1,(r20.2.1.getD 2 undef),(r20.2.1.getD 3 undef),(Value.agg ⟨(cellsA (r20.2.1.getD 4 undef))⟩)],r28.2)) (some (0,[(r20.2.1.getD 0 undef),(r20.2.1.getD 2 undef),(r20.2.1.getD 3 undef),(Value.agg ⟨(cellsA (r20.2.1.getD 4 undef))⟩)],r20.2.2))) fun r29=>S.bd (show Option Cut from S.cnd (r29.2.1.getD 1 undef) (S.bd (lal (cellsA (r29.2.1.getD 3 undef)) 8 5) fun x34=>S.bd (Q2r.r x34 r29.2.2) fun x35=>S.bd (S.bd (bls 14 (List.replicate 1 [(.int .i64 0),(.int .u64 0),(.int .i64 0),(.bool Bool.false),(.slice none 0 0),(.int .i64 0),(.int .u64 0),(.int .i64 0),(.int .u64 0),(.int .i64 0),(.int .i64 0),(.int .u64 0),(.int .i64 0),(.int .u64 0)]) [(0,x35)]) fun rows=>als r29.2.2 14 1 rows) fun r36=>S.bd (app r36.2 14 128 (r29.2.1.getD 0 undef) r36.1) fun r37=>some (0,[r37.1,(r29.2.1.getD 2 undef),(Value.agg ⟨(cellsA (r29.2.1.getD 3 undef))⟩)],r37.2)) (some (0,[(r29.2.1.getD 0 undef),(r29.2.1.getD 2 undef),(Value.agg ⟨(cellsA (r29.2.1.getD 3 undef))⟩)],r29.2.2))) fun r38=>S.cnd (r38.2.1.getD 1 undef) (S.bd (lcl (cellsA (r38.2.1.getD 2 undef)) 13) fun x39=>S.bd (lcl (cellsA (r38.2.1.getD 2 undef)) 14) fun x40=>S.bd (Q2u.r x39 r38.2.2) fun x41=>S.bd (Q2u.r x40 r38.2.2) fun x42=>S.bd (S.bd (bls 14 (List.replicate 2 [(.int .i64 0),(.int .u64 0),(.int .i64 0),(.bool Bool.false),(.slice none 0 0),(.int .i64 0),(.int .u64 0),(.int .i64 0),(.int .u64 0),(.int .i64 0),(.int .i64 0),(.int .u64 0),(.int .i64 0),(.int .u64 0)]) [(0,x41),(1,x42)]) fun rows=>als r38.2.2 14 2 rows) fun r43=>S.bd (app r43.2 14 128 (r38.2.1.getD 0 undef) r43.1) fun r44=>some (r44.1,r44.2)) (some ((r38.2.1.getD 0 undef),r38.2.2))
def Q2l.t (S:Sig) (a0:Value) (s:St):Option (Value×St) :=
  S.bd (bx a0) fun c1=>S.bd (lcl c1 0) fun x2=>S.bd (cvi .u64 x2) fun x3=>S.bd (Q2p.r x3 s) fun x4=>S.bd (S.bd (bls 14 (List.replicate 1 [(.int .i64 0),(.int .u64 0),(.int .i64 0),(.bool Bool.false),(.slice none 0 0),(.int .i64 0),(.int .u64 0),(.int .i64 0),(.int .u64 0),(.int .i64 0),(.int .i64 0),(.int .u64 0),(.int .i64 0),(.int .u64 0)]) [(0,x4)]) fun rows=>als s 14 1 rows) fun r5=>S.bd (lcl c1 0) fun x6=>S.bd (Q2n.r x6 r5.2) fun x7=>S.bd (xtr 0 x7) fun x8=>S.bd (xtr 1 x7) fun x9=>Q2l.t.p1 S x7 x8 c1 r5 x9
def Q2l.v (a0:Value) (s:St):Option (Value×St):=Q2l.t std a0 s
def Q2l.w:List Value→St→Option (Value×St)
  | [a0],s=>Q2l.v a0 s
  | _,_=>none
def Q2l.an:An:=⟨55,false,[1],[],[(5,⟨[],[(.normal,[.p 1 1 0,.v 3,.v 5,.v 6,.v 7,.l 1])]⟩),(7,⟨[],[(.normal,[.p 1 1 0,.v 3,.v 6,.v 7,.l 1])]⟩),(9,⟨[],[(.normal,[.p 1 1 0,.v 3,.v 7,.l 1])]⟩)],[(10,[(z4 0 0),(z4 1 0),(z4 2 0),(z4 3 9),(z4 5 0),(z4 6 0),(z4 7 9),(z4 4 3),(z4 8 3),(z4 9 3),(z4 10 4),(z4 11 0)])],[],[]⟩
theorem Q2l.ok (S:Sig) (a0:Value) (s:St):evF S Try.prog Q2l.ctx Q2l.an Try.f43 [a0] s=Q2l.t S a0 s:=by kernel_rfl
theorem Q2l.cok:CtxOk Try.prog Q2l.ctx:=.cons Q2p.sound Q2p.can <| .cons Q2n.sound Q2n.can <| .cons Q2r.sound Q2r.can <| .cons Q2u.sound Q2u.can <| .nil
theorem Q2l.draws:fnDraws Q2l.an Try.f43=true:=by kernel_rfl
theorem Q2l.can:callOk Try.prog 43=true:=by kernel_rfl
theorem Q2l.sound:FnOk Try.prog 43 (.st Q2l.w):=FnOk.st_of (evF_ok Q2l.cok mixed (f:=43) (fn:=Try.f43) (by kernel_rfl) Q2l.draws) fun args s r h=>by
  unfold Q2l.w at h; split at h
  · rw [Q2l.ok std]; exact h
  · simp at h
def Q1p.ctx:Ctx:=[]
def Q1p.t (S:Sig) (a0:Value) (s:St):Option Value :=
  S.bd (bin .geq a0 (.int .i64 1)) fun x1=>S.bd (S.gd x1 true (some a0)) fun x2=>S.bd (S.gd x1 true (bin .leq x2 (.int .i64 7))) fun x3=>S.bd (pik x1 x3 (.bool Bool.false)) fun x4=>some (x4)
def Q1p.r (a0:Value) (s:St):Option Value:=Q1p.t std a0 s
def Q1p.w:List Value→St→Option Value
  | [a0],s=>Q1p.r a0 s
  | _,_=>none
def Q1p.an:An:=⟨9,true,[],[],[],[],[],[]⟩
theorem Q1p.ok (S:Sig) (a0:Value) (s:St):evG S Try.prog Q1p.ctx Q1p.an Try.f79 [a0] s=Q1p.t S a0 s:=by kernel_rfl
theorem Q1p.cok:CtxOk Try.prog Q1p.ctx:=.nil
theorem Q1p.draws:fnDraws Q1p.an Try.f79=true:=by kernel_rfl
theorem Q1p.can:callOk Try.prog 79=true:=by kernel_rfl
theorem Q1p.sound:FnOk Try.prog 79 (.rd Q1p.w):=FnOk.rd_of (evG_ok Q1p.cok mixed (f:=79) (fn:=Try.f79) (by kernel_rfl) Q1p.draws) fun args s r h=>by
  unfold Q1p.w at h; split at h
  · rw [Q1p.ok std]; exact h
  · simp at h
def Q22.ctx:Ctx:=[]
def Q22.t (S:Sig) (a0:Value) (s:St):Option Value :=
  S.bd (bx a0) fun c1=>S.bd (bx (Go.Value.agg #[(.int .i64 0),(.int .u64 0),(.int .i64 0),(.bool Bool.false),(.slice none 0 0),(.int .i64 0),(.int .u64 0),(.int .i64 0),(.int .u64 0),(.int .i64 0),(.int .i64 0),(.int .u64 0),(.int .i64 0),(.int .u64 0)])) fun c2=>S.bd (lcl c1 0) fun x3=>S.bd (bld [(.int .i64 0),(.int .u64 0),(.int .i64 0),(.bool Bool.false),(.slice none 0 0),(.int .i64 0),(.int .u64 0),(.int .i64 0),(.int .u64 0),(.int .i64 0),(.int .i64 0),(.int .u64 0),(.int .i64 0),(.int .u64 0)] [(0,1,x3)]) fun x4=>S.bd (bx (Go.Value.agg #[(.int .i64 0),(.int .u64 0),(.int .i64 0),(.bool Bool.false),(.slice none 0 0),(.int .i64 0),(.int .u64 0),(.int .i64 0),(.int .u64 0),(.int .i64 0),(.int .i64 0),(.int .u64 0),(.int .i64 0),(.int .u64 0)])) fun c5=>S.bd (stl c5 0 14 x4) fun c6=>S.bd (lcl c1 0) fun x7=>S.bd (eqb [1] false false x7 (.int .i64 1)) fun x8=>S.cnd x8 (S.bd (lcl c1 1) fun x9=>S.bd (stl c6 1 1 x9) fun c10=>S.bd (lal c10 0 14) fun x11=>S.bd (stl c2 0 14 x11) fun c12=>S.bd (lal c12 0 14) fun x13=>some (x13)) (S.bd (eqb [1] false false x7 (.int .i64 2)) fun x14=>S.cnd x14 (S.bd (lcl c1 2) fun x15=>S.bd (stl c6 2 1 x15) fun c16=>S.bd (lal c16 0 14) fun x17=>S.bd (stl c2 0 14 x17) fun c18=>S.bd (lal c18 0 14) fun x19=>some (x19)) (S.bd (eqb [1] false false x7 (.int .i64 3)) fun x20=>S.cnd x20 (S.bd (lcl c1 3) fun x21=>S.bd (stl c6 3 1 x21) fun c22=>S.bd (lal c22 0 14) fun x23=>S.bd (stl c2 0 14 x23) fun c24=>S.bd (lal c24 0 14) fun x25=>some (x25)) (S.bd (eqb [1] false false x7 (.int .i64 4)) fun x26=>S.cnd x26 (S.bd (lcl c1 4) fun x27=>S.bd (stl c6 4 1 x27) fun c28=>S.bd (lal c28 0 14) fun x29=>S.bd (stl c2 0 14 x29) fun c30=>S.bd (lal c30 0 14) fun x31=>some (x31)) (S.bd (eqb [1] false false x7 (.int .i64 5)) fun x32=>S.cnd x32 (S.bd (lal c1 5 2) fun x33=>S.bd (stl c6 5 2 x33) fun c34=>S.bd (lal c34 0 14) fun x35=>S.bd (stl c2 0 14 x35) fun c36=>S.bd (lal c36 0 14) fun x37=>some (x37)) (S.bd (eqb [1] false false x7 (.int .i64 6)) fun x38=>S.cnd x38 (S.bd (lal c1 7 2) fun x39=>S.bd (stl c6 7 2 x39) fun c40=>S.bd (lal c40 0 14) fun x41=>S.bd (stl c2 0 14 x41) fun c42=>S.bd (lal c42 0 14) fun x43=>some (x43)) (S.bd (eqb [1] false false x7 (.int .i64 7)) fun x44=>S.cnd x44 (S.bd (lal c1 9 5) fun x45=>S.bd (stl c6 9 5 x45) fun c46=>S.bd (lal c46 0 14) fun x47=>S.bd (stl c2 0 14 x47) fun c48=>S.bd (lal c48 0 14) fun x49=>some (x49)) (S.bd (lal c6 0 14) fun x50=>S.bd (stl c2 0 14 x50) fun c51=>S.bd (lal c51 0 14) fun x52=>some (x52))))))))
def Q22.r (a0:Value) (s:St):Option Value:=Q22.t std a0 s
def Q22.w:List Value→St→Option Value
  | [a0],s=>Q22.r a0 s
  | _,_=>none
def Q22.an:An:=⟨45,true,[1,2,3],[],[],[],[],[]⟩
theorem Q22.ok (S:Sig) (a0:Value) (s:St):evG S Try.prog Q22.ctx Q22.an Try.f81 [a0] s=Q22.t S a0 s:=by kernel_rfl
theorem Q22.cok:CtxOk Try.prog Q22.ctx:=.nil
theorem Q22.draws:fnDraws Q22.an Try.f81=true:=by kernel_rfl
theorem Q22.can:callOk Try.prog 81=true:=by kernel_rfl
theorem Q22.sound:FnOk Try.prog 81 (.rd Q22.w):=FnOk.rd_of (evG_ok Q22.cok mixed (f:=81) (fn:=Try.f81) (by kernel_rfl) Q22.draws) fun args s r h=>by
  unfold Q22.w at h; split at h
  · rw [Q22.ok std]; exact h
  · simp at h
def Q1z.ctx:Ctx:=[]
def Q1z.t (S:Sig) (a0 a1:Value) (s:St):Option Value :=
  S.bd (bx a0) fun c1=>S.bd (bx a1) fun c2=>S.bd (lcl c1 0) fun x3=>S.bd (lcl c2 0) fun x4=>S.bd (eqb [1] false false x3 x4) fun x5=>S.bd (S.gd x5 true (lcl c1 1)) fun x6=>S.bd (S.gd x5 true (lcl c2 1)) fun x7=>S.bd (S.gd x5 true (eqb [1] false false x6 x7)) fun x8=>S.bd (pik x5 x8 (.bool Bool.false)) fun x9=>S.bd (S.gd x9 true (lcl c1 2)) fun x10=>S.bd (S.gd x9 true (lcl c2 2)) fun x11=>S.bd (S.gd x9 true (eqb [1] false false x10 x11)) fun x12=>S.bd (pik x9 x12 (.bool Bool.false)) fun x13=>S.bd (S.gd x13 true (lcl c1 3)) fun x14=>S.bd (S.gd x13 true (lcl c2 3)) fun x15=>S.bd (S.gd x13 true (eqb [0] false false x14 x15)) fun x16=>S.bd (pik x13 x16 (.bool Bool.false)) fun x17=>S.bd (S.gd x17 true (lcl c1 4)) fun x18=>S.bd (S.gd x17 true (b2s s x18)) fun x19=>S.bd (S.gd x17 true (lcl c2 4)) fun x20=>S.bd (S.gd x17 true (b2s s x20)) fun x21=>S.bd (S.gd x17 true (eqb [2] false false x19 x21)) fun x22=>S.bd (pik x17 x22 (.bool Bool.false)) fun x23=>S.bd (S.gd x23 true (lal c1 5 2)) fun x24=>S.bd (S.gd x23 true (lal c2 5 2)) fun x25=>S.bd (S.gd x23 true (eqb [1,1] true false x24 x25)) fun x26=>S.bd (pik x23 x26 (.bool Bool.false)) fun x27=>S.bd (S.gd x27 true (lal c1 7 2)) fun x28=>S.bd (S.gd x27 true (lal c2 7 2)) fun x29=>S.bd (S.gd x27 true (eqb [1,1] true false x28 x29)) fun x30=>S.bd (pik x27 x30 (.bool Bool.false)) fun x31=>S.bd (S.gd x31 true (lal c1 9 5)) fun x32=>S.bd (S.gd x31 true (lal c2 9 5)) fun x33=>S.bd (S.gd x31 true (eqb [1,1,1,1,1] true false x32 x33)) fun x34=>S.bd (pik x31 x34 (.bool Bool.false)) fun x35=>some (x35)
def Q1z.r (a0 a1:Value) (s:St):Option Value:=Q1z.t std a0 a1 s
def Q1z.w:List Value→St→Option Value
  | [a0,a1],s=>Q1z.r a0 a1 s
  | _,_=>none
def Q1z.an:An:=⟨61,true,[2,3],[],[],[],[],[]⟩
theorem Q1z.ok (S:Sig) (a0 a1:Value) (s:St):evG S Try.prog Q1z.ctx Q1z.an Try.f80 [a0,a1] s=Q1z.t S a0 a1 s:=by kernel_rfl
theorem Q1z.cok:CtxOk Try.prog Q1z.ctx:=.nil
theorem Q1z.draws:fnDraws Q1z.an Try.f80=true:=by kernel_rfl
theorem Q1z.can:callOk Try.prog 80=true:=by kernel_rfl
theorem Q1z.sound:FnOk Try.prog 80 (.rd Q1z.w):=FnOk.rd_of (evG_ok Q1z.cok mixed (f:=80) (fn:=Try.f80) (by kernel_rfl) Q1z.draws) fun args s r h=>by
  unfold Q1z.w at h; split at h
  · rw [Q1z.ok std]; exact h
  · simp at h
def Q1m.ctx:Ctx:=[(79,.rd Q1p.w),(81,.rd Q22.w),(80,.rd Q1z.w),(33,.rd Q1l.w),(58,.rd Q1o.w)]
def Q1m.t (S:Sig) (a0:Value) (s:St):Option Value :=
  S.bd (bx a0) fun c1=>S.bd (lcl c1 0) fun x2=>S.bd (Q1p.r x2 s) fun x3=>S.bd (un .not x3) fun x4=>S.bd (S.gd x4 false (lal c1 0 14)) fun x5=>S.bd (S.gd x4 false (lal c1 0 14)) fun x6=>S.bd (S.gd x4 false (Q22.r x5 s)) fun x7=>S.bd (S.gd x4 false (Q1z.r x7 x6 s)) fun x8=>S.bd (S.gd x4 false (un .not x8)) fun x9=>S.bd (pik x4 (.bool Bool.true) x9) fun x10=>S.cnd x10 (some ((.int .i64 30))) (S.bd (show Option Cut from S.bd (lcl c1 0) fun x28=>S.bd (eqb [1] false false x28 (.int .i64 4)) fun x29=>S.cnd x29 (S.bd (lcl c1 4) fun x30=>S.bd (lenL x30) fun x31=>S.bd (bin .leq x31 (.int .i64 65536)) fun x32=>some (0,[x32],s)) (S.bd (eqb [1] false false x28 (.int .i64 5)) fun x33=>S.cnd x33 (S.bd (lal c1 5 2) fun x34=>S.bd (Q1l.r x34 s) fun x35=>some (0,[x35],s)) (S.bd (eqb [1] false false x28 (.int .i64 6)) fun x36=>S.cnd x36 (S.bd (lal c1 7 2) fun x37=>S.bd (Q1o.r x37 s) fun x38=>some (0,[x38],s)) (S.bd (eqb [1] false false x28 (.int .i64 7)) fun x39=>S.cnd x39 (S.bd (lal c1 10 2) fun x40=>S.bd (Q1o.r x40 s) fun x41=>S.bd (S.gd x41 true (lal c1 12 2)) fun x42=>S.bd (S.gd x41 true (Q1l.r x42 s)) fun x43=>S.bd (pik x41 x43 (.bool Bool.false)) fun x44=>some (0,[x44],s)) (some (0,[(.bool Bool.true)],s)))))) fun r45=>S.bd (un .not (r45.2.1.getD 0 undef)) fun x46=>S.cnd x46 (some ((.int .i64 30))) (some ((.int .i64 0))))
def Q1m.r (a0:Value) (s:St):Option Value:=Q1m.t std a0 s
def Q1m.w:List Value→St→Option Value
  | [a0],s=>Q1m.r a0 s
  | _,_=>none
def Q1m.an:An:=⟨47,true,[1],[],[(14,⟨[],[(.normal,[.v 3])]⟩)],[(1,[(z4 0 0),(z4 1 9),(z4 2 3),(z4 3 0),(z4 4 0),(z4 5 9),(z4 7 9),(z4 6 3),(z4 8 3),(z4 9 0),(z4 10 0)])],[],[]⟩
theorem Q1m.ok (S:Sig) (a0:Value) (s:St):evG S Try.prog Q1m.ctx Q1m.an Try.f64 [a0] s=Q1m.t S a0 s:=by kernel_rfl
theorem Q1m.cok:CtxOk Try.prog Q1m.ctx:=.cons Q1p.sound Q1p.can <| .cons Q22.sound Q22.can <| .cons Q1z.sound Q1z.can <| .cons Q1l.sound Q1l.can <| .cons Q1o.sound Q1o.can <| .nil
theorem Q1m.draws:fnDraws Q1m.an Try.f64=true:=by kernel_rfl
theorem Q1m.can:callOk Try.prog 64=true:=by kernel_rfl
theorem Q1m.sound:FnOk Try.prog 64 (.rd Q1m.w):=FnOk.rd_of (evG_ok Q1m.cok mixed (f:=64) (fn:=Try.f64) (by kernel_rfl) Q1m.draws) fun args s r h=>by
  unfold Q1m.w at h; split at h
  · rw [Q1m.ok std]; exact h
  · simp at h
def Q20.ctx:Ctx:=[]
def Q20.l2 (S:Sig) (rec10:List Value→St→Option Cut) (xs8:List Value) (s9:St):Option Cut :=
  S.bd (bin .geq (xs8.getD 0 undef) (.int .u64 128)) fun x11=>S.cnd x11 (S.bd (bin .rem (xs8.getD 0 undef) (.int .u64 128)) fun x12=>S.bd (cvi .u8 x12) fun x13=>S.bd (bin .add x13 (.int .u8 128)) fun x14=>S.bd (S.bd (bls 1 (List.replicate 1 [(.int .u8 0)]) [(0,x14)]) fun rows=>als s9 1 1 rows) fun r15=>S.bd (app r15.2 1 1 (xs8.getD 1 undef) r15.1) fun r16=>S.bd (bin .quo (xs8.getD 0 undef) (.int .u64 128)) fun x17=>rec10 [x17,r16.1] r16.2) (some (0,[(xs8.getD 0 undef),(xs8.getD 1 undef)],s9))
def Q20.t (S:Sig) (a0:Value) (s:St):Option (Value×St) :=
  S.bd (S.it (Q20.l2 S) [a0,(.slice none 0 0)] s) fun r18=>S.bd (cvi .u8 (r18.2.1.getD 0 undef)) fun x19=>S.bd (S.bd (bls 1 (List.replicate 1 [(.int .u8 0)]) [(0,x19)]) fun rows=>als r18.2.2 1 1 rows) fun r20=>S.bd (app r20.2 1 1 (r18.2.1.getD 1 undef) r20.1) fun r21=>some (r21.1,r21.2)
def Q20.v (a0:Value) (s:St):Option (Value×St):=Q20.t std a0 s
def Q20.w:List Value→St→Option (Value×St)
  | [a0],s=>Q20.v a0 s
  | _,_=>none
def Q20.an:An:=⟨20,false,[],[(2,⟨[.v 0,.v 3],[(.exit 0,[.v 0,.v 3])]⟩)],[],[],[],[]⟩
theorem Q20.ok (S:Sig) (a0:Value) (s:St):evF S Try.prog Q20.ctx Q20.an Try.f82 [a0] s=Q20.t S a0 s:=by kernel_rfl
theorem Q20.cok:CtxOk Try.prog Q20.ctx:=.nil
theorem Q20.draws:fnDraws Q20.an Try.f82=true:=by kernel_rfl
theorem Q20.can:callOk Try.prog 82=true:=by kernel_rfl
theorem Q20.sound:FnOk Try.prog 82 (.st Q20.w):=FnOk.st_of (evF_ok Q20.cok mixed (f:=82) (fn:=Try.f82) (by kernel_rfl) Q20.draws) fun args s r h=>by
  unfold Q20.w at h; split at h
  · rw [Q20.ok std]; exact h
  · simp at h
def Q24.ctx:Ctx:=[(82,.st Q20.w)]
def Q24.t (S:Sig) (a0:Value) (s:St):Option (Value×St) :=
  S.bd (bin .lss a0 (.int .i64 0)) fun x1=>S.cnd x1 (S.bd (bin .add a0 (.int .i64 1)) fun x2=>S.bd (un .neg x2) fun x3=>S.bd (cvi .u64 x3) fun x4=>S.bd (bin .mul x4 (.int .u64 2)) fun x5=>S.bd (bin .add x5 (.int .u64 1)) fun x6=>S.bd (Q20.v x6 s) fun r7=>some (r7.1,r7.2)) (S.bd (cvi .u64 a0) fun x8=>S.bd (bin .mul x8 (.int .u64 2)) fun x9=>S.bd (Q20.v x9 s) fun r10=>some (r10.1,r10.2))
def Q24.v (a0:Value) (s:St):Option (Value×St):=Q24.t std a0 s
def Q24.w:List Value→St→Option (Value×St)
  | [a0],s=>Q24.v a0 s
  | _,_=>none
def Q24.an:An:=⟨16,false,[],[],[],[],[],[]⟩
theorem Q24.ok (S:Sig) (a0:Value) (s:St):evF S Try.prog Q24.ctx Q24.an Try.f83 [a0] s=Q24.t S a0 s:=by kernel_rfl
theorem Q24.cok:CtxOk Try.prog Q24.ctx:=.cons Q20.sound Q20.can <| .nil
theorem Q24.draws:fnDraws Q24.an Try.f83=true:=by kernel_rfl
theorem Q24.can:callOk Try.prog 83=true:=by kernel_rfl
theorem Q24.sound:FnOk Try.prog 83 (.st Q24.w):=FnOk.st_of (evF_ok Q24.cok mixed (f:=83) (fn:=Try.f83) (by kernel_rfl) Q24.draws) fun args s r h=>by
  unfold Q24.w at h; split at h
  · rw [Q24.ok std]; exact h
  · simp at h
def Q1i.ctx:Ctx:=[]
def Q1i.l4 (S:Sig) (rec16:List Value→St→Option Cut) (xs14:List Value) (s15:St):Option Cut :=
  S.bd (bin .geq (xs14.getD 2 undef) (.int .i64 0)) fun x17=>S.cnd x17 (S.bd (bin .rem (xs14.getD 1 undef) (.int .u64 2)) fun x18=>S.bd (cvi .i64 x18) fun x19=>S.bd (idx s15 1 (xs14.getD 0 undef) (xs14.getD 2 undef)) fun x20=>S.bd (stv s15 1 x20 x19) fun s21=>S.bd (bin .quo (xs14.getD 1 undef) (.int .u64 2)) fun x22=>S.bd (bin .sub (xs14.getD 2 undef) (.int .i64 1)) fun x23=>rec16 [(xs14.getD 0 undef),x22,x23] s21) (some (0,[(xs14.getD 0 undef)],s15))
def Q1i.t (S:Sig) (a0:Value) (s:St):Option (Value×St) :=
  S.bd (bx a0) fun c1=>S.bd (lcl c1 0) fun x2=>S.bd (mks s 1 8 [(.int .i64 0)] x2 x2) fun r3=>S.bd (lcl c1 1) fun x4=>S.bd (lcl c1 0) fun x5=>S.bd (bin .sub x5 (.int .i64 1)) fun x6=>S.bd (S.it (Q1i.l4 S) [r3.1,x4,x6] r3.2) fun r24=>some ((r24.2.1.getD 0 undef),r24.2.2)
def Q1i.v (a0:Value) (s:St):Option (Value×St):=Q1i.t std a0 s
def Q1i.w:List Value→St→Option (Value×St)
  | [a0],s=>Q1i.v a0 s
  | _,_=>none
def Q1i.an:An:=⟨27,false,[1],[(4,⟨[.v 3,.v 4,.v 5],[(.exit 0,[.v 3])]⟩)],[],[],[],[]⟩
theorem Q1i.ok (S:Sig) (a0:Value) (s:St):evF S Try.prog Q1i.ctx Q1i.an Try.f91 [a0] s=Q1i.t S a0 s:=by kernel_rfl
theorem Q1i.cok:CtxOk Try.prog Q1i.ctx:=.nil
theorem Q1i.draws:fnDraws Q1i.an Try.f91=true:=by kernel_rfl
theorem Q1i.can:callOk Try.prog 91=true:=by kernel_rfl
theorem Q1i.sound:FnOk Try.prog 91 (.st Q1i.w):=FnOk.st_of (evF_ok Q1i.cok mixed (f:=91) (fn:=Try.f91) (by kernel_rfl) Q1i.draws) fun args s r h=>by
  unfold Q1i.w at h; split at h
  · rw [Q1i.ok std]; exact h
  · simp at h
def Q23.ctx:Ctx:=[(91,.st Q1i.w)]
def Q23.l8 (S:Sig) (rec47:List Value→St→Option Cut) (xs45:List Value) (s46:St):Option Cut :=
  S.bd (bin .lss (xs45.getD 4 undef) (.int .i64 8)) fun x48=>S.cnd x48 (S.bd (bin .mul (xs45.getD 3 undef) (.int .u8 2)) fun x49=>S.bd (bin .add (xs45.getD 2 undef) (xs45.getD 4 undef)) fun x50=>S.bd (lenL (xs45.getD 1 undef)) fun x51=>S.bd (bin .lss x50 x51) fun x52=>S.cnd x52 (S.bd (bin .add (xs45.getD 2 undef) (xs45.getD 4 undef)) fun x53=>S.bd (idx s46 1 (xs45.getD 1 undef) x53) fun x54=>S.bd (ldc s46 x54) fun x55=>S.bd (cvi .u8 x55) fun x56=>S.bd (bin .add x49 x56) fun x57=>S.bd (bin .add (xs45.getD 4 undef) (.int .i64 1)) fun x58=>rec47 [(xs45.getD 0 undef),(xs45.getD 1 undef),(xs45.getD 2 undef),x57,x58] s46) (S.bd (bin .add (xs45.getD 4 undef) (.int .i64 1)) fun x59=>rec47 [(xs45.getD 0 undef),(xs45.getD 1 undef),(xs45.getD 2 undef),x49,x59] s46)) (some (0,[(xs45.getD 0 undef),(xs45.getD 1 undef),(xs45.getD 2 undef),(xs45.getD 3 undef)],s46))
def Q23.l4 (S:Sig) (rec42:List Value→St→Option Cut) (xs40:List Value) (s41:St):Option Cut :=
  S.bd (lenL (xs40.getD 1 undef)) fun x43=>S.bd (bin .lss (xs40.getD 2 undef) x43) fun x44=>S.cnd x44 (S.bd (S.it (Q23.l8 S) [(xs40.getD 0 undef),(xs40.getD 1 undef),(xs40.getD 2 undef),(.int .u8 0),(.int .i64 0)] s41) fun r60=>S.bd (S.bd (bls 1 (List.replicate 1 [(.int .u8 0)]) [(0,(r60.2.1.getD 3 undef))]) fun rows=>als r60.2.2 1 1 rows) fun r61=>S.bd (app r61.2 1 1 (r60.2.1.getD 0 undef) r61.1) fun r62=>S.bd (bin .add (r60.2.1.getD 2 undef) (.int .i64 8)) fun x63=>rec42 [r62.1,(r60.2.1.getD 1 undef),x63] r62.2) (some (0,[(xs40.getD 0 undef)],s41))
def Q23.t (S:Sig) (a0:Value) (s:St):Option (Value×St) :=
  S.bd (bx a0) fun c1=>S.bd (lcl c1 0) fun x2=>S.bd (cvi .u8 x2) fun x3=>S.bd (S.bd (bls 1 (List.replicate 1 [(.int .u8 0)]) [(0,x3)]) fun rows=>als s 1 1 rows) fun r4=>S.bd (lal c1 0 2) fun x5=>S.bd (Q1i.v x5 r4.2) fun r6=>S.bd (S.it (Q23.l4 S) [r4.1,r6.1,(.int .i64 0)] r6.2) fun r64=>some ((r64.2.1.getD 0 undef),r64.2.2)
def Q23.v (a0:Value) (s:St):Option (Value×St):=Q23.t std a0 s
def Q23.w:List Value→St→Option (Value×St)
  | [a0],s=>Q23.v a0 s
  | _,_=>none
def Q23.an:An:=⟨46,false,[1],[(8,⟨[.v 3,.v 4,.v 5,.v 6,.v 7],[(.exit 2,[.v 3,.v 4,.v 5,.v 6])]⟩),(4,⟨[.v 3,.v 4,.v 5],[(.exit 0,[.v 3])]⟩)],[],[],[],[]⟩
theorem Q23.ok (S:Sig) (a0:Value) (s:St):evF S Try.prog Q23.ctx Q23.an Try.f84 [a0] s=Q23.t S a0 s:=by kernel_rfl
theorem Q23.cok:CtxOk Try.prog Q23.ctx:=.cons Q1i.sound Q1i.can <| .nil
theorem Q23.draws:fnDraws Q23.an Try.f84=true:=by kernel_rfl
theorem Q23.can:callOk Try.prog 84=true:=by kernel_rfl
theorem Q23.sound:FnOk Try.prog 84 (.st Q23.w):=FnOk.st_of (evF_ok Q23.cok mixed (f:=84) (fn:=Try.f84) (by kernel_rfl) Q23.draws) fun args s r h=>by
  unfold Q23.w at h; split at h
  · rw [Q23.ok std]; exact h
  · simp at h
def Q1q.ctx:Ctx:=[(57,.rd Q1k.w)]
def Q1q.l4 (S:Sig) (rec18:List Value→St→Option Cut) (xs16:List Value) (s17:St):Option Cut :=
  S.bd (bin .geq (xs16.getD 1 undef) (.int .i64 0)) fun x19=>S.cnd x19 (S.bd (lcl (cellsA (xs16.getD 2 undef)) 1) fun x20=>S.bd (bin .mul (.int .i64 8) (xs16.getD 1 undef)) fun x21=>S.bd (Q1k.r x21 s17) fun x22=>S.bd (bin .quo x20 x22) fun x23=>S.bd (cvi .u8 x23) fun x24=>S.bd (S.bd (bls 1 (List.replicate 1 [(.int .u8 0)]) [(0,x24)]) fun rows=>als s17 1 1 rows) fun r25=>S.bd (app r25.2 1 1 (xs16.getD 0 undef) r25.1) fun r26=>S.bd (bin .sub (xs16.getD 1 undef) (.int .i64 1)) fun x27=>rec18 [r26.1,x27,(Value.agg ⟨(cellsA (xs16.getD 2 undef))⟩)] r26.2) (some (0,[(xs16.getD 0 undef)],s17))
def Q1q.t (S:Sig) (a0:Value) (s:St):Option (Value×St) :=
  S.bd (bx a0) fun c1=>S.bd (lcl c1 0) fun x2=>S.bd (cvi .u8 x2) fun x3=>S.bd (S.bd (bls 1 (List.replicate 1 [(.int .u8 0)]) [(0,x3)]) fun rows=>als s 1 1 rows) fun r4=>S.bd (lcl c1 0) fun x5=>S.bd (eqb [1] false false x5 (.int .i64 2)) fun x6=>S.cnd x6 (S.bd (S.it (Q1q.l4 S) [r4.1,(.int .i64 7),(Value.agg ⟨c1⟩)] r4.2) fun r28=>some ((r28.2.1.getD 0 undef),r28.2.2)) (some (r4.1,r4.2))
def Q1q.v (a0:Value) (s:St):Option (Value×St):=Q1q.t std a0 s
def Q1q.w:List Value→St→Option (Value×St)
  | [a0],s=>Q1q.v a0 s
  | _,_=>none
def Q1q.an:An:=⟨27,false,[1],[(4,⟨[.p 1 1 0,.v 3,.v 4,.l 1],[(.exit 0,[.v 3])]⟩)],[],[(6,[(z4 0 0),(z4 1 0),(z4 2 9),(z4 3 0),(z4 4 0),(z4 5 3),(z4 6 0),(z4 7 0),(z4 8 3),(z4 9 4),(z4 10 0)])],[],[]⟩
theorem Q1q.ok (S:Sig) (a0:Value) (s:St):evF S Try.prog Q1q.ctx Q1q.an Try.f85 [a0] s=Q1q.t S a0 s:=by kernel_rfl
theorem Q1q.cok:CtxOk Try.prog Q1q.ctx:=.cons Q1k.sound Q1k.can <| .nil
theorem Q1q.draws:fnDraws Q1q.an Try.f85=true:=by kernel_rfl
theorem Q1q.can:callOk Try.prog 85=true:=by kernel_rfl
theorem Q1q.sound:FnOk Try.prog 85 (.st Q1q.w):=FnOk.st_of (evF_ok Q1q.cok mixed (f:=85) (fn:=Try.f85) (by kernel_rfl) Q1q.draws) fun args s r h=>by
  unfold Q1q.w at h; split at h
  · rw [Q1q.ok std]; exact h
  · simp at h
def Q21.ctx:Ctx:=[(82,.st Q20.w),(83,.st Q24.w),(84,.st Q23.w),(85,.st Q1q.w)]
def Q21.t.p1 (S:Sig) (x2:Value) (c1:List Value) (s:St):Option (Value×St) :=
  S.bd (eqb [1] false false x2 (.int .i64 2)) fun x6=>S.cnd x6 (S.bd (lcl c1 2) fun x7=>S.bd (Q24.v x7 s) fun r8=>some (r8.1,r8.2)) (S.bd (eqb [1] false false x2 (.int .i64 3)) fun x9=>S.cnd x9 (S.bd (lcl c1 3) fun x10=>S.cnd x10 (S.bd (S.bd (bls 1 (List.replicate 1 [(.int .u8 0)]) [(0,(.int .u8 1))]) fun rows=>als s 1 1 rows) fun r11=>some (r11.1,r11.2)) (S.bd (S.bd (bls 1 (List.replicate 1 [(.int .u8 0)]) [(0,(.int .u8 0))]) fun rows=>als s 1 1 rows) fun r12=>some (r12.1,r12.2))) (S.bd (eqb [1] false false x2 (.int .i64 4)) fun x13=>S.cnd x13 (S.bd (lcl c1 4) fun x14=>S.bd (lenL x14) fun x15=>S.bd (cvi .u64 x15) fun x16=>S.bd (lcl c1 4) fun x17=>S.bd (Q20.v x16 s) fun r18=>S.bd (lenL x14) fun x19=>S.cnd (Value.bool (sameV x19 x15)) (S.bd (app r18.2 1 1 r18.1 x17) fun r20=>S.bd (lenL x14) fun x21=>S.cnd (Value.bool (sameV x21 x15)) (some (r20.1,r20.2)) (none)) (none)) (S.bd (eqb [1] false false x2 (.int .i64 5)) fun x22=>S.cnd x22 (S.bd (lal c1 5 2) fun x23=>S.bd (Q23.v x23 s) fun r24=>some (r24.1,r24.2)) (S.bd (eqb [1] false false x2 (.int .i64 6)) fun x25=>S.cnd x25 (S.bd (lal c1 7 2) fun x26=>S.bd (Q1q.v x26 s) fun r27=>some (r27.1,r27.2)) (S.bd (lcl c1 9) fun x28=>S.bd (lal c1 10 2) fun x29=>S.bd (lal c1 12 2) fun x30=>S.bd (Q24.v x28 s) fun r31=>S.bd (Q1q.v x29 r31.2) fun r32=>S.bd (app r32.2 1 1 r31.1 r32.1) fun r33=>S.bd (Q23.v x30 r33.2) fun r34=>S.bd (app r34.2 1 1 r33.1 r34.1) fun r35=>some (r35.1,r35.2))))))
def Q21.t (S:Sig) (a0:Value) (s:St):Option (Value×St) :=
  S.bd (bx a0) fun c1=>S.bd (lcl c1 0) fun x2=>S.bd (eqb [1] false false x2 (.int .i64 1)) fun x3=>S.cnd x3 (S.bd (lcl c1 1) fun x4=>S.bd (Q20.v x4 s) fun r5=>some (r5.1,r5.2)) (Q21.t.p1 S x2 c1 s)
def Q21.v (a0:Value) (s:St):Option (Value×St):=Q21.t std a0 s
def Q21.w:List Value→St→Option (Value×St)
  | [a0],s=>Q21.v a0 s
  | _,_=>none
def Q21.an:An:=⟨55,false,[1],[],[],[(11,[(z4 0 0),(z4 1 9),(z4 2 2),(z4 3 0),(z4 5 0),(z4 6 9),(4,4,[2],[]),(7,4,[2],[]),(z4 8 0)]),(16,[(z4 0 0),(z4 1 0),(z4 2 9),(z4 4 0),(z4 5 0),(z4 6 9),(z4 9 0),(z4 10 0),(z4 11 9),(z4 3 4),(z4 7 4),(z4 8 4),(z4 12 4),(z4 13 4),(z4 14 0)])],[],[]⟩
theorem Q21.ok (S:Sig) (a0:Value) (s:St):evF S Try.prog Q21.ctx Q21.an Try.f65 [a0] s=Q21.t S a0 s:=by kernel_rfl
theorem Q21.cok:CtxOk Try.prog Q21.ctx:=.cons Q20.sound Q20.can <| .cons Q24.sound Q24.can <| .cons Q23.sound Q23.can <| .cons Q1q.sound Q1q.can <| .nil
theorem Q21.draws:fnDraws Q21.an Try.f65=true:=by kernel_rfl
theorem Q21.can:callOk Try.prog 65=true:=by kernel_rfl
theorem Q21.sound:FnOk Try.prog 65 (.st Q21.w):=FnOk.st_of (evF_ok Q21.cok mixed (f:=65) (fn:=Try.f65) (by kernel_rfl) Q21.draws) fun args s r h=>by
  unfold Q21.w at h; split at h
  · rw [Q21.ok std]; exact h
  · simp at h
def Q1r.ctx:Ctx:=[(64,.rd Q1m.w),(65,.st Q21.w)]
def Q1r.l2 (S:Sig) (rec10:List Value→St→Option Cut) (xs8:List Value) (s9:St):Option Cut :=
  S.bd (lenL (xs8.getD 0 undef)) fun x11=>S.bd (bin .lss (xs8.getD 1 undef) x11) fun x12=>S.cnd x12 (S.bd (idx s9 14 (xs8.getD 0 undef) (xs8.getD 1 undef)) fun x13=>S.bd (lda s9 14 x13) fun x14=>S.bd (Q1m.r x14 s9) fun x15=>S.bd (eqb [1] false true x15 (.int .i64 0)) fun x16=>S.cnd x16 (some (1,[(.slice none 0 0),(.int .i64 30)],s9)) (S.bd (bin .add (xs8.getD 1 undef) (.int .i64 1)) fun x17=>rec10 [(xs8.getD 0 undef),x17] s9)) (some (0,[(xs8.getD 0 undef)],s9))
def Q1r.l8 (S:Sig) (rec28:List Value→St→Option Cut) (xs26:List Value) (s27:St):Option Cut :=
  S.bd (lenL (xs26.getD 0 undef)) fun x29=>S.bd (bin .lss (xs26.getD 2 undef) x29) fun x30=>S.cnd x30 (S.bd (idx s27 14 (xs26.getD 0 undef) (xs26.getD 2 undef)) fun x31=>S.bd (lda s27 14 x31) fun x32=>S.bd (Q21.v x32 s27) fun r33=>S.bd (app r33.2 1 1 (xs26.getD 1 undef) r33.1) fun r34=>S.bd (bin .add (xs26.getD 2 undef) (.int .i64 1)) fun x35=>rec28 [(xs26.getD 0 undef),r34.1,x35] r34.2) (some (0,[(xs26.getD 1 undef)],s27))
def Q1r.t (S:Sig) (a0:Value) (s:St):Option (Value×St) :=
  S.bd (S.it (Q1r.l2 S) [a0,(.int .i64 0)] s) fun r18=>if r18.1=0 then (S.bd (S.it (Q1r.l8 S) [(r18.2.1.getD 0 undef),(.slice none 0 0),(.int .i64 0)] r18.2.2) fun r36=>some ((Value.tuple ⟨[(r36.2.1.getD 0 undef),(.int .i64 0)]⟩),r36.2.2)) else (some ((Value.tuple ⟨[(r18.2.1.getD 0 undef),(r18.2.1.getD 1 undef)]⟩),r18.2.2))
def Q1r.v (a0:Value) (s:St):Option (Value×St):=Q1r.t std a0 s
def Q1r.w:List Value→St→Option (Value×St)
  | [a0],s=>Q1r.v a0 s
  | _,_=>none
def Q1r.an:An:=⟨33,false,[],[(2,⟨[.v 0,.v 4],[(.exit 0,[.v 0]),(.ret,[.v 2,.v 3])]⟩),(8,⟨[.v 0,.v 5,.v 6],[(.exit 2,[.v 5])]⟩)],[],[],[],[]⟩
theorem Q1r.ok (S:Sig) (a0:Value) (s:St):evF S Try.prog Q1r.ctx Q1r.an Try.f44 [a0] s=Q1r.t S a0 s:=by kernel_rfl
theorem Q1r.cok:CtxOk Try.prog Q1r.ctx:=.cons Q1m.sound Q1m.can <| .cons Q21.sound Q21.can <| .nil
theorem Q1r.draws:fnDraws Q1r.an Try.f44=true:=by kernel_rfl
theorem Q1r.can:callOk Try.prog 44=true:=by kernel_rfl
theorem Q1r.sound:FnOk Try.prog 44 (.st Q1r.w):=FnOk.st_of (evF_ok Q1r.cok mixed (f:=44) (fn:=Try.f44) (by kernel_rfl) Q1r.draws) fun args s r h=>by
  unfold Q1r.w at h; split at h
  · rw [Q1r.ok std]; exact h
  · simp at h
def Q2a.ctx:Ctx:=[(15,.rd Q26.w),(40,.rd Q2t.w),(41,.rd Q2u.w),(42,.st Q2k.w),(43,.st Q2l.w),(44,.st Q1r.w)]
def Q2a.t.p1 (S:Sig) (c1:List Value) (s:St):Option (Value×St) :=
  S.bd (lcl c1 0) fun x5=>S.bd (lcl c1 1) fun x6=>S.bd (lcl c1 2) fun x7=>S.bd (lcl c1 3) fun x8=>S.bd (lcl c1 4) fun x9=>S.bd (lcl c1 5) fun x10=>S.bd (Q2t.r x5 s) fun x11=>S.bd (Q2t.r x6 s) fun x12=>S.bd (Q2u.r x7 s) fun x13=>S.bd (Q2t.r x8 s) fun x14=>S.bd (Q2u.r x9 s) fun x15=>S.bd (Q2u.r x10 s) fun x16=>S.bd (S.bd (bls 14 (List.replicate 6 [(.int .i64 0),(.int .u64 0),(.int .i64 0),(.bool Bool.false),(.slice none 0 0),(.int .i64 0),(.int .u64 0),(.int .i64 0),(.int .u64 0),(.int .i64 0),(.int .i64 0),(.int .u64 0),(.int .i64 0),(.int .u64 0)]) [(0,x11),(1,x12),(2,x13),(3,x14),(4,x15),(5,x16)]) fun rows=>als s 14 6 rows) fun r17=>S.bd (show Option Cut from S.bd (lcl c1 0) fun x25=>S.cnd x25 (S.bd (lal c1 21 13) fun x26=>S.bd (Q2k.v x26 r17.2) fun r27=>S.bd (app r27.2 14 128 r17.1 r27.1) fun r28=>some (0,[r28.1],r28.2)) (S.bd (lal c1 6 15) fun x29=>S.bd (Q2l.v x29 r17.2) fun r30=>S.bd (app r30.2 14 128 r17.1 r30.1) fun r31=>some (0,[r31.1],r31.2))) fun r32=>S.bd (Q1r.v (r32.2.1.getD 0 undef) r32.2.2) fun r33=>S.bd (xtr 0 r33.1) fun x34=>S.bd (xtr 1 r33.1) fun x35=>S.bd (eqb [1] false true x35 (.int .i64 0)) fun x36=>S.cnd x36 (some ((Value.tuple ⟨[(.slice none 0 0),(.int .i64 40)]⟩),r33.2)) (some ((Value.tuple ⟨[x34,(.int .i64 0)]⟩),r33.2))
def Q2a.t (S:Sig) (a0:Value) (s:St):Option (Value×St) :=
  S.bd (bx a0) fun c1=>S.bd (lal c1 0 34) fun x2=>S.bd (Q26.r x2 s) fun x3=>S.bd (eqb [1] false true x3 (.int .i64 0)) fun x4=>S.cnd x4 (some ((Value.tuple ⟨[(.slice none 0 0),(.int .i64 40)]⟩),s)) (Q2a.t.p1 S c1 s)
def Q2a.v (a0:Value) (s:St):Option (Value×St):=Q2a.t std a0 s
def Q2a.w:List Value→St→Option (Value×St)
  | [a0],s=>Q2a.v a0 s
  | _,_=>none
def Q2a.an:An:=⟨53,false,[1],[],[(7,⟨[],[(.normal,[.v 4])]⟩)],[(3,[(z4 0 0),(z4 1 9),(z4 3 0),(z4 4 0),(z4 5 9),(z4 7 0),(z4 8 0),(z4 9 9),(z4 11 0),(z4 12 0),(z4 13 9),(z4 15 0),(z4 16 0),(z4 17 9),(z4 19 0),(z4 20 9),(z4 2 3),(z4 6 3),(z4 10 3),(z4 14 3),(z4 18 3),(z4 21 3),(z4 22 3),(z4 23 0)])],[],[]⟩
theorem Q2a.ok (S:Sig) (a0:Value) (s:St):evF S Try.prog Q2a.ctx Q2a.an Try.f25 [a0] s=Q2a.t S a0 s:=by kernel_rfl
theorem Q2a.cok:CtxOk Try.prog Q2a.ctx:=.cons Q26.sound Q26.can <| .cons Q2t.sound Q2t.can <| .cons Q2u.sound Q2u.can <| .cons Q2k.sound Q2k.can <| .cons Q2l.sound Q2l.can <| .cons Q1r.sound Q1r.can <| .nil
theorem Q2a.draws:fnDraws Q2a.an Try.f25=true:=by kernel_rfl
theorem Q2a.can:callOk Try.prog 25=true:=by kernel_rfl
theorem Q2a.sound:FnOk Try.prog 25 (.st Q2a.w):=FnOk.st_of (evF_ok Q2a.cok mixed (f:=25) (fn:=Try.f25) (by kernel_rfl) Q2a.draws) fun args s r h=>by
  unfold Q2a.w at h; split at h
  · rw [Q2a.ok std]; exact h
  · simp at h
def Q1w.ctx:Ctx:=[]
def Q1w.t (S:Sig) (a0:Value) (s:St):Option (Value×St) :=
  S.bd (nck a0) fun x1=>S.bd (fld 2 x1) fun x2=>S.bd (ldc s x2) fun x3=>S.bd (eqb [1] false true x3 (.int .i64 0)) fun x4=>S.cnd x4 (some ((Value.tuple ⟨[(.int .u8 0),(.bool Bool.false)]⟩),s)) (S.bd (nck a0) fun x5=>S.bd (fld 1 x5) fun x6=>S.bd (ldc s x6) fun x7=>S.bd (nck a0) fun x8=>S.bd (fld 0 x8) fun x9=>S.bd (ldc s x9) fun x10=>S.bd (lenL x10) fun x11=>S.bd (bin .geq x7 x11) fun x12=>S.cnd x12 (S.bd (nck a0) fun x13=>S.bd (fld 2 x13) fun x14=>S.bd (stv s 1 x14 (.int .i64 32)) fun s15=>some ((Value.tuple ⟨[(.int .u8 0),(.bool Bool.false)]⟩),s15)) (S.bd (nck a0) fun x16=>S.bd (fld 0 x16) fun x17=>S.bd (ldc s x17) fun x18=>S.bd (nck a0) fun x19=>S.bd (fld 1 x19) fun x20=>S.bd (ldc s x20) fun x21=>S.bd (idx s 1 x18 x21) fun x22=>S.bd (ldc s x22) fun x23=>some ((Value.tuple ⟨[x23,(.bool Bool.true)]⟩),s)))
def Q1w.v (a0:Value) (s:St):Option (Value×St):=Q1w.t std a0 s
def Q1w.w:List Value→St→Option (Value×St)
  | [a0],s=>Q1w.v a0 s
  | _,_=>none
def Q1w.an:An:=⟨32,false,[],[],[],[(3,[(z4 0 0),(z4 1 0),(z4 2 0),(z4 3 2),(z4 4 0),(z4 5 0),(z4 6 0),(z4 7 2),(z4 8 2),(z4 9 0)]),(6,[(z4 0 0),(z4 1 0),(z4 2 0),(z4 3 2),(z4 4 0),(z4 5 0),(z4 6 0),(z4 7 2),(z4 8 2),(z4 9 2),(z4 10 0),(z4 11 0)])],[],[]⟩
theorem Q1w.ok (S:Sig) (a0:Value) (s:St):evF S Try.prog Q1w.ctx Q1w.an Try.f104 [a0] s=Q1w.t S a0 s:=by kernel_rfl
theorem Q1w.cok:CtxOk Try.prog Q1w.ctx:=.nil
theorem Q1w.draws:fnDraws Q1w.an Try.f104=true:=by kernel_rfl
theorem Q1w.can:callOk Try.prog 104=true:=by kernel_rfl
theorem Q1w.sound:FnOk Try.prog 104 (.st Q1w.w):=FnOk.st_of (evF_ok Q1w.cok mixed (f:=104) (fn:=Try.f104) (by kernel_rfl) Q1w.draws) fun args s r h=>by
  unfold Q1w.w at h; split at h
  · rw [Q1w.ok std]; exact h
  · simp at h
def Q25.ctx:Ctx:=[]
def Q25.t (S:Sig) (a0 a1 a2 a3:Value) (s:St):Option Value :=
  S.bd (eqb [1] false false a3 (.int .u64 18446744073709551615)) fun x1=>S.cnd x1 (some ((.bool Bool.true))) (S.bd (bin .lss a2 (.int .u8 128)) fun x2=>S.cnd x2 (S.bd (bin .leq a1 a3) fun x3=>S.bd (S.gd x3 true (some a0)) fun x4=>S.bd (S.gd x3 true (some a2)) fun x5=>S.bd (S.gd x3 true (cvi .u64 x5)) fun x6=>S.bd (S.gd x3 true (some a1)) fun x7=>S.bd (S.gd x3 true (bin .mul x6 x7)) fun x8=>S.bd (S.gd x3 true (bin .add x4 x8)) fun x9=>S.bd (S.gd x3 true (some a3)) fun x10=>S.bd (S.gd x3 true (bin .leq x9 x10)) fun x11=>S.bd (pik x3 x11 (.bool Bool.false)) fun x12=>some (x12)) (S.bd (bin .mul a1 (.int .u64 128)) fun x13=>S.bd (bin .leq x13 a3) fun x14=>S.bd (S.gd x14 true (some a0)) fun x15=>S.bd (S.gd x14 true (some a2)) fun x16=>S.bd (S.gd x14 true (bin .sub x16 (.int .u8 128))) fun x17=>S.bd (S.gd x14 true (cvi .u64 x17)) fun x18=>S.bd (S.gd x14 true (some a1)) fun x19=>S.bd (S.gd x14 true (bin .mul x18 x19)) fun x20=>S.bd (S.gd x14 true (bin .add x15 x20)) fun x21=>S.bd (S.gd x14 true (some a1)) fun x22=>S.bd (S.gd x14 true (bin .mul x22 (.int .u64 128))) fun x23=>S.bd (S.gd x14 true (bin .add x21 x23)) fun x24=>S.bd (S.gd x14 true (some a3)) fun x25=>S.bd (S.gd x14 true (bin .leq x24 x25)) fun x26=>S.bd (pik x14 x26 (.bool Bool.false)) fun x27=>some (x27)))
def Q25.r (a0 a1 a2 a3:Value) (s:St):Option Value:=Q25.t std a0 a1 a2 a3 s
def Q25.w:List Value→St→Option Value
  | [a0,a1,a2,a3],s=>Q25.r a0 a1 a2 a3 s
  | _,_=>none
def Q25.an:An:=⟨44,true,[],[],[],[],[],[]⟩
theorem Q25.ok (S:Sig) (a0 a1 a2 a3:Value) (s:St):evG S Try.prog Q25.ctx Q25.an Try.f105 [a0,a1,a2,a3] s=Q25.t S a0 a1 a2 a3 s:=by kernel_rfl
theorem Q25.cok:CtxOk Try.prog Q25.ctx:=.nil
theorem Q25.draws:fnDraws Q25.an Try.f105=true:=by kernel_rfl
theorem Q25.can:callOk Try.prog 105=true:=by kernel_rfl
theorem Q25.sound:FnOk Try.prog 105 (.rd Q25.w):=FnOk.rd_of (evG_ok Q25.cok mixed (f:=105) (fn:=Try.f105) (by kernel_rfl) Q25.draws) fun args s r h=>by
  unfold Q25.w at h; split at h
  · rw [Q25.ok std]; exact h
  · simp at h
def Q1x.ctx:Ctx:=[(104,.st Q1w.w),(105,.rd Q25.w)]
def Q1x.l3.p1 (S:Sig) (xs41:List Value) (x46:Value) (r45:Value×St) (rec43:List Value→St→Option Cut):Option Cut :=
  S.bd (eqb [1] false false (xs41.getD 4 undef) (.int .i64 9)) fun x49=>S.bd (S.gd x49 true (some x46)) fun x50=>S.bd (S.gd x49 true (eqb [1] false true x50 (.int .u8 1))) fun x51=>S.bd (pik x49 x51 (.bool Bool.false)) fun x52=>S.bd (S.gd x52 false (some (xs41.getD 4 undef))) fun x53=>S.bd (S.gd x52 false (bin .gtr x53 (.int .i64 0))) fun x54=>S.bd (S.gd x52 false (some x54)) fun x55=>S.bd (S.gd x55 true (some x46)) fun x56=>S.bd (S.gd x55 true (eqb [1] false false x56 (.int .u8 0))) fun x57=>S.bd (S.gd x52 false (pik x55 x57 (.bool Bool.false))) fun x58=>S.bd (pik x52 (.bool Bool.true) x58) fun x59=>S.bd (S.gd x59 false (some (xs41.getD 2 undef))) fun x60=>S.bd (S.gd x59 false (some (xs41.getD 3 undef))) fun x61=>S.bd (S.gd x59 false (some x46)) fun x62=>S.bd (S.gd x59 false (some (xs41.getD 1 undef))) fun x63=>S.bd (S.gd x59 false (Q25.r x60 x61 x62 x63 r45.2)) fun x64=>S.bd (S.gd x59 false (un .not x64)) fun x65=>S.bd (pik x59 (.bool Bool.true) x65) fun x66=>S.cnd x66 (S.bd (nck (xs41.getD 0 undef)) fun x67=>S.bd (fld 2 x67) fun x68=>S.bd (stv r45.2 1 x68 (.int .i64 31)) fun s69=>some (1,[(.int .u64 0)],s69)) (S.bd (nck (xs41.getD 0 undef)) fun x70=>S.bd (fld 1 x70) fun x71=>S.bd (ldc r45.2 x71) fun x72=>S.bd (bin .add x72 (.int .i64 1)) fun x73=>S.bd (nck (xs41.getD 0 undef)) fun x74=>S.bd (fld 1 x74) fun x75=>S.bd (stv r45.2 1 x75 x73) fun s76=>S.bd (bin .rem x46 (.int .u8 128)) fun x77=>S.bd (cvi .u64 x77) fun x78=>S.bd (bin .mul x78 (xs41.getD 3 undef)) fun x79=>S.bd (bin .add (xs41.getD 2 undef) x79) fun x80=>S.bd (bin .lss x46 (.int .u8 128)) fun x81=>S.cnd x81 (some (1,[x80],s76)) (S.bd (bin .mul (xs41.getD 3 undef) (.int .u64 128)) fun x82=>S.bd (bin .add (xs41.getD 4 undef) (.int .i64 1)) fun x83=>rec43 [(xs41.getD 0 undef),(xs41.getD 1 undef),x80,x82,x83] s76))
def Q1x.l3 (S:Sig) (rec43:List Value→St→Option Cut) (xs41:List Value) (s42:St):Option Cut :=
  S.bd (bin .lss (xs41.getD 4 undef) (.int .i64 10)) fun x44=>S.cnd x44 (S.bd (Q1w.v (xs41.getD 0 undef) s42) fun r45=>S.bd (xtr 0 r45.1) fun x46=>S.bd (xtr 1 r45.1) fun x47=>S.bd (un .not x47) fun x48=>S.cnd x48 (some (1,[(.int .u64 0)],r45.2)) (Q1x.l3.p1 S xs41 x46 r45 rec43)) (some (0,[],s42))
def Q1x.t (S:Sig) (a0 a1:Value) (s:St):Option (Value×St) :=
  S.bd (S.it (Q1x.l3 S) [a0,a1,(.int .u64 0),(.int .u64 1),(.int .i64 0)] s) fun r84=>if r84.1=0 then (some ((.int .u64 0),r84.2.2)) else (some ((r84.2.1.getD 0 undef),r84.2.2))
def Q1x.v (a0 a1:Value) (s:St):Option (Value×St):=Q1x.t std a0 a1 s
def Q1x.w:List Value→St→Option (Value×St)
  | [a0,a1],s=>Q1x.v a0 a1 s
  | _,_=>none
def Q1x.an:An:=⟨65,false,[],[(3,⟨[.v 0,.v 1,.v 5,.v 6,.v 7],[(.exit 0,[]),(.ret,[.v 4])]⟩)],[],[],[],[]⟩
theorem Q1x.ok (S:Sig) (a0 a1:Value) (s:St):evF S Try.prog Q1x.ctx Q1x.an Try.f98 [a0,a1] s=Q1x.t S a0 a1 s:=by kernel_rfl
theorem Q1x.cok:CtxOk Try.prog Q1x.ctx:=.cons Q1w.sound Q1w.can <| .cons Q25.sound Q25.can <| .nil
theorem Q1x.draws:fnDraws Q1x.an Try.f98=true:=by kernel_rfl
theorem Q1x.can:callOk Try.prog 98=true:=by kernel_rfl
theorem Q1x.sound:FnOk Try.prog 98 (.st Q1x.w):=FnOk.st_of (evF_ok Q1x.cok mixed (f:=98) (fn:=Try.f98) (by kernel_rfl) Q1x.draws) fun args s r h=>by
  unfold Q1x.w at h; split at h
  · rw [Q1x.ok std]; exact h
  · simp at h
def Q1u.ctx:Ctx:=[(98,.st Q1x.w)]
def Q1u.t (S:Sig) (a0:Value) (s:St):Option (Value×St) :=
  S.bd (Q1x.v a0 (.int .u64 18446744073709551615) s) fun r1=>S.bd (bin .rem r1.1 (.int .u64 2)) fun x2=>S.bd (eqb [1] false false x2 (.int .u64 1)) fun x3=>S.cnd x3 (S.bd (bin .quo r1.1 (.int .u64 2)) fun x4=>S.bd (cvi .i64 x4) fun x5=>S.bd (un .neg x5) fun x6=>S.bd (bin .sub x6 (.int .i64 1)) fun x7=>some (x7,r1.2)) (S.bd (bin .quo r1.1 (.int .u64 2)) fun x8=>S.bd (cvi .i64 x8) fun x9=>some (x9,r1.2))
def Q1u.v (a0:Value) (s:St):Option (Value×St):=Q1u.t std a0 s
def Q1u.w:List Value→St→Option (Value×St)
  | [a0],s=>Q1u.v a0 s
  | _,_=>none
def Q1u.an:An:=⟨17,false,[],[],[],[],[],[]⟩
theorem Q1u.ok (S:Sig) (a0:Value) (s:St):evF S Try.prog Q1u.ctx Q1u.an Try.f99 [a0] s=Q1u.t S a0 s:=by kernel_rfl
theorem Q1u.cok:CtxOk Try.prog Q1u.ctx:=.cons Q1x.sound Q1x.can <| .nil
theorem Q1u.draws:fnDraws Q1u.an Try.f99=true:=by kernel_rfl
theorem Q1u.can:callOk Try.prog 99=true:=by kernel_rfl
theorem Q1u.sound:FnOk Try.prog 99 (.st Q1u.w):=FnOk.st_of (evF_ok Q1u.cok mixed (f:=99) (fn:=Try.f99) (by kernel_rfl) Q1u.draws) fun args s r h=>by
  unfold Q1u.w at h; split at h
  · rw [Q1u.ok std]; exact h
  · simp at h
def Q1s.ctx:Ctx:=[(104,.st Q1w.w)]
def Q1s.t (S:Sig) (a0 a1 a2:Value) (s:St):Option (Value×St) :=
  S.bd (Q1w.v a0 s) fun r1=>S.bd (xtr 0 r1.1) fun x2=>S.bd (xtr 1 r1.1) fun x3=>S.bd (un .not x3) fun x4=>S.cnd x4 (some ((.int .u8 0),r1.2)) (S.bd (bin .lss x2 a1) fun x5=>S.bd (S.gd x5 false (some x2)) fun x6=>S.bd (S.gd x5 false (some a2)) fun x7=>S.bd (S.gd x5 false (bin .gtr x6 x7)) fun x8=>S.bd (pik x5 (.bool Bool.true) x8) fun x9=>S.cnd x9 (S.bd (nck a0) fun x10=>S.bd (fld 2 x10) fun x11=>S.bd (stv r1.2 1 x11 (.int .i64 31)) fun s12=>some ((.int .u8 0),s12)) (S.bd (nck a0) fun x13=>S.bd (fld 1 x13) fun x14=>S.bd (ldc r1.2 x14) fun x15=>S.bd (bin .add x15 (.int .i64 1)) fun x16=>S.bd (nck a0) fun x17=>S.bd (fld 1 x17) fun x18=>S.bd (stv r1.2 1 x18 x16) fun s19=>some (x2,s19)))
def Q1s.v (a0 a1 a2:Value) (s:St):Option (Value×St):=Q1s.t std a0 a1 a2 s
def Q1s.w:List Value→St→Option (Value×St)
  | [a0,a1,a2],s=>Q1s.v a0 a1 a2 s
  | _,_=>none
def Q1s.an:An:=⟨35,false,[],[],[],[],[],[]⟩
theorem Q1s.ok (S:Sig) (a0 a1 a2:Value) (s:St):evF S Try.prog Q1s.ctx Q1s.an Try.f100 [a0,a1,a2] s=Q1s.t S a0 a1 a2 s:=by kernel_rfl
theorem Q1s.cok:CtxOk Try.prog Q1s.ctx:=.cons Q1w.sound Q1w.can <| .nil
theorem Q1s.draws:fnDraws Q1s.an Try.f100=true:=by kernel_rfl
theorem Q1s.can:callOk Try.prog 100=true:=by kernel_rfl
theorem Q1s.sound:FnOk Try.prog 100 (.st Q1s.w):=FnOk.st_of (evF_ok Q1s.cok mixed (f:=100) (fn:=Try.f100) (by kernel_rfl) Q1s.draws) fun args s r h=>by
  unfold Q1s.w at h; split at h
  · rw [Q1s.ok std]; exact h
  · simp at h
def Q1j.ctx:Ctx:=[]
def Q1j.l3 (S:Sig) (rec18:List Value→St→Option Cut) (xs16:List Value) (s17:St):Option Cut :=
  S.bd (lenL (xs16.getD 0 undef)) fun x19=>S.bd (bin .lss (xs16.getD 1 undef) x19) fun x20=>S.cnd x20 (S.bd (lcl (cellsA (xs16.getD 3 undef)) 1) fun x21=>S.bd (bin .mul x21 (.int .u64 2)) fun x22=>S.bd (idx s17 1 (xs16.getD 0 undef) (xs16.getD 1 undef)) fun x23=>S.bd (ldc s17 x23) fun x24=>S.bd (cvi .u64 x24) fun x25=>S.bd (bin .add x22 x25) fun x26=>S.bd (stl (cellsA (xs16.getD 3 undef)) 1 1 x26) fun c27=>S.bd (bin .add (xs16.getD 1 undef) (.int .i64 1)) fun x28=>rec18 [(xs16.getD 0 undef),x28,(Value.agg ⟨(cellsA (xs16.getD 2 undef))⟩),(Value.agg ⟨c27⟩)] s17) (some (0,[(Value.agg ⟨(cellsA (xs16.getD 2 undef))⟩),(Value.agg ⟨(cellsA (xs16.getD 3 undef))⟩)],s17))
def Q1j.t (S:Sig) (a0:Value) (s:St):Option Value :=
  S.bd (bx (Go.Value.agg #[(.int .i64 0),(.int .u64 0)])) fun c1=>S.bd (lenL a0) fun x2=>S.bd (bld [(.int .i64 0),(.int .u64 0)] [(0,1,x2)]) fun x3=>S.bd (bx (Go.Value.agg #[(.int .i64 0),(.int .u64 0)])) fun c4=>S.bd (stl c4 0 2 x3) fun c5=>S.bd (S.it (Q1j.l3 S) [a0,(.int .i64 0),(Value.agg ⟨c1⟩),(Value.agg ⟨c5⟩)] s) fun r29=>S.bd (lal (cellsA (r29.2.1.getD 1 undef)) 0 2) fun x30=>S.bd (stl (cellsA (r29.2.1.getD 0 undef)) 0 2 x30) fun c31=>S.bd (lal c31 0 2) fun x32=>some (x32)
def Q1j.r (a0:Value) (s:St):Option Value:=Q1j.t std a0 s
def Q1j.w:List Value→St→Option Value
  | [a0],s=>Q1j.r a0 s
  | _,_=>none
def Q1j.an:An:=⟨25,true,[2,3],[(3,⟨[.v 0,.p 2 2 0,.p 3 3 0,.v 4,.l 2,.l 3],[(.exit 0,[.p 2 2 0,.p 3 3 0,.l 2,.l 3])]⟩)],[],[(5,[(z4 0 0),(z4 1 25),(z4 2 0),(z4 3 0),(z4 4 0),(z4 5 2),(z4 6 2),(z4 7 0),(z4 8 0),(z4 9 0),(z4 10 29)])],[],[]⟩
theorem Q1j.ok (S:Sig) (a0:Value) (s:St):evG S Try.prog Q1j.ctx Q1j.an Try.f106 [a0] s=Q1j.t S a0 s:=by kernel_rfl
theorem Q1j.cok:CtxOk Try.prog Q1j.ctx:=.nil
theorem Q1j.draws:fnDraws Q1j.an Try.f106=true:=by kernel_rfl
theorem Q1j.can:callOk Try.prog 106=true:=by kernel_rfl
theorem Q1j.sound:FnOk Try.prog 106 (.rd Q1j.w):=FnOk.rd_of (evG_ok Q1j.cok mixed (f:=106) (fn:=Try.f106) (by kernel_rfl) Q1j.draws) fun args s r h=>by
  unfold Q1j.w at h; split at h
  · rw [Q1j.ok std]; exact h
  · simp at h
def Q1y.ctx:Ctx:=[(100,.st Q1s.w),(104,.st Q1w.w),(57,.rd Q1k.w),(106,.rd Q1j.w)]
def Q1y.l15 (S:Sig) (rec100:List Value→St→Option Cut) (xs98:List Value) (s99:St):Option Cut :=
  S.bd (bin .lss (xs98.getD 6 undef) (.int .i64 8)) fun x101=>S.bd (S.gd x101 true (some (xs98.getD 6 undef))) fun x102=>S.bd (S.gd x101 true (some (xs98.getD 5 undef))) fun x103=>S.bd (S.gd x101 true (bin .lss x102 x103)) fun x104=>S.bd (pik x101 x104 (.bool Bool.false)) fun x105=>S.cnd x105 (S.bd (bin .sub (.int .i64 7) (xs98.getD 6 undef)) fun x106=>S.bd (Q1k.r x106 s99) fun x107=>S.bd (cvi .u8 x107) fun x108=>S.bd (bin .quo (xs98.getD 4 undef) x108) fun x109=>S.bd (cvi .i64 x109) fun x110=>S.bd (bin .rem x110 (.int .i64 2)) fun x111=>S.bd (S.bd (bls 1 (List.replicate 1 [(.int .i64 0)]) [(0,x111)]) fun rows=>als s99 1 1 rows) fun r112=>S.bd (app r112.2 1 8 (xs98.getD 2 undef) r112.1) fun r113=>S.bd (bin .add (xs98.getD 6 undef) (.int .i64 1)) fun x114=>rec100 [(xs98.getD 0 undef),(xs98.getD 1 undef),r113.1,(xs98.getD 3 undef),(xs98.getD 4 undef),(xs98.getD 5 undef),x114,(xs98.getD 7 undef),(xs98.getD 8 undef),(xs98.getD 9 undef),(xs98.getD 10 undef),(xs98.getD 11 undef),(xs98.getD 12 undef),(xs98.getD 13 undef),(Value.agg ⟨(cellsA (xs98.getD 14 undef))⟩)] r113.2) (some (0,[(xs98.getD 0 undef),(xs98.getD 1 undef),(xs98.getD 2 undef),(xs98.getD 3 undef),(xs98.getD 7 undef),(xs98.getD 8 undef),(xs98.getD 9 undef),(xs98.getD 10 undef),(xs98.getD 11 undef),(xs98.getD 12 undef),(xs98.getD 13 undef),x102,x103,x104,(Value.agg ⟨(cellsA (xs98.getD 14 undef))⟩)],s99))
def Q1y.l4.p1 (S:Sig) (xs66:List Value) (s67:St) (rec68:List Value→St→Option Cut):Option Cut :=
  S.bd (Q1w.v (xs66.getD 0 undef) s67) fun r70=>S.bd (xtr 0 r70.1) fun x71=>S.bd (xtr 1 r70.1) fun x72=>S.bd (un .not x72) fun x73=>S.cnd x73 (S.bd (bld [(.int .i64 0),(.int .u64 0)] []) fun x74=>S.bd (stl (cellsA (xs66.getD 4 undef)) 0 2 x74) fun c75=>some (1,[(Value.agg ⟨c75⟩)],r70.2)) (S.bd (bin .sub (xs66.getD 1 undef) (xs66.getD 3 undef)) fun x76=>S.bd (bin .lss x76 (.int .i64 8)) fun x77=>S.bd (S.gd x77 true (some x71)) fun x78=>S.bd (S.gd x77 true (some x76)) fun x79=>S.bd (S.gd x77 true (bin .sub (.int .i64 8) x79)) fun x80=>S.bd (S.gd x77 true (Q1k.r x80 r70.2)) fun x81=>S.bd (S.gd x77 true (cvi .u8 x81)) fun x82=>S.bd (S.gd x77 true (bin .rem x78 x82)) fun x83=>S.bd (S.gd x77 true (eqb [1] false true x83 (.int .u8 0))) fun x84=>S.bd (pik x77 x84 (.bool Bool.false)) fun x85=>S.cnd x85 (S.bd (nck (xs66.getD 0 undef)) fun x86=>S.bd (fld 2 x86) fun x87=>S.bd (stv r70.2 1 x87 (.int .i64 31)) fun s88=>S.bd (bld [(.int .i64 0),(.int .u64 0)] []) fun x89=>S.bd (stl (cellsA (xs66.getD 4 undef)) 0 2 x89) fun c90=>some (1,[(Value.agg ⟨c90⟩)],s88)) (S.bd (nck (xs66.getD 0 undef)) fun x91=>S.bd (fld 1 x91) fun x92=>S.bd (ldc r70.2 x92) fun x93=>S.bd (bin .add x93 (.int .i64 1)) fun x94=>S.bd (nck (xs66.getD 0 undef)) fun x95=>S.bd (fld 1 x95) fun x96=>S.bd (stv r70.2 1 x96 x94) fun s97=>S.bd (S.it (Q1y.l15 S) [(xs66.getD 0 undef),(xs66.getD 1 undef),(xs66.getD 2 undef),(xs66.getD 3 undef),x71,x76,(.int .i64 0),x78,x79,x80,x81,x82,x83,x84,(Value.agg ⟨(cellsA (xs66.getD 4 undef))⟩)] s97) fun r115=>S.bd (bin .add (r115.2.1.getD 3 undef) (.int .i64 8)) fun x116=>rec68 [(r115.2.1.getD 0 undef),(r115.2.1.getD 1 undef),(r115.2.1.getD 2 undef),x116,(Value.agg ⟨(cellsA (r115.2.1.getD 14 undef))⟩)] r115.2.2))
def Q1y.l4 (S:Sig) (rec68:List Value→St→Option Cut) (xs66:List Value) (s67:St):Option Cut :=
  S.bd (bin .lss (xs66.getD 3 undef) (xs66.getD 1 undef)) fun x69=>S.cnd x69 (Q1y.l4.p1 S xs66 s67 rec68) (some (0,[(xs66.getD 2 undef),(Value.agg ⟨(cellsA (xs66.getD 4 undef))⟩)],s67))
def Q1y.t (S:Sig) (a0:Value) (s:St):Option (Value×St) :=
  S.bd (bx (Go.Value.agg #[(.int .i64 0),(.int .u64 0)])) fun c1=>S.bd (Q1s.v a0 (.int .u8 0) (.int .u8 32) s) fun r2=>S.bd (cvi .i64 r2.1) fun x3=>S.bd (S.it (Q1y.l4 S) [a0,x3,(.slice none 0 0),(.int .i64 0),(Value.agg ⟨c1⟩)] r2.2) fun r117=>if r117.1=0 then (S.bd (Q1j.r (r117.2.1.getD 0 undef) r117.2.2) fun x119=>S.bd (stl (cellsA (r117.2.1.getD 1 undef)) 0 2 x119) fun c120=>S.bd (lal c120 0 2) fun x121=>some (x121,r117.2.2)) else (S.bd (lal (cellsA (r117.2.1.getD 0 undef)) 0 2) fun x118=>some (x118,r117.2.2))
def Q1y.v (a0:Value) (s:St):Option (Value×St):=Q1y.t std a0 s
def Q1y.w:List Value→St→Option (Value×St)
  | [a0],s=>Q1y.v a0 s
  | _,_=>none
def Q1y.an:An:=⟨73,false,[2],[(15,⟨[.v 0,.p 2 2 0,.v 3,.v 4,.v 5,.v 6,.v 8,.v 9,.v 32,.v 33,.v 34,.v 35,.v 36,.v 37,.v 38,.l 2],[(.exit 2,[.v 0,.p 2 2 0,.v 3,.v 4,.v 5,.v 32,.v 33,.v 34,.v 35,.v 36,.v 37,.v 38,.v 54,.v 55,.v 56,.l 2])]⟩),(4,⟨[.v 0,.p 2 2 0,.v 3,.v 4,.v 5,.l 2],[(.exit 0,[.p 2 2 0,.v 4,.l 2]),(.ret,[.p 2 2 0,.l 2])]⟩)],[],[],[],[]⟩
theorem Q1y.ok (S:Sig) (a0:Value) (s:St):evF S Try.prog Q1y.ctx Q1y.an Try.f101 [a0] s=Q1y.t S a0 s:=by kernel_rfl
theorem Q1y.cok:CtxOk Try.prog Q1y.ctx:=.cons Q1s.sound Q1s.can <| .cons Q1w.sound Q1w.can <| .cons Q1k.sound Q1k.can <| .cons Q1j.sound Q1j.can <| .nil
theorem Q1y.draws:fnDraws Q1y.an Try.f101=true:=by kernel_rfl
theorem Q1y.can:callOk Try.prog 101=true:=by kernel_rfl
theorem Q1y.sound:FnOk Try.prog 101 (.st Q1y.w):=FnOk.st_of (evF_ok Q1y.cok mixed (f:=101) (fn:=Try.f101) (by kernel_rfl) Q1y.draws) fun args s r h=>by
  unfold Q1y.w at h; split at h
  · rw [Q1y.ok std]; exact h
  · simp at h
def Q1v.ctx:Ctx:=[(100,.st Q1s.w)]
def Q1v.l4 (S:Sig) (rec19:List Value→St→Option Cut) (xs17:List Value) (s18:St):Option Cut :=
  S.bd (bin .lss (xs17.getD 1 undef) (.int .i64 8)) fun x20=>S.cnd x20 (S.bd (lcl (cellsA (xs17.getD 3 undef)) 1) fun x21=>S.bd (bin .mul x21 (.int .u64 256)) fun x22=>S.bd (Q1s.v (xs17.getD 0 undef) (.int .u8 0) (.int .u8 255) s18) fun r23=>S.bd (cvi .u64 r23.1) fun x24=>S.bd (bin .add x22 x24) fun x25=>S.bd (stl (cellsA (xs17.getD 3 undef)) 1 1 x25) fun c26=>S.bd (bin .add (xs17.getD 1 undef) (.int .i64 1)) fun x27=>rec19 [(xs17.getD 0 undef),x27,(Value.agg ⟨(cellsA (xs17.getD 2 undef))⟩),(Value.agg ⟨c26⟩)] r23.2) (some (0,[(Value.agg ⟨(cellsA (xs17.getD 2 undef))⟩),(Value.agg ⟨(cellsA (xs17.getD 3 undef))⟩)],s18))
def Q1v.t (S:Sig) (a0:Value) (s:St):Option (Value×St) :=
  S.bd (bx (Go.Value.agg #[(.int .i64 0),(.int .u64 0)])) fun c1=>S.bd (Q1s.v a0 (.int .u8 1) (.int .u8 3) s) fun r2=>S.bd (cvi .i64 r2.1) fun x3=>S.bd (bld [(.int .i64 0),(.int .u64 0)] [(0,1,x3)]) fun x4=>S.bd (bx (Go.Value.agg #[(.int .i64 0),(.int .u64 0)])) fun c5=>S.bd (stl c5 0 2 x4) fun c6=>S.bd (lcl c6 0) fun x7=>S.bd (eqb [1] false false x7 (.int .i64 2)) fun x8=>S.cnd x8 (S.bd (S.it (Q1v.l4 S) [a0,(.int .i64 0),(Value.agg ⟨c1⟩),(Value.agg ⟨c6⟩)] r2.2) fun r28=>S.bd (lal (cellsA (r28.2.1.getD 1 undef)) 0 2) fun x29=>S.bd (stl (cellsA (r28.2.1.getD 0 undef)) 0 2 x29) fun c30=>S.bd (lal c30 0 2) fun x31=>some (x31,r28.2.2)) (S.bd (lal c6 0 2) fun x32=>S.bd (stl c1 0 2 x32) fun c33=>S.bd (lal c33 0 2) fun x34=>some (x34,r2.2))
def Q1v.v (a0:Value) (s:St):Option (Value×St):=Q1v.t std a0 s
def Q1v.w:List Value→St→Option (Value×St)
  | [a0],s=>Q1v.v a0 s
  | _,_=>none
def Q1v.an:An:=⟨25,false,[2,3],[(4,⟨[.v 0,.p 2 2 0,.p 3 3 0,.v 4,.l 2,.l 3],[(.exit 0,[.p 2 2 0,.p 3 3 0,.l 2,.l 3])]⟩)],[],[(6,[(z4 0 0),(z4 1 25),(z4 2 0),(z4 3 0),(z4 4 4),(z4 5 0),(z4 6 0),(z4 7 0),(z4 8 29)])],[],[]⟩
theorem Q1v.ok (S:Sig) (a0:Value) (s:St):evF S Try.prog Q1v.ctx Q1v.an Try.f102 [a0] s=Q1v.t S a0 s:=by kernel_rfl
theorem Q1v.cok:CtxOk Try.prog Q1v.ctx:=.cons Q1s.sound Q1s.can <| .nil
theorem Q1v.draws:fnDraws Q1v.an Try.f102=true:=by kernel_rfl
theorem Q1v.can:callOk Try.prog 102=true:=by kernel_rfl
theorem Q1v.sound:FnOk Try.prog 102 (.st Q1v.w):=FnOk.st_of (evF_ok Q1v.cok mixed (f:=102) (fn:=Try.f102) (by kernel_rfl) Q1v.draws) fun args s r h=>by
  unfold Q1v.w at h; split at h
  · rw [Q1v.ok std]; exact h
  · simp at h
def Q1t.ctx:Ctx:=[(98,.st Q1x.w),(99,.st Q1u.w),(100,.st Q1s.w),(101,.st Q1y.w),(102,.st Q1v.w)]
def Q1t.l12 (S:Sig) (rec41:List Value→St→Option Cut) (xs39:List Value) (s40:St):Option Cut :=
  S.bd (bin .lss (xs39.getD 2 undef) (xs39.getD 1 undef)) fun x42=>S.bd (S.gd x42 true (some (xs39.getD 0 undef))) fun x43=>S.bd (S.gd x42 true (nck x43)) fun x44=>S.bd (S.gd x42 true (fld 2 x44)) fun x45=>S.bd (S.gd x42 true (ldc s40 x45)) fun x46=>S.bd (S.gd x42 true (eqb [1] false false x46 (.int .i64 0))) fun x47=>S.bd (pik x42 x47 (.bool Bool.false)) fun x48=>S.cnd x48 (S.bd (lcl (cellsA (xs39.getD 4 undef)) 4) fun x49=>S.bd (Q1s.v (xs39.getD 0 undef) (.int .u8 0) (.int .u8 255) s40) fun r50=>S.bd (S.bd (bls 1 (List.replicate 1 [(.int .u8 0)]) [(0,r50.1)]) fun rows=>als r50.2 1 1 rows) fun r51=>S.bd (app r51.2 1 1 x49 r51.1) fun r52=>S.bd (stl (cellsA (xs39.getD 4 undef)) 4 1 r52.1) fun c53=>S.bd (bin .add (xs39.getD 2 undef) (.int .u64 1)) fun x54=>rec41 [(xs39.getD 0 undef),(xs39.getD 1 undef),x54,(Value.agg ⟨(cellsA (xs39.getD 3 undef))⟩),(Value.agg ⟨c53⟩)] r52.2) (some (0,[(Value.agg ⟨(cellsA (xs39.getD 3 undef))⟩),(Value.agg ⟨(cellsA (xs39.getD 4 undef))⟩)],s40))
def Q1t.t.p1 (S:Sig) (a1:Value) (a0:Value) (s:St) (c4:List Value) (c1:List Value):Option (Value×St) :=
  S.bd (eqb [1] false false a1 (.int .i64 3)) fun x17=>S.cnd x17 (S.bd (Q1s.v a0 (.int .u8 0) (.int .u8 1) s) fun r18=>S.bd (eqb [1] false false r18.1 (.int .u8 1)) fun x19=>S.bd (stl c4 3 1 x19) fun c20=>S.bd (lal c20 0 14) fun x21=>S.bd (stl c1 0 14 x21) fun c22=>S.bd (lal c22 0 14) fun x23=>some (x23,r18.2)) (S.bd (eqb [1] false false a1 (.int .i64 4)) fun x24=>S.cnd x24 (S.bd (Q1x.v a0 (.int .u64 65536) s) fun r25=>S.bd (S.it (Q1t.l12 S) [a0,r25.1,(.int .u64 0),(Value.agg ⟨c1⟩),(Value.agg ⟨c4⟩)] r25.2) fun r55=>S.bd (lal (cellsA (r55.2.1.getD 1 undef)) 0 14) fun x56=>S.bd (stl (cellsA (r55.2.1.getD 0 undef)) 0 14 x56) fun c57=>S.bd (lal c57 0 14) fun x58=>some (x58,r55.2.2)) (S.bd (eqb [1] false false a1 (.int .i64 5)) fun x59=>S.cnd x59 (S.bd (Q1y.v a0 s) fun r60=>S.bd (stl c4 5 2 r60.1) fun c61=>S.bd (lal c61 0 14) fun x62=>S.bd (stl c1 0 14 x62) fun c63=>S.bd (lal c63 0 14) fun x64=>some (x64,r60.2)) (S.bd (eqb [1] false false a1 (.int .i64 6)) fun x65=>S.cnd x65 (S.bd (Q1v.v a0 s) fun r66=>S.bd (stl c4 7 2 r66.1) fun c67=>S.bd (lal c67 0 14) fun x68=>S.bd (stl c1 0 14 x68) fun c69=>S.bd (lal c69 0 14) fun x70=>some (x70,r66.2)) (S.bd (eqb [1] false false a1 (.int .i64 7)) fun x71=>S.cnd x71 (S.bd (Q1u.v a0 s) fun r72=>S.bd (stl c4 9 1 r72.1) fun c73=>S.bd (Q1v.v a0 r72.2) fun r74=>S.bd (stl c73 10 2 r74.1) fun c75=>S.bd (Q1y.v a0 r74.2) fun r76=>S.bd (stl c75 12 2 r76.1) fun c77=>S.bd (lal c77 0 14) fun x78=>S.bd (stl c1 0 14 x78) fun c79=>S.bd (lal c79 0 14) fun x80=>some (x80,r76.2)) (S.bd (lal c4 0 14) fun x81=>S.bd (stl c1 0 14 x81) fun c82=>S.bd (lal c82 0 14) fun x83=>some (x83,s))))))
def Q1t.t (S:Sig) (a0 a1:Value) (s:St):Option (Value×St) :=
  S.bd (bx (Go.Value.agg #[(.int .i64 0),(.int .u64 0),(.int .i64 0),(.bool Bool.false),(.slice none 0 0),(.int .i64 0),(.int .u64 0),(.int .i64 0),(.int .u64 0),(.int .i64 0),(.int .i64 0),(.int .u64 0),(.int .i64 0),(.int .u64 0)])) fun c1=>S.bd (bld [(.int .i64 0),(.int .u64 0),(.int .i64 0),(.bool Bool.false),(.slice none 0 0),(.int .i64 0),(.int .u64 0),(.int .i64 0),(.int .u64 0),(.int .i64 0),(.int .i64 0),(.int .u64 0),(.int .i64 0),(.int .u64 0)] [(0,1,a1)]) fun x2=>S.bd (bx (Go.Value.agg #[(.int .i64 0),(.int .u64 0),(.int .i64 0),(.bool Bool.false),(.slice none 0 0),(.int .i64 0),(.int .u64 0),(.int .i64 0),(.int .u64 0),(.int .i64 0),(.int .i64 0),(.int .u64 0),(.int .i64 0),(.int .u64 0)])) fun c3=>S.bd (stl c3 0 14 x2) fun c4=>S.bd (eqb [1] false false a1 (.int .i64 1)) fun x5=>S.cnd x5 (S.bd (Q1x.v a0 (.int .u64 18446744073709551615) s) fun r6=>S.bd (stl c4 1 1 r6.1) fun c7=>S.bd (lal c7 0 14) fun x8=>S.bd (stl c1 0 14 x8) fun c9=>S.bd (lal c9 0 14) fun x10=>some (x10,r6.2)) (S.bd (eqb [1] false false a1 (.int .i64 2)) fun x11=>S.cnd x11 (S.bd (Q1u.v a0 s) fun r12=>S.bd (stl c4 2 1 r12.1) fun c13=>S.bd (lal c13 0 14) fun x14=>S.bd (stl c1 0 14 x14) fun c15=>S.bd (lal c15 0 14) fun x16=>some (x16,r12.2)) (Q1t.t.p1 S a1 a0 s c4 c1))
def Q1t.v (a0 a1:Value) (s:St):Option (Value×St):=Q1t.t std a0 a1 s
def Q1t.w:List Value→St→Option (Value×St)
  | [a0,a1],s=>Q1t.v a0 a1 s
  | _,_=>none
def Q1t.an:An:=⟨75,false,[4,5],[(12,⟨[.v 0,.p 4 4 0,.p 5 5 0,.v 6,.v 7,.l 4,.l 5],[(.exit 1,[.p 4 4 0,.p 5 5 0,.l 4,.l 5])]⟩)],[],[(14,[(z4 0 0),(z4 1 41),(z4 2 0),(z4 3 4),(z4 4 3),(z4 5 4),(z4 6 0),(z4 7 45)])],[],[]⟩
theorem Q1t.ok (S:Sig) (a0 a1:Value) (s:St):evF S Try.prog Q1t.ctx Q1t.an Try.f89 [a0,a1] s=Q1t.t S a0 a1 s:=by kernel_rfl
theorem Q1t.cok:CtxOk Try.prog Q1t.ctx:=.cons Q1x.sound Q1x.can <| .cons Q1u.sound Q1u.can <| .cons Q1s.sound Q1s.can <| .cons Q1y.sound Q1y.can <| .cons Q1v.sound Q1v.can <| .nil
theorem Q1t.draws:fnDraws Q1t.an Try.f89=true:=by kernel_rfl
theorem Q1t.can:callOk Try.prog 89=true:=by kernel_rfl
theorem Q1t.sound:FnOk Try.prog 89 (.st Q1t.w):=FnOk.st_of (evF_ok Q1t.cok mixed (f:=89) (fn:=Try.f89) (by kernel_rfl) Q1t.draws) fun args s r h=>by
  unfold Q1t.w at h; split at h
  · rw [Q1t.ok std]; exact h
  · simp at h
def Q1n.ctx:Ctx:=[(79,.rd Q1p.w),(89,.st Q1t.w)]
def Q1n.l2 (S:Sig) (rec10:List Value→St→Option Cut) (xs8:List Value) (s9:St):Option Cut :=
  S.bd (lenL (xs8.getD 1 undef)) fun x11=>S.bd (bin .lss (xs8.getD 2 undef) x11) fun x12=>S.cnd x12 (S.bd (idx s9 1 (xs8.getD 1 undef) (xs8.getD 2 undef)) fun x13=>S.bd (ldc s9 x13) fun x14=>S.bd (Q1p.r x14 s9) fun x15=>S.bd (un .not x15) fun x16=>S.cnd x16 (some (1,[(.slice none 0 0),(.int .i64 0),(.int .i64 30)],s9)) (S.bd (bin .add (xs8.getD 2 undef) (.int .i64 1)) fun x17=>rec10 [(xs8.getD 0 undef),(xs8.getD 1 undef),x17] s9)) (some (0,[(xs8.getD 0 undef),(xs8.getD 1 undef)],s9))
def Q1n.l9 (S:Sig) (rec41:List Value→St→Option Cut) (xs39:List Value) (s40:St):Option Cut :=
  S.bd (lenL (xs39.getD 0 undef)) fun x42=>S.bd (bin .lss (xs39.getD 3 undef) x42) fun x43=>S.cnd x43 (S.bd (idx s40 1 (xs39.getD 0 undef) (xs39.getD 3 undef)) fun x44=>S.bd (ldc s40 x44) fun x45=>S.bd (Q1t.v (xs39.getD 1 undef) x45 s40) fun r46=>S.bd (S.bd (bls 14 (List.replicate 1 [(.int .i64 0),(.int .u64 0),(.int .i64 0),(.bool Bool.false),(.slice none 0 0),(.int .i64 0),(.int .u64 0),(.int .i64 0),(.int .u64 0),(.int .i64 0),(.int .i64 0),(.int .u64 0),(.int .i64 0),(.int .u64 0)]) [(0,r46.1)]) fun rows=>als r46.2 14 1 rows) fun r47=>S.bd (app r47.2 14 128 (xs39.getD 2 undef) r47.1) fun r48=>S.bd (nck (xs39.getD 1 undef)) fun x49=>S.bd (fld 2 x49) fun x50=>S.bd (ldc r48.2 x50) fun x51=>S.bd (eqb [1] false true x51 (.int .i64 0)) fun x52=>S.cnd x52 (S.bd (nck (xs39.getD 1 undef)) fun x53=>S.bd (fld 1 x53) fun x54=>S.bd (ldc r48.2 x54) fun x55=>S.bd (nck (xs39.getD 1 undef)) fun x56=>S.bd (fld 2 x56) fun x57=>S.bd (ldc r48.2 x57) fun x58=>some (1,[(.slice none 0 0),x55,x58],r48.2)) (S.bd (bin .add (xs39.getD 3 undef) (.int .i64 1)) fun x59=>rec41 [(xs39.getD 0 undef),(xs39.getD 1 undef),r48.1,x59] r48.2)) (some (0,[(xs39.getD 1 undef),(xs39.getD 2 undef)],s40))
def Q1n.t (S:Sig) (a0 a1:Value) (s:St):Option (Value×St) :=
  S.bd (S.it (Q1n.l2 S) [a0,a1,(.int .i64 0)] s) fun r18=>if r18.1=0 then (S.bd (bld [(.slice none 0 0),(.int .i64 0),(.int .i64 0)] [(0,1,(r18.2.1.getD 0 undef))]) fun x19=>S.bd (alv r18.2.2 x19) fun r20=>S.bd (S.it (Q1n.l9 S) [(r18.2.1.getD 1 undef),r20.1,(.slice none 0 0),(.int .i64 0)] r20.2) fun r60=>if r60.1=0 then (S.bd (nck (r60.2.1.getD 0 undef)) fun x61=>S.bd (fld 1 x61) fun x62=>S.bd (ldc r60.2.2 x62) fun x63=>some ((Value.tuple ⟨[(r60.2.1.getD 1 undef),x63,(.int .i64 0)]⟩),r60.2.2)) else (some ((Value.tuple ⟨[(r60.2.1.getD 0 undef),(r60.2.1.getD 1 undef),(r60.2.1.getD 2 undef)]⟩),r60.2.2))) else (some ((Value.tuple ⟨[(r18.2.1.getD 0 undef),(r18.2.1.getD 1 undef),(r18.2.1.getD 2 undef)]⟩),r18.2.2))
def Q1n.v (a0 a1:Value) (s:St):Option (Value×St):=Q1n.t std a0 a1 s
def Q1n.w:List Value→St→Option (Value×St)
  | [a0,a1],s=>Q1n.v a0 a1 s
  | _,_=>none
def Q1n.an:An:=⟨59,false,[],[(2,⟨[.v 0,.v 1,.v 7],[(.exit 0,[.v 0,.v 1]),(.ret,[.v 4,.v 5,.v 6])]⟩),(9,⟨[.v 1,.v 8,.v 9,.v 10],[(.exit 2,[.v 8,.v 9]),(.ret,[.v 4,.v 5,.v 6])]⟩)],[],[(13,[(z4 0 0),(z4 1 0),(z4 2 0),(z4 3 2),(z4 4 0),(z4 5 0),(z4 6 0),(z4 7 2),(z4 8 0),(z4 9 0),(z4 10 0)]),(14,[(z4 0 0),(z4 1 0),(z4 2 0),(z4 3 0),(z4 4 2),(z4 5 0),(z4 6 0),(z4 7 0)])],[],[]⟩
theorem Q1n.ok (S:Sig) (a0 a1:Value) (s:St):evF S Try.prog Q1n.ctx Q1n.an Try.f69 [a0,a1] s=Q1n.t S a0 a1 s:=by kernel_rfl
theorem Q1n.cok:CtxOk Try.prog Q1n.ctx:=.cons Q1p.sound Q1p.can <| .cons Q1t.sound Q1t.can <| .nil
theorem Q1n.draws:fnDraws Q1n.an Try.f69=true:=by kernel_rfl
theorem Q1n.can:callOk Try.prog 69=true:=by kernel_rfl
theorem Q1n.sound:FnOk Try.prog 69 (.st Q1n.w):=FnOk.st_of (evF_ok Q1n.cok mixed (f:=69) (fn:=Try.f69) (by kernel_rfl) Q1n.draws) fun args s r h=>by
  unfold Q1n.w at h; split at h
  · rw [Q1n.ok std]; exact h
  · simp at h
def Q2f.ctx:Ctx:=[(69,.st Q1n.w)]
def Q2f.t (S:Sig) (a0 a1:Value) (s:St):Option (Value×St) :=
  S.bd (bx (Go.Value.agg #[(.int .i64 0),(.int .u64 0),(.int .i64 0),(.bool Bool.false),(.slice none 0 0),(.int .i64 0),(.int .u64 0),(.int .i64 0),(.int .u64 0),(.int .i64 0),(.int .i64 0),(.int .u64 0),(.int .i64 0),(.int .u64 0)])) fun c1=>S.bd (nck a0) fun x2=>S.bd (fld 0 x2) fun x3=>S.bd (ldc s x3) fun x4=>S.bd (S.bd (bls 1 (List.replicate 1 [(.int .i64 0)]) [(0,a1)]) fun rows=>als s 1 1 rows) fun r5=>S.bd (Q1n.v x4 r5.1 r5.2) fun r6=>S.bd (xtr 0 r6.1) fun x7=>S.bd (xtr 1 r6.1) fun x8=>S.bd (xtr 2 r6.1) fun x9=>S.bd (nck a0) fun x10=>S.bd (fld 1 x10) fun x11=>S.bd (ldc r6.2 x11) fun x12=>S.bd (S.gd x12 false (some x9)) fun x13=>S.bd (S.gd x12 false (eqb [1] false true x13 (.int .i64 0))) fun x14=>S.bd (pik x12 (.bool Bool.true) x14) fun x15=>S.cnd x15 (S.bd (nck a0) fun x16=>S.bd (fld 1 x16) fun x17=>S.bd (stv r6.2 1 x17 (.bool Bool.true)) fun s18=>S.bd (bld [(.int .i64 0),(.int .u64 0),(.int .i64 0),(.bool Bool.false),(.slice none 0 0),(.int .i64 0),(.int .u64 0),(.int .i64 0),(.int .u64 0),(.int .i64 0),(.int .i64 0),(.int .u64 0),(.int .i64 0),(.int .u64 0)] []) fun x19=>S.bd (stl c1 0 14 x19) fun c20=>S.bd (lal c20 0 14) fun x21=>some (x21,s18)) (S.bd (nck a0) fun x22=>S.bd (fld 0 x22) fun x23=>S.bd (ldc r6.2 x23) fun x24=>S.bd (slc r6.2 1 x24 (some x8) none none) fun x25=>S.bd (nck a0) fun x26=>S.bd (fld 0 x26) fun x27=>S.bd (stv r6.2 1 x27 x25) fun s28=>S.bd (idx s28 14 x7 (.int .i64 0)) fun x29=>S.bd (lda s28 14 x29) fun x30=>S.bd (stl c1 0 14 x30) fun c31=>S.bd (lal c31 0 14) fun x32=>some (x32,s28))
def Q2f.v (a0 a1:Value) (s:St):Option (Value×St):=Q2f.t std a0 a1 s
def Q2f.w:List Value→St→Option (Value×St)
  | [a0,a1],s=>Q2f.v a0 a1 s
  | _,_=>none
def Q2f.an:An:=⟨43,false,[4],[],[],[],[],[]⟩
theorem Q2f.ok (S:Sig) (a0 a1:Value) (s:St):evF S Try.prog Q2f.ctx Q2f.an Try.f49 [a0,a1] s=Q2f.t S a0 a1 s:=by kernel_rfl
theorem Q2f.cok:CtxOk Try.prog Q2f.ctx:=.cons Q1n.sound Q1n.can <| .nil
theorem Q2f.draws:fnDraws Q2f.an Try.f49=true:=by kernel_rfl
theorem Q2f.can:callOk Try.prog 49=true:=by kernel_rfl
theorem Q2f.sound:FnOk Try.prog 49 (.st Q2f.w):=FnOk.st_of (evF_ok Q2f.cok mixed (f:=49) (fn:=Try.f49) (by kernel_rfl) Q2f.draws) fun args s r h=>by
  unfold Q2f.w at h; split at h
  · rw [Q2f.ok std]; exact h
  · simp at h
def Q2b.ctx:Ctx:=[(49,.st Q2f.w)]
def Q2b.t (S:Sig) (a0:Value) (s:St):Option (Value×St) :=
  S.bd (bx (Go.Value.agg #[(.bool Bool.false),(.int .i64 0)])) fun c1=>S.bd (Q2f.v a0 (.int .i64 3) s) fun r2=>S.bd (prt 3 1 false r2.1) fun x3=>S.bd (Q2f.v a0 (.int .i64 2) r2.2) fun r4=>S.bd (prt 2 1 false r4.1) fun x5=>S.bd (bld [(.bool Bool.false),(.int .i64 0)] [(0,1,x3),(1,1,x5)]) fun x6=>S.bd (stl c1 0 2 x6) fun c7=>S.bd (lal c7 0 2) fun x8=>some (x8,r4.2)
def Q2b.v (a0:Value) (s:St):Option (Value×St):=Q2b.t std a0 s
def Q2b.w:List Value→St→Option (Value×St)
  | [a0],s=>Q2b.v a0 s
  | _,_=>none
def Q2b.an:An:=⟨12,false,[2],[],[],[],[],[]⟩
theorem Q2b.ok (S:Sig) (a0:Value) (s:St):evF S Try.prog Q2b.ctx Q2b.an Try.f50 [a0] s=Q2b.t S a0 s:=by kernel_rfl
theorem Q2b.cok:CtxOk Try.prog Q2b.ctx:=.cons Q2f.sound Q2f.can <| .nil
theorem Q2b.draws:fnDraws Q2b.an Try.f50=true:=by kernel_rfl
theorem Q2b.can:callOk Try.prog 50=true:=by kernel_rfl
theorem Q2b.sound:FnOk Try.prog 50 (.st Q2b.w):=FnOk.st_of (evF_ok Q2b.cok mixed (f:=50) (fn:=Try.f50) (by kernel_rfl) Q2b.draws) fun args s r h=>by
  unfold Q2b.w at h; split at h
  · rw [Q2b.ok std]; exact h
  · simp at h
def Q2e.ctx:Ctx:=[(49,.st Q2f.w)]
def Q2e.t (S:Sig) (a0:Value) (s:St):Option (Value×St) :=
  S.bd (bx (Go.Value.agg #[(.int .i64 0),(.int .i64 0),(.int .u64 0),(.int .i64 0),(.int .u64 0)])) fun c1=>S.bd (Q2f.v a0 (.int .i64 3) s) fun r2=>S.bd (prt 3 1 false r2.1) fun x3=>S.bd (un .not x3) fun x4=>S.cnd x4 (S.bd (bld [(.int .i64 0),(.int .i64 0),(.int .u64 0),(.int .i64 0),(.int .u64 0)] []) fun x5=>S.bd (stl c1 0 5 x5) fun c6=>S.bd (lal c6 0 5) fun x7=>some (x7,r2.2)) (S.bd (Q2f.v a0 (.int .i64 7) r2.2) fun r8=>S.bd (prt 9 5 true r8.1) fun x9=>S.bd (stl c1 0 5 x9) fun c10=>S.bd (lal c10 0 5) fun x11=>some (x11,r8.2))
def Q2e.v (a0:Value) (s:St):Option (Value×St):=Q2e.t std a0 s
def Q2e.w:List Value→St→Option (Value×St)
  | [a0],s=>Q2e.v a0 s
  | _,_=>none
def Q2e.an:An:=⟨11,false,[2],[],[],[],[],[]⟩
theorem Q2e.ok (S:Sig) (a0:Value) (s:St):evF S Try.prog Q2e.ctx Q2e.an Try.f70 [a0] s=Q2e.t S a0 s:=by kernel_rfl
theorem Q2e.cok:CtxOk Try.prog Q2e.ctx:=.cons Q2f.sound Q2f.can <| .nil
theorem Q2e.draws:fnDraws Q2e.an Try.f70=true:=by kernel_rfl
theorem Q2e.can:callOk Try.prog 70=true:=by kernel_rfl
theorem Q2e.sound:FnOk Try.prog 70 (.st Q2e.w):=FnOk.st_of (evF_ok Q2e.cok mixed (f:=70) (fn:=Try.f70) (by kernel_rfl) Q2e.draws) fun args s r h=>by
  unfold Q2e.w at h; split at h
  · rw [Q2e.ok std]; exact h
  · simp at h
def Q2c.ctx:Ctx:=[(49,.st Q2f.w),(70,.st Q2e.w)]
def Q2c.t.p1 (S:Sig) (x3:Value) (a0:Value) (r2:Value×St) (c1:List Value):Option (Value×St) :=
  S.bd (cvi .i64 x3) fun x11=>S.bd (bld [(.int .i64 0),(.bool Bool.false),(.int .i64 0),(.int .i64 0),(.int .u64 0),(.int .i64 0),(.int .u64 0),(.int .i64 0),(.int .i64 0),(.int .u64 0),(.int .i64 0),(.int .u64 0),(.slice none 0 0)] [(0,1,x11)]) fun x12=>S.bd (bx (Go.Value.agg #[(.int .i64 0),(.bool Bool.false),(.int .i64 0),(.int .i64 0),(.int .u64 0),(.int .i64 0),(.int .u64 0),(.int .i64 0),(.int .i64 0),(.int .u64 0),(.int .i64 0),(.int .u64 0),(.slice none 0 0)])) fun c13=>S.bd (stl c13 0 13 x12) fun c14=>S.bd (show Option Cut from S.bd (lcl c14 0) fun x27=>S.bd (eqb [1] false false x27 (.int .i64 1)) fun x28=>S.bd (S.gd x28 false (lcl c14 0)) fun x29=>S.bd (S.gd x28 false (eqb [1] false false x29 (.int .i64 3))) fun x30=>S.bd (pik x28 (.bool Bool.true) x30) fun x31=>S.cnd x31 (S.bd (Q2f.v a0 (.int .i64 3) r2.2) fun r32=>S.bd (prt 3 1 false r32.1) fun x33=>S.bd (stl c14 1 1 x33) fun c34=>S.bd (Q2e.v a0 r32.2) fun r35=>S.bd (stl c34 2 5 r35.1) fun c36=>S.bd (Q2e.v a0 r35.2) fun r37=>S.bd (stl c36 7 5 r37.1) fun c38=>some (0,[a0,(Value.agg ⟨c1⟩),(Value.agg ⟨c38⟩)],r37.2)) (some (0,[a0,(Value.agg ⟨c1⟩),(Value.agg ⟨c14⟩)],r2.2))) fun r39=>S.bd (lcl (cellsA (r39.2.1.getD 2 undef)) 0) fun x40=>S.bd (eqb [1] false false x40 (.int .i64 1)) fun x41=>S.cnd x41 (S.bd (Q2f.v (r39.2.1.getD 0 undef) (.int .i64 4) r39.2.2) fun r42=>S.bd (prt 4 1 false r42.1) fun x43=>S.bd (stl (cellsA (r39.2.1.getD 2 undef)) 12 1 x43) fun c44=>S.bd (lal c44 0 13) fun x45=>S.bd (stl (cellsA (r39.2.1.getD 1 undef)) 0 13 x45) fun c46=>S.bd (lal c46 0 13) fun x47=>some (x47,r42.2)) (S.bd (lal (cellsA (r39.2.1.getD 2 undef)) 0 13) fun x48=>S.bd (stl (cellsA (r39.2.1.getD 1 undef)) 0 13 x48) fun c49=>S.bd (lal c49 0 13) fun x50=>some (x50,r39.2.2))
def Q2c.t (S:Sig) (a0:Value) (s:St):Option (Value×St) :=
  S.bd (bx (Go.Value.agg #[(.int .i64 0),(.bool Bool.false),(.int .i64 0),(.int .i64 0),(.int .u64 0),(.int .i64 0),(.int .u64 0),(.int .i64 0),(.int .i64 0),(.int .u64 0),(.int .i64 0),(.int .u64 0),(.slice none 0 0)])) fun c1=>S.bd (Q2f.v a0 (.int .i64 1) s) fun r2=>S.bd (prt 1 1 false r2.1) fun x3=>S.bd (bin .gtr x3 (.int .u64 100)) fun x4=>S.cnd x4 (S.bd (nck a0) fun x5=>S.bd (fld 1 x5) fun x6=>S.bd (stv r2.2 1 x6 (.bool Bool.true)) fun s7=>S.bd (bld [(.int .i64 0),(.bool Bool.false),(.int .i64 0),(.int .i64 0),(.int .u64 0),(.int .i64 0),(.int .u64 0),(.int .i64 0),(.int .i64 0),(.int .u64 0),(.int .i64 0),(.int .u64 0),(.slice none 0 0)] []) fun x8=>S.bd (stl c1 0 13 x8) fun c9=>S.bd (lal c9 0 13) fun x10=>some (x10,s7)) (Q2c.t.p1 S x3 a0 r2 c1)
def Q2c.v (a0:Value) (s:St):Option (Value×St):=Q2c.t std a0 s
def Q2c.w:List Value→St→Option (Value×St)
  | [a0],s=>Q2c.v a0 s
  | _,_=>none
def Q2c.an:An:=⟨43,false,[2,4],[],[(10,⟨[],[(.normal,[.v 0,.p 2 2 0,.p 4 4 0,.l 2,.l 4])]⟩)],[],[],[]⟩
theorem Q2c.ok (S:Sig) (a0:Value) (s:St):evF S Try.prog Q2c.ctx Q2c.an Try.f51 [a0] s=Q2c.t S a0 s:=by kernel_rfl
theorem Q2c.cok:CtxOk Try.prog Q2c.ctx:=.cons Q2f.sound Q2f.can <| .cons Q2e.sound Q2e.can <| .nil
theorem Q2c.draws:fnDraws Q2c.an Try.f51=true:=by kernel_rfl
theorem Q2c.can:callOk Try.prog 51=true:=by kernel_rfl
theorem Q2c.sound:FnOk Try.prog 51 (.st Q2c.w):=FnOk.st_of (evF_ok Q2c.cok mixed (f:=51) (fn:=Try.f51) (by kernel_rfl) Q2c.draws) fun args s r h=>by
  unfold Q2c.w at h; split at h
  · rw [Q2c.ok std]; exact h
  · simp at h
def Q2d.ctx:Ctx:=[(49,.st Q2f.w),(31,.rd Q2n.w)]
def Q2d.t.p1 (S:Sig) (x16:Value) (x17:Value) (a0:Value) (r2:Value×St) (c14:List Value) (x18:Value) (x19:Value) (c1:List Value):Option (Value×St) :=
  S.bd (xtr 3 x16) fun x20=>S.bd (show Option Cut from S.cnd x17 (S.bd (Q2f.v a0 (.int .i64 5) r2.2) fun r24=>S.bd (prt 5 2 true r24.1) fun x25=>S.bd (stl c14 1 2 x25) fun c26=>some (0,[a0,x18,x19,x20,(Value.agg ⟨c1⟩),(Value.agg ⟨c26⟩)],r24.2)) (some (0,[a0,x18,x19,x20,(Value.agg ⟨c1⟩),(Value.agg ⟨c14⟩)],r2.2))) fun r27=>S.bd (show Option Cut from S.cnd (r27.2.1.getD 1 undef) (S.bd (Q2f.v (r27.2.1.getD 0 undef) (.int .i64 7) r27.2.2) fun r31=>S.bd (prt 9 5 true r31.1) fun x32=>S.bd (stl (cellsA (r27.2.1.getD 5 undef)) 3 5 x32) fun c33=>some (0,[(r27.2.1.getD 0 undef),(r27.2.1.getD 2 undef),(r27.2.1.getD 3 undef),(Value.agg ⟨(cellsA (r27.2.1.getD 4 undef))⟩),(Value.agg ⟨c33⟩)],r31.2)) (some (0,[(r27.2.1.getD 0 undef),(r27.2.1.getD 2 undef),(r27.2.1.getD 3 undef),(Value.agg ⟨(cellsA (r27.2.1.getD 4 undef))⟩),(Value.agg ⟨(cellsA (r27.2.1.getD 5 undef))⟩)],r27.2.2))) fun r34=>S.bd (show Option Cut from S.cnd (r34.2.1.getD 1 undef) (S.bd (Q2f.v (r34.2.1.getD 0 undef) (.int .i64 7) r34.2.2) fun r38=>S.bd (prt 9 5 true r38.1) fun x39=>S.bd (stl (cellsA (r34.2.1.getD 4 undef)) 8 5 x39) fun c40=>some (0,[(r34.2.1.getD 0 undef),(r34.2.1.getD 2 undef),(Value.agg ⟨(cellsA (r34.2.1.getD 3 undef))⟩),(Value.agg ⟨c40⟩)],r38.2)) (some (0,[(r34.2.1.getD 0 undef),(r34.2.1.getD 2 undef),(Value.agg ⟨(cellsA (r34.2.1.getD 3 undef))⟩),(Value.agg ⟨(cellsA (r34.2.1.getD 4 undef))⟩)],r34.2.2))) fun r41=>S.cnd (r41.2.1.getD 1 undef) (S.bd (Q2f.v (r41.2.1.getD 0 undef) (.int .i64 2) r41.2.2) fun r42=>S.bd (prt 2 1 false r42.1) fun x43=>S.bd (stl (cellsA (r41.2.1.getD 3 undef)) 13 1 x43) fun c44=>S.bd (Q2f.v (r41.2.1.getD 0 undef) (.int .i64 2) r42.2) fun r45=>S.bd (prt 2 1 false r45.1) fun x46=>S.bd (stl c44 14 1 x46) fun c47=>S.bd (lal c47 0 15) fun x48=>S.bd (stl (cellsA (r41.2.1.getD 2 undef)) 0 15 x48) fun c49=>S.bd (lal c49 0 15) fun x50=>some (x50,r45.2)) (S.bd (lal (cellsA (r41.2.1.getD 3 undef)) 0 15) fun x51=>S.bd (stl (cellsA (r41.2.1.getD 2 undef)) 0 15 x51) fun c52=>S.bd (lal c52 0 15) fun x53=>some (x53,r41.2.2))
def Q2d.t (S:Sig) (a0:Value) (s:St):Option (Value×St) :=
  S.bd (bx (Go.Value.agg #[(.int .i64 0),(.int .i64 0),(.int .u64 0),(.int .i64 0),(.int .i64 0),(.int .u64 0),(.int .i64 0),(.int .u64 0),(.int .i64 0),(.int .i64 0),(.int .u64 0),(.int .i64 0),(.int .u64 0),(.int .i64 0),(.int .i64 0)])) fun c1=>S.bd (Q2f.v a0 (.int .i64 1) s) fun r2=>S.bd (prt 1 1 false r2.1) fun x3=>S.bd (bin .gtr x3 (.int .u64 100)) fun x4=>S.cnd x4 (S.bd (nck a0) fun x5=>S.bd (fld 1 x5) fun x6=>S.bd (stv r2.2 1 x6 (.bool Bool.true)) fun s7=>S.bd (bld [(.int .i64 0),(.int .i64 0),(.int .u64 0),(.int .i64 0),(.int .i64 0),(.int .u64 0),(.int .i64 0),(.int .u64 0),(.int .i64 0),(.int .i64 0),(.int .u64 0),(.int .i64 0),(.int .u64 0),(.int .i64 0),(.int .i64 0)] []) fun x8=>S.bd (stl c1 0 15 x8) fun c9=>S.bd (lal c9 0 15) fun x10=>some (x10,s7)) (S.bd (cvi .i64 x3) fun x11=>S.bd (bld [(.int .i64 0),(.int .i64 0),(.int .u64 0),(.int .i64 0),(.int .i64 0),(.int .u64 0),(.int .i64 0),(.int .u64 0),(.int .i64 0),(.int .i64 0),(.int .u64 0),(.int .i64 0),(.int .u64 0),(.int .i64 0),(.int .i64 0)] [(0,1,x11)]) fun x12=>S.bd (bx (Go.Value.agg #[(.int .i64 0),(.int .i64 0),(.int .u64 0),(.int .i64 0),(.int .i64 0),(.int .u64 0),(.int .i64 0),(.int .u64 0),(.int .i64 0),(.int .i64 0),(.int .u64 0),(.int .i64 0),(.int .u64 0),(.int .i64 0),(.int .i64 0)])) fun c13=>S.bd (stl c13 0 15 x12) fun c14=>S.bd (lcl c14 0) fun x15=>S.bd (Q2n.r x15 r2.2) fun x16=>S.bd (xtr 0 x16) fun x17=>S.bd (xtr 1 x16) fun x18=>S.bd (xtr 2 x16) fun x19=>Q2d.t.p1 S x16 x17 a0 r2 c14 x18 x19 c1)
def Q2d.v (a0:Value) (s:St):Option (Value×St):=Q2d.t std a0 s
def Q2d.w:List Value→St→Option (Value×St)
  | [a0],s=>Q2d.v a0 s
  | _,_=>none
def Q2d.an:An:=⟨56,false,[2,4],[],[(9,⟨[],[(.normal,[.v 0,.p 2 2 0,.p 4 4 0,.v 6,.v 7,.v 8,.l 2,.l 4])]⟩),(11,⟨[],[(.normal,[.v 0,.p 2 2 0,.p 4 4 0,.v 7,.v 8,.l 2,.l 4])]⟩),(13,⟨[],[(.normal,[.v 0,.p 2 2 0,.p 4 4 0,.v 8,.l 2,.l 4])]⟩)],[],[],[]⟩
theorem Q2d.ok (S:Sig) (a0:Value) (s:St):evF S Try.prog Q2d.ctx Q2d.an Try.f52 [a0] s=Q2d.t S a0 s:=by kernel_rfl
theorem Q2d.cok:CtxOk Try.prog Q2d.ctx:=.cons Q2f.sound Q2f.can <| .cons Q2n.sound Q2n.can <| .nil
theorem Q2d.draws:fnDraws Q2d.an Try.f52=true:=by kernel_rfl
theorem Q2d.can:callOk Try.prog 52=true:=by kernel_rfl
theorem Q2d.sound:FnOk Try.prog 52 (.st Q2d.w):=FnOk.st_of (evF_ok Q2d.cok mixed (f:=52) (fn:=Try.f52) (by kernel_rfl) Q2d.draws) fun args s r h=>by
  unfold Q2d.w at h; split at h
  · rw [Q2d.ok std]; exact h
  · simp at h
def Q29.ctx:Ctx:=[(49,.st Q2f.w),(50,.st Q2b.w),(51,.st Q2c.w),(52,.st Q2d.w),(25,.st Q2a.w)]
def Q29.t.p1 (S:Sig) (x36:Value) (r28:Value×St) (x37:Value) (r26:Cut):Option (Value×St) :=
  S.bd (S.gd x36 false (b2s r28.2 x37)) fun x38=>S.bd (S.gd x36 false (some (r26.2.1.getD 0 undef))) fun x39=>S.bd (S.gd x36 false (b2s r28.2 x39)) fun x40=>S.bd (S.gd x36 false (eqb [2] false true x38 x40)) fun x41=>S.bd (pik x36 (.bool Bool.true) x41) fun x42=>S.cnd x42 (S.bd (bld [(.bool Bool.false),(.bool Bool.false),(.int .i64 0),(.bool Bool.false),(.int .i64 0),(.int .i64 0),(.int .i64 0),(.int .i64 0),(.int .u64 0),(.int .i64 0),(.int .i64 0),(.int .u64 0),(.int .i64 0),(.int .u64 0),(.int .i64 0),(.int .i64 0),(.int .u64 0),(.int .i64 0),(.int .u64 0),(.int .i64 0),(.int .i64 0),(.int .i64 0),(.bool Bool.false),(.int .i64 0),(.int .i64 0),(.int .u64 0),(.int .i64 0),(.int .u64 0),(.int .i64 0),(.int .i64 0),(.int .u64 0),(.int .i64 0),(.int .u64 0),(.slice none 0 0)] []) fun x43=>S.bd (stl (cellsA (r26.2.1.getD 2 undef)) 0 34 x43) fun c44=>S.bd (lal c44 0 34) fun x45=>some ((Value.tuple ⟨[x45,(.int .i64 40)]⟩),r28.2)) (S.bd (lal (cellsA (r26.2.1.getD 3 undef)) 0 34) fun x46=>S.bd (stl (cellsA (r26.2.1.getD 2 undef)) 0 34 x46) fun c47=>S.bd (lal c47 0 34) fun x48=>some ((Value.tuple ⟨[x48,(.int .i64 0)]⟩),r28.2))
def Q29.t (S:Sig) (a0:Value) (s:St):Option (Value×St) :=
  S.bd (bx (Go.Value.agg #[(.bool Bool.false),(.bool Bool.false),(.int .i64 0),(.bool Bool.false),(.int .i64 0),(.int .i64 0),(.int .i64 0),(.int .i64 0),(.int .u64 0),(.int .i64 0),(.int .i64 0),(.int .u64 0),(.int .i64 0),(.int .u64 0),(.int .i64 0),(.int .i64 0),(.int .u64 0),(.int .i64 0),(.int .u64 0),(.int .i64 0),(.int .i64 0),(.int .i64 0),(.bool Bool.false),(.int .i64 0),(.int .i64 0),(.int .u64 0),(.int .i64 0),(.int .u64 0),(.int .i64 0),(.int .i64 0),(.int .u64 0),(.int .i64 0),(.int .u64 0),(.slice none 0 0)])) fun c1=>S.bd (bld [(.slice none 0 0),(.bool Bool.false)] [(0,1,a0)]) fun x2=>S.bd (alv s x2) fun r3=>S.bd (Q2f.v r3.1 (.int .i64 3) r3.2) fun r4=>S.bd (prt 3 1 false r4.1) fun x5=>S.bd (bld [(.bool Bool.false),(.bool Bool.false),(.int .i64 0),(.bool Bool.false),(.int .i64 0),(.int .i64 0),(.int .i64 0),(.int .i64 0),(.int .u64 0),(.int .i64 0),(.int .i64 0),(.int .u64 0),(.int .i64 0),(.int .u64 0),(.int .i64 0),(.int .i64 0),(.int .u64 0),(.int .i64 0),(.int .u64 0),(.int .i64 0),(.int .i64 0),(.int .i64 0),(.bool Bool.false),(.int .i64 0),(.int .i64 0),(.int .u64 0),(.int .i64 0),(.int .u64 0),(.int .i64 0),(.int .i64 0),(.int .u64 0),(.int .i64 0),(.int .u64 0),(.slice none 0 0)] [(0,1,x5)]) fun x6=>S.bd (bx (Go.Value.agg #[(.bool Bool.false),(.bool Bool.false),(.int .i64 0),(.bool Bool.false),(.int .i64 0),(.int .i64 0),(.int .i64 0),(.int .i64 0),(.int .u64 0),(.int .i64 0),(.int .i64 0),(.int .u64 0),(.int .i64 0),(.int .u64 0),(.int .i64 0),(.int .i64 0),(.int .u64 0),(.int .i64 0),(.int .u64 0),(.int .i64 0),(.int .i64 0),(.int .i64 0),(.bool Bool.false),(.int .i64 0),(.int .i64 0),(.int .u64 0),(.int .i64 0),(.int .u64 0),(.int .i64 0),(.int .i64 0),(.int .u64 0),(.int .i64 0),(.int .u64 0),(.slice none 0 0)])) fun c7=>S.bd (stl c7 0 34 x6) fun c8=>S.bd (Q2b.v r3.1 r4.2) fun r9=>S.bd (stl c8 1 2 r9.1) fun c10=>S.bd (Q2b.v r3.1 r9.2) fun r11=>S.bd (stl c10 3 2 r11.1) fun c12=>S.bd (Q2f.v r3.1 (.int .i64 2) r11.2) fun r13=>S.bd (prt 2 1 false r13.1) fun x14=>S.bd (stl c12 5 1 x14) fun c15=>S.bd (show Option Cut from S.bd (lcl c15 0) fun x21=>S.cnd x21 (S.bd (Q2c.v r3.1 r13.2) fun r22=>S.bd (stl c15 21 13 r22.1) fun c23=>some (0,[a0,r3.1,(Value.agg ⟨c1⟩),(Value.agg ⟨c23⟩)],r22.2)) (S.bd (Q2d.v r3.1 r13.2) fun r24=>S.bd (stl c15 6 15 r24.1) fun c25=>some (0,[a0,r3.1,(Value.agg ⟨c1⟩),(Value.agg ⟨c25⟩)],r24.2))) fun r26=>S.bd (lal (cellsA (r26.2.1.getD 3 undef)) 0 34) fun x27=>S.bd (Q2a.v x27 r26.2.2) fun r28=>S.bd (xtr 0 r28.1) fun x29=>S.bd (xtr 1 r28.1) fun x30=>S.bd (nck (r26.2.1.getD 1 undef)) fun x31=>S.bd (fld 1 x31) fun x32=>S.bd (ldc r28.2 x32) fun x33=>S.bd (S.gd x33 false (some x30)) fun x34=>S.bd (S.gd x33 false (eqb [1] false true x34 (.int .i64 0))) fun x35=>S.bd (pik x33 (.bool Bool.true) x35) fun x36=>S.bd (S.gd x36 false (some x29)) fun x37=>Q29.t.p1 S x36 r28 x37 r26
def Q29.v (a0:Value) (s:St):Option (Value×St):=Q29.t std a0 s
def Q29.w:List Value→St→Option (Value×St)
  | [a0],s=>Q29.v a0 s
  | _,_=>none
def Q29.an:An:=⟨55,false,[2,5],[],[(9,⟨[],[(.normal,[.v 0,.p 2 2 0,.v 4,.p 5 5 0,.l 2,.l 5])]⟩)],[],[],[]⟩
theorem Q29.ok (S:Sig) (a0:Value) (s:St):evF S Try.prog Q29.ctx Q29.an Try.f27 [a0] s=Q29.t S a0 s:=by kernel_rfl
theorem Q29.cok:CtxOk Try.prog Q29.ctx:=.cons Q2f.sound Q2f.can <| .cons Q2b.sound Q2b.can <| .cons Q2c.sound Q2c.can <| .cons Q2d.sound Q2d.can <| .cons Q2a.sound Q2a.can <| .nil
theorem Q29.draws:fnDraws Q29.an Try.f27=true:=by kernel_rfl
theorem Q29.can:callOk Try.prog 27=true:=by kernel_rfl
theorem Q29.sound:FnOk Try.prog 27 (.st Q29.w):=FnOk.st_of (evF_ok Q29.cok mixed (f:=27) (fn:=Try.f27) (by kernel_rfl) Q29.draws) fun args s r h=>by
  unfold Q29.w at h; split at h
  · rw [Q29.ok std]; exact h
  · simp at h
def Q5.ctx:Ctx:=[(9,.rd Qb.w),(23,.rd Qa.w),(24,.st Qh.w),(25,.st Q2a.w),(26,.st Qg.w),(27,.st Q29.w),(21,.rd Q2h.w),(22,.rd Q9.w)]
def Q5.t.p1 (S:Sig) (x4:Value) (r14:Value×St) (x8:Value) (x12:Value) (x9:Value) (x13:Value) (c18:List Value) (x16:Value):Option (Value×St) :=
  S.bd (Q29.v x4 r14.2) fun r19=>S.bd (xtr 0 r19.1) fun x20=>S.bd (xtr 1 r19.1) fun x21=>S.bd (bx (Go.Value.agg #[(.bool Bool.false),(.bool Bool.false),(.int .i64 0),(.bool Bool.false),(.int .i64 0),(.int .i64 0),(.int .i64 0),(.int .i64 0),(.int .u64 0),(.int .i64 0),(.int .i64 0),(.int .u64 0),(.int .i64 0),(.int .u64 0),(.int .i64 0),(.int .i64 0),(.int .u64 0),(.int .i64 0),(.int .u64 0),(.int .i64 0),(.int .i64 0),(.int .i64 0),(.bool Bool.false),(.int .i64 0),(.int .i64 0),(.int .u64 0),(.int .i64 0),(.int .u64 0),(.int .i64 0),(.int .i64 0),(.int .u64 0),(.int .i64 0),(.int .u64 0),(.slice none 0 0)])) fun c22=>S.bd (stl c22 0 34 x20) fun c23=>S.bd (b2s r19.2 x8) fun x24=>S.bd (b2s r19.2 x12) fun x25=>S.bd (eqb [2] false false x24 x25) fun x26=>S.bd (S.gd x26 true (some x9)) fun x27=>S.bd (S.gd x26 true (some x13)) fun x28=>S.bd (S.gd x26 true (eqb [1] false false x27 x28)) fun x29=>S.bd (pik x26 x29 (.bool Bool.false)) fun x30=>S.bd (S.gd x30 true (lal c18 0 34)) fun x31=>S.bd (S.gd x30 true (lal c23 0 34)) fun x32=>S.bd (S.gd x30 true (Q2h.r x31 x32 r19.2)) fun x33=>S.bd (pik x30 x33 (.bool Bool.false)) fun x34=>S.bd (S.gd x34 true (some x16)) fun x35=>S.bd (S.gd x34 true (some x21)) fun x36=>S.bd (S.gd x34 true (eqb [1] false false x35 x36)) fun x37=>S.bd (pik x34 x37 (.bool Bool.false)) fun x38=>S.bd (S.gd x38 true (Q9.r  r19.2)) fun x39=>S.bd (pik x38 x39 (.bool Bool.false)) fun x40=>some (x40,r19.2)
def Q5.t (S:Sig) (a0 a1:Value) (s:St):Option (Value×St) :=
  S.bd (bx a0) fun c1=>S.bd (lal c1 0 34) fun x2=>S.bd (Qb.r x2 s) fun x3=>S.bd (Qa.r a1 s) fun x4=>S.bd (stl c1 0 34 x3) fun c5=>S.bd (lal c5 0 34) fun x6=>S.bd (Qh.v x6 s) fun r7=>S.bd (xtr 0 r7.1) fun x8=>S.bd (xtr 1 r7.1) fun x9=>S.bd (lal c5 0 34) fun x10=>S.bd (Q2a.v x10 r7.2) fun r11=>S.bd (xtr 0 r11.1) fun x12=>S.bd (xtr 1 r11.1) fun x13=>S.bd (Qg.v x4 r11.2) fun r14=>S.bd (xtr 0 r14.1) fun x15=>S.bd (xtr 1 r14.1) fun x16=>S.bd (bx (Go.Value.agg #[(.bool Bool.false),(.bool Bool.false),(.int .i64 0),(.bool Bool.false),(.int .i64 0),(.int .i64 0),(.int .i64 0),(.int .i64 0),(.int .u64 0),(.int .i64 0),(.int .i64 0),(.int .u64 0),(.int .i64 0),(.int .u64 0),(.int .i64 0),(.int .i64 0),(.int .u64 0),(.int .i64 0),(.int .u64 0),(.int .i64 0),(.int .i64 0),(.int .i64 0),(.bool Bool.false),(.int .i64 0),(.int .i64 0),(.int .u64 0),(.int .i64 0),(.int .u64 0),(.int .i64 0),(.int .i64 0),(.int .u64 0),(.int .i64 0),(.int .u64 0),(.slice none 0 0)])) fun c17=>S.bd (stl c17 0 34 x15) fun c18=>Q5.t.p1 S x4 r14 x8 x12 x9 x13 c18 x16
def Q5.v (a0 a1:Value) (s:St):Option (Value×St):=Q5.t std a0 a1 s
def Q5.w:List Value→St→Option (Value×St)
  | [a0,a1],s=>Q5.v a0 a1 s
  | _,_=>none
def Q5.an:An:=⟨60,false,[2,9,11],[],[],[],[],[]⟩
theorem Q5.ok (S:Sig) (a0 a1:Value) (s:St):evF S Try.prog Q5.ctx Q5.an Try.f4 [a0,a1] s=Q5.t S a0 a1 s:=by kernel_rfl
theorem Q5.cok:CtxOk Try.prog Q5.ctx:=.cons Qb.sound Qb.can <| .cons Qa.sound Qa.can <| .cons Qh.sound Qh.can <| .cons Q2a.sound Q2a.can <| .cons Qg.sound Qg.can <| .cons Q29.sound Q29.can <| .cons Q2h.sound Q2h.can <| .cons Q9.sound Q9.can <| .nil
theorem Q5.draws:fnDraws Q5.an Try.f4=true:=by kernel_rfl
theorem Q5.can:callOk Try.prog 4=true:=by kernel_rfl
theorem Q5.sound:FnOk Try.prog 4 (.st Q5.w):=FnOk.st_of (evF_ok Q5.cok mixed (f:=4) (fn:=Try.f4) (by kernel_rfl) Q5.draws) fun args s r h=>by
  unfold Q5.w at h; split at h
  · rw [Q5.ok std]; exact h
  · simp at h
def Q2g.ctx:Ctx:=[(15,.rd Q26.w),(13,.rd Q27.w)]
def Q2g.t.p1 (S:Sig) (x8:Value) (x9:Value) (s:St) (c3:List Value) (c1:List Value) (c2:List Value):Option Value :=
  S.bd (S.gd x8 false (Q27.r x9 s)) fun x10=>S.bd (S.gd x8 false (eqb [1] false true x10 (.int .i64 0))) fun x11=>S.bd (pik x8 (.bool Bool.true) x11) fun x12=>S.cnd x12 (S.bd (bld [(.bool Bool.false),(.bool Bool.false),(.int .i64 0),(.bool Bool.false),(.int .i64 0),(.int .i64 0),(.int .i64 0),(.int .i64 0),(.int .u64 0),(.int .i64 0),(.int .i64 0),(.int .u64 0),(.int .i64 0),(.int .u64 0),(.int .i64 0),(.int .i64 0),(.int .u64 0),(.int .i64 0),(.int .u64 0),(.int .i64 0),(.int .i64 0),(.int .i64 0),(.bool Bool.false),(.int .i64 0),(.int .i64 0),(.int .u64 0),(.int .i64 0),(.int .u64 0),(.int .i64 0),(.int .i64 0),(.int .u64 0),(.int .i64 0),(.int .u64 0),(.slice none 0 0)] []) fun x13=>S.bd (stl c3 0 34 x13) fun c14=>S.bd (lal c14 0 34) fun x15=>some ((Value.tuple ⟨[x15,(.int .i64 40)]⟩))) (S.bd (lal c1 3 2) fun x16=>S.bd (lal c1 1 2) fun x17=>S.bd (lcl c1 5) fun x18=>S.bd (lal c2 0 13) fun x19=>S.bd (bld [(.bool Bool.false),(.bool Bool.false),(.int .i64 0),(.bool Bool.false),(.int .i64 0),(.int .i64 0),(.int .i64 0),(.int .i64 0),(.int .u64 0),(.int .i64 0),(.int .i64 0),(.int .u64 0),(.int .i64 0),(.int .u64 0),(.int .i64 0),(.int .i64 0),(.int .u64 0),(.int .i64 0),(.int .u64 0),(.int .i64 0),(.int .i64 0),(.int .i64 0),(.bool Bool.false),(.int .i64 0),(.int .i64 0),(.int .u64 0),(.int .i64 0),(.int .u64 0),(.int .i64 0),(.int .i64 0),(.int .u64 0),(.int .i64 0),(.int .u64 0),(.slice none 0 0)] [(0,1,(.bool Bool.true)),(1,2,x16),(3,2,x17),(5,1,x18),(21,13,x19)]) fun x20=>S.bd (stl c3 0 34 x20) fun c21=>S.bd (lal c21 0 34) fun x22=>some ((Value.tuple ⟨[x22,(.int .i64 0)]⟩)))
def Q2g.t (S:Sig) (a0 a1:Value) (s:St):Option Value :=
  S.bd (bx a0) fun c1=>S.bd (bx a1) fun c2=>S.bd (bx (Go.Value.agg #[(.bool Bool.false),(.bool Bool.false),(.int .i64 0),(.bool Bool.false),(.int .i64 0),(.int .i64 0),(.int .i64 0),(.int .i64 0),(.int .u64 0),(.int .i64 0),(.int .i64 0),(.int .u64 0),(.int .i64 0),(.int .u64 0),(.int .i64 0),(.int .i64 0),(.int .u64 0),(.int .i64 0),(.int .u64 0),(.int .i64 0),(.int .i64 0),(.int .i64 0),(.bool Bool.false),(.int .i64 0),(.int .i64 0),(.int .u64 0),(.int .i64 0),(.int .u64 0),(.int .i64 0),(.int .i64 0),(.int .u64 0),(.int .i64 0),(.int .u64 0),(.slice none 0 0)])) fun c3=>S.bd (lal c1 0 34) fun x4=>S.bd (Q26.r x4 s) fun x5=>S.bd (eqb [1] false true x5 (.int .i64 0)) fun x6=>S.bd (S.gd x6 false (lcl c1 0)) fun x7=>S.bd (pik x6 (.bool Bool.true) x7) fun x8=>S.bd (S.gd x8 false (lal c2 0 13)) fun x9=>Q2g.t.p1 S x8 x9 s c3 c1 c2
def Q2g.r (a0 a1:Value) (s:St):Option Value:=Q2g.t std a0 a1 s
def Q2g.w:List Value→St→Option Value
  | [a0,a1],s=>Q2g.r a0 a1 s
  | _,_=>none
def Q2g.an:An:=⟨27,true,[2,3,4],[],[],[],[],[]⟩
theorem Q2g.ok (S:Sig) (a0 a1:Value) (s:St):evG S Try.prog Q2g.ctx Q2g.an Try.f29 [a0,a1] s=Q2g.t S a0 a1 s:=by kernel_rfl
theorem Q2g.cok:CtxOk Try.prog Q2g.ctx:=.cons Q26.sound Q26.can <| .cons Q27.sound Q27.can <| .nil
theorem Q2g.draws:fnDraws Q2g.an Try.f29=true:=by kernel_rfl
theorem Q2g.can:callOk Try.prog 29=true:=by kernel_rfl
theorem Q2g.sound:FnOk Try.prog 29 (.rd Q2g.w):=FnOk.rd_of (evG_ok Q2g.cok mixed (f:=29) (fn:=Try.f29) (by kernel_rfl) Q2g.draws) fun args s r h=>by
  unfold Q2g.w at h; split at h
  · rw [Q2g.ok std]; exact h
  · simp at h
def Q7.ctx:Ctx:=[(9,.rd Qb.w),(23,.rd Qa.w),(28,.st Qi.w),(29,.rd Q2g.w),(21,.rd Q2h.w),(22,.rd Q9.w)]
def Q7.t.p1 (S:Sig) (c8:List Value) (x9:Value) (s:St) (c5:List Value):Option (Value×St) :=
  S.bd (lal c8 0 13) fun x10=>S.bd (Qi.v x9 x10 s) fun r11=>S.bd (xtr 0 r11.1) fun x12=>S.bd (xtr 1 r11.1) fun x13=>S.bd (bx (Go.Value.agg #[(.bool Bool.false),(.bool Bool.false),(.int .i64 0),(.bool Bool.false),(.int .i64 0),(.int .i64 0),(.int .i64 0),(.int .i64 0),(.int .u64 0),(.int .i64 0),(.int .i64 0),(.int .u64 0),(.int .i64 0),(.int .u64 0),(.int .i64 0),(.int .i64 0),(.int .u64 0),(.int .i64 0),(.int .u64 0),(.int .i64 0),(.int .i64 0),(.int .i64 0),(.bool Bool.false),(.int .i64 0),(.int .i64 0),(.int .u64 0),(.int .i64 0),(.int .u64 0),(.int .i64 0),(.int .i64 0),(.int .u64 0),(.int .i64 0),(.int .u64 0),(.slice none 0 0)])) fun c14=>S.bd (stl c14 0 34 x12) fun c15=>S.bd (lal c5 0 34) fun x16=>S.bd (lal c8 0 13) fun x17=>S.bd (Q2g.r x16 x17 r11.2) fun x18=>S.bd (xtr 0 x18) fun x19=>S.bd (xtr 1 x18) fun x20=>S.bd (bx (Go.Value.agg #[(.bool Bool.false),(.bool Bool.false),(.int .i64 0),(.bool Bool.false),(.int .i64 0),(.int .i64 0),(.int .i64 0),(.int .i64 0),(.int .u64 0),(.int .i64 0),(.int .i64 0),(.int .u64 0),(.int .i64 0),(.int .u64 0),(.int .i64 0),(.int .i64 0),(.int .u64 0),(.int .i64 0),(.int .u64 0),(.int .i64 0),(.int .i64 0),(.int .i64 0),(.bool Bool.false),(.int .i64 0),(.int .i64 0),(.int .u64 0),(.int .i64 0),(.int .u64 0),(.int .i64 0),(.int .i64 0),(.int .u64 0),(.int .i64 0),(.int .u64 0),(.slice none 0 0)])) fun c21=>S.bd (stl c21 0 34 x19) fun c22=>S.bd (lal c15 0 34) fun x23=>S.bd (lal c22 0 34) fun x24=>S.bd (Q2h.r x23 x24 r11.2) fun x25=>S.bd (S.gd x25 true (some x13)) fun x26=>S.bd (S.gd x25 true (some x20)) fun x27=>S.bd (S.gd x25 true (eqb [1] false false x26 x27)) fun x28=>S.bd (pik x25 x28 (.bool Bool.false)) fun x29=>S.bd (S.gd x29 true (Q9.r  r11.2)) fun x30=>S.bd (pik x29 x30 (.bool Bool.false)) fun x31=>some (x31,r11.2)
def Q7.t (S:Sig) (a0 a1:Value) (s:St):Option (Value×St) :=
  S.bd (bx a0) fun c1=>S.bd (bx a1) fun c2=>S.bd (lal c1 0 34) fun x3=>S.bd (Qb.r x3 s) fun x4=>S.bd (stl c1 0 34 x4) fun c5=>S.bd (lcl c2 12) fun x6=>S.bd (Qa.r x6 s) fun x7=>S.bd (stl c2 12 1 x7) fun c8=>S.bd (lal c5 0 34) fun x9=>Q7.t.p1 S c8 x9 s c5
def Q7.v (a0 a1:Value) (s:St):Option (Value×St):=Q7.t std a0 a1 s
def Q7.w:List Value→St→Option (Value×St)
  | [a0,a1],s=>Q7.v a0 a1 s
  | _,_=>none
def Q7.an:An:=⟨38,false,[2,3,5,7],[],[],[],[],[]⟩
theorem Q7.ok (S:Sig) (a0 a1:Value) (s:St):evF S Try.prog Q7.ctx Q7.an Try.f5 [a0,a1] s=Q7.t S a0 a1 s:=by kernel_rfl
theorem Q7.cok:CtxOk Try.prog Q7.ctx:=.cons Qb.sound Qb.can <| .cons Qa.sound Qa.can <| .cons Qi.sound Qi.can <| .cons Q2g.sound Q2g.can <| .cons Q2h.sound Q2h.can <| .cons Q9.sound Q9.can <| .nil
theorem Q7.draws:fnDraws Q7.an Try.f5=true:=by kernel_rfl
theorem Q7.can:callOk Try.prog 5=true:=by kernel_rfl
theorem Q7.sound:FnOk Try.prog 5 (.st Q7.w):=FnOk.st_of (evF_ok Q7.cok mixed (f:=5) (fn:=Try.f5) (by kernel_rfl) Q7.draws) fun args s r h=>by
  unfold Q7.w at h; split at h
  · rw [Q7.ok std]; exact h
  · simp at h
def Q4.ctx:Ctx:=[(22,.rd Q9.w),(9,.rd Qb.w),(23,.rd Qa.w),(24,.st Qh.w),(26,.st Qg.w),(21,.rd Q2h.w)]
def Q4.t.p1 (S:Sig) (r36:Cut):Option (Value×St) :=
  S.bd (Qg.v (r36.2.1.getD 0 undef) r36.2.2) fun r37=>S.bd (xtr 0 r37.1) fun x38=>S.bd (xtr 1 r37.1) fun x39=>S.bd (bx (Go.Value.agg #[(.bool Bool.false),(.bool Bool.false),(.int .i64 0),(.bool Bool.false),(.int .i64 0),(.int .i64 0),(.int .i64 0),(.int .i64 0),(.int .u64 0),(.int .i64 0),(.int .i64 0),(.int .u64 0),(.int .i64 0),(.int .u64 0),(.int .i64 0),(.int .i64 0),(.int .u64 0),(.int .i64 0),(.int .u64 0),(.int .i64 0),(.int .i64 0),(.int .i64 0),(.bool Bool.false),(.int .i64 0),(.int .i64 0),(.int .u64 0),(.int .i64 0),(.int .u64 0),(.int .i64 0),(.int .i64 0),(.int .u64 0),(.int .i64 0),(.int .u64 0),(.slice none 0 0)])) fun c40=>S.bd (stl c40 0 34 x38) fun c41=>S.bd (eqb [1] false true x39 (.int .i64 0)) fun x42=>S.cnd x42 (S.bd (lal c41 0 34) fun x43=>S.bd (bld [(.bool Bool.false),(.bool Bool.false),(.int .i64 0),(.bool Bool.false),(.int .i64 0),(.int .i64 0),(.int .i64 0),(.int .i64 0),(.int .u64 0),(.int .i64 0),(.int .i64 0),(.int .u64 0),(.int .i64 0),(.int .u64 0),(.int .i64 0),(.int .i64 0),(.int .u64 0),(.int .i64 0),(.int .u64 0),(.int .i64 0),(.int .i64 0),(.int .i64 0),(.bool Bool.false),(.int .i64 0),(.int .i64 0),(.int .u64 0),(.int .i64 0),(.int .u64 0),(.int .i64 0),(.int .i64 0),(.int .u64 0),(.int .i64 0),(.int .u64 0),(.slice none 0 0)] []) fun x44=>S.bd (Q2h.r x43 x44 r37.2) fun x45=>some (x45,r37.2)) (S.bd (lal c41 0 34) fun x46=>S.bd (Qh.v x46 r37.2) fun r47=>S.bd (xtr 0 r47.1) fun x48=>S.bd (xtr 1 r47.1) fun x49=>S.bd (eqb [1] false false x49 (.int .i64 0)) fun x50=>S.bd (S.gd x50 true (some x48)) fun x51=>S.bd (S.gd x50 true (b2s r47.2 x51)) fun x52=>S.bd (S.gd x50 true (some (r36.2.1.getD 0 undef))) fun x53=>S.bd (S.gd x50 true (b2s r47.2 x53)) fun x54=>S.bd (S.gd x50 true (eqb [2] false false x52 x54)) fun x55=>S.bd (pik x50 x55 (.bool Bool.false)) fun x56=>some (x56,r47.2))
def Q4.t.p2 (S:Sig) (c1:List Value) (s:St) (a1:Value):Option (Value×St) :=
  S.bd (lal c1 0 34) fun x4=>S.bd (Qb.r x4 s) fun x5=>S.bd (Qa.r a1 s) fun x6=>S.bd (stl c1 0 34 x5) fun c7=>S.bd (lal c7 0 34) fun x8=>S.bd (Qh.v x8 s) fun r9=>S.bd (xtr 0 r9.1) fun x10=>S.bd (xtr 1 r9.1) fun x11=>S.bd (show Option Cut from S.bd (eqb [1] false false x11 (.int .i64 0)) fun x24=>S.cnd x24 (S.bd (Qg.v x10 r9.2) fun r25=>S.bd (xtr 0 r25.1) fun x26=>S.bd (xtr 1 r25.1) fun x27=>S.bd (bx (Go.Value.agg #[(.bool Bool.false),(.bool Bool.false),(.int .i64 0),(.bool Bool.false),(.int .i64 0),(.int .i64 0),(.int .i64 0),(.int .i64 0),(.int .u64 0),(.int .i64 0),(.int .i64 0),(.int .u64 0),(.int .i64 0),(.int .u64 0),(.int .i64 0),(.int .i64 0),(.int .u64 0),(.int .i64 0),(.int .u64 0),(.int .i64 0),(.int .i64 0),(.int .i64 0),(.bool Bool.false),(.int .i64 0),(.int .i64 0),(.int .u64 0),(.int .i64 0),(.int .u64 0),(.int .i64 0),(.int .i64 0),(.int .u64 0),(.int .i64 0),(.int .u64 0),(.slice none 0 0)])) fun c28=>S.bd (stl c28 0 34 x26) fun c29=>S.bd (eqb [1] false true x27 (.int .i64 0)) fun x30=>S.bd (S.gd x30 false (lal c7 0 34)) fun x31=>S.bd (S.gd x30 false (lal c29 0 34)) fun x32=>S.bd (S.gd x30 false (Q2h.r x31 x32 r25.2)) fun x33=>S.bd (S.gd x30 false (un .not x33)) fun x34=>S.bd (pik x30 (.bool Bool.true) x34) fun x35=>S.cnd x35 (some (1,[(.bool Bool.false)],r25.2)) (some (0,[x6],r25.2))) (some (0,[x6],r9.2))) fun r36=>if r36.1=0 then (Q4.t.p1 S r36) else (some ((r36.2.1.getD 0 undef),r36.2.2))
def Q4.t (S:Sig) (a0 a1:Value) (s:St):Option (Value×St) :=
  S.bd (bx a0) fun c1=>S.bd (Q9.r  s) fun x2=>S.bd (un .not x2) fun x3=>S.cnd x3 (some ((.bool Bool.false),s)) (Q4.t.p2 S c1 s a1)
def Q4.v (a0 a1:Value) (s:St):Option (Value×St):=Q4.t std a0 a1 s
def Q4.w:List Value→St→Option (Value×St)
  | [a0,a1],s=>Q4.v a0 a1 s
  | _,_=>none
def Q4.an:An:=⟨63,false,[2,7,9],[],[(9,⟨[],[(.normal,[.v 1]),(.ret,[.v 4])]⟩)],[],[],[]⟩
theorem Q4.ok (S:Sig) (a0 a1:Value) (s:St):evF S Try.prog Q4.ctx Q4.an Try.f6 [a0,a1] s=Q4.t S a0 a1 s:=by kernel_rfl
theorem Q4.cok:CtxOk Try.prog Q4.ctx:=.cons Q9.sound Q9.can <| .cons Qb.sound Qb.can <| .cons Qa.sound Qa.can <| .cons Qh.sound Qh.can <| .cons Qg.sound Qg.can <| .cons Q2h.sound Q2h.can <| .nil
theorem Q4.draws:fnDraws Q4.an Try.f6=true:=by kernel_rfl
theorem Q4.can:callOk Try.prog 6=true:=by kernel_rfl
theorem Q4.sound:FnOk Try.prog 6 (.st Q4.w):=FnOk.st_of (evF_ok Q4.cok mixed (f:=6) (fn:=Try.f6) (by kernel_rfl) Q4.draws) fun args s r h=>by
  unfold Q4.w at h; split at h
  · rw [Q4.ok std]; exact h
  · simp at h
def Q3.ctx:Ctx:=[(22,.rd Q9.w),(9,.rd Qb.w),(24,.st Qh.w),(15,.rd Q26.w),(21,.rd Q2h.w)]
def Q3.t (S:Sig) (a0 a1:Value) (s:St):Option (Value×St) :=
  S.bd (bx a0) fun c1=>S.bd (bx a1) fun c2=>S.bd (Q9.r  s) fun x3=>S.bd (un .not x3) fun x4=>S.cnd x4 (some ((.bool Bool.false),s)) (S.bd (lal c1 0 34) fun x5=>S.bd (lal c2 0 34) fun x6=>S.bd (Qb.r x5 s) fun x7=>S.bd (Qb.r x6 s) fun x8=>S.bd (stl c1 0 34 x7) fun c9=>S.bd (stl c2 0 34 x8) fun c10=>S.bd (lal c9 0 34) fun x11=>S.bd (Qh.v x11 s) fun r12=>S.bd (xtr 0 r12.1) fun x13=>S.bd (xtr 1 r12.1) fun x14=>S.bd (lal c10 0 34) fun x15=>S.bd (Qh.v x15 r12.2) fun r16=>S.bd (xtr 0 r16.1) fun x17=>S.bd (xtr 1 r16.1) fun x18=>S.bd (eqb [1] false true x14 (.int .i64 0)) fun x19=>S.bd (S.gd x19 false (some x18)) fun x20=>S.bd (S.gd x19 false (eqb [1] false true x20 (.int .i64 0))) fun x21=>S.bd (pik x19 (.bool Bool.true) x21) fun x22=>S.cnd x22 (S.bd (lal c9 0 34) fun x23=>S.bd (Q26.r x23 r16.2) fun x24=>S.bd (eqb [1] false true x24 (.int .i64 0)) fun x25=>S.bd (S.gd x25 false (lal c10 0 34)) fun x26=>S.bd (S.gd x25 false (Q26.r x26 r16.2)) fun x27=>S.bd (S.gd x25 false (eqb [1] false true x27 (.int .i64 0))) fun x28=>S.bd (pik x25 (.bool Bool.true) x28) fun x29=>some (x29,r16.2)) (S.bd (lenL x13) fun x30=>S.bd (lenL x17) fun x31=>S.bd (mn2 x30 x31) fun x32=>S.bd (slc r16.2 1 x13 none (some x32) none) fun x33=>S.bd (b2s r16.2 x33) fun x34=>S.bd (slc r16.2 1 x17 none (some x32) none) fun x35=>S.bd (b2s r16.2 x35) fun x36=>S.bd (eqb [2] false false x34 x36) fun x37=>S.bd (lal c9 0 34) fun x38=>S.bd (lal c10 0 34) fun x39=>S.bd (Q2h.r x38 x39 r16.2) fun x40=>S.bd (eqb [0] false false x37 x40) fun x41=>some (x41,r16.2)))
def Q3.v (a0 a1:Value) (s:St):Option (Value×St):=Q3.t std a0 a1 s
def Q3.w:List Value→St→Option (Value×St)
  | [a0,a1],s=>Q3.v a0 a1 s
  | _,_=>none
def Q3.an:An:=⟨58,false,[2,3],[],[],[(3,[(z4 0 17),(z4 2 25),(z4 1 3),(z4 3 3),(z4 4 21),(z4 5 29)]),(9,[(z4 0 0),(z4 1 0),(z4 2 2),(z4 3 2),(z4 4 0),(z4 5 0),(z4 6 2),(z4 7 2),(z4 8 0),(z4 9 17),(z4 10 25),(z4 11 3),(z4 12 0),(z4 13 0)])],[],[]⟩
theorem Q3.ok (S:Sig) (a0 a1:Value) (s:St):evF S Try.prog Q3.ctx Q3.an Try.f7 [a0,a1] s=Q3.t S a0 a1 s:=by kernel_rfl
theorem Q3.cok:CtxOk Try.prog Q3.ctx:=.cons Q9.sound Q9.can <| .cons Qb.sound Qb.can <| .cons Qh.sound Qh.can <| .cons Q26.sound Q26.can <| .cons Q2h.sound Q2h.can <| .nil
theorem Q3.draws:fnDraws Q3.an Try.f7=true:=by kernel_rfl
theorem Q3.can:callOk Try.prog 7=true:=by kernel_rfl
theorem Q3.sound:FnOk Try.prog 7 (.st Q3.w):=FnOk.st_of (evF_ok Q3.cok mixed (f:=7) (fn:=Try.f7) (by kernel_rfl) Q3.draws) fun args s r h=>by
  unfold Q3.w at h; split at h
  · rw [Q3.ok std]; exact h
  · simp at h
def Q2.ctx:Ctx:=[(22,.rd Q9.w),(9,.rd Qb.w),(23,.rd Qa.w),(28,.st Qi.w),(15,.rd Q26.w),(13,.rd Q27.w),(24,.st Qh.w),(26,.st Qg.w),(19,.rd Q2i.w)]
def Q2.t.p1 (S:Sig) (c17:List Value) (c10:List Value) (r32:Value×St) (x31:Value) (x34:Value) (c36:List Value) (c7:List Value):Option (Value×St) :=
  S.bd (lal c17 0 34) fun x37=>S.bd (lal c10 0 13) fun x38=>S.bd (Qi.v x37 x38 r32.2) fun r39=>S.bd (xtr 0 r39.1) fun x40=>S.bd (xtr 1 r39.1) fun x41=>S.bd (bx (Go.Value.agg #[(.bool Bool.false),(.bool Bool.false),(.int .i64 0),(.bool Bool.false),(.int .i64 0),(.int .i64 0),(.int .i64 0),(.int .i64 0),(.int .u64 0),(.int .i64 0),(.int .i64 0),(.int .u64 0),(.int .i64 0),(.int .u64 0),(.int .i64 0),(.int .i64 0),(.int .u64 0),(.int .i64 0),(.int .u64 0),(.int .i64 0),(.int .i64 0),(.int .i64 0),(.bool Bool.false),(.int .i64 0),(.int .i64 0),(.int .u64 0),(.int .i64 0),(.int .u64 0),(.int .i64 0),(.int .i64 0),(.int .u64 0),(.int .i64 0),(.int .u64 0),(.slice none 0 0)])) fun c42=>S.bd (stl c42 0 34 x40) fun c43=>S.bd (eqb [1] false false x31 (.int .i64 0)) fun x44=>S.bd (S.gd x44 true (some x34)) fun x45=>S.bd (S.gd x44 true (eqb [1] false false x45 (.int .i64 0))) fun x46=>S.bd (pik x44 x46 (.bool Bool.false)) fun x47=>S.bd (S.gd x47 true (some x41)) fun x48=>S.bd (S.gd x47 true (eqb [1] false false x48 (.int .i64 40))) fun x49=>S.bd (pik x47 x49 (.bool Bool.false)) fun x50=>S.bd (S.gd x50 true (lal c36 3 2)) fun x51=>S.bd (S.gd x50 true (lal c7 1 2)) fun x52=>S.bd (S.gd x50 true (eqb [0,1] true false x51 x52)) fun x53=>S.bd (pik x50 x53 (.bool Bool.false)) fun x54=>S.bd (S.gd x54 true (lal c36 1 2)) fun x55=>S.bd (S.gd x54 true (lal c7 3 2)) fun x56=>S.bd (S.gd x54 true (eqb [0,1] true false x55 x56)) fun x57=>S.bd (pik x54 x57 (.bool Bool.false)) fun x58=>S.bd (S.gd x58 true (lcl c36 5)) fun x59=>S.bd (S.gd x58 true (lcl c7 5)) fun x60=>S.bd (S.gd x58 true (eqb [1] false false x59 x60)) fun x61=>S.bd (pik x58 x61 (.bool Bool.false)) fun x62=>S.bd (S.gd x62 true (lal c36 21 13)) fun x63=>S.bd (S.gd x62 true (lal c10 0 13)) fun x64=>S.bd (S.gd x62 true (Q2i.r x63 x64 r39.2)) fun x65=>S.bd (pik x62 x65 (.bool Bool.false)) fun x66=>some (x66,r39.2)
def Q2.t.p2 (S:Sig) (r13:Value×St) (c7:List Value) (c10:List Value):Option (Value×St) :=
  S.bd (xtr 0 r13.1) fun x14=>S.bd (xtr 1 r13.1) fun x15=>S.bd (bx (Go.Value.agg #[(.bool Bool.false),(.bool Bool.false),(.int .i64 0),(.bool Bool.false),(.int .i64 0),(.int .i64 0),(.int .i64 0),(.int .i64 0),(.int .u64 0),(.int .i64 0),(.int .i64 0),(.int .u64 0),(.int .i64 0),(.int .u64 0),(.int .i64 0),(.int .i64 0),(.int .u64 0),(.int .i64 0),(.int .u64 0),(.int .i64 0),(.int .i64 0),(.int .i64 0),(.bool Bool.false),(.int .i64 0),(.int .i64 0),(.int .u64 0),(.int .i64 0),(.int .u64 0),(.int .i64 0),(.int .i64 0),(.int .u64 0),(.int .i64 0),(.int .u64 0),(.slice none 0 0)])) fun c16=>S.bd (stl c16 0 34 x14) fun c17=>S.bd (eqb [1] false true x15 (.int .i64 0)) fun x18=>S.cnd x18 (S.bd (lcl c7 0) fun x19=>S.bd (S.gd x19 false (lal c7 0 34)) fun x20=>S.bd (S.gd x19 false (Q26.r x20 r13.2)) fun x21=>S.bd (S.gd x19 false (eqb [1] false true x21 (.int .i64 0))) fun x22=>S.bd (pik x19 (.bool Bool.true) x22) fun x23=>S.bd (S.gd x23 false (lal c10 0 13)) fun x24=>S.bd (S.gd x23 false (Q27.r x24 r13.2)) fun x25=>S.bd (S.gd x23 false (eqb [1] false true x25 (.int .i64 0))) fun x26=>S.bd (pik x23 (.bool Bool.true) x26) fun x27=>some (x27,r13.2)) (S.bd (lal c17 0 34) fun x28=>S.bd (Qh.v x28 r13.2) fun r29=>S.bd (xtr 0 r29.1) fun x30=>S.bd (xtr 1 r29.1) fun x31=>S.bd (Qg.v x30 r29.2) fun r32=>S.bd (xtr 0 r32.1) fun x33=>S.bd (xtr 1 r32.1) fun x34=>S.bd (bx (Go.Value.agg #[(.bool Bool.false),(.bool Bool.false),(.int .i64 0),(.bool Bool.false),(.int .i64 0),(.int .i64 0),(.int .i64 0),(.int .i64 0),(.int .u64 0),(.int .i64 0),(.int .i64 0),(.int .u64 0),(.int .i64 0),(.int .u64 0),(.int .i64 0),(.int .i64 0),(.int .u64 0),(.int .i64 0),(.int .u64 0),(.int .i64 0),(.int .i64 0),(.int .i64 0),(.bool Bool.false),(.int .i64 0),(.int .i64 0),(.int .u64 0),(.int .i64 0),(.int .u64 0),(.int .i64 0),(.int .i64 0),(.int .u64 0),(.int .i64 0),(.int .u64 0),(.slice none 0 0)])) fun c35=>S.bd (stl c35 0 34 x33) fun c36=>Q2.t.p1 S c17 c10 r32 x31 x34 c36 c7)
def Q2.t (S:Sig) (a0 a1:Value) (s:St):Option (Value×St) :=
  S.bd (bx a0) fun c1=>S.bd (bx a1) fun c2=>S.bd (Q9.r  s) fun x3=>S.bd (un .not x3) fun x4=>S.cnd x4 (some ((.bool Bool.false),s)) (S.bd (lal c1 0 34) fun x5=>S.bd (Qb.r x5 s) fun x6=>S.bd (stl c1 0 34 x6) fun c7=>S.bd (lcl c2 12) fun x8=>S.bd (Qa.r x8 s) fun x9=>S.bd (stl c2 12 1 x9) fun c10=>S.bd (lal c7 0 34) fun x11=>S.bd (lal c10 0 13) fun x12=>S.bd (Qi.v x11 x12 s) fun r13=>Q2.t.p2 S r13 c7 c10)
def Q2.v (a0 a1:Value) (s:St):Option (Value×St):=Q2.t std a0 a1 s
def Q2.w:List Value→St→Option (Value×St)
  | [a0,a1],s=>Q2.v a0 a1 s
  | _,_=>none
def Q2.an:An:=⟨94,false,[2,3,5,9,11],[],[],[],[],[]⟩
theorem Q2.ok (S:Sig) (a0 a1:Value) (s:St):evF S Try.prog Q2.ctx Q2.an Try.f8 [a0,a1] s=Q2.t S a0 a1 s:=by kernel_rfl
theorem Q2.cok:CtxOk Try.prog Q2.ctx:=.cons Q9.sound Q9.can <| .cons Qb.sound Qb.can <| .cons Qa.sound Qa.can <| .cons Qi.sound Qi.can <| .cons Q26.sound Q26.can <| .cons Q27.sound Q27.can <| .cons Qh.sound Qh.can <| .cons Qg.sound Qg.can <| .cons Q2i.sound Q2i.can <| .nil
theorem Q2.draws:fnDraws Q2.an Try.f8=true:=by kernel_rfl
theorem Q2.can:callOk Try.prog 8=true:=by kernel_rfl
theorem Q2.sound:FnOk Try.prog 8 (.st Q2.w):=FnOk.st_of (evF_ok Q2.cok mixed (f:=8) (fn:=Try.f8) (by kernel_rfl) Q2.draws) fun args s r h=>by
  unfold Q2.w at h; split at h
  · rw [Q2.ok std]; exact h
  · simp at h
end
end Go.Proofs.Yteapmnolmfickaa
