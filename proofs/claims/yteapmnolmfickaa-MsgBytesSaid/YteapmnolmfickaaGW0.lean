/-
  What the functions answer that MsgForms, MsgReplies, MsgBytes, MsgBack, MsgApart, MsgAnswers reaches (part 0): for each function of the program a plain function over abstract values, and that the model answers as it does.
-/
import Derived.Test.YteapmnolmfickaaSimZ
import Derived.Test.YteapmnolmfickaaProg
import Derived.KernelRfl
import Derived.Test.YteapmnolmfickaaDfrB
set_option linter.unusedVariables false
set_option maxRecDepth 100000
namespace Go.Proofs.Yteapmnolmfickaa
open Go.Sim
noncomputable section
abbrev z4 (a b:Nat):Nat×Nat×List Nat×List Nat:=(a,b,[],[])
theorem mixed:Try.prog.follows .mixedOrders=true:=by kernel_rfl
def Qn.ctx:Ctx:=[]
def Qn.t (S:Sig) (a0 a1:Value) (s:St):Option (Value×St) :=
  S.bd (bx a0) fun c1=>S.bd (ldc s a1) fun x2=>S.bd (lal c1 0 14) fun x3=>S.bd (S.bd (bls 14 (List.replicate 1 [(.int .i64 0),(.int .u64 0),(.int .i64 0),(.bool Bool.false),(.slice none 0 0),(.int .i64 0),(.int .u64 0),(.int .i64 0),(.int .u64 0),(.int .i64 0),(.int .i64 0),(.int .u64 0),(.int .i64 0),(.int .u64 0)]) [(0,x3)]) fun rows=>als s 14 1 rows) fun r4=>S.bd (app r4.2 14 128 x2 r4.1) fun r5=>S.bd (stv r5.2 1 a1 r5.1) fun s6=>some ((Value.tuple ⟨[]⟩),s6)
def Qn.v (a0 a1:Value) (s:St):Option (Value×St):=Qn.t std a0 a1 s
def Qn.w:List Value→St→Option (Value×St)
  | [a0,a1],s=>Qn.v a0 a1 s
  | _,_=>none
def Qn.an:An:=⟨7,false,[2],[],[],[],[],[]⟩
theorem Qn.ok (S:Sig) (a0 a1:Value) (s:St):evF S Try.prog Qn.ctx Qn.an Try.f60 [a0,a1] s=Qn.t S a0 a1 s:=by kernel_rfl
theorem Qn.cok:CtxOk Try.prog Qn.ctx:=.nil
theorem Qn.draws:fnDraws Qn.an Try.f60=true:=by kernel_rfl
theorem Qn.can:callOk Try.prog 60=true:=by kernel_rfl
theorem Qn.sound:FnOk Try.prog 60 (.st Qn.w):=FnOk.st_of (evF_ok Qn.cok mixed (f:=60) (fn:=Try.f60) (by kernel_rfl) Qn.draws) fun args s r h=>by
  unfold Qn.w at h; split at h
  · rw [Qn.ok std]; exact h
  · simp at h
-- NOT PRINTED 87 leapfrog/pack.First$1: builtin recover
def Qb.ctx:Ctx:=[]
def Qb.t (S:Sig) (a0:Value) (s:St):Option Value :=
  S.bd (bx a0) fun c1=>S.bd (bx (Go.Value.agg #[(.bool Bool.false),(.bool Bool.false),(.int .i64 0),(.bool Bool.false),(.int .i64 0),(.int .i64 0),(.int .i64 0),(.int .i64 0),(.int .u64 0),(.int .i64 0),(.int .i64 0),(.int .u64 0),(.int .i64 0),(.int .u64 0),(.int .i64 0),(.int .i64 0),(.int .u64 0),(.int .i64 0),(.int .u64 0),(.int .i64 0),(.int .i64 0),(.int .i64 0),(.bool Bool.false),(.int .i64 0),(.int .i64 0),(.int .u64 0),(.int .i64 0),(.int .u64 0),(.int .i64 0),(.int .i64 0),(.int .u64 0),(.int .i64 0),(.int .u64 0),(.slice none 0 0)])) fun c2=>S.bd (lcl c1 33) fun x3=>S.bd (lenL x3) fun x4=>S.bd (bin .gtr x4 (.int .i64 3000)) fun x5=>S.cnd x5 (S.bd (lcl c1 33) fun x6=>S.bd (slc s 1 x6 none (some (.int .i64 3000)) none) fun x7=>S.bd (stl c1 33 1 x7) fun c8=>S.bd (lal c8 0 34) fun x9=>S.bd (stl c2 0 34 x9) fun c10=>S.bd (lal c10 0 34) fun x11=>some (x11)) (S.bd (lal c1 0 34) fun x12=>S.bd (stl c2 0 34 x12) fun c13=>S.bd (lal c13 0 34) fun x14=>some (x14))
def Qb.r (a0:Value) (s:St):Option Value:=Qb.t std a0 s
def Qb.w:List Value→St→Option Value
  | [a0],s=>Qb.r a0 s
  | _,_=>none
def Qb.an:An:=⟨15,true,[1,2],[],[],[],[],[]⟩
theorem Qb.ok (S:Sig) (a0:Value) (s:St):evG S Try.prog Qb.ctx Qb.an Try.f9 [a0] s=Qb.t S a0 s:=by kernel_rfl
theorem Qb.cok:CtxOk Try.prog Qb.ctx:=.nil
theorem Qb.draws:fnDraws Qb.an Try.f9=true:=by kernel_rfl
theorem Qb.can:callOk Try.prog 9=true:=by kernel_rfl
theorem Qb.sound:FnOk Try.prog 9 (.rd Qb.w):=FnOk.rd_of (evG_ok Qb.cok mixed (f:=9) (fn:=Try.f9) (by kernel_rfl) Qb.draws) fun args s r h=>by
  unfold Qb.w at h; split at h
  · rw [Qb.ok std]; exact h
  · simp at h
def Qq.ctx:Ctx:=[]
def Qq.t (S:Sig) (a0:Value) (s:St):Option (Value×St) :=
  S.bd (show Option Cut from S.bd (show Option Cut from S.bd (show Option Cut from S.bd (show Option Cut from S.bd (show Option Cut from S.bd (eqb [1] false false a0 (.int .i64 7)) fun x89=>S.cnd x89 (some (6,[(.slice none 0 0)],s)) (S.bd (eqb [1] false false a0 (.int .i64 5)) fun x90=>S.cnd x90 (some (0,[(.slice none 0 0)],s)) (S.bd (show Option Cut from S.bd (eqb [1] false false a0 (.int .i64 3)) fun x91=>S.cnd x91 (S.cnd x91 (some (0,[(.slice none 0 0)],s)) (some (1,[(.slice none 0 0),a0],s))) (S.bd (eqb [1] false false a0 (.int .i64 4)) fun x92=>S.cnd x92 (S.cnd x92 (some (0,[(.slice none 0 0)],s)) (some (1,[(.slice none 0 0),a0],s))) (S.bd (eqb [1] false false a0 (.int .i64 8)) fun x93=>S.cnd x93 (some (0,[(.slice none 0 0)],s)) (some (1,[(.slice none 0 0),a0],s))))) fun r94=>if r94.1=0 then (some (1,[(r94.2.1.getD 0 undef)],r94.2.2)) else (S.bd (eqb [1] false false (r94.2.1.getD 1 undef) (.int .i64 1)) fun x95=>S.cnd x95 (some (2,[(r94.2.1.getD 0 undef)],r94.2.2)) (S.bd (eqb [1] false false (r94.2.1.getD 1 undef) (.int .i64 6)) fun x96=>S.cnd x96 (some (3,[(r94.2.1.getD 0 undef)],r94.2.2)) (S.bd (eqb [1] false false (r94.2.1.getD 1 undef) (.int .i64 2)) fun x97=>S.cnd x97 (S.cnd x97 (some (4,[(r94.2.1.getD 0 undef)],r94.2.2)) (some (5,[],r94.2.2))) (S.bd (eqb [1] false false (r94.2.1.getD 1 undef) (.int .i64 9)) fun x98=>S.cnd x98 (S.cnd x98 (some (4,[(r94.2.1.getD 0 undef)],r94.2.2)) (some (5,[],r94.2.2))) (S.bd (eqb [1] false false (r94.2.1.getD 1 undef) (.int .i64 10)) fun x99=>S.cnd x99 (some (4,[(r94.2.1.getD 0 undef)],r94.2.2)) (some (5,[],r94.2.2)))))))))) fun r100=>if r100.1=0 then (some (5,[(r100.2.1.getD 0 undef)],r100.2.2)) else (if r100.1=1 then (some (0,[(r100.2.1.getD 0 undef)],r100.2.2)) else (if r100.1=2 then (some (1,[(r100.2.1.getD 0 undef)],r100.2.2)) else (if r100.1=3 then (some (2,[(r100.2.1.getD 0 undef)],r100.2.2)) else (if r100.1=4 then (some (3,[(r100.2.1.getD 0 undef)],r100.2.2)) else (if r100.1=5 then (some (4,[],r100.2.2)) else (S.bd (S.bd (bls 1 (List.replicate 1 [(.int .i64 0)]) [(0,(.int .i64 7))]) fun rows=>als r100.2.2 1 1 rows) fun r101=>S.bd (app r101.2 1 8 (r100.2.1.getD 0 undef) r101.1) fun r102=>some (5,[r102.1],r102.2)))))))) fun r103=>if r103.1=0 then (some (4,[(r103.2.1.getD 0 undef)],r103.2.2)) else (if r103.1=1 then (some (0,[(r103.2.1.getD 0 undef)],r103.2.2)) else (if r103.1=2 then (some (1,[(r103.2.1.getD 0 undef)],r103.2.2)) else (if r103.1=3 then (some (2,[(r103.2.1.getD 0 undef)],r103.2.2)) else (if r103.1=4 then (some (3,[],r103.2.2)) else (S.bd (S.bd (bls 1 (List.replicate 1 [(.int .i64 0)]) [(0,(.int .i64 7))]) fun rows=>als r103.2.2 1 1 rows) fun r104=>S.bd (app r104.2 1 8 (r103.2.1.getD 0 undef) r104.1) fun r105=>some (4,[r105.1],r105.2))))))) fun r106=>if r106.1=0 then (some (3,[(r106.2.1.getD 0 undef)],r106.2.2)) else (if r106.1=1 then (some (0,[(r106.2.1.getD 0 undef)],r106.2.2)) else (if r106.1=2 then (some (1,[(r106.2.1.getD 0 undef)],r106.2.2)) else (if r106.1=3 then (some (2,[],r106.2.2)) else (S.bd (S.bd (bls 1 (List.replicate 2 [(.int .i64 0)]) [(0,(.int .i64 2)),(1,(.int .i64 2))]) fun rows=>als r106.2.2 1 2 rows) fun r107=>S.bd (app r107.2 1 8 (r106.2.1.getD 0 undef) r107.1) fun r108=>some (3,[r108.1],r108.2)))))) fun r109=>if r109.1=0 then (some (3,[(r109.2.1.getD 0 undef)],r109.2.2)) else (if r109.1=1 then (some (1,[(r109.2.1.getD 0 undef)],r109.2.2)) else (if r109.1=2 then (some (2,[],r109.2.2)) else (S.bd (S.bd (bls 1 (List.replicate 1 [(.int .i64 0)]) [(0,(.int .i64 5))]) fun rows=>als r109.2.2 1 1 rows) fun r110=>S.bd (app r110.2 1 8 r110.1 (r109.2.1.getD 0 undef)) fun r111=>some (0,[r111.1],r111.2))))) fun r112=>if r112.1=0 then (some ((Value.tuple ⟨[(r112.2.1.getD 0 undef),(.bool Bool.true)]⟩),r112.2.2)) else (if r112.1=1 then (some ((Value.tuple ⟨[(r112.2.1.getD 0 undef),(.bool Bool.true)]⟩),r112.2.2)) else (if r112.1=2 then (some ((Value.tuple ⟨[(.slice none 0 0),(.bool Bool.false)]⟩),r112.2.2)) else (S.bd (S.bd (bls 1 (List.replicate 2 [(.int .i64 0)]) [(0,(.int .i64 5)),(1,(.int .i64 7))]) fun rows=>als r112.2.2 1 2 rows) fun r113=>S.bd (app r113.2 1 8 (r112.2.1.getD 0 undef) r113.1) fun r114=>some ((Value.tuple ⟨[r114.1,(.bool Bool.true)]⟩),r114.2))))
def Qq.v (a0:Value) (s:St):Option (Value×St):=Qq.t std a0 s
def Qq.w:List Value→St→Option (Value×St)
  | [a0],s=>Qq.v a0 s
  | _,_=>none
def Qq.an:An:=⟨38,false,[],[],[(8,⟨[],[(.exit 3,[.v 4]),(.normal,[.v 4,.v 5])]⟩),(13,⟨[],[(.exit 2,[.v 4]),(.exit 3,[.v 4]),(.exit 4,[.v 4]),(.exit 5,[.v 4]),(.exit 6,[.v 4]),(.exit 7,[]),(.normal,[.v 4])]⟩),(14,⟨[],[(.exit 3,[.v 4]),(.exit 4,[.v 4]),(.exit 5,[.v 4]),(.exit 6,[.v 4]),(.exit 7,[]),(.normal,[.v 4])]⟩),(15,⟨[],[(.exit 4,[.v 4]),(.exit 5,[.v 4]),(.exit 6,[.v 4]),(.exit 7,[]),(.normal,[.v 4])]⟩),(16,⟨[],[(.exit 5,[.v 4]),(.exit 6,[.v 4]),(.exit 7,[]),(.normal,[.v 4])]⟩),(17,⟨[],[(.exit 0,[.v 4]),(.exit 6,[.v 4]),(.exit 7,[]),(.normal,[.v 4])]⟩)],[],[],[]⟩
theorem Qq.ok (S:Sig) (a0:Value) (s:St):evF S Try.prog Qq.ctx Qq.an Try.f54 [a0] s=Qq.t S a0 s:=by kernel_rfl
theorem Qq.cok:CtxOk Try.prog Qq.ctx:=.nil
theorem Qq.draws:fnDraws Qq.an Try.f54=true:=by kernel_rfl
theorem Qq.can:callOk Try.prog 54=true:=by kernel_rfl
theorem Qq.sound:FnOk Try.prog 54 (.st Qq.w):=FnOk.st_of (evF_ok Qq.cok mixed (f:=54) (fn:=Try.f54) (by kernel_rfl) Qq.draws) fun args s r h=>by
  unfold Qq.w at h; split at h
  · rw [Qq.ok std]; exact h
  · simp at h
def Q17.ctx:Ctx:=[]
def Q17.t.p1 (S:Sig) (x7:Value) (c1:List Value) (c6:List Value) (c2:List Value):Option Value :=
  S.bd (eqb [1] false false x7 (.int .i64 2)) fun x14=>S.cnd x14 (S.bd (lcl c1 2) fun x15=>S.bd (stl c6 2 1 x15) fun c16=>S.bd (lal c16 0 14) fun x17=>S.bd (stl c2 0 14 x17) fun c18=>S.bd (lal c18 0 14) fun x19=>some ((Value.tuple ⟨[x19,(.bool Bool.true)]⟩))) (S.bd (eqb [1] false false x7 (.int .i64 3)) fun x20=>S.cnd x20 (S.bd (lcl c1 3) fun x21=>S.bd (stl c6 3 1 x21) fun c22=>S.bd (lal c22 0 14) fun x23=>S.bd (stl c2 0 14 x23) fun c24=>S.bd (lal c24 0 14) fun x25=>some ((Value.tuple ⟨[x25,(.bool Bool.true)]⟩))) (S.bd (eqb [1] false false x7 (.int .i64 4)) fun x26=>S.cnd x26 (S.bd (lcl c1 4) fun x27=>S.bd (stl c6 4 1 x27) fun c28=>S.bd (lal c28 0 14) fun x29=>S.bd (stl c2 0 14 x29) fun c30=>S.bd (lal c30 0 14) fun x31=>some ((Value.tuple ⟨[x31,(.bool Bool.true)]⟩))) (S.bd (eqb [1] false false x7 (.int .i64 5)) fun x32=>S.cnd x32 (S.bd (lal c1 5 2) fun x33=>S.bd (stl c6 5 2 x33) fun c34=>S.bd (lal c34 0 14) fun x35=>S.bd (stl c2 0 14 x35) fun c36=>S.bd (lal c36 0 14) fun x37=>some ((Value.tuple ⟨[x37,(.bool Bool.true)]⟩))) (S.bd (eqb [1] false false x7 (.int .i64 6)) fun x38=>S.cnd x38 (S.bd (lal c1 7 2) fun x39=>S.bd (stl c6 7 2 x39) fun c40=>S.bd (lal c40 0 14) fun x41=>S.bd (stl c2 0 14 x41) fun c42=>S.bd (lal c42 0 14) fun x43=>some ((Value.tuple ⟨[x43,(.bool Bool.true)]⟩))) (S.bd (eqb [1] false false x7 (.int .i64 7)) fun x44=>S.cnd x44 (S.bd (lal c1 9 5) fun x45=>S.bd (stl c6 9 5 x45) fun c46=>S.bd (lal c46 0 14) fun x47=>S.bd (stl c2 0 14 x47) fun c48=>S.bd (lal c48 0 14) fun x49=>some ((Value.tuple ⟨[x49,(.bool Bool.true)]⟩))) (S.bd (lal c6 0 14) fun x50=>S.bd (stl c2 0 14 x50) fun c51=>S.bd (lal c51 0 14) fun x52=>some ((Value.tuple ⟨[x52,(.bool Bool.false)]⟩))))))))
def Q17.t (S:Sig) (a0:Value) (s:St):Option Value :=
  S.bd (bx a0) fun c1=>S.bd (bx (Go.Value.agg #[(.int .i64 0),(.int .u64 0),(.int .i64 0),(.bool Bool.false),(.slice none 0 0),(.int .i64 0),(.int .u64 0),(.int .i64 0),(.int .u64 0),(.int .i64 0),(.int .i64 0),(.int .u64 0),(.int .i64 0),(.int .u64 0)])) fun c2=>S.bd (lcl c1 0) fun x3=>S.bd (bld [(.int .i64 0),(.int .u64 0),(.int .i64 0),(.bool Bool.false),(.slice none 0 0),(.int .i64 0),(.int .u64 0),(.int .i64 0),(.int .u64 0),(.int .i64 0),(.int .i64 0),(.int .u64 0),(.int .i64 0),(.int .u64 0)] [(0,1,x3)]) fun x4=>S.bd (bx (Go.Value.agg #[(.int .i64 0),(.int .u64 0),(.int .i64 0),(.bool Bool.false),(.slice none 0 0),(.int .i64 0),(.int .u64 0),(.int .i64 0),(.int .u64 0),(.int .i64 0),(.int .i64 0),(.int .u64 0),(.int .i64 0),(.int .u64 0)])) fun c5=>S.bd (stl c5 0 14 x4) fun c6=>S.bd (lcl c1 0) fun x7=>S.bd (eqb [1] false false x7 (.int .i64 1)) fun x8=>S.cnd x8 (S.bd (lcl c1 1) fun x9=>S.bd (stl c6 1 1 x9) fun c10=>S.bd (lal c10 0 14) fun x11=>S.bd (stl c2 0 14 x11) fun c12=>S.bd (lal c12 0 14) fun x13=>some ((Value.tuple ⟨[x13,(.bool Bool.true)]⟩))) (Q17.t.p1 S x7 c1 c6 c2)
def Q17.r (a0:Value) (s:St):Option Value:=Q17.t std a0 s
def Q17.w:List Value→St→Option Value
  | [a0],s=>Q17.r a0 s
  | _,_=>none
def Q17.an:An:=⟨47,true,[1,2,4],[],[],[],[],[]⟩
theorem Q17.ok (S:Sig) (a0:Value) (s:St):evG S Try.prog Q17.ctx Q17.an Try.f71 [a0] s=Q17.t S a0 s:=by kernel_rfl
theorem Q17.cok:CtxOk Try.prog Q17.ctx:=.nil
theorem Q17.draws:fnDraws Q17.an Try.f71=true:=by kernel_rfl
theorem Q17.can:callOk Try.prog 71=true:=by kernel_rfl
theorem Q17.sound:FnOk Try.prog 71 (.rd Q17.w):=FnOk.rd_of (evG_ok Q17.cok mixed (f:=71) (fn:=Try.f71) (by kernel_rfl) Q17.draws) fun args s r h=>by
  unfold Q17.w at h; split at h
  · rw [Q17.ok std]; exact h
  · simp at h
def Q0.ctx:Ctx:=[]
def Q0.t (S:Sig) (a0 a1:Value) (s:St):Option Value :=
  S.bd (b2s s a0) fun x1=>S.bd (b2s s a1) fun x2=>S.bd (eqb [2] false false x1 x2) fun x3=>some (x3)
def Q0.r (a0 a1:Value) (s:St):Option Value:=Q0.t std a0 a1 s
def Q0.w:List Value→St→Option Value
  | [a0,a1],s=>Q0.r a0 a1 s
  | _,_=>none
def Q0.an:An:=⟨10,true,[],[],[],[],[],[]⟩
theorem Q0.ok (S:Sig) (a0 a1:Value) (s:St):evG S Try.prog Q0.ctx Q0.an Try.f37 [a0,a1] s=Q0.t S a0 a1 s:=by kernel_rfl
theorem Q0.cok:CtxOk Try.prog Q0.ctx:=.nil
theorem Q0.draws:fnDraws Q0.an Try.f37=true:=by kernel_rfl
theorem Q0.can:callOk Try.prog 37=true:=by kernel_rfl
theorem Q0.sound:FnOk Try.prog 37 (.rd Q0.w):=FnOk.rd_of (evG_ok Q0.cok mixed (f:=37) (fn:=Try.f37) (by kernel_rfl) Q0.draws) fun args s r h=>by
  unfold Q0.w at h; split at h
  · rw [Q0.ok std]; exact h
  · simp at h
def Q12.ctx:Ctx:=[(37,.rd Q0.w)]
def Q12.t (S:Sig) (a0 a1:Value) (s:St):Option Value :=
  S.bd (bx a0) fun c1=>S.bd (bx a1) fun c2=>S.bd (lcl c1 0) fun x3=>S.bd (lcl c2 0) fun x4=>S.bd (eqb [1] false false x3 x4) fun x5=>S.bd (S.gd x5 true (lcl c1 1)) fun x6=>S.bd (S.gd x5 true (lcl c2 1)) fun x7=>S.bd (S.gd x5 true (eqb [1] false false x6 x7)) fun x8=>S.bd (pik x5 x8 (.bool Bool.false)) fun x9=>S.bd (S.gd x9 true (lcl c1 2)) fun x10=>S.bd (S.gd x9 true (lcl c2 2)) fun x11=>S.bd (S.gd x9 true (eqb [1] false false x10 x11)) fun x12=>S.bd (pik x9 x12 (.bool Bool.false)) fun x13=>S.bd (S.gd x13 true (lcl c1 3)) fun x14=>S.bd (S.gd x13 true (lcl c2 3)) fun x15=>S.bd (S.gd x13 true (eqb [0] false false x14 x15)) fun x16=>S.bd (pik x13 x16 (.bool Bool.false)) fun x17=>S.bd (S.gd x17 true (lcl c1 4)) fun x18=>S.bd (S.gd x17 true (lcl c2 4)) fun x19=>S.bd (S.gd x17 true (Q0.r x18 x19 s)) fun x20=>S.bd (pik x17 x20 (.bool Bool.false)) fun x21=>S.bd (S.gd x21 true (lal c1 5 2)) fun x22=>S.bd (S.gd x21 true (lal c2 5 2)) fun x23=>S.bd (S.gd x21 true (eqb [1,1] true false x22 x23)) fun x24=>S.bd (pik x21 x24 (.bool Bool.false)) fun x25=>S.bd (S.gd x25 true (lal c1 7 2)) fun x26=>S.bd (S.gd x25 true (lal c2 7 2)) fun x27=>S.bd (S.gd x25 true (eqb [1,1] true false x26 x27)) fun x28=>S.bd (pik x25 x28 (.bool Bool.false)) fun x29=>S.bd (S.gd x29 true (lal c1 9 5)) fun x30=>S.bd (S.gd x29 true (lal c2 9 5)) fun x31=>S.bd (S.gd x29 true (eqb [1,1,1,1,1] true false x30 x31)) fun x32=>S.bd (pik x29 x32 (.bool Bool.false)) fun x33=>some (x33)
def Q12.r (a0 a1:Value) (s:St):Option Value:=Q12.t std a0 a1 s
def Q12.w:List Value→St→Option Value
  | [a0,a1],s=>Q12.r a0 a1 s
  | _,_=>none
def Q12.an:An:=⟨59,true,[2,3],[],[],[],[],[]⟩
theorem Q12.ok (S:Sig) (a0 a1:Value) (s:St):evG S Try.prog Q12.ctx Q12.an Try.f72 [a0,a1] s=Q12.t S a0 a1 s:=by kernel_rfl
theorem Q12.cok:CtxOk Try.prog Q12.ctx:=.cons Q0.sound Q0.can <| .nil
theorem Q12.draws:fnDraws Q12.an Try.f72=true:=by kernel_rfl
theorem Q12.can:callOk Try.prog 72=true:=by kernel_rfl
theorem Q12.sound:FnOk Try.prog 72 (.rd Q12.w):=FnOk.rd_of (evG_ok Q12.cok mixed (f:=72) (fn:=Try.f72) (by kernel_rfl) Q12.draws) fun args s r h=>by
  unfold Q12.w at h; split at h
  · rw [Q12.ok std]; exact h
  · simp at h
def Q2x.ctx:Ctx:=[]
def Q2x.t (S:Sig) (a0:Value) (s:St):Option Value :=
  S.bd (cvi .u64 a0) fun x1=>S.bd (bin .shl (.int .u64 1) x1) fun x2=>S.bd (bin .sub x2 (.int .u64 1)) fun x3=>some (x3)
def Q2x.r (a0:Value) (s:St):Option Value:=Q2x.t std a0 s
def Q2x.w:List Value→St→Option Value
  | [a0],s=>Q2x.r a0 s
  | _,_=>none
def Q2x.an:An:=⟨7,true,[],[],[],[],[],[]⟩
theorem Q2x.ok (S:Sig) (a0:Value) (s:St):evG S Try.prog Q2x.ctx Q2x.an Try.f90 [a0] s=Q2x.t S a0 s:=by kernel_rfl
theorem Q2x.cok:CtxOk Try.prog Q2x.ctx:=.nil
theorem Q2x.draws:fnDraws Q2x.an Try.f90=true:=by kernel_rfl
theorem Q2x.can:callOk Try.prog 90=true:=by kernel_rfl
theorem Q2x.sound:FnOk Try.prog 90 (.rd Q2x.w):=FnOk.rd_of (evG_ok Q2x.cok mixed (f:=90) (fn:=Try.f90) (by kernel_rfl) Q2x.draws) fun args s r h=>by
  unfold Q2x.w at h; split at h
  · rw [Q2x.ok std]; exact h
  · simp at h
def Q2w.ctx:Ctx:=[(90,.rd Q2x.w)]
def Q2w.t (S:Sig) (a0:Value) (s:St):Option Value :=
  S.bd (bx a0) fun c1=>S.bd (lcl c1 0) fun x2=>S.bd (bin .lss x2 (.int .i64 0)) fun x3=>S.bd (S.gd x3 false (lcl c1 0)) fun x4=>S.bd (S.gd x3 false (bin .gtr x4 (.int .i64 32))) fun x5=>S.bd (pik x3 (.bool Bool.true) x5) fun x6=>S.bd (S.gd x6 false (lcl c1 1)) fun x7=>S.bd (S.gd x6 false (lcl c1 0)) fun x8=>S.bd (S.gd x6 false (Q2x.r x8 s)) fun x9=>S.bd (S.gd x6 false (bin .gtr x7 x9)) fun x10=>S.bd (pik x6 (.bool Bool.true) x10) fun x11=>S.cnd x11 (some ((.int .i64 10))) (some ((.int .i64 0)))
def Q2w.r (a0:Value) (s:St):Option Value:=Q2w.t std a0 s
def Q2w.w:List Value→St→Option Value
  | [a0],s=>Q2w.r a0 s
  | _,_=>none
def Q2w.an:An:=⟨19,true,[1],[],[],[(1,[(z4 0 0),(z4 1 9),(z4 2 0),(z4 3 0),(z4 4 0),(z4 5 9),(z4 6 0),(z4 7 0),(z4 8 0),(z4 9 0),(z4 10 9),(z4 11 0),(z4 12 9),(z4 13 3),(z4 14 0),(z4 15 0)])],[],[]⟩
theorem Q2w.ok (S:Sig) (a0:Value) (s:St):evG S Try.prog Q2w.ctx Q2w.an Try.f73 [a0] s=Q2w.t S a0 s:=by kernel_rfl
theorem Q2w.cok:CtxOk Try.prog Q2w.ctx:=.cons Q2x.sound Q2x.can <| .nil
theorem Q2w.draws:fnDraws Q2w.an Try.f73=true:=by kernel_rfl
theorem Q2w.can:callOk Try.prog 73=true:=by kernel_rfl
theorem Q2w.sound:FnOk Try.prog 73 (.rd Q2w.w):=FnOk.rd_of (evG_ok Q2w.cok mixed (f:=73) (fn:=Try.f73) (by kernel_rfl) Q2w.draws) fun args s r h=>by
  unfold Q2w.w at h; split at h
  · rw [Q2w.ok std]; exact h
  · simp at h
def Q1.ctx:Ctx:=[]
def Q1.t (S:Sig) (a0:Value) (s:St):Option Value :=
  S.bd (bx a0) fun c1=>S.bd (lcl c1 0) fun x2=>S.bd (eqb [1] false false x2 (.int .i64 2)) fun x3=>S.bd (S.gd x3 false (lcl c1 0)) fun x4=>S.bd (S.gd x3 false (eqb [1] false false x4 (.int .i64 1))) fun x5=>S.bd (S.gd x3 false (some x5)) fun x6=>S.bd (S.gd x6 false (lcl c1 0)) fun x7=>S.bd (S.gd x6 false (eqb [1] false false x7 (.int .i64 3))) fun x8=>S.bd (S.gd x3 false (pik x6 (.bool Bool.true) x8)) fun x9=>S.bd (S.gd x3 false (some x9)) fun x10=>S.bd (S.gd x10 true (lcl c1 1)) fun x11=>S.bd (S.gd x10 true (eqb [1] false false x11 (.int .u64 0))) fun x12=>S.bd (S.gd x3 false (pik x10 x12 (.bool Bool.false))) fun x13=>S.bd (pik x3 (.bool Bool.true) x13) fun x14=>S.cnd x14 (some ((.int .i64 0))) (some ((.int .i64 20)))
def Q1.r (a0:Value) (s:St):Option Value:=Q1.t std a0 s
def Q1.w:List Value→St→Option Value
  | [a0],s=>Q1.r a0 s
  | _,_=>none
def Q1.an:An:=⟨21,true,[1],[],[],[],[],[]⟩
theorem Q1.ok (S:Sig) (a0:Value) (s:St):evG S Try.prog Q1.ctx Q1.an Try.f74 [a0] s=Q1.t S a0 s:=by kernel_rfl
theorem Q1.cok:CtxOk Try.prog Q1.ctx:=.nil
theorem Q1.draws:fnDraws Q1.an Try.f74=true:=by kernel_rfl
theorem Q1.can:callOk Try.prog 74=true:=by kernel_rfl
theorem Q1.sound:FnOk Try.prog 74 (.rd Q1.w):=FnOk.rd_of (evG_ok Q1.cok mixed (f:=74) (fn:=Try.f74) (by kernel_rfl) Q1.draws) fun args s r h=>by
  unfold Q1.w at h; split at h
  · rw [Q1.ok std]; exact h
  · simp at h
def Qy.ctx:Ctx:=[(71,.rd Q17.w),(72,.rd Q12.w),(73,.rd Q2w.w),(74,.rd Q1.w)]
def Qy.t (S:Sig) (a0:Value) (s:St):Option Value :=
  S.bd (bx a0) fun c1=>S.bd (lal c1 0 14) fun x2=>S.bd (Q17.r x2 s) fun x3=>S.bd (xtr 0 x3) fun x4=>S.bd (xtr 1 x3) fun x5=>S.bd (bx (Go.Value.agg #[(.int .i64 0),(.int .u64 0),(.int .i64 0),(.bool Bool.false),(.slice none 0 0),(.int .i64 0),(.int .u64 0),(.int .i64 0),(.int .u64 0),(.int .i64 0),(.int .i64 0),(.int .u64 0),(.int .i64 0),(.int .u64 0)])) fun c6=>S.bd (stl c6 0 14 x4) fun c7=>S.bd (un .not x5) fun x8=>S.bd (S.gd x8 false (lal c7 0 14)) fun x9=>S.bd (S.gd x8 false (lal c1 0 14)) fun x10=>S.bd (S.gd x8 false (Q12.r x9 x10 s)) fun x11=>S.bd (S.gd x8 false (un .not x11)) fun x12=>S.bd (pik x8 (.bool Bool.true) x12) fun x13=>S.cnd x13 (some ((.int .i64 30))) (S.bd (show Option Cut from S.bd (lcl c1 0) fun x35=>S.bd (eqb [1] false false x35 (.int .i64 4)) fun x36=>S.cnd x36 (S.bd (lcl c1 4) fun x37=>S.bd (lenL x37) fun x38=>S.bd (bin .leq x38 (.int .i64 65536)) fun x39=>some (0,[x39],s)) (S.bd (eqb [1] false false x35 (.int .i64 5)) fun x40=>S.cnd x40 (S.bd (lal c1 5 2) fun x41=>S.bd (Q2w.r x41 s) fun x42=>S.bd (eqb [1] false false x42 (.int .i64 0)) fun x43=>some (0,[x43],s)) (S.bd (eqb [1] false false x35 (.int .i64 6)) fun x44=>S.cnd x44 (S.bd (lal c1 7 2) fun x45=>S.bd (Q1.r x45 s) fun x46=>S.bd (eqb [1] false false x46 (.int .i64 0)) fun x47=>some (0,[x47],s)) (S.bd (eqb [1] false false x35 (.int .i64 7)) fun x48=>S.cnd x48 (S.bd (lal c1 10 2) fun x49=>S.bd (Q1.r x49 s) fun x50=>S.bd (eqb [1] false false x50 (.int .i64 0)) fun x51=>S.bd (S.gd x51 true (lal c1 12 2)) fun x52=>S.bd (S.gd x51 true (Q2w.r x52 s)) fun x53=>S.bd (S.gd x51 true (eqb [1] false false x53 (.int .i64 0))) fun x54=>S.bd (pik x51 x54 (.bool Bool.false)) fun x55=>some (0,[x55],s)) (some (0,[x5],s)))))) fun r56=>S.bd (un .not (r56.2.1.getD 0 undef)) fun x57=>S.cnd x57 (some ((.int .i64 30))) (some ((.int .i64 0))))
def Qy.r (a0:Value) (s:St):Option Value:=Qy.t std a0 s
def Qy.w:List Value→St→Option Value
  | [a0],s=>Qy.r a0 s
  | _,_=>none
def Qy.an:An:=⟨54,true,[1,3],[],[(13,⟨[],[(.normal,[.v 4])]⟩)],[],[],[]⟩
theorem Qy.ok (S:Sig) (a0:Value) (s:St):evG S Try.prog Qy.ctx Qy.an Try.f55 [a0] s=Qy.t S a0 s:=by kernel_rfl
theorem Qy.cok:CtxOk Try.prog Qy.ctx:=.cons Q17.sound Q17.can <| .cons Q12.sound Q12.can <| .cons Q2w.sound Q2w.can <| .cons Q1.sound Q1.can <| .nil
theorem Qy.draws:fnDraws Qy.an Try.f55=true:=by kernel_rfl
theorem Qy.can:callOk Try.prog 55=true:=by kernel_rfl
theorem Qy.sound:FnOk Try.prog 55 (.rd Qy.w):=FnOk.rd_of (evG_ok Qy.cok mixed (f:=55) (fn:=Try.f55) (by kernel_rfl) Qy.draws) fun args s r h=>by
  unfold Qy.w at h; split at h
  · rw [Qy.ok std]; exact h
  · simp at h
def Qp.ctx:Ctx:=[]
def Qp.l4.p1 (S:Sig) (c45:List Value) (xs38:List Value) (rec40:List Value→St→Option Cut) (s39:St):Option Cut :=
  S.bd (lcl c45 0) fun x51=>S.bd (eqb [1] false false x51 (.int .i64 7)) fun x52=>S.bd (S.gd x52 true (some (xs38.getD 0 undef))) fun x53=>S.bd (S.gd x52 true (eqb [1] false false x53 (.int .i64 0))) fun x54=>S.bd (pik x52 x54 (.bool Bool.false)) fun x55=>S.cnd x55 (S.bd (lal c45 9 5) fun x56=>S.bd (stl (cellsA (xs38.getD 6 undef)) 3 5 x56) fun c57=>S.bd (bin .add (xs38.getD 0 undef) (.int .i64 1)) fun x58=>S.bd (bin .add (xs38.getD 4 undef) (.int .i64 1)) fun x59=>rec40 [x58,(xs38.getD 1 undef),(xs38.getD 2 undef),(xs38.getD 3 undef),x59,(Value.agg ⟨(cellsA (xs38.getD 5 undef))⟩),(Value.agg ⟨c57⟩)] s39) (S.bd (lcl c45 0) fun x60=>S.bd (eqb [1] false false x60 (.int .i64 7)) fun x61=>S.cnd x61 (S.bd (lal c45 9 5) fun x62=>S.bd (stl (cellsA (xs38.getD 6 undef)) 8 5 x62) fun c63=>S.bd (bin .add (xs38.getD 4 undef) (.int .i64 1)) fun x64=>rec40 [(xs38.getD 0 undef),(xs38.getD 1 undef),(xs38.getD 2 undef),(xs38.getD 3 undef),x64,(Value.agg ⟨(cellsA (xs38.getD 5 undef))⟩),(Value.agg ⟨c63⟩)] s39) (S.bd (eqb [1] false false (xs38.getD 1 undef) (.int .i64 0)) fun x65=>S.cnd x65 (S.bd (lcl c45 2) fun x66=>S.bd (stl (cellsA (xs38.getD 6 undef)) 13 1 x66) fun c67=>S.bd (bin .add (xs38.getD 1 undef) (.int .i64 1)) fun x68=>S.bd (bin .add (xs38.getD 4 undef) (.int .i64 1)) fun x69=>rec40 [(xs38.getD 0 undef),x68,(xs38.getD 2 undef),(xs38.getD 3 undef),x69,(Value.agg ⟨(cellsA (xs38.getD 5 undef))⟩),(Value.agg ⟨c67⟩)] s39) (S.bd (lcl c45 2) fun x70=>S.bd (stl (cellsA (xs38.getD 6 undef)) 14 1 x70) fun c71=>S.bd (bin .add (xs38.getD 4 undef) (.int .i64 1)) fun x72=>rec40 [(xs38.getD 0 undef),(xs38.getD 1 undef),(xs38.getD 2 undef),(xs38.getD 3 undef),x72,(Value.agg ⟨(cellsA (xs38.getD 5 undef))⟩),(Value.agg ⟨c71⟩)] s39)))
def Qp.l4 (S:Sig) (rec40:List Value→St→Option Cut) (xs38:List Value) (s39:St):Option Cut :=
  S.bd (bin .lss (xs38.getD 4 undef) (xs38.getD 3 undef)) fun x41=>S.cnd x41 (S.bd (idx s39 14 (xs38.getD 2 undef) (xs38.getD 4 undef)) fun x42=>S.bd (lda s39 14 x42) fun x43=>S.bd (bx (Go.Value.agg #[(.int .i64 0),(.int .u64 0),(.int .i64 0),(.bool Bool.false),(.slice none 0 0),(.int .i64 0),(.int .u64 0),(.int .i64 0),(.int .u64 0),(.int .i64 0),(.int .i64 0),(.int .u64 0),(.int .i64 0),(.int .u64 0)])) fun c44=>S.bd (stl c44 0 14 x43) fun c45=>S.bd (lcl c45 0) fun x46=>S.bd (eqb [1] false false x46 (.int .i64 5)) fun x47=>S.cnd x47 (S.bd (lal c45 5 2) fun x48=>S.bd (stl (cellsA (xs38.getD 6 undef)) 1 2 x48) fun c49=>S.bd (bin .add (xs38.getD 4 undef) (.int .i64 1)) fun x50=>rec40 [(xs38.getD 0 undef),(xs38.getD 1 undef),(xs38.getD 2 undef),(xs38.getD 3 undef),x50,(Value.agg ⟨(cellsA (xs38.getD 5 undef))⟩),(Value.agg ⟨c49⟩)] s39) (Qp.l4.p1 S c45 xs38 rec40 s39)) (some (0,[(Value.agg ⟨(cellsA (xs38.getD 5 undef))⟩),(Value.agg ⟨(cellsA (xs38.getD 6 undef))⟩)],s39))
def Qp.t (S:Sig) (a0 a1:Value) (s:St):Option Value :=
  S.bd (bx (Go.Value.agg #[(.int .i64 0),(.int .i64 0),(.int .u64 0),(.int .i64 0),(.int .i64 0),(.int .u64 0),(.int .i64 0),(.int .u64 0),(.int .i64 0),(.int .i64 0),(.int .u64 0),(.int .i64 0),(.int .u64 0),(.int .i64 0),(.int .i64 0)])) fun c1=>S.bd (bld [(.int .i64 0),(.int .i64 0),(.int .u64 0),(.int .i64 0),(.int .i64 0),(.int .u64 0),(.int .i64 0),(.int .u64 0),(.int .i64 0),(.int .i64 0),(.int .u64 0),(.int .i64 0),(.int .u64 0),(.int .i64 0),(.int .i64 0)] [(0,1,a0)]) fun x2=>S.bd (bx (Go.Value.agg #[(.int .i64 0),(.int .i64 0),(.int .u64 0),(.int .i64 0),(.int .i64 0),(.int .u64 0),(.int .i64 0),(.int .u64 0),(.int .i64 0),(.int .i64 0),(.int .u64 0),(.int .i64 0),(.int .u64 0),(.int .i64 0),(.int .i64 0)])) fun c3=>S.bd (stl c3 0 15 x2) fun c4=>S.bd (lenL a1) fun x5=>S.bd (S.it (Qp.l4 S) [(.int .i64 0),(.int .i64 0),a1,x5,(.int .i64 0),(Value.agg ⟨c1⟩),(Value.agg ⟨c4⟩)] s) fun r73=>S.bd (lal (cellsA (r73.2.1.getD 1 undef)) 0 15) fun x74=>S.bd (stl (cellsA (r73.2.1.getD 0 undef)) 0 15 x74) fun c75=>S.bd (lal c75 0 15) fun x76=>some (x76)
def Qp.r (a0 a1:Value) (s:St):Option Value:=Qp.t std a0 a1 s
def Qp.w:List Value→St→Option Value
  | [a0,a1],s=>Qp.r a0 a1 s
  | _,_=>none
def Qp.an:An:=⟨60,true,[4,5,9],[(4,⟨[.p 4 4 0,.p 5 5 0,.v 6,.v 7,.v 12,.v 13,.v 14,.l 4,.l 5],[(.exit 0,[.p 4 4 0,.p 5 5 0,.l 4,.l 5])]⟩)],[],[],[],[]⟩
theorem Qp.ok (S:Sig) (a0 a1:Value) (s:St):evG S Try.prog Qp.ctx Qp.an Try.f56 [a0,a1] s=Qp.t S a0 a1 s:=by kernel_rfl
theorem Qp.cok:CtxOk Try.prog Qp.ctx:=.nil
theorem Qp.draws:fnDraws Qp.an Try.f56=true:=by kernel_rfl
theorem Qp.can:callOk Try.prog 56=true:=by kernel_rfl
theorem Qp.sound:FnOk Try.prog 56 (.rd Qp.w):=FnOk.rd_of (evG_ok Qp.cok mixed (f:=56) (fn:=Try.f56) (by kernel_rfl) Qp.draws) fun args s r h=>by
  unfold Qp.w at h; split at h
  · rw [Qp.ok std]; exact h
  · simp at h
def Qo.ctx:Ctx:=[(54,.st Qq.w),(55,.rd Qy.w),(56,.rd Qp.w)]
def Qo.l7.p1 (S:Sig) (s55:St) (xs54:List Value) (rec56:List Value→St→Option Cut):Option Cut :=
  S.bd (idx s55 1 (xs54.getD 3 undef) (xs54.getD 5 undef)) fun x58=>S.bd (ldc s55 x58) fun x59=>S.bd (bld [(.int .i64 0),(.int .u64 0),(.int .i64 0),(.bool Bool.false),(.slice none 0 0),(.int .i64 0),(.int .u64 0),(.int .i64 0),(.int .u64 0),(.int .i64 0),(.int .i64 0),(.int .u64 0),(.int .i64 0),(.int .u64 0)] [(0,1,x59)]) fun x60=>S.bd (bx (Go.Value.agg #[(.int .i64 0),(.int .u64 0),(.int .i64 0),(.bool Bool.false),(.slice none 0 0),(.int .i64 0),(.int .u64 0),(.int .i64 0),(.int .u64 0),(.int .i64 0),(.int .i64 0),(.int .u64 0),(.int .i64 0),(.int .u64 0)])) fun c61=>S.bd (stl c61 0 14 x60) fun c62=>S.bd (show Option Cut from S.bd (eqb [1] false false x59 (.int .i64 5)) fun x63=>S.cnd x63 (S.bd (lal (cellsA (xs54.getD 6 undef)) 1 2) fun x64=>S.bd (stl c62 5 2 x64) fun c65=>some (0,[(xs54.getD 0 undef),(xs54.getD 1 undef),(xs54.getD 2 undef),(xs54.getD 3 undef),(xs54.getD 4 undef),(xs54.getD 5 undef),(Value.agg ⟨(cellsA (xs54.getD 6 undef))⟩),(Value.agg ⟨c65⟩)],s55)) (S.bd (eqb [1] false false x59 (.int .i64 7)) fun x66=>S.cnd x66 (S.bd (idx s55 5 (xs54.getD 1 undef) (.int .i64 0)) fun x67=>S.bd (lda s55 5 x67) fun x68=>S.bd (slc s55 5 (xs54.getD 1 undef) (some (.int .i64 1)) none none) fun x69=>S.bd (stl c62 9 5 x68) fun c70=>some (0,[(xs54.getD 0 undef),x69,(xs54.getD 2 undef),(xs54.getD 3 undef),(xs54.getD 4 undef),(xs54.getD 5 undef),(Value.agg ⟨(cellsA (xs54.getD 6 undef))⟩),(Value.agg ⟨c70⟩)],s55)) (S.bd (eqb [1] false false x59 (.int .i64 2)) fun x71=>S.cnd x71 (S.bd (idx s55 1 (xs54.getD 2 undef) (.int .i64 0)) fun x72=>S.bd (ldc s55 x72) fun x73=>S.bd (slc s55 1 (xs54.getD 2 undef) (some (.int .i64 1)) none none) fun x74=>S.bd (stl c62 2 1 x73) fun c75=>some (0,[(xs54.getD 0 undef),(xs54.getD 1 undef),x74,(xs54.getD 3 undef),(xs54.getD 4 undef),(xs54.getD 5 undef),(Value.agg ⟨(cellsA (xs54.getD 6 undef))⟩),(Value.agg ⟨c75⟩)],s55)) (some (0,[(xs54.getD 0 undef),(xs54.getD 1 undef),(xs54.getD 2 undef),(xs54.getD 3 undef),(xs54.getD 4 undef),(xs54.getD 5 undef),(Value.agg ⟨(cellsA (xs54.getD 6 undef))⟩),(Value.agg ⟨c62⟩)],s55))))) fun r76=>S.bd (lal (cellsA (r76.2.1.getD 7 undef)) 0 14) fun x77=>S.bd (Qy.r x77 r76.2.2) fun x78=>S.bd (eqb [1] false true x78 (.int .i64 0)) fun x79=>S.cnd x79 (some (1,[(.slice none 0 0),(.bool Bool.false)],r76.2.2)) (S.bd (lal (cellsA (r76.2.1.getD 7 undef)) 0 14) fun x80=>S.bd (S.bd (bls 14 (List.replicate 1 [(.int .i64 0),(.int .u64 0),(.int .i64 0),(.bool Bool.false),(.slice none 0 0),(.int .i64 0),(.int .u64 0),(.int .i64 0),(.int .u64 0),(.int .i64 0),(.int .i64 0),(.int .u64 0),(.int .i64 0),(.int .u64 0)]) [(0,x80)]) fun rows=>als r76.2.2 14 1 rows) fun r81=>S.bd (app r81.2 14 128 (r76.2.1.getD 0 undef) r81.1) fun r82=>S.bd (bin .add (r76.2.1.getD 5 undef) (.int .i64 1)) fun x83=>rec56 [r82.1,(r76.2.1.getD 1 undef),(r76.2.1.getD 2 undef),(r76.2.1.getD 3 undef),(r76.2.1.getD 4 undef),x83,(Value.agg ⟨(cellsA (r76.2.1.getD 6 undef))⟩)] r82.2)
def Qo.l7 (S:Sig) (rec56:List Value→St→Option Cut) (xs54:List Value) (s55:St):Option Cut :=
  S.bd (bin .lss (xs54.getD 5 undef) (xs54.getD 4 undef)) fun x57=>S.cnd x57 (Qo.l7.p1 S s55 xs54 rec56) (some (0,[(xs54.getD 0 undef),(Value.agg ⟨(cellsA (xs54.getD 6 undef))⟩)],s55))
def Qo.t (S:Sig) (a0:Value) (s:St):Option (Value×St) :=
  S.bd (bx a0) fun c1=>S.bd (lcl c1 0) fun x2=>S.bd (Qq.v x2 s) fun r3=>S.bd (xtr 0 r3.1) fun x4=>S.bd (xtr 1 r3.1) fun x5=>S.bd (un .not x5) fun x6=>S.cnd x6 (some ((Value.tuple ⟨[(.slice none 0 0),(.bool Bool.false)]⟩),r3.2)) (S.bd (lal c1 3 5) fun x7=>S.bd (lal c1 8 5) fun x8=>S.bd (lcl c1 13) fun x9=>S.bd (lcl c1 14) fun x10=>S.bd (S.bd (bls 1 (List.replicate 2 [(.int .i64 0)]) [(0,x9),(1,x10)]) fun rows=>als r3.2 1 2 rows) fun _=>S.bd (S.bd (bls 5 (List.replicate 2 [(.int .i64 0),(.int .i64 0),(.int .u64 0),(.int .i64 0),(.int .u64 0)]) [(0,x7),(1,x8)]) fun rows=>als r3.2 5 2 rows) fun r11=>S.bd (S.bd (bls 1 (List.replicate 2 [(.int .i64 0)]) [(0,x9),(1,x10)]) fun rows=>als r11.2 1 2 rows) fun r12=>S.bd (lenL x4) fun x13=>S.bd (S.it (Qo.l7 S) [(.slice none 0 0),r11.1,r12.1,x4,x13,(.int .i64 0),(Value.agg ⟨c1⟩)] r12.2) fun r84=>if r84.1=0 then (S.bd (lcl (cellsA (r84.2.1.getD 1 undef)) 0) fun x85=>S.bd (lal (cellsA (r84.2.1.getD 1 undef)) 0 15) fun x86=>S.bd (Qp.r x85 (r84.2.1.getD 0 undef) r84.2.2) fun x87=>S.bd (eqb [1,1,1,1,1,1,1,1,1,1,1,1,1,1,1] true false x87 x86) fun x88=>some ((Value.tuple ⟨[(r84.2.1.getD 0 undef),x88]⟩),r84.2.2)) else (some ((Value.tuple ⟨[(r84.2.1.getD 0 undef),(r84.2.1.getD 1 undef)]⟩),r84.2.2)))
def Qo.v (a0:Value) (s:St):Option (Value×St):=Qo.t std a0 s
def Qo.w:List Value→St→Option (Value×St)
  | [a0],s=>Qo.v a0 s
  | _,_=>none
def Qo.an:An:=⟨77,false,[1,11],[(7,⟨[.p 1 1 0,.v 6,.v 7,.v 8,.v 32,.v 33,.v 34,.l 1],[(.exit 0,[.p 1 1 0,.v 6,.l 1]),(.ret,[.v 2,.v 3])]⟩)],[(17,⟨[],[(.normal,[.p 1 1 0,.v 6,.v 7,.v 8,.p 11 11 0,.v 32,.v 33,.v 34,.l 1,.l 11])]⟩)],[(5,[(z4 0 0),(z4 1 9),(z4 2 0),(z4 3 9),(z4 5 0),(z4 6 0),(z4 7 9),(z4 8 0),(z4 9 0),(z4 10 9),(4,3,[],[11]),(z4 12 0),(z4 11 3),(z4 13 0)]),(14,[(z4 0 0),(z4 1 2),(z4 2 2),(z4 3 0),(z4 4 2),(z4 5 0),(z4 6 93),(z4 7 3)]),(16,[(z4 0 0),(z4 1 2),(z4 2 2),(z4 3 0),(z4 4 2),(z4 5 0),(z4 6 93),(z4 7 3)]),(21,[(z4 0 0),(z4 1 0),(z4 2 9),(z4 3 0),(z4 5 9),(z4 4 3),(z4 6 0),(z4 7 0),(z4 8 0)])],[],[]⟩
theorem Qo.ok (S:Sig) (a0:Value) (s:St):evF S Try.prog Qo.ctx Qo.an Try.f30 [a0] s=Qo.t S a0 s:=by kernel_rfl
theorem Qo.cok:CtxOk Try.prog Qo.ctx:=.cons Qq.sound Qq.can <| .cons Qy.sound Qy.can <| .cons Qp.sound Qp.can <| .nil
theorem Qo.draws:fnDraws Qo.an Try.f30=true:=by kernel_rfl
theorem Qo.can:callOk Try.prog 30=true:=by kernel_rfl
theorem Qo.sound:FnOk Try.prog 30 (.st Qo.w):=FnOk.st_of (evF_ok Qo.cok mixed (f:=30) (fn:=Try.f30) (by kernel_rfl) Qo.draws) fun args s r h=>by
  unfold Qo.w at h; split at h
  · rw [Qo.ok std]; exact h
  · simp at h
def Qe.ctx:Ctx:=[(30,.st Qo.w)]
def Qe.t (S:Sig) (a0:Value) (s:St):Option (Value×St) :=
  S.bd (bx a0) fun c1=>S.bd (lal c1 0 15) fun x2=>S.bd (Qo.v x2 s) fun r3=>S.bd (xtr 0 r3.1) fun x4=>S.bd (xtr 1 r3.1) fun x5=>S.bd (un .not x5) fun x6=>S.cnd x6 (some ((.int .i64 40),r3.2)) (some ((.int .i64 0),r3.2))
def Qe.v (a0:Value) (s:St):Option (Value×St):=Qe.t std a0 s
def Qe.w:List Value→St→Option (Value×St)
  | [a0],s=>Qe.v a0 s
  | _,_=>none
def Qe.an:An:=⟨12,false,[1],[],[],[],[],[]⟩
theorem Qe.ok (S:Sig) (a0:Value) (s:St):evF S Try.prog Qe.ctx Qe.an Try.f10 [a0] s=Qe.t S a0 s:=by kernel_rfl
theorem Qe.cok:CtxOk Try.prog Qe.ctx:=.cons Qo.sound Qo.can <| .nil
theorem Qe.draws:fnDraws Qe.an Try.f10=true:=by kernel_rfl
theorem Qe.can:callOk Try.prog 10=true:=by kernel_rfl
theorem Qe.sound:FnOk Try.prog 10 (.st Qe.w):=FnOk.st_of (evF_ok Qe.cok mixed (f:=10) (fn:=Try.f10) (by kernel_rfl) Qe.draws) fun args s r h=>by
  unfold Qe.w at h; split at h
  · rw [Qe.ok std]; exact h
  · simp at h
def Qf.r (a0:Value) (s:St):Option Value:=frzR (fun s=>Qe.v a0 s) s
def Qf.w:List Value→St→Option Value:=fun args s=>frzR (Qe.w args) s
theorem Qf.can:callOk Try.prog 10=true:=Qe.can
theorem Qf.sound:FnOk Try.prog 10 (.rd Qf.w):=FnOk.frozen Qe.sound
def Q2n.ctx:Ctx:=[]
def Q2n.t (S:Sig) (a0:Value) (s:St):Option Value :=
  S.bd (eqb [1] false false a0 (.int .i64 5)) fun x1=>S.bd (S.gd x1 false (some a0)) fun x2=>S.bd (S.gd x1 false (eqb [1] false false x2 (.int .i64 6))) fun x3=>S.bd (pik x1 (.bool Bool.true) x3) fun x4=>S.bd (S.gd x4 false (some a0)) fun x5=>S.bd (S.gd x4 false (eqb [1] false false x5 (.int .i64 7))) fun x6=>S.bd (pik x4 (.bool Bool.true) x6) fun x7=>S.bd (eqb [1] false false a0 (.int .i64 3)) fun x8=>S.bd (S.gd x8 false (some a0)) fun x9=>S.bd (S.gd x8 false (eqb [1] false false x9 (.int .i64 4))) fun x10=>S.bd (pik x8 (.bool Bool.true) x10) fun x11=>S.bd (S.gd x11 false (some a0)) fun x12=>S.bd (S.gd x11 false (eqb [1] false false x12 (.int .i64 8))) fun x13=>S.bd (pik x11 (.bool Bool.true) x13) fun x14=>S.bd (S.gd x14 false (some a0)) fun x15=>S.bd (S.gd x14 false (eqb [1] false false x15 (.int .i64 5))) fun x16=>S.bd (pik x14 (.bool Bool.true) x16) fun x17=>S.bd (S.gd x17 false (some a0)) fun x18=>S.bd (S.gd x17 false (eqb [1] false false x18 (.int .i64 7))) fun x19=>S.bd (pik x17 (.bool Bool.true) x19) fun x20=>S.bd (eqb [1] false false a0 (.int .i64 1)) fun x21=>S.bd (S.gd x21 false (some x7)) fun x22=>S.bd (pik x21 (.bool Bool.true) x22) fun x23=>S.bd (S.gd x23 false (some x20)) fun x24=>S.bd (pik x23 (.bool Bool.true) x24) fun x25=>S.bd (eqb [1] false false a0 (.int .i64 7)) fun x26=>some ((Value.tuple ⟨[x25,x7,x26,x20]⟩))
def Q2n.r (a0:Value) (s:St):Option Value:=Q2n.t std a0 s
def Q2n.w:List Value→St→Option Value
  | [a0],s=>Q2n.r a0 s
  | _,_=>none
def Q2n.an:An:=⟨48,true,[],[],[],[],[],[]⟩
theorem Q2n.ok (S:Sig) (a0:Value) (s:St):evG S Try.prog Q2n.ctx Q2n.an Try.f31 [a0] s=Q2n.t S a0 s:=by kernel_rfl
theorem Q2n.cok:CtxOk Try.prog Q2n.ctx:=.nil
theorem Q2n.draws:fnDraws Q2n.an Try.f31=true:=by kernel_rfl
theorem Q2n.can:callOk Try.prog 31=true:=by kernel_rfl
theorem Q2n.sound:FnOk Try.prog 31 (.rd Q2n.w):=FnOk.rd_of (evG_ok Q2n.cok mixed (f:=31) (fn:=Try.f31) (by kernel_rfl) Q2n.draws) fun args s r h=>by
  unfold Q2n.w at h; split at h
  · rw [Q2n.ok std]; exact h
  · simp at h
def Q2q.ctx:Ctx:=[]
def Q2q.t.p1 (S:Sig) (r20:Cut):Option Value :=
  S.bd (eqb [1] false false (r20.2.1.getD 0 undef) (.int .i64 5)) fun x28=>S.cnd x28 (S.bd (lal (cellsA (r20.2.1.getD 2 undef)) 1 2) fun x29=>S.bd (lal (cellsA (r20.2.1.getD 2 undef)) 3 5) fun x30=>S.bd (lal (cellsA (r20.2.1.getD 2 undef)) 13 2) fun x31=>S.bd (stl (cellsA (r20.2.1.getD 4 undef)) 1 2 x29) fun c32=>S.bd (stl c32 3 5 x30) fun c33=>S.bd (stl c33 13 2 x31) fun c34=>S.bd (lal c34 0 15) fun x35=>S.bd (stl (cellsA (r20.2.1.getD 3 undef)) 0 15 x35) fun c36=>S.bd (lal c36 0 15) fun x37=>some (x37)) (S.bd (eqb [1] false false (r20.2.1.getD 0 undef) (.int .i64 6)) fun x38=>S.cnd x38 (S.bd (lal (cellsA (r20.2.1.getD 2 undef)) 1 2) fun x39=>S.bd (lal (cellsA (r20.2.1.getD 2 undef)) 3 5) fun x40=>S.bd (stl (cellsA (r20.2.1.getD 4 undef)) 1 2 x39) fun c41=>S.bd (stl c41 3 5 x40) fun c42=>S.bd (lal c42 0 15) fun x43=>S.bd (stl (cellsA (r20.2.1.getD 3 undef)) 0 15 x43) fun c44=>S.bd (lal c44 0 15) fun x45=>some (x45)) (S.bd (eqb [1] false false (r20.2.1.getD 0 undef) (.int .i64 7)) fun x46=>S.cnd x46 (S.bd (lal (cellsA (r20.2.1.getD 2 undef)) 1 2) fun x47=>S.bd (lal (cellsA (r20.2.1.getD 2 undef)) 3 5) fun x48=>S.bd (lal (cellsA (r20.2.1.getD 2 undef)) 8 5) fun x49=>S.bd (lal (cellsA (r20.2.1.getD 2 undef)) 13 2) fun x50=>S.bd (stl (cellsA (r20.2.1.getD 4 undef)) 1 2 x47) fun c51=>S.bd (stl c51 3 5 x48) fun c52=>S.bd (stl c52 8 5 x49) fun c53=>S.bd (stl c53 13 2 x50) fun c54=>S.bd (lal c54 0 15) fun x55=>S.bd (stl (cellsA (r20.2.1.getD 3 undef)) 0 15 x55) fun c56=>S.bd (lal c56 0 15) fun x57=>some (x57)) (S.bd (lal (cellsA (r20.2.1.getD 4 undef)) 0 15) fun x58=>S.bd (stl (cellsA (r20.2.1.getD 3 undef)) 0 15 x58) fun c59=>S.bd (lal c59 0 15) fun x60=>some (x60))))
def Q2q.t (S:Sig) (a0:Value) (s:St):Option Value :=
  S.bd (bx a0) fun c1=>S.bd (bx (Go.Value.agg #[(.int .i64 0),(.int .i64 0),(.int .u64 0),(.int .i64 0),(.int .i64 0),(.int .u64 0),(.int .i64 0),(.int .u64 0),(.int .i64 0),(.int .i64 0),(.int .u64 0),(.int .i64 0),(.int .u64 0),(.int .i64 0),(.int .i64 0)])) fun c2=>S.bd (lcl c1 0) fun x3=>S.bd (bld [(.int .i64 0),(.int .i64 0),(.int .u64 0),(.int .i64 0),(.int .i64 0),(.int .u64 0),(.int .i64 0),(.int .u64 0),(.int .i64 0),(.int .i64 0),(.int .u64 0),(.int .i64 0),(.int .u64 0),(.int .i64 0),(.int .i64 0)] [(0,1,x3)]) fun x4=>S.bd (bx (Go.Value.agg #[(.int .i64 0),(.int .i64 0),(.int .u64 0),(.int .i64 0),(.int .i64 0),(.int .u64 0),(.int .i64 0),(.int .u64 0),(.int .i64 0),(.int .i64 0),(.int .u64 0),(.int .i64 0),(.int .u64 0),(.int .i64 0),(.int .i64 0)])) fun c5=>S.bd (stl c5 0 15 x4) fun c6=>S.bd (lcl c1 0) fun x7=>S.bd (eqb [1] false false x7 (.int .i64 1)) fun x8=>S.cnd x8 (S.bd (lal c1 1 2) fun x9=>S.bd (stl c6 1 2 x9) fun c10=>S.bd (lal c10 0 15) fun x11=>S.bd (stl c2 0 15 x11) fun c12=>S.bd (lal c12 0 15) fun x13=>some (x13)) (S.bd (show Option Cut from S.bd (eqb [1] false false x7 (.int .i64 3)) fun x17=>S.cnd x17 (some (0,[x7,x17,(Value.agg ⟨c1⟩),(Value.agg ⟨c2⟩),(Value.agg ⟨c6⟩)],s)) (S.bd (eqb [1] false false x7 (.int .i64 4)) fun x18=>S.cnd x18 (some (0,[x7,x18,(Value.agg ⟨c1⟩),(Value.agg ⟨c2⟩),(Value.agg ⟨c6⟩)],s)) (S.bd (eqb [1] false false x7 (.int .i64 8)) fun x19=>some (0,[x7,x19,(Value.agg ⟨c1⟩),(Value.agg ⟨c2⟩),(Value.agg ⟨c6⟩)],s)))) fun r20=>S.cnd (r20.2.1.getD 1 undef) (S.bd (lal (cellsA (r20.2.1.getD 2 undef)) 1 2) fun x21=>S.bd (lal (cellsA (r20.2.1.getD 2 undef)) 13 2) fun x22=>S.bd (stl (cellsA (r20.2.1.getD 4 undef)) 1 2 x21) fun c23=>S.bd (stl c23 13 2 x22) fun c24=>S.bd (lal c24 0 15) fun x25=>S.bd (stl (cellsA (r20.2.1.getD 3 undef)) 0 15 x25) fun c26=>S.bd (lal c26 0 15) fun x27=>some (x27)) (Q2q.t.p1 S r20))
def Q2q.r (a0:Value) (s:St):Option Value:=Q2q.t std a0 s
def Q2q.w:List Value→St→Option Value
  | [a0],s=>Q2q.r a0 s
  | _,_=>none
def Q2q.an:An:=⟨59,true,[1,2,3],[],[(9,⟨[],[(.normal,[.p 1 1 0,.p 2 2 0,.p 3 3 0,.v 8,.v 15,.l 1,.l 2,.l 3])]⟩)],[(9,[(z4 0 0),(z4 1 9),(z4 2 0),(z4 3 9),(z4 4 0),(z4 5 29),(z4 6 0),(z4 7 29)]),(11,[(z4 0 0),(z4 1 9),(z4 2 0),(z4 3 9),(z4 4 0),(z4 5 9),(z4 6 0),(z4 7 29),(z4 8 0),(z4 9 29),(z4 10 0),(z4 11 29)]),(13,[(z4 0 0),(z4 1 9),(z4 2 0),(z4 3 9),(z4 4 0),(z4 5 29),(z4 6 0),(z4 7 29)]),(15,[(z4 0 0),(z4 1 9),(z4 2 0),(z4 3 9),(z4 4 0),(z4 5 9),(z4 6 0),(z4 7 9),(z4 8 0),(z4 9 29),(z4 10 0),(z4 11 29),(z4 12 0),(z4 13 29),(z4 14 0),(z4 15 29)])],[],[]⟩
theorem Q2q.ok (S:Sig) (a0:Value) (s:St):evG S Try.prog Q2q.ctx Q2q.an Try.f32 [a0] s=Q2q.t S a0 s:=by kernel_rfl
theorem Q2q.cok:CtxOk Try.prog Q2q.ctx:=.nil
theorem Q2q.draws:fnDraws Q2q.an Try.f32=true:=by kernel_rfl
theorem Q2q.can:callOk Try.prog 32=true:=by kernel_rfl
theorem Q2q.sound:FnOk Try.prog 32 (.rd Q2q.w):=FnOk.rd_of (evG_ok Q2q.cok mixed (f:=32) (fn:=Try.f32) (by kernel_rfl) Q2q.draws) fun args s r h=>by
  unfold Q2q.w at h; split at h
  · rw [Q2q.ok std]; exact h
  · simp at h
def Q1k.ctx:Ctx:=[]
def Q1k.l2 (S:Sig) (rec6:List Value→St→Option Cut) (xs4:List Value) (s5:St):Option Cut :=
  S.bd (bin .gtr (xs4.getD 0 undef) (.int .i64 0)) fun x7=>S.cnd x7 (S.bd (bin .mul (xs4.getD 1 undef) (.int .u64 2)) fun x8=>S.bd (bin .sub (xs4.getD 0 undef) (.int .i64 1)) fun x9=>rec6 [x9,x8] s5) (some (0,[(xs4.getD 1 undef)],s5))
def Q1k.t (S:Sig) (a0:Value) (s:St):Option Value :=
  S.bd (S.it (Q1k.l2 S) [a0,(.int .u64 1)] s) fun r10=>some ((r10.2.1.getD 0 undef))
def Q1k.r (a0:Value) (s:St):Option Value:=Q1k.t std a0 s
def Q1k.w:List Value→St→Option Value
  | [a0],s=>Q1k.r a0 s
  | _,_=>none
def Q1k.an:An:=⟨11,true,[],[(2,⟨[.v 0,.v 3],[(.exit 0,[.v 3])]⟩)],[],[],[],[]⟩
theorem Q1k.ok (S:Sig) (a0:Value) (s:St):evG S Try.prog Q1k.ctx Q1k.an Try.f57 [a0] s=Q1k.t S a0 s:=by kernel_rfl
theorem Q1k.cok:CtxOk Try.prog Q1k.ctx:=.nil
theorem Q1k.draws:fnDraws Q1k.an Try.f57=true:=by kernel_rfl
theorem Q1k.can:callOk Try.prog 57=true:=by kernel_rfl
theorem Q1k.sound:FnOk Try.prog 57 (.rd Q1k.w):=FnOk.rd_of (evG_ok Q1k.cok mixed (f:=57) (fn:=Try.f57) (by kernel_rfl) Q1k.draws) fun args s r h=>by
  unfold Q1k.w at h; split at h
  · rw [Q1k.ok std]; exact h
  · simp at h
def Q1l.ctx:Ctx:=[(57,.rd Q1k.w)]
def Q1l.t (S:Sig) (a0:Value) (s:St):Option Value :=
  S.bd (bx a0) fun c1=>S.bd (lcl c1 0) fun x2=>S.bd (bin .geq x2 (.int .i64 0)) fun x3=>S.bd (S.gd x3 true (lcl c1 0)) fun x4=>S.bd (S.gd x3 true (bin .leq x4 (.int .i64 32))) fun x5=>S.bd (pik x3 x5 (.bool Bool.false)) fun x6=>S.bd (S.gd x6 true (lcl c1 1)) fun x7=>S.bd (S.gd x6 true (lcl c1 0)) fun x8=>S.bd (S.gd x6 true (Q1k.r x8 s)) fun x9=>S.bd (S.gd x6 true (bin .lss x7 x9)) fun x10=>S.bd (pik x6 x10 (.bool Bool.false)) fun x11=>some (x11)
def Q1l.r (a0:Value) (s:St):Option Value:=Q1l.t std a0 s
def Q1l.w:List Value→St→Option Value
  | [a0],s=>Q1l.r a0 s
  | _,_=>none
def Q1l.an:An:=⟨19,true,[1],[],[],[(1,[(z4 0 0),(z4 1 9),(z4 2 0),(z4 3 0),(z4 4 0),(z4 5 9),(z4 6 0),(z4 7 0),(z4 8 0),(z4 9 0),(z4 10 9),(z4 11 0),(z4 12 9),(z4 13 3),(z4 14 0),(z4 15 0),(z4 16 0)])],[],[]⟩
theorem Q1l.ok (S:Sig) (a0:Value) (s:St):evG S Try.prog Q1l.ctx Q1l.an Try.f33 [a0] s=Q1l.t S a0 s:=by kernel_rfl
theorem Q1l.cok:CtxOk Try.prog Q1l.ctx:=.cons Q1k.sound Q1k.can <| .nil
theorem Q1l.draws:fnDraws Q1l.an Try.f33=true:=by kernel_rfl
theorem Q1l.can:callOk Try.prog 33=true:=by kernel_rfl
theorem Q1l.sound:FnOk Try.prog 33 (.rd Q1l.w):=FnOk.rd_of (evG_ok Q1l.cok mixed (f:=33) (fn:=Try.f33) (by kernel_rfl) Q1l.draws) fun args s r h=>by
  unfold Q1l.w at h; split at h
  · rw [Q1l.ok std]; exact h
  · simp at h
def Q1o.ctx:Ctx:=[]
def Q1o.t (S:Sig) (a0:Value) (s:St):Option Value :=
  S.bd (bx a0) fun c1=>S.bd (lcl c1 0) fun x2=>S.bd (eqb [1] false false x2 (.int .i64 2)) fun x3=>S.bd (S.gd x3 false (lcl c1 1)) fun x4=>S.bd (S.gd x3 false (eqb [1] false false x4 (.int .u64 0))) fun x5=>S.bd (S.gd x3 false (some x5)) fun x6=>S.bd (S.gd x6 true (lcl c1 0)) fun x7=>S.bd (S.gd x6 true (eqb [1] false false x7 (.int .i64 1))) fun x8=>S.bd (S.gd x6 true (some x8)) fun x9=>S.bd (S.gd x9 false (lcl c1 0)) fun x10=>S.bd (S.gd x9 false (eqb [1] false false x10 (.int .i64 3))) fun x11=>S.bd (S.gd x6 true (pik x9 (.bool Bool.true) x11)) fun x12=>S.bd (S.gd x3 false (pik x6 x12 (.bool Bool.false))) fun x13=>S.bd (pik x3 (.bool Bool.true) x13) fun x14=>some (x14)
def Q1o.r (a0:Value) (s:St):Option Value:=Q1o.t std a0 s
def Q1o.w:List Value→St→Option Value
  | [a0],s=>Q1o.r a0 s
  | _,_=>none
def Q1o.an:An:=⟨21,true,[1],[],[],[],[],[]⟩
theorem Q1o.ok (S:Sig) (a0:Value) (s:St):evG S Try.prog Q1o.ctx Q1o.an Try.f58 [a0] s=Q1o.t S a0 s:=by kernel_rfl
theorem Q1o.cok:CtxOk Try.prog Q1o.ctx:=.nil
theorem Q1o.draws:fnDraws Q1o.an Try.f58=true:=by kernel_rfl
theorem Q1o.can:callOk Try.prog 58=true:=by kernel_rfl
theorem Q1o.sound:FnOk Try.prog 58 (.rd Q1o.w):=FnOk.rd_of (evG_ok Q1o.cok mixed (f:=58) (fn:=Try.f58) (by kernel_rfl) Q1o.draws) fun args s r h=>by
  unfold Q1o.w at h; split at h
  · rw [Q1o.ok std]; exact h
  · simp at h
def Q2o.ctx:Ctx:=[(58,.rd Q1o.w),(33,.rd Q1l.w)]
def Q2o.t (S:Sig) (a0:Value) (s:St):Option Value :=
  S.bd (bx a0) fun c1=>S.bd (lal c1 1 2) fun x2=>S.bd (Q1o.r x2 s) fun x3=>S.bd (S.gd x3 true (lal c1 3 2)) fun x4=>S.bd (S.gd x3 true (Q1l.r x4 s)) fun x5=>S.bd (pik x3 x5 (.bool Bool.false)) fun x6=>some (x6)
def Q2o.r (a0:Value) (s:St):Option Value:=Q2o.t std a0 s
def Q2o.w:List Value→St→Option Value
  | [a0],s=>Q2o.r a0 s
  | _,_=>none
def Q2o.an:An:=⟨11,true,[1],[],[],[],[],[]⟩
theorem Q2o.ok (S:Sig) (a0:Value) (s:St):evG S Try.prog Q2o.ctx Q2o.an Try.f34 [a0] s=Q2o.t S a0 s:=by kernel_rfl
theorem Q2o.cok:CtxOk Try.prog Q2o.ctx:=.cons Q1o.sound Q1o.can <| .cons Q1l.sound Q1l.can <| .nil
theorem Q2o.draws:fnDraws Q2o.an Try.f34=true:=by kernel_rfl
theorem Q2o.can:callOk Try.prog 34=true:=by kernel_rfl
theorem Q2o.sound:FnOk Try.prog 34 (.rd Q2o.w):=FnOk.rd_of (evG_ok Q2o.cok mixed (f:=34) (fn:=Try.f34) (by kernel_rfl) Q2o.draws) fun args s r h=>by
  unfold Q2o.w at h; split at h
  · rw [Q2o.ok std]; exact h
  · simp at h
def Q28.ctx:Ctx:=[(31,.rd Q2n.w),(32,.rd Q2q.w),(33,.rd Q1l.w),(34,.rd Q2o.w)]
def Q28.t (S:Sig) (a0:Value) (s:St):Option Value :=
  S.bd (bx a0) fun c1=>S.bd (lcl c1 0) fun x2=>S.bd (Q2n.r x2 s) fun x3=>S.bd (xtr 0 x3) fun x4=>S.bd (xtr 1 x3) fun x5=>S.bd (xtr 2 x3) fun x6=>S.bd (xtr 3 x3) fun x7=>S.bd (lcl c1 0) fun x8=>S.bd (bin .lss x8 (.int .i64 1)) fun x9=>S.bd (S.gd x9 false (lcl c1 0)) fun x10=>S.bd (S.gd x9 false (bin .gtr x10 (.int .i64 10))) fun x11=>S.bd (pik x9 (.bool Bool.true) x11) fun x12=>S.bd (S.gd x12 false (lal c1 0 15)) fun x13=>S.bd (S.gd x12 false (lal c1 0 15)) fun x14=>S.bd (S.gd x12 false (Q2q.r x14 s)) fun x15=>S.bd (S.gd x12 false (eqb [1,1,1,1,1,1,1,1,1,1,1,1,1,1,1] true true x13 x15)) fun x16=>S.bd (pik x12 (.bool Bool.true) x16) fun x17=>S.bd (S.gd x17 false (some x4)) fun x18=>S.bd (S.gd x17 false (some x18)) fun x19=>S.bd (S.gd x19 true (lal c1 1 2)) fun x20=>S.bd (S.gd x19 true (Q1l.r x20 s)) fun x21=>S.bd (S.gd x19 true (un .not x21)) fun x22=>S.bd (S.gd x17 false (pik x19 x22 (.bool Bool.false))) fun x23=>S.bd (pik x17 (.bool Bool.true) x23) fun x24=>S.bd (S.gd x24 false (some x5)) fun x25=>S.bd (S.gd x24 false (some x25)) fun x26=>S.bd (S.gd x26 true (lal c1 3 5)) fun x27=>S.bd (S.gd x26 true (Q2o.r x27 s)) fun x28=>S.bd (S.gd x26 true (un .not x28)) fun x29=>S.bd (S.gd x24 false (pik x26 x29 (.bool Bool.false))) fun x30=>S.bd (pik x24 (.bool Bool.true) x30) fun x31=>S.bd (S.gd x31 false (some x6)) fun x32=>S.bd (S.gd x31 false (some x32)) fun x33=>S.bd (S.gd x33 true (lal c1 8 5)) fun x34=>S.bd (S.gd x33 true (Q2o.r x34 s)) fun x35=>S.bd (S.gd x33 true (un .not x35)) fun x36=>S.bd (S.gd x31 false (pik x33 x36 (.bool Bool.false))) fun x37=>S.bd (pik x31 (.bool Bool.true) x37) fun x38=>S.cnd x38 (some ((.int .i64 40))) (some ((.int .i64 0)))
def Q28.r (a0:Value) (s:St):Option Value:=Q28.t std a0 s
def Q28.w:List Value→St→Option Value
  | [a0],s=>Q28.r a0 s
  | _,_=>none
def Q28.an:An:=⟨56,true,[1],[],[],[(2,[(z4 0 0),(z4 1 9),(z4 2 0),(z4 3 0),(z4 4 0),(z4 5 9),(z4 6 0),(z4 7 0),(z4 8 0),(z4 9 9),(z4 10 9),(z4 11 3),(z4 12 0),(z4 13 0),(z4 14 0),(z4 15 0),(z4 16 0),(z4 17 0),(z4 18 9),(z4 19 3),(z4 20 0),(z4 21 0),(z4 22 0),(z4 23 0),(z4 24 0),(z4 25 0),(z4 26 0),(z4 27 9),(z4 28 3),(z4 29 0),(z4 30 0),(z4 31 0),(z4 32 0),(z4 33 0),(z4 34 0),(z4 35 0),(z4 36 9),(z4 37 3),(z4 38 0),(z4 39 0),(z4 40 0)])],[],[]⟩
theorem Q28.ok (S:Sig) (a0:Value) (s:St):evG S Try.prog Q28.ctx Q28.an Try.f11 [a0] s=Q28.t S a0 s:=by kernel_rfl
theorem Q28.cok:CtxOk Try.prog Q28.ctx:=.cons Q2n.sound Q2n.can <| .cons Q2q.sound Q2q.can <| .cons Q1l.sound Q1l.can <| .cons Q2o.sound Q2o.can <| .nil
theorem Q28.draws:fnDraws Q28.an Try.f11=true:=by kernel_rfl
theorem Q28.can:callOk Try.prog 11=true:=by kernel_rfl
theorem Q28.sound:FnOk Try.prog 11 (.rd Q28.w):=FnOk.rd_of (evG_ok Q28.cok mixed (f:=11) (fn:=Try.f11) (by kernel_rfl) Q28.draws) fun args s r h=>by
  unfold Q28.w at h; split at h
  · rw [Q28.ok std]; exact h
  · simp at h
def Qx.ctx:Ctx:=[(55,.rd Qy.w)]
def Qx.t (S:Sig) (a0:Value) (s:St):Option Value :=
  S.bd (bx a0) fun c1=>S.bd (lal c1 0 5) fun x2=>S.bd (bld [(.int .i64 0),(.int .i64 0),(.int .u64 0),(.int .i64 0),(.int .u64 0)] []) fun x3=>S.bd (eqb [1,1,1,1,1] true false x2 x3) fun x4=>S.bd (S.gd x4 false (lal c1 0 5)) fun x5=>S.bd (S.gd x4 false (bld [(.int .i64 0),(.int .u64 0),(.int .i64 0),(.bool Bool.false),(.slice none 0 0),(.int .i64 0),(.int .u64 0),(.int .i64 0),(.int .u64 0),(.int .i64 0),(.int .i64 0),(.int .u64 0),(.int .i64 0),(.int .u64 0)] [(0,1,(.int .i64 7)),(9,5,x5)])) fun x6=>S.bd (S.gd x4 false (Qy.r x6 s)) fun x7=>S.bd (S.gd x4 false (eqb [1] false false x7 (.int .i64 0))) fun x8=>S.bd (pik x4 (.bool Bool.true) x8) fun x9=>some (x9)
def Qx.r (a0:Value) (s:St):Option Value:=Qx.t std a0 s
def Qx.w:List Value→St→Option Value
  | [a0],s=>Qx.r a0 s
  | _,_=>none
def Qx.an:An:=⟨12,true,[1],[],[],[],[],[]⟩
theorem Qx.ok (S:Sig) (a0:Value) (s:St):evG S Try.prog Qx.ctx Qx.an Try.f35 [a0] s=Qx.t S a0 s:=by kernel_rfl
theorem Qx.cok:CtxOk Try.prog Qx.ctx:=.cons Qy.sound Qy.can <| .nil
theorem Qx.draws:fnDraws Qx.an Try.f35=true:=by kernel_rfl
theorem Qx.can:callOk Try.prog 35=true:=by kernel_rfl
theorem Qx.sound:FnOk Try.prog 35 (.rd Qx.w):=FnOk.rd_of (evG_ok Qx.cok mixed (f:=35) (fn:=Try.f35) (by kernel_rfl) Qx.draws) fun args s r h=>by
  unfold Qx.w at h; split at h
  · rw [Qx.ok std]; exact h
  · simp at h
def Qk.ctx:Ctx:=[(37,.rd Q0.w)]
def Qk.t (S:Sig) (a0 a1:Value) (s:St):Option Value :=
  S.bd (bx a0) fun c1=>S.bd (bx a1) fun c2=>S.bd (lcl c1 0) fun x3=>S.bd (lcl c2 0) fun x4=>S.bd (eqb [1] false false x3 x4) fun x5=>S.bd (S.gd x5 true (lcl c1 1)) fun x6=>S.bd (S.gd x5 true (lcl c2 1)) fun x7=>S.bd (S.gd x5 true (eqb [0] false false x6 x7)) fun x8=>S.bd (pik x5 x8 (.bool Bool.false)) fun x9=>S.bd (S.gd x9 true (lal c1 2 5)) fun x10=>S.bd (S.gd x9 true (lal c2 2 5)) fun x11=>S.bd (S.gd x9 true (eqb [1,1,1,1,1] true false x10 x11)) fun x12=>S.bd (pik x9 x12 (.bool Bool.false)) fun x13=>S.bd (S.gd x13 true (lal c1 7 5)) fun x14=>S.bd (S.gd x13 true (lal c2 7 5)) fun x15=>S.bd (S.gd x13 true (eqb [1,1,1,1,1] true false x14 x15)) fun x16=>S.bd (pik x13 x16 (.bool Bool.false)) fun x17=>S.bd (S.gd x17 true (lcl c1 12)) fun x18=>S.bd (S.gd x17 true (lcl c2 12)) fun x19=>S.bd (S.gd x17 true (Q0.r x18 x19 s)) fun x20=>S.bd (pik x17 x20 (.bool Bool.false)) fun x21=>some (x21)
def Qk.r (a0 a1:Value) (s:St):Option Value:=Qk.t std a0 a1 s
def Qk.w:List Value→St→Option Value
  | [a0,a1],s=>Qk.r a0 a1 s
  | _,_=>none
def Qk.an:An:=⟨38,true,[2,3],[],[],[],[],[]⟩
theorem Qk.ok (S:Sig) (a0 a1:Value) (s:St):evG S Try.prog Qk.ctx Qk.an Try.f18 [a0,a1] s=Qk.t S a0 a1 s:=by kernel_rfl
theorem Qk.cok:CtxOk Try.prog Qk.ctx:=.cons Q0.sound Q0.can <| .nil
theorem Qk.draws:fnDraws Qk.an Try.f18=true:=by kernel_rfl
theorem Qk.can:callOk Try.prog 18=true:=by kernel_rfl
theorem Qk.sound:FnOk Try.prog 18 (.rd Qk.w):=FnOk.rd_of (evG_ok Qk.cok mixed (f:=18) (fn:=Try.f18) (by kernel_rfl) Qk.draws) fun args s r h=>by
  unfold Qk.w at h; split at h
  · rw [Qk.ok std]; exact h
  · simp at h
def Qd.ctx:Ctx:=[(35,.rd Qx.w),(18,.rd Qk.w)]
def Qd.t (S:Sig) (a0:Value) (s:St):Option Value :=
  S.bd (bx a0) fun c1=>S.bd (show Option Cut from S.bd (lcl c1 0) fun x32=>S.bd (eqb [1] false false x32 (.int .i64 1)) fun x33=>S.cnd x33 (S.bd (lal c1 2 5) fun x34=>S.bd (Qx.r x34 s) fun x35=>S.bd (S.gd x35 true (lal c1 7 5)) fun x36=>S.bd (S.gd x35 true (Qx.r x36 s)) fun x37=>S.bd (pik x35 x37 (.bool Bool.false)) fun x38=>S.bd (S.gd x38 true (lcl c1 12)) fun x39=>S.bd (S.gd x38 true (lenL x39)) fun x40=>S.bd (S.gd x38 true (bin .leq x40 (.int .i64 1024))) fun x41=>S.bd (pik x38 x41 (.bool Bool.false)) fun x42=>some (0,[x42],s)) (S.bd (eqb [1] false false x32 (.int .i64 3)) fun x43=>S.cnd x43 (S.bd (lal c1 2 5) fun x44=>S.bd (Qx.r x44 s) fun x45=>S.bd (S.gd x45 true (lal c1 7 5)) fun x46=>S.bd (S.gd x45 true (Qx.r x46 s)) fun x47=>S.bd (pik x45 x47 (.bool Bool.false)) fun x48=>S.bd (S.gd x48 true (lcl c1 12)) fun x49=>S.bd (S.gd x48 true (lenL x49)) fun x50=>S.bd (S.gd x48 true (eqb [1] false false x50 (.int .i64 0))) fun x51=>S.bd (pik x48 x51 (.bool Bool.false)) fun x52=>some (0,[x52],s)) (S.bd (show Option Cut from S.bd (eqb [1] false false x32 (.int .i64 2)) fun x53=>S.cnd x53 (some (0,[(.bool Bool.false),x53,(Value.agg ⟨c1⟩)],s)) (S.bd (eqb [1] false false x32 (.int .i64 4)) fun x54=>some (0,[(.bool Bool.false),x54,(Value.agg ⟨c1⟩)],s))) fun r55=>S.cnd (r55.2.1.getD 1 undef) (S.bd (lal (cellsA (r55.2.1.getD 2 undef)) 0 13) fun x56=>S.bd (lcl (cellsA (r55.2.1.getD 2 undef)) 0) fun x57=>S.bd (bld [(.int .i64 0),(.bool Bool.false),(.int .i64 0),(.int .i64 0),(.int .u64 0),(.int .i64 0),(.int .u64 0),(.int .i64 0),(.int .i64 0),(.int .u64 0),(.int .i64 0),(.int .u64 0),(.slice none 0 0)] [(0,1,x57)]) fun x58=>S.bd (Qk.r x56 x58 r55.2.2) fun x59=>some (0,[x59],r55.2.2)) (some (0,[(r55.2.1.getD 0 undef)],r55.2.2))))) fun r60=>S.bd (un .not (r60.2.1.getD 0 undef)) fun x61=>S.cnd x61 (some ((.int .i64 40))) (some ((.int .i64 0)))
def Qd.r (a0:Value) (s:St):Option Value:=Qd.t std a0 s
def Qd.w:List Value→St→Option Value
  | [a0],s=>Qd.r a0 s
  | _,_=>none
def Qd.an:An:=⟨48,true,[1],[],[(9,⟨[],[(.normal,[.p 1 1 0,.v 3,.v 38,.l 1])]⟩),(10,⟨[],[(.normal,[.v 3])]⟩)],[],[],[]⟩
theorem Qd.ok (S:Sig) (a0:Value) (s:St):evG S Try.prog Qd.ctx Qd.an Try.f12 [a0] s=Qd.t S a0 s:=by kernel_rfl
theorem Qd.cok:CtxOk Try.prog Qd.ctx:=.cons Qx.sound Qx.can <| .cons Qk.sound Qk.can <| .nil
theorem Qd.draws:fnDraws Qd.an Try.f12=true:=by kernel_rfl
theorem Qd.can:callOk Try.prog 12=true:=by kernel_rfl
theorem Qd.sound:FnOk Try.prog 12 (.rd Qd.w):=FnOk.rd_of (evG_ok Qd.cok mixed (f:=12) (fn:=Try.f12) (by kernel_rfl) Qd.draws) fun args s r h=>by
  unfold Qd.w at h; split at h
  · rw [Qd.ok std]; exact h
  · simp at h
def Q2s.ctx:Ctx:=[(34,.rd Q2o.w)]
def Q2s.t (S:Sig) (a0:Value) (s:St):Option Value :=
  S.bd (bx a0) fun c1=>S.bd (lal c1 0 5) fun x2=>S.bd (bld [(.int .i64 0),(.int .i64 0),(.int .u64 0),(.int .i64 0),(.int .u64 0)] []) fun x3=>S.bd (eqb [1,1,1,1,1] true false x2 x3) fun x4=>S.bd (S.gd x4 false (lal c1 0 5)) fun x5=>S.bd (S.gd x4 false (Q2o.r x5 s)) fun x6=>S.bd (pik x4 (.bool Bool.true) x6) fun x7=>some (x7)
def Q2s.r (a0:Value) (s:St):Option Value:=Q2s.t std a0 s
def Q2s.w:List Value→St→Option Value
  | [a0],s=>Q2s.r a0 s
  | _,_=>none
def Q2s.an:An:=⟨10,true,[1],[],[],[],[],[]⟩
theorem Q2s.ok (S:Sig) (a0:Value) (s:St):evG S Try.prog Q2s.ctx Q2s.an Try.f36 [a0] s=Q2s.t S a0 s:=by kernel_rfl
theorem Q2s.cok:CtxOk Try.prog Q2s.ctx:=.cons Q2o.sound Q2o.can <| .nil
theorem Q2s.draws:fnDraws Q2s.an Try.f36=true:=by kernel_rfl
theorem Q2s.can:callOk Try.prog 36=true:=by kernel_rfl
theorem Q2s.sound:FnOk Try.prog 36 (.rd Q2s.w):=FnOk.rd_of (evG_ok Q2s.cok mixed (f:=36) (fn:=Try.f36) (by kernel_rfl) Q2s.draws) fun args s r h=>by
  unfold Q2s.w at h; split at h
  · rw [Q2s.ok std]; exact h
  · simp at h
def Q2i.ctx:Ctx:=[]
def Q2i.t (S:Sig) (a0 a1:Value) (s:St):Option Value :=
  S.bd (bx a0) fun c1=>S.bd (bx a1) fun c2=>S.bd (lcl c1 0) fun x3=>S.bd (lcl c2 0) fun x4=>S.bd (eqb [1] false false x3 x4) fun x5=>S.bd (S.gd x5 true (lcl c1 1)) fun x6=>S.bd (S.gd x5 true (lcl c2 1)) fun x7=>S.bd (S.gd x5 true (eqb [0] false false x6 x7)) fun x8=>S.bd (pik x5 x8 (.bool Bool.false)) fun x9=>S.bd (S.gd x9 true (lal c1 2 5)) fun x10=>S.bd (S.gd x9 true (lal c2 2 5)) fun x11=>S.bd (S.gd x9 true (eqb [1,1,1,1,1] true false x10 x11)) fun x12=>S.bd (pik x9 x12 (.bool Bool.false)) fun x13=>S.bd (S.gd x13 true (lal c1 7 5)) fun x14=>S.bd (S.gd x13 true (lal c2 7 5)) fun x15=>S.bd (S.gd x13 true (eqb [1,1,1,1,1] true false x14 x15)) fun x16=>S.bd (pik x13 x16 (.bool Bool.false)) fun x17=>S.bd (S.gd x17 true (lcl c1 12)) fun x18=>S.bd (S.gd x17 true (b2s s x18)) fun x19=>S.bd (S.gd x17 true (lcl c2 12)) fun x20=>S.bd (S.gd x17 true (b2s s x20)) fun x21=>S.bd (S.gd x17 true (eqb [2] false false x19 x21)) fun x22=>S.bd (pik x17 x22 (.bool Bool.false)) fun x23=>some (x23)
def Q2i.r (a0 a1:Value) (s:St):Option Value:=Q2i.t std a0 a1 s
def Q2i.w:List Value→St→Option Value
  | [a0,a1],s=>Q2i.r a0 a1 s
  | _,_=>none
def Q2i.an:An:=⟨40,true,[2,3],[],[],[],[],[]⟩
theorem Q2i.ok (S:Sig) (a0 a1:Value) (s:St):evG S Try.prog Q2i.ctx Q2i.an Try.f19 [a0,a1] s=Q2i.t S a0 a1 s:=by kernel_rfl
theorem Q2i.cok:CtxOk Try.prog Q2i.ctx:=.nil
theorem Q2i.draws:fnDraws Q2i.an Try.f19=true:=by kernel_rfl
theorem Q2i.can:callOk Try.prog 19=true:=by kernel_rfl
theorem Q2i.sound:FnOk Try.prog 19 (.rd Q2i.w):=FnOk.rd_of (evG_ok Q2i.cok mixed (f:=19) (fn:=Try.f19) (by kernel_rfl) Q2i.draws) fun args s r h=>by
  unfold Q2i.w at h; split at h
  · rw [Q2i.ok std]; exact h
  · simp at h
def Q27.ctx:Ctx:=[(36,.rd Q2s.w),(19,.rd Q2i.w)]
def Q27.t (S:Sig) (a0:Value) (s:St):Option Value :=
  S.bd (bx a0) fun c1=>S.bd (show Option Cut from S.bd (lcl c1 0) fun x32=>S.bd (eqb [1] false false x32 (.int .i64 1)) fun x33=>S.cnd x33 (S.bd (lal c1 2 5) fun x34=>S.bd (Q2s.r x34 s) fun x35=>S.bd (S.gd x35 true (lal c1 7 5)) fun x36=>S.bd (S.gd x35 true (Q2s.r x36 s)) fun x37=>S.bd (pik x35 x37 (.bool Bool.false)) fun x38=>S.bd (S.gd x38 true (lcl c1 12)) fun x39=>S.bd (S.gd x38 true (lenL x39)) fun x40=>S.bd (S.gd x38 true (bin .leq x40 (.int .i64 1024))) fun x41=>S.bd (pik x38 x41 (.bool Bool.false)) fun x42=>some (0,[x42],s)) (S.bd (eqb [1] false false x32 (.int .i64 3)) fun x43=>S.cnd x43 (S.bd (lal c1 2 5) fun x44=>S.bd (Q2s.r x44 s) fun x45=>S.bd (S.gd x45 true (lal c1 7 5)) fun x46=>S.bd (S.gd x45 true (Q2s.r x46 s)) fun x47=>S.bd (pik x45 x47 (.bool Bool.false)) fun x48=>S.bd (S.gd x48 true (lcl c1 12)) fun x49=>S.bd (S.gd x48 true (lenL x49)) fun x50=>S.bd (S.gd x48 true (eqb [1] false false x50 (.int .i64 0))) fun x51=>S.bd (pik x48 x51 (.bool Bool.false)) fun x52=>some (0,[x52],s)) (S.bd (show Option Cut from S.bd (eqb [1] false false x32 (.int .i64 2)) fun x53=>S.cnd x53 (some (0,[x53,(Value.agg ⟨c1⟩)],s)) (S.bd (eqb [1] false false x32 (.int .i64 4)) fun x54=>some (0,[x54,(Value.agg ⟨c1⟩)],s))) fun r55=>S.cnd (r55.2.1.getD 0 undef) (S.bd (lal (cellsA (r55.2.1.getD 1 undef)) 0 13) fun x56=>S.bd (lcl (cellsA (r55.2.1.getD 1 undef)) 0) fun x57=>S.bd (bld [(.int .i64 0),(.bool Bool.false),(.int .i64 0),(.int .i64 0),(.int .u64 0),(.int .i64 0),(.int .u64 0),(.int .i64 0),(.int .i64 0),(.int .u64 0),(.int .i64 0),(.int .u64 0),(.slice none 0 0)] [(0,1,x57)]) fun x58=>S.bd (Q2i.r x56 x58 r55.2.2) fun x59=>some (0,[x59],r55.2.2)) (some (0,[(.bool Bool.false)],r55.2.2))))) fun r60=>S.bd (un .not (r60.2.1.getD 0 undef)) fun x61=>S.cnd x61 (some ((.int .i64 40))) (some ((.int .i64 0)))
def Q27.r (a0:Value) (s:St):Option Value:=Q27.t std a0 s
def Q27.w:List Value→St→Option Value
  | [a0],s=>Q27.r a0 s
  | _,_=>none
def Q27.an:An:=⟨48,true,[1],[],[(10,⟨[],[(.normal,[.p 1 1 0,.v 38,.l 1])]⟩),(11,⟨[],[(.normal,[.v 3])]⟩)],[],[],[]⟩
theorem Q27.ok (S:Sig) (a0:Value) (s:St):evG S Try.prog Q27.ctx Q27.an Try.f13 [a0] s=Q27.t S a0 s:=by kernel_rfl
theorem Q27.cok:CtxOk Try.prog Q27.ctx:=.cons Q2s.sound Q2s.can <| .cons Q2i.sound Q2i.can <| .nil
theorem Q27.draws:fnDraws Q27.an Try.f13=true:=by kernel_rfl
theorem Q27.can:callOk Try.prog 13=true:=by kernel_rfl
theorem Q27.sound:FnOk Try.prog 13 (.rd Q27.w):=FnOk.rd_of (evG_ok Q27.cok mixed (f:=13) (fn:=Try.f13) (by kernel_rfl) Q27.draws) fun args s r h=>by
  unfold Q27.w at h; split at h
  · rw [Q27.ok std]; exact h
  · simp at h
def Qc.ctx:Ctx:=[(12,.rd Qd.w),(18,.rd Qk.w),(10,.rd Qf.w)]
def Qc.t (S:Sig) (a0:Value) (s:St):Option Value :=
  S.bd (bx a0) fun c1=>S.bd (lcl c1 5) fun x2=>S.bd (bin .lss x2 (.int .i64 1)) fun x3=>S.bd (S.gd x3 false (lcl c1 5)) fun x4=>S.bd (S.gd x3 false (bin .gtr x4 (.int .i64 4611686018427387904))) fun x5=>S.bd (pik x3 (.bool Bool.true) x5) fun x6=>S.cnd x6 (some ((.int .i64 40))) (S.bd (lcl c1 0) fun x7=>S.bd (S.gd x7 true (lal c1 6 15)) fun x8=>S.bd (S.gd x7 true (bld [(.int .i64 0),(.int .i64 0),(.int .u64 0),(.int .i64 0),(.int .i64 0),(.int .u64 0),(.int .i64 0),(.int .u64 0),(.int .i64 0),(.int .i64 0),(.int .u64 0),(.int .i64 0),(.int .u64 0),(.int .i64 0),(.int .i64 0)] [])) fun x9=>S.bd (S.gd x7 true (eqb [1,1,1,1,1,1,1,1,1,1,1,1,1,1,1] true false x8 x9)) fun x10=>S.bd (pik x7 x10 (.bool Bool.false)) fun x11=>S.cnd x11 (S.bd (lal c1 21 13) fun x12=>S.bd (Qd.r x12 s) fun x13=>some (x13)) (S.bd (lcl c1 0) fun x14=>S.bd (un .not x14) fun x15=>S.bd (S.gd x15 true (lal c1 21 13)) fun x16=>S.bd (S.gd x15 true (bld [(.int .i64 0),(.bool Bool.false),(.int .i64 0),(.int .i64 0),(.int .u64 0),(.int .i64 0),(.int .u64 0),(.int .i64 0),(.int .i64 0),(.int .u64 0),(.int .i64 0),(.int .u64 0),(.slice none 0 0)] [])) fun x17=>S.bd (S.gd x15 true (Qk.r x16 x17 s)) fun x18=>S.bd (pik x15 x18 (.bool Bool.false)) fun x19=>S.cnd x19 (S.bd (lal c1 6 15) fun x20=>S.bd (Qf.r x20 s) fun x21=>some (x21)) (some ((.int .i64 40)))))
def Qc.r (a0:Value) (s:St):Option Value:=Qc.t std a0 s
def Qc.w:List Value→St→Option Value
  | [a0],s=>Qc.r a0 s
  | _,_=>none
def Qc.an:An:=⟨37,true,[1],[],[],[],[],[]⟩
theorem Qc.ok (S:Sig) (a0:Value) (s:St):evG S Try.prog Qc.ctx Qc.an Try.f14 [a0] s=Qc.t S a0 s:=by kernel_rfl
theorem Qc.cok:CtxOk Try.prog Qc.ctx:=.cons Qd.sound Qd.can <| .cons Qk.sound Qk.can <| .cons Qf.sound Qf.can <| .nil
theorem Qc.draws:fnDraws Qc.an Try.f14=true:=by kernel_rfl
theorem Qc.can:callOk Try.prog 14=true:=by kernel_rfl
theorem Qc.sound:FnOk Try.prog 14 (.rd Qc.w):=FnOk.rd_of (evG_ok Qc.cok mixed (f:=14) (fn:=Try.f14) (by kernel_rfl) Qc.draws) fun args s r h=>by
  unfold Qc.w at h; split at h
  · rw [Qc.ok std]; exact h
  · simp at h
def Q26.ctx:Ctx:=[(13,.rd Q27.w),(19,.rd Q2i.w),(11,.rd Q28.w)]
def Q26.t (S:Sig) (a0:Value) (s:St):Option Value :=
  S.bd (bx a0) fun c1=>S.bd (lcl c1 5) fun x2=>S.bd (bin .lss x2 (.int .i64 1)) fun x3=>S.bd (S.gd x3 false (lcl c1 5)) fun x4=>S.bd (S.gd x3 false (bin .gtr x4 (.int .i64 4611686018427387904))) fun x5=>S.bd (pik x3 (.bool Bool.true) x5) fun x6=>S.cnd x6 (some ((.int .i64 40))) (S.bd (lcl c1 0) fun x7=>S.cnd x7 (S.bd (lal c1 6 15) fun x8=>S.bd (bld [(.int .i64 0),(.int .i64 0),(.int .u64 0),(.int .i64 0),(.int .i64 0),(.int .u64 0),(.int .i64 0),(.int .u64 0),(.int .i64 0),(.int .i64 0),(.int .u64 0),(.int .i64 0),(.int .u64 0),(.int .i64 0),(.int .i64 0)] []) fun x9=>S.bd (eqb [1,1,1,1,1,1,1,1,1,1,1,1,1,1,1] true true x8 x9) fun x10=>S.cnd x10 (some ((.int .i64 40))) (S.bd (lal c1 21 13) fun x11=>S.bd (Q27.r x11 s) fun x12=>some (x12))) (S.bd (lal c1 21 13) fun x13=>S.bd (bld [(.int .i64 0),(.bool Bool.false),(.int .i64 0),(.int .i64 0),(.int .u64 0),(.int .i64 0),(.int .u64 0),(.int .i64 0),(.int .i64 0),(.int .u64 0),(.int .i64 0),(.int .u64 0),(.slice none 0 0)] []) fun x14=>S.bd (Q2i.r x13 x14 s) fun x15=>S.bd (un .not x15) fun x16=>S.cnd x16 (some ((.int .i64 40))) (S.bd (lal c1 6 15) fun x17=>S.bd (Q28.r x17 s) fun x18=>some (x18))))
def Q26.r (a0:Value) (s:St):Option Value:=Q26.t std a0 s
def Q26.w:List Value→St→Option Value
  | [a0],s=>Q26.r a0 s
  | _,_=>none
def Q26.an:An:=⟨28,true,[1],[],[],[],[],[]⟩
theorem Q26.ok (S:Sig) (a0:Value) (s:St):evG S Try.prog Q26.ctx Q26.an Try.f15 [a0] s=Q26.t S a0 s:=by kernel_rfl
theorem Q26.cok:CtxOk Try.prog Q26.ctx:=.cons Q27.sound Q27.can <| .cons Q2i.sound Q2i.can <| .cons Q28.sound Q28.can <| .nil
theorem Q26.draws:fnDraws Q26.an Try.f15=true:=by kernel_rfl
theorem Q26.can:callOk Try.prog 15=true:=by kernel_rfl
theorem Q26.sound:FnOk Try.prog 15 (.rd Q26.w):=FnOk.rd_of (evG_ok Q26.cok mixed (f:=15) (fn:=Try.f15) (by kernel_rfl) Q26.draws) fun args s r h=>by
  unfold Q26.w at h; split at h
  · rw [Q26.ok std]; exact h
  · simp at h
def Ql.ctx:Ctx:=[]
def Ql.t (S:Sig) (a0 a1:Value) (s:St):Option Value :=
  S.bd (bx a0) fun c1=>S.bd (bx a1) fun c2=>S.bd (lal c1 0 15) fun x3=>S.bd (lal c2 0 15) fun x4=>S.bd (eqb [1,1,1,1,1,1,1,1,1,1,1,1,1,1,1] true false x3 x4) fun x5=>some (x5)
def Ql.r (a0 a1:Value) (s:St):Option Value:=Ql.t std a0 a1 s
def Ql.w:List Value→St→Option Value
  | [a0,a1],s=>Ql.r a0 a1 s
  | _,_=>none
def Ql.an:An:=⟨8,true,[2,3],[],[],[],[],[]⟩
theorem Ql.ok (S:Sig) (a0 a1:Value) (s:St):evG S Try.prog Ql.ctx Ql.an Try.f16 [a0,a1] s=Ql.t S a0 a1 s:=by kernel_rfl
theorem Ql.cok:CtxOk Try.prog Ql.ctx:=.nil
theorem Ql.draws:fnDraws Ql.an Try.f16=true:=by kernel_rfl
theorem Ql.can:callOk Try.prog 16=true:=by kernel_rfl
theorem Ql.sound:FnOk Try.prog 16 (.rd Ql.w):=FnOk.rd_of (evG_ok Ql.cok mixed (f:=16) (fn:=Try.f16) (by kernel_rfl) Ql.draws) fun args s r h=>by
  unfold Ql.w at h; split at h
  · rw [Ql.ok std]; exact h
  · simp at h
def Q2j.ctx:Ctx:=[]
def Q2j.t (S:Sig) (a0 a1:Value) (s:St):Option Value :=
  S.bd (bx a0) fun c1=>S.bd (bx a1) fun c2=>S.bd (lal c1 0 15) fun x3=>S.bd (lal c2 0 15) fun x4=>S.bd (eqb [1,1,1,1,1,1,1,1,1,1,1,1,1,1,1] true false x3 x4) fun x5=>some (x5)
def Q2j.r (a0 a1:Value) (s:St):Option Value:=Q2j.t std a0 a1 s
def Q2j.w:List Value→St→Option Value
  | [a0,a1],s=>Q2j.r a0 a1 s
  | _,_=>none
def Q2j.an:An:=⟨8,true,[2,3],[],[],[],[],[]⟩
theorem Q2j.ok (S:Sig) (a0 a1:Value) (s:St):evG S Try.prog Q2j.ctx Q2j.an Try.f17 [a0,a1] s=Q2j.t S a0 a1 s:=by kernel_rfl
theorem Q2j.cok:CtxOk Try.prog Q2j.ctx:=.nil
theorem Q2j.draws:fnDraws Q2j.an Try.f17=true:=by kernel_rfl
theorem Q2j.can:callOk Try.prog 17=true:=by kernel_rfl
theorem Q2j.sound:FnOk Try.prog 17 (.rd Q2j.w):=FnOk.rd_of (evG_ok Q2j.cok mixed (f:=17) (fn:=Try.f17) (by kernel_rfl) Q2j.draws) fun args s r h=>by
  unfold Q2j.w at h; split at h
  · rw [Q2j.ok std]; exact h
  · simp at h
def Qj.ctx:Ctx:=[(16,.rd Ql.w),(18,.rd Qk.w)]
def Qj.t (S:Sig) (a0 a1:Value) (s:St):Option Value :=
  S.bd (bx a0) fun c1=>S.bd (bx a1) fun c2=>S.bd (lcl c1 0) fun x3=>S.bd (lcl c2 0) fun x4=>S.bd (eqb [0] false false x3 x4) fun x5=>S.bd (S.gd x5 true (lal c1 1 2)) fun x6=>S.bd (S.gd x5 true (lal c2 1 2)) fun x7=>S.bd (S.gd x5 true (eqb [0,1] true false x6 x7)) fun x8=>S.bd (pik x5 x8 (.bool Bool.false)) fun x9=>S.bd (S.gd x9 true (lal c1 3 2)) fun x10=>S.bd (S.gd x9 true (lal c2 3 2)) fun x11=>S.bd (S.gd x9 true (eqb [0,1] true false x10 x11)) fun x12=>S.bd (pik x9 x12 (.bool Bool.false)) fun x13=>S.bd (S.gd x13 true (lcl c1 5)) fun x14=>S.bd (S.gd x13 true (lcl c2 5)) fun x15=>S.bd (S.gd x13 true (eqb [1] false false x14 x15)) fun x16=>S.bd (pik x13 x16 (.bool Bool.false)) fun x17=>S.bd (S.gd x17 true (lal c1 6 15)) fun x18=>S.bd (S.gd x17 true (lal c2 6 15)) fun x19=>S.bd (S.gd x17 true (Ql.r x18 x19 s)) fun x20=>S.bd (pik x17 x20 (.bool Bool.false)) fun x21=>S.bd (S.gd x21 true (lal c1 21 13)) fun x22=>S.bd (S.gd x21 true (lal c2 21 13)) fun x23=>S.bd (S.gd x21 true (Qk.r x22 x23 s)) fun x24=>S.bd (pik x21 x24 (.bool Bool.false)) fun x25=>some (x25)
def Qj.r (a0 a1:Value) (s:St):Option Value:=Qj.t std a0 a1 s
def Qj.w:List Value→St→Option Value
  | [a0,a1],s=>Qj.r a0 a1 s
  | _,_=>none
def Qj.an:An:=⟨45,true,[2,3],[],[],[],[],[]⟩
theorem Qj.ok (S:Sig) (a0 a1:Value) (s:St):evG S Try.prog Qj.ctx Qj.an Try.f20 [a0,a1] s=Qj.t S a0 a1 s:=by kernel_rfl
theorem Qj.cok:CtxOk Try.prog Qj.ctx:=.cons Ql.sound Ql.can <| .cons Qk.sound Qk.can <| .nil
theorem Qj.draws:fnDraws Qj.an Try.f20=true:=by kernel_rfl
theorem Qj.can:callOk Try.prog 20=true:=by kernel_rfl
theorem Qj.sound:FnOk Try.prog 20 (.rd Qj.w):=FnOk.rd_of (evG_ok Qj.cok mixed (f:=20) (fn:=Try.f20) (by kernel_rfl) Qj.draws) fun args s r h=>by
  unfold Qj.w at h; split at h
  · rw [Qj.ok std]; exact h
  · simp at h
def Q2h.ctx:Ctx:=[(19,.rd Q2i.w)]
def Q2h.t (S:Sig) (a0 a1:Value) (s:St):Option Value :=
  S.bd (bx a0) fun c1=>S.bd (bx a1) fun c2=>S.bd (lcl c1 0) fun x3=>S.bd (lcl c2 0) fun x4=>S.bd (eqb [0] false false x3 x4) fun x5=>S.bd (S.gd x5 true (lal c1 1 2)) fun x6=>S.bd (S.gd x5 true (lal c2 1 2)) fun x7=>S.bd (S.gd x5 true (eqb [0,1] true false x6 x7)) fun x8=>S.bd (pik x5 x8 (.bool Bool.false)) fun x9=>S.bd (S.gd x9 true (lal c1 3 2)) fun x10=>S.bd (S.gd x9 true (lal c2 3 2)) fun x11=>S.bd (S.gd x9 true (eqb [0,1] true false x10 x11)) fun x12=>S.bd (pik x9 x12 (.bool Bool.false)) fun x13=>S.bd (S.gd x13 true (lcl c1 5)) fun x14=>S.bd (S.gd x13 true (lcl c2 5)) fun x15=>S.bd (S.gd x13 true (eqb [1] false false x14 x15)) fun x16=>S.bd (pik x13 x16 (.bool Bool.false)) fun x17=>S.bd (S.gd x17 true (lal c1 6 15)) fun x18=>S.bd (S.gd x17 true (lal c2 6 15)) fun x19=>S.bd (S.gd x17 true (eqb [1,1,1,1,1,1,1,1,1,1,1,1,1,1,1] true false x18 x19)) fun x20=>S.bd (pik x17 x20 (.bool Bool.false)) fun x21=>S.bd (S.gd x21 true (lal c1 21 13)) fun x22=>S.bd (S.gd x21 true (lal c2 21 13)) fun x23=>S.bd (S.gd x21 true (Q2i.r x22 x23 s)) fun x24=>S.bd (pik x21 x24 (.bool Bool.false)) fun x25=>some (x25)
def Q2h.r (a0 a1:Value) (s:St):Option Value:=Q2h.t std a0 a1 s
def Q2h.w:List Value→St→Option Value
  | [a0,a1],s=>Q2h.r a0 a1 s
  | _,_=>none
def Q2h.an:An:=⟨45,true,[2,3],[],[],[],[],[]⟩
theorem Q2h.ok (S:Sig) (a0 a1:Value) (s:St):evG S Try.prog Q2h.ctx Q2h.an Try.f21 [a0,a1] s=Q2h.t S a0 a1 s:=by kernel_rfl
theorem Q2h.cok:CtxOk Try.prog Q2h.ctx:=.cons Q2i.sound Q2i.can <| .nil
theorem Q2h.draws:fnDraws Q2h.an Try.f21=true:=by kernel_rfl
theorem Q2h.can:callOk Try.prog 21=true:=by kernel_rfl
theorem Q2h.sound:FnOk Try.prog 21 (.rd Q2h.w):=FnOk.rd_of (evG_ok Q2h.cok mixed (f:=21) (fn:=Try.f21) (by kernel_rfl) Q2h.draws) fun args s r h=>by
  unfold Q2h.w at h; split at h
  · rw [Q2h.ok std]; exact h
  · simp at h
def Qm.ctx:Ctx:=[(60,.st Qn.w)]
def Qm.l7.p1 (S:Sig) (s40:St) (xs39:List Value) (rec41:List Value→St→Option Cut):Option Cut :=
  S.bd (idx s40 5 (xs39.getD 2 undef) (xs39.getD 4 undef)) fun x43=>S.bd (lda s40 5 x43) fun x44=>S.bd (bx (Go.Value.agg #[(.int .i64 0),(.int .i64 0),(.int .u64 0),(.int .i64 0),(.int .u64 0)])) fun c45=>S.bd (stl c45 0 5 x44) fun c46=>S.bd (lal c46 0 5) fun x47=>S.bd (bld [(.int .i64 0),(.int .i64 0),(.int .u64 0),(.int .i64 0),(.int .u64 0)] []) fun x48=>S.bd (eqb [1,1,1,1,1] true true x47 x48) fun x49=>S.bd (bld [(.int .i64 0),(.int .u64 0),(.int .i64 0),(.bool Bool.false),(.slice none 0 0),(.int .i64 0),(.int .u64 0),(.int .i64 0),(.int .u64 0),(.int .i64 0),(.int .i64 0),(.int .u64 0),(.int .i64 0),(.int .u64 0)] [(0,1,(.int .i64 3)),(3,1,x49)]) fun x50=>S.bd (callV (Qm.ctx) (xs39.getD 1 undef) [x50] s40) fun r51=>S.bd (lal c46 0 5) fun x52=>S.bd (bld [(.int .i64 0),(.int .i64 0),(.int .u64 0),(.int .i64 0),(.int .u64 0)] []) fun x53=>S.bd (eqb [1,1,1,1,1] true true x52 x53) fun x54=>S.cnd x54 (S.bd (lal c46 0 5) fun x55=>S.bd (bld [(.int .i64 0),(.int .u64 0),(.int .i64 0),(.bool Bool.false),(.slice none 0 0),(.int .i64 0),(.int .u64 0),(.int .i64 0),(.int .u64 0),(.int .i64 0),(.int .i64 0),(.int .u64 0),(.int .i64 0),(.int .u64 0)] [(0,1,(.int .i64 7)),(9,5,x55)]) fun x56=>S.bd (callV (Qm.ctx) (xs39.getD 1 undef) [x56] r51.2) fun r57=>S.bd (bin .add (xs39.getD 4 undef) (.int .i64 1)) fun x58=>rec41 [(xs39.getD 0 undef),(xs39.getD 1 undef),(xs39.getD 2 undef),(xs39.getD 3 undef),x58,(Value.agg ⟨(cellsA (xs39.getD 5 undef))⟩)] r57.2) (S.bd (bin .add (xs39.getD 4 undef) (.int .i64 1)) fun x59=>rec41 [(xs39.getD 0 undef),(xs39.getD 1 undef),(xs39.getD 2 undef),(xs39.getD 3 undef),x59,(Value.agg ⟨(cellsA (xs39.getD 5 undef))⟩)] r51.2)
def Qm.l7 (S:Sig) (rec41:List Value→St→Option Cut) (xs39:List Value) (s40:St):Option Cut :=
  S.bd (bin .lss (xs39.getD 4 undef) (xs39.getD 3 undef)) fun x42=>S.cnd x42 (Qm.l7.p1 S s40 xs39 rec41) (some (0,[(xs39.getD 0 undef),(xs39.getD 1 undef),(Value.agg ⟨(cellsA (xs39.getD 5 undef))⟩)],s40))
def Qm.t.p1 (S:Sig) (c1:List Value) (r6:Value×St) (s7:St):Option (Value×St) :=
  S.bd (lcl c1 1) fun x14=>S.bd (bld [(.int .i64 0),(.int .u64 0),(.int .i64 0),(.bool Bool.false),(.slice none 0 0),(.int .i64 0),(.int .u64 0),(.int .i64 0),(.int .u64 0),(.int .i64 0),(.int .i64 0),(.int .u64 0),(.int .i64 0),(.int .u64 0)] [(0,1,(.int .i64 3)),(3,1,x14)]) fun x15=>S.bd (callV (Qm.ctx) (Value.func (.func 60) ⟨[]⟩ ⟨[r6.1]⟩) [x15] s7) fun r16=>S.bd (lal c1 2 5) fun x17=>S.bd (lal c1 7 5) fun x18=>S.bd (S.bd (bls 5 (List.replicate 2 [(.int .i64 0),(.int .i64 0),(.int .u64 0),(.int .i64 0),(.int .u64 0)]) [(0,x17),(1,x18)]) fun rows=>als r16.2 5 2 rows) fun r19=>S.bd (lenL r19.1) fun x20=>S.bd (S.it (Qm.l7 S) [r6.1,(Value.func (.func 60) ⟨[]⟩ ⟨[r6.1]⟩),r19.1,x20,(.int .i64 0),(Value.agg ⟨c1⟩)] r19.2) fun r60=>S.bd (lcl (cellsA (r60.2.1.getD 2 undef)) 0) fun x61=>S.bd (eqb [1] false false x61 (.int .i64 1)) fun x62=>S.cnd x62 (S.bd (lcl (cellsA (r60.2.1.getD 2 undef)) 12) fun x63=>S.bd (bld [(.int .i64 0),(.int .u64 0),(.int .i64 0),(.bool Bool.false),(.slice none 0 0),(.int .i64 0),(.int .u64 0),(.int .i64 0),(.int .u64 0),(.int .i64 0),(.int .i64 0),(.int .u64 0),(.int .i64 0),(.int .u64 0)] [(0,1,(.int .i64 4)),(4,1,x63)]) fun x64=>S.bd (callV (Qm.ctx) (r60.2.1.getD 1 undef) [x64] r60.2.2) fun r65=>S.bd (ldc r65.2 (r60.2.1.getD 0 undef)) fun x66=>some (x66,r65.2)) (S.bd (ldc r60.2.2 (r60.2.1.getD 0 undef)) fun x67=>some (x67,r60.2.2))
def Qm.t (S:Sig) (a0:Value) (s:St):Option (Value×St) :=
  S.bd (bx a0) fun c1=>S.bd (lcl c1 0) fun x2=>S.bd (cvi .u64 x2) fun x3=>S.bd (bld [(.int .i64 0),(.int .u64 0),(.int .i64 0),(.bool Bool.false),(.slice none 0 0),(.int .i64 0),(.int .u64 0),(.int .i64 0),(.int .u64 0),(.int .i64 0),(.int .i64 0),(.int .u64 0),(.int .i64 0),(.int .u64 0)] [(0,1,(.int .i64 1)),(1,1,x3)]) fun x4=>S.bd (S.bd (bls 14 (List.replicate 1 [(.int .i64 0),(.int .u64 0),(.int .i64 0),(.bool Bool.false),(.slice none 0 0),(.int .i64 0),(.int .u64 0),(.int .i64 0),(.int .u64 0),(.int .i64 0),(.int .i64 0),(.int .u64 0),(.int .i64 0),(.int .u64 0)]) [(0,x4)]) fun rows=>als s 14 1 rows) fun r5=>S.bd (alv r5.2 (.slice none 0 0)) fun r6=>S.bd (stv r6.2 1 r6.1 r5.1) fun s7=>S.bd (lcl c1 0) fun x8=>S.bd (eqb [1] false true x8 (.int .i64 1)) fun x9=>S.bd (S.gd x9 true (lcl c1 0)) fun x10=>S.bd (S.gd x9 true (eqb [1] false true x10 (.int .i64 3))) fun x11=>S.bd (pik x9 x11 (.bool Bool.false)) fun x12=>S.cnd x12 (S.bd (ldc s7 r6.1) fun x13=>some (x13,s7)) (Qm.t.p1 S c1 r6 s7)
def Qm.v (a0:Value) (s:St):Option (Value×St):=Qm.t std a0 s
def Qm.w:List Value→St→Option (Value×St)
  | [a0],s=>Qm.v a0 s
  | _,_=>none
def Qm.an:An:=⟨60,false,[1,6],[(7,⟨[.p 1 1 0,.v 3,.v 4,.v 31,.v 32,.v 33,.l 1],[(.exit 0,[.p 1 1 0,.v 3,.v 4,.l 1])]⟩)],[],[],[],[]⟩
theorem Qm.ok (S:Sig) (a0:Value) (s:St):evF S Try.prog Qm.ctx Qm.an Try.f39 [a0] s=Qm.t S a0 s:=by kernel_rfl
theorem Qm.cok:CtxOk Try.prog Qm.ctx:=.cons Qn.sound Qn.can <| .nil
theorem Qm.draws:fnDraws Qm.an Try.f39=true:=by kernel_rfl
theorem Qm.can:callOk Try.prog 39=true:=by kernel_rfl
theorem Qm.sound:FnOk Try.prog 39 (.st Qm.w):=FnOk.st_of (evF_ok Qm.cok mixed (f:=39) (fn:=Try.f39) (by kernel_rfl) Qm.draws) fun args s r h=>by
  unfold Qm.w at h; split at h
  · rw [Qm.ok std]; exact h
  · simp at h
def Q1g.ctx:Ctx:=[]
def Q1g.l0 (S:Sig) (rec15:List Value→St→Option Cut) (xs13:List Value) (s14:St):Option Cut :=
  S.bd (bin .geq (xs13.getD 1 undef) (.int .u64 128)) fun x16=>S.cnd x16 (S.bd (nck (xs13.getD 0 undef)) fun x17=>S.bd (fld 0 x17) fun x18=>S.bd (ldc s14 x18) fun x19=>S.bd (cvi .u8 (xs13.getD 1 undef)) fun x20=>S.bd (bin .or x20 (.int .u8 128)) fun x21=>S.bd (S.bd (bls 1 (List.replicate 1 [(.int .u8 0)]) [(0,x21)]) fun rows=>als s14 1 1 rows) fun r22=>S.bd (app r22.2 1 1 x19 r22.1) fun r23=>S.bd (nck (xs13.getD 0 undef)) fun x24=>S.bd (fld 0 x24) fun x25=>S.bd (stv r23.2 1 x25 r23.1) fun s26=>S.bd (bin .shr (xs13.getD 1 undef) (.int .u64 7)) fun x27=>rec15 [(xs13.getD 0 undef),x27] s26) (some (0,[(xs13.getD 0 undef),(xs13.getD 1 undef)],s14))
def Q1g.t (S:Sig) (a0 a1:Value) (s:St):Option (Value×St) :=
  S.bd (S.it (Q1g.l0 S) [a0,a1] s) fun r28=>S.bd (nck (r28.2.1.getD 0 undef)) fun x29=>S.bd (fld 0 x29) fun x30=>S.bd (ldc r28.2.2 x30) fun x31=>S.bd (cvi .u8 (r28.2.1.getD 1 undef)) fun x32=>S.bd (S.bd (bls 1 (List.replicate 1 [(.int .u8 0)]) [(0,x32)]) fun rows=>als r28.2.2 1 1 rows) fun r33=>S.bd (app r33.2 1 1 x31 r33.1) fun r34=>S.bd (nck (r28.2.1.getD 0 undef)) fun x35=>S.bd (fld 0 x35) fun x36=>S.bd (stv r34.2 1 x36 r34.1) fun s37=>some ((Value.tuple ⟨[]⟩),s37)
def Q1g.v (a0 a1:Value) (s:St):Option (Value×St):=Q1g.t std a0 a1 s
def Q1g.w:List Value→St→Option (Value×St)
  | [a0,a1],s=>Q1g.v a0 a1 s
  | _,_=>none
def Q1g.an:An:=⟨31,false,[],[(0,⟨[.v 0,.v 1],[(.exit 0,[.v 0,.v 1])]⟩)],[],[],[],[]⟩
theorem Q1g.ok (S:Sig) (a0 a1:Value) (s:St):evF S Try.prog Q1g.ctx Q1g.an Try.f75 [a0,a1] s=Q1g.t S a0 a1 s:=by kernel_rfl
theorem Q1g.cok:CtxOk Try.prog Q1g.ctx:=.nil
theorem Q1g.draws:fnDraws Q1g.an Try.f75=true:=by kernel_rfl
theorem Q1g.can:callOk Try.prog 75=true:=by kernel_rfl
theorem Q1g.sound:FnOk Try.prog 75 (.st Q1g.w):=FnOk.st_of (evF_ok Q1g.cok mixed (f:=75) (fn:=Try.f75) (by kernel_rfl) Q1g.draws) fun args s r h=>by
  unfold Q1g.w at h; split at h
  · rw [Q1g.ok std]; exact h
  · simp at h
def Q1e.ctx:Ctx:=[(75,.st Q1g.w)]
def Q1e.t (S:Sig) (a0 a1:Value) (s:St):Option (Value×St) :=
  S.bd (cvi .u64 a1) fun x1=>S.bd (bin .shl x1 (.int .u64 1)) fun x2=>S.bd (bin .shr a1 (.int .u64 63)) fun x3=>S.bd (cvi .u64 x3) fun x4=>S.bd (bin .xor x2 x4) fun x5=>S.bd (Q1g.v a0 x5 s) fun r6=>some ((Value.tuple ⟨[]⟩),r6.2)
def Q1e.v (a0 a1:Value) (s:St):Option (Value×St):=Q1e.t std a0 a1 s
def Q1e.w:List Value→St→Option (Value×St)
  | [a0,a1],s=>Q1e.v a0 a1 s
  | _,_=>none
def Q1e.an:An:=⟨13,false,[],[],[],[],[],[]⟩
theorem Q1e.ok (S:Sig) (a0 a1:Value) (s:St):evF S Try.prog Q1e.ctx Q1e.an Try.f76 [a0,a1] s=Q1e.t S a0 a1 s:=by kernel_rfl
theorem Q1e.cok:CtxOk Try.prog Q1e.ctx:=.cons Q1g.sound Q1g.can <| .nil
theorem Q1e.draws:fnDraws Q1e.an Try.f76=true:=by kernel_rfl
theorem Q1e.can:callOk Try.prog 76=true:=by kernel_rfl
theorem Q1e.sound:FnOk Try.prog 76 (.st Q1e.w):=FnOk.st_of (evF_ok Q1e.cok mixed (f:=76) (fn:=Try.f76) (by kernel_rfl) Q1e.draws) fun args s r h=>by
  unfold Q1e.w at h; split at h
  · rw [Q1e.ok std]; exact h
  · simp at h
def Q1f.ctx:Ctx:=[]
def Q1f.l4 (S:Sig) (rec31:List Value→St→Option Cut) (xs29:List Value) (s30:St):Option Cut :=
  S.bd (bin .geq (xs29.getD 1 undef) (.int .i64 0)) fun x32=>S.cnd x32 (S.bd (nck (xs29.getD 0 undef)) fun x33=>S.bd (fld 0 x33) fun x34=>S.bd (ldc s30 x34) fun x35=>S.bd (lcl (cellsA (xs29.getD 2 undef)) 1) fun x36=>S.bd (bin .mul (.int .i64 8) (xs29.getD 1 undef)) fun x37=>S.bd (cvi .u64 x37) fun x38=>S.bd (bin .shr x36 x38) fun x39=>S.bd (cvi .u8 x39) fun x40=>S.bd (S.bd (bls 1 (List.replicate 1 [(.int .u8 0)]) [(0,x40)]) fun rows=>als s30 1 1 rows) fun r41=>S.bd (app r41.2 1 1 x35 r41.1) fun r42=>S.bd (nck (xs29.getD 0 undef)) fun x43=>S.bd (fld 0 x43) fun x44=>S.bd (stv r42.2 1 x44 r42.1) fun s45=>S.bd (bin .sub (xs29.getD 1 undef) (.int .i64 1)) fun x46=>rec31 [(xs29.getD 0 undef),x46,(Value.agg ⟨(cellsA (xs29.getD 2 undef))⟩)] s45) (some (0,[],s30))
def Q1f.t (S:Sig) (a0 a1:Value) (s:St):Option (Value×St) :=
  S.bd (bx a1) fun c1=>S.bd (nck a0) fun x2=>S.bd (fld 0 x2) fun x3=>S.bd (ldc s x3) fun x4=>S.bd (lcl c1 0) fun x5=>S.bd (cvi .u8 x5) fun x6=>S.bd (S.bd (bls 1 (List.replicate 1 [(.int .u8 0)]) [(0,x6)]) fun rows=>als s 1 1 rows) fun r7=>S.bd (app r7.2 1 1 x4 r7.1) fun r8=>S.bd (nck a0) fun x9=>S.bd (fld 0 x9) fun x10=>S.bd (stv r8.2 1 x10 r8.1) fun s11=>S.bd (lcl c1 0) fun x12=>S.bd (eqb [1] false false x12 (.int .i64 2)) fun x13=>S.cnd x13 (S.bd (S.it (Q1f.l4 S) [a0,(.int .i64 7),(Value.agg ⟨c1⟩)] s11) fun r47=>some ((Value.tuple ⟨[]⟩),r47.2.2)) (some ((Value.tuple ⟨[]⟩),s11))
def Q1f.v (a0 a1:Value) (s:St):Option (Value×St):=Q1f.t std a0 a1 s
def Q1f.w:List Value→St→Option (Value×St)
  | [a0,a1],s=>Q1f.v a0 a1 s
  | _,_=>none
def Q1f.an:An:=⟨40,false,[3],[(4,⟨[.v 0,.p 3 3 0,.v 4,.l 3],[(.exit 0,[])]⟩)],[],[(1,[(z4 0 0),(z4 1 0),(z4 2 0),(z4 3 0),(z4 4 2),(z4 5 0),(z4 6 25),(z4 7 0),(z4 8 3),(z4 9 4),(z4 10 0),(z4 11 0),(z4 12 4)]),(6,[(z4 0 0),(z4 1 0),(z4 2 0),(z4 3 0),(z4 4 2),(z4 5 0),(z4 6 25),(z4 7 0),(z4 8 0),(z4 9 0),(z4 10 0),(z4 11 0),(z4 12 3),(z4 13 4),(z4 14 0),(z4 15 0),(z4 16 4)])],[],[]⟩
theorem Q1f.ok (S:Sig) (a0 a1:Value) (s:St):evF S Try.prog Q1f.ctx Q1f.an Try.f77 [a0,a1] s=Q1f.t S a0 a1 s:=by kernel_rfl
theorem Q1f.cok:CtxOk Try.prog Q1f.ctx:=.nil
theorem Q1f.draws:fnDraws Q1f.an Try.f77=true:=by kernel_rfl
theorem Q1f.can:callOk Try.prog 77=true:=by kernel_rfl
theorem Q1f.sound:FnOk Try.prog 77 (.st Q1f.w):=FnOk.st_of (evF_ok Q1f.cok mixed (f:=77) (fn:=Try.f77) (by kernel_rfl) Q1f.draws) fun args s r h=>by
  unfold Q1f.w at h; split at h
  · rw [Q1f.ok std]; exact h
  · simp at h
def Q1h.ctx:Ctx:=[]
def Q1h.l5 (S:Sig) (rec38:List Value→St→Option Cut) (xs36:List Value) (s37:St):Option Cut :=
  S.bd (bin .geq (xs36.getD 2 undef) (.int .i64 0)) fun x39=>S.cnd x39 (S.bd (nck (xs36.getD 0 undef)) fun x40=>S.bd (fld 0 x40) fun x41=>S.bd (ldc s37 x41) fun x42=>S.bd (bin .mul (.int .i64 8) (xs36.getD 2 undef)) fun x43=>S.bd (cvi .u64 x43) fun x44=>S.bd (bin .shr (xs36.getD 1 undef) x44) fun x45=>S.bd (cvi .u8 x45) fun x46=>S.bd (S.bd (bls 1 (List.replicate 1 [(.int .u8 0)]) [(0,x46)]) fun rows=>als s37 1 1 rows) fun r47=>S.bd (app r47.2 1 1 x42 r47.1) fun r48=>S.bd (nck (xs36.getD 0 undef)) fun x49=>S.bd (fld 0 x49) fun x50=>S.bd (stv r48.2 1 x50 r48.1) fun s51=>S.bd (bin .sub (xs36.getD 2 undef) (.int .i64 1)) fun x52=>rec38 [(xs36.getD 0 undef),(xs36.getD 1 undef),x52] s51) (some (0,[],s37))
def Q1h.t (S:Sig) (a0 a1:Value) (s:St):Option (Value×St) :=
  S.bd (bx a1) fun c1=>S.bd (nck a0) fun x2=>S.bd (fld 0 x2) fun x3=>S.bd (ldc s x3) fun x4=>S.bd (lcl c1 0) fun x5=>S.bd (cvi .u8 x5) fun x6=>S.bd (S.bd (bls 1 (List.replicate 1 [(.int .u8 0)]) [(0,x6)]) fun rows=>als s 1 1 rows) fun r7=>S.bd (app r7.2 1 1 x4 r7.1) fun r8=>S.bd (nck a0) fun x9=>S.bd (fld 0 x9) fun x10=>S.bd (stv r8.2 1 x10 r8.1) fun s11=>S.bd (lcl c1 0) fun x12=>S.bd (bin .add x12 (.int .i64 7)) fun x13=>S.bd (bin .quo x13 (.int .i64 8)) fun x14=>S.bd (lcl c1 1) fun x15=>S.bd (bin .mul (.int .i64 8) x14) fun x16=>S.bd (lcl c1 0) fun x17=>S.bd (bin .sub x16 x17) fun x18=>S.bd (cvi .u64 x18) fun x19=>S.bd (bin .shl x15 x19) fun x20=>S.bd (bin .sub x14 (.int .i64 1)) fun x21=>S.bd (S.it (Q1h.l5 S) [a0,x20,x21] s11) fun r53=>some ((Value.tuple ⟨[]⟩),r53.2.2)
def Q1h.v (a0 a1:Value) (s:St):Option (Value×St):=Q1h.t std a0 a1 s
def Q1h.w:List Value→St→Option (Value×St)
  | [a0,a1],s=>Q1h.v a0 a1 s
  | _,_=>none
def Q1h.an:An:=⟨53,false,[3],[(5,⟨[.v 0,.v 5,.v 6],[(.exit 0,[])]⟩)],[],[(1,[(z4 0 0),(z4 1 0),(z4 2 0),(z4 3 0),(z4 4 2),(z4 5 0),(z4 6 25),(z4 7 0),(z4 8 3),(z4 9 4),(z4 10 0),(z4 11 0),(z4 12 4)])],[],[]⟩
theorem Q1h.ok (S:Sig) (a0 a1:Value) (s:St):evF S Try.prog Q1h.ctx Q1h.an Try.f78 [a0,a1] s=Q1h.t S a0 a1 s:=by kernel_rfl
theorem Q1h.cok:CtxOk Try.prog Q1h.ctx:=.nil
theorem Q1h.draws:fnDraws Q1h.an Try.f78=true:=by kernel_rfl
theorem Q1h.can:callOk Try.prog 78=true:=by kernel_rfl
theorem Q1h.sound:FnOk Try.prog 78 (.st Q1h.w):=FnOk.st_of (evF_ok Q1h.cok mixed (f:=78) (fn:=Try.f78) (by kernel_rfl) Q1h.draws) fun args s r h=>by
  unfold Q1h.w at h; split at h
  · rw [Q1h.ok std]; exact h
  · simp at h
def Q1d.ctx:Ctx:=[(75,.st Q1g.w),(76,.st Q1e.w),(77,.st Q1f.w),(78,.st Q1h.w)]
def Q1d.t (S:Sig) (a0 a1:Value) (s:St):Option (Value×St) :=
  S.bd (bx a1) fun c1=>S.bd (lcl c1 0) fun x2=>S.bd (show Option Cut from S.bd (show Option Cut from S.bd (show Option Cut from S.bd (show Option Cut from S.bd (eqb [1] false false x2 (.int .i64 1)) fun x148=>S.cnd x148 (S.bd (lcl c1 1) fun x149=>S.bd (Q1g.v a0 x149 s) fun r150=>some (0,[],r150.2)) (S.bd (eqb [1] false false x2 (.int .i64 2)) fun x151=>S.cnd x151 (S.bd (lcl c1 2) fun x152=>S.bd (Q1e.v a0 x152 s) fun r153=>some (0,[],r153.2)) (S.bd (eqb [1] false false x2 (.int .i64 3)) fun x154=>S.cnd x154 (S.bd (show Option Cut from S.bd (lcl c1 3) fun x155=>S.cnd x155 (some (0,[a0,(.int .u8 1)],s)) (some (0,[a0,(.int .u8 0)],s))) fun r156=>S.bd (nck (r156.2.1.getD 0 undef)) fun x157=>S.bd (fld 0 x157) fun x158=>S.bd (ldc r156.2.2 x158) fun x159=>S.bd (S.bd (bls 1 (List.replicate 1 [(.int .u8 0)]) [(0,(r156.2.1.getD 1 undef))]) fun rows=>als r156.2.2 1 1 rows) fun r160=>S.bd (app r160.2 1 1 x159 r160.1) fun r161=>S.bd (nck (r156.2.1.getD 0 undef)) fun x162=>S.bd (fld 0 x162) fun x163=>S.bd (stv r161.2 1 x163 r161.1) fun s164=>some (0,[],s164)) (S.bd (eqb [1] false false x2 (.int .i64 4)) fun x165=>S.cnd x165 (some (4,[a0,(Value.agg ⟨c1⟩)],s)) (S.bd (eqb [1] false false x2 (.int .i64 7)) fun x166=>S.cnd x166 (some (1,[a0,(Value.agg ⟨c1⟩)],s)) (S.bd (eqb [1] false false x2 (.int .i64 5)) fun x167=>S.cnd x167 (some (2,[a0,(Value.agg ⟨c1⟩)],s)) (S.bd (eqb [1] false false x2 (.int .i64 6)) fun x168=>S.cnd x168 (some (3,[a0,(Value.agg ⟨c1⟩)],s)) (some (0,[],s))))))))) fun r169=>if r169.1=0 then (some (0,[],r169.2.2)) else (if r169.1=1 then (some (3,[(r169.2.1.getD 0 undef),(Value.agg ⟨(cellsA (r169.2.1.getD 1 undef))⟩)],r169.2.2)) else (if r169.1=2 then (some (1,[(r169.2.1.getD 0 undef),(Value.agg ⟨(cellsA (r169.2.1.getD 1 undef))⟩)],r169.2.2)) else (if r169.1=3 then (some (2,[(r169.2.1.getD 0 undef),(Value.agg ⟨(cellsA (r169.2.1.getD 1 undef))⟩)],r169.2.2)) else (S.bd (lcl (cellsA (r169.2.1.getD 1 undef)) 4) fun x170=>S.bd (lenL x170) fun x171=>S.bd (cvi .u64 x171) fun x172=>S.bd (Q1g.v (r169.2.1.getD 0 undef) x172 r169.2.2) fun r173=>S.bd (nck (r169.2.1.getD 0 undef)) fun x174=>S.bd (fld 0 x174) fun x175=>S.bd (ldc r173.2 x175) fun x176=>S.bd (lcl (cellsA (r169.2.1.getD 1 undef)) 4) fun x177=>S.bd (app r173.2 1 1 x176 x177) fun r178=>S.bd (nck (r169.2.1.getD 0 undef)) fun x179=>S.bd (fld 0 x179) fun x180=>S.bd (stv r178.2 1 x180 r178.1) fun s181=>some (0,[],s181)))))) fun r182=>if r182.1=0 then (some (0,[],r182.2.2)) else (if r182.1=1 then (some (2,[(r182.2.1.getD 0 undef),(Value.agg ⟨(cellsA (r182.2.1.getD 1 undef))⟩)],r182.2.2)) else (if r182.1=2 then (some (1,[(r182.2.1.getD 0 undef),(Value.agg ⟨(cellsA (r182.2.1.getD 1 undef))⟩)],r182.2.2)) else (S.bd (lcl (cellsA (r182.2.1.getD 1 undef)) 9) fun x183=>S.bd (Q1e.v (r182.2.1.getD 0 undef) x183 r182.2.2) fun r184=>S.bd (lal (cellsA (r182.2.1.getD 1 undef)) 10 2) fun x185=>S.bd (lal (cellsA (r182.2.1.getD 1 undef)) 12 2) fun x186=>S.bd (stl (cellsA (r182.2.1.getD 1 undef)) 7 2 x185) fun c187=>S.bd (stl c187 5 2 x186) fun c188=>S.bd (lal c188 7 2) fun x189=>S.bd (Q1f.v (r182.2.1.getD 0 undef) x189 r184.2) fun r190=>some (2,[(r182.2.1.getD 0 undef),(Value.agg ⟨c188⟩)],r190.2))))) fun r191=>if r191.1=0 then (some (0,[],r191.2.2)) else (if r191.1=1 then (some (1,[(r191.2.1.getD 0 undef),(Value.agg ⟨(cellsA (r191.2.1.getD 1 undef))⟩)],r191.2.2)) else (S.bd (lal (cellsA (r191.2.1.getD 1 undef)) 5 2) fun x192=>S.bd (Q1h.v (r191.2.1.getD 0 undef) x192 r191.2.2) fun r193=>some (0,[],r193.2)))) fun r194=>if r194.1=0 then (some ((Value.tuple ⟨[]⟩),r194.2.2)) else (S.bd (lal (cellsA (r194.2.1.getD 1 undef)) 7 2) fun x195=>S.bd (Q1f.v (r194.2.1.getD 0 undef) x195 r194.2.2) fun r196=>some ((Value.tuple ⟨[]⟩),r196.2))
def Q1d.v (a0 a1:Value) (s:St):Option (Value×St):=Q1d.t std a0 a1 s
def Q1d.w:List Value→St→Option (Value×St)
  | [a0,a1],s=>Q1d.v a0 a1 s
  | _,_=>none
def Q1d.an:An:=⟨82,false,[3],[],[(14,⟨[],[(.normal,[.v 0,.v 4])]⟩),(15,⟨[],[(.exit 0,[]),(.exit 5,[.v 0,.p 3 3 0,.l 3]),(.exit 6,[.v 0,.p 3 3 0,.l 3]),(.exit 7,[.v 0,.p 3 3 0,.l 3]),(.normal,[.v 0,.p 3 3 0,.l 3])]⟩),(17,⟨[],[(.exit 0,[]),(.exit 6,[.v 0,.p 3 3 0,.l 3]),(.exit 7,[.v 0,.p 3 3 0,.l 3]),(.normal,[.v 0,.p 3 3 0,.l 3])]⟩),(20,⟨[],[(.exit 0,[]),(.exit 7,[.v 0,.p 3 3 0,.l 3]),(.normal,[.v 0,.p 3 3 0,.l 3])]⟩),(21,⟨[],[(.exit 0,[]),(.normal,[.v 0,.p 3 3 0,.l 3])]⟩)],[(16,[(z4 0 0),(z4 1 0),(z4 2 0),(z4 3 0),(z4 4 2),(z4 5 0),(z4 6 25),(z4 7 4),(z4 8 0),(z4 9 0),(z4 10 4)])],[],[]⟩
theorem Q1d.ok (S:Sig) (a0 a1:Value) (s:St):evF S Try.prog Q1d.ctx Q1d.an Try.f59 [a0,a1] s=Q1d.t S a0 a1 s:=by kernel_rfl
theorem Q1d.cok:CtxOk Try.prog Q1d.ctx:=.cons Q1g.sound Q1g.can <| .cons Q1e.sound Q1e.can <| .cons Q1f.sound Q1f.can <| .cons Q1h.sound Q1h.can <| .nil
theorem Q1d.draws:fnDraws Q1d.an Try.f59=true:=by kernel_rfl
theorem Q1d.can:callOk Try.prog 59=true:=by kernel_rfl
theorem Q1d.sound:FnOk Try.prog 59 (.st Q1d.w):=FnOk.st_of (evF_ok Q1d.cok mixed (f:=59) (fn:=Try.f59) (by kernel_rfl) Q1d.draws) fun args s r h=>by
  unfold Q1d.w at h; split at h
  · rw [Q1d.ok std]; exact h
  · simp at h
def Q11.ctx:Ctx:=[(55,.rd Qy.w),(59,.st Q1d.w)]
def Q11.l2 (S:Sig) (rec13:List Value→St→Option Cut) (xs11:List Value) (s12:St):Option Cut :=
  S.bd (bin .lss (xs11.getD 3 undef) (xs11.getD 2 undef)) fun x14=>S.cnd x14 (S.bd (idx s12 14 (xs11.getD 1 undef) (xs11.getD 3 undef)) fun x15=>S.bd (lda s12 14 x15) fun x16=>S.bd (bx (Go.Value.agg #[(.int .i64 0),(.int .u64 0),(.int .i64 0),(.bool Bool.false),(.slice none 0 0),(.int .i64 0),(.int .u64 0),(.int .i64 0),(.int .u64 0),(.int .i64 0),(.int .i64 0),(.int .u64 0),(.int .i64 0),(.int .u64 0)])) fun c17=>S.bd (stl c17 0 14 x16) fun c18=>S.bd (lal c18 0 14) fun x19=>S.bd (Qy.r x19 s12) fun x20=>S.bd (eqb [1] false true x20 (.int .i64 0)) fun x21=>S.cnd x21 (some (1,[(.slice none 0 0),x20],s12)) (S.bd (bin .add (xs11.getD 3 undef) (.int .i64 1)) fun x22=>rec13 [(xs11.getD 0 undef),(xs11.getD 1 undef),(xs11.getD 2 undef),x22] s12)) (some (0,[(xs11.getD 0 undef)],s12))
def Q11.l10 (S:Sig) (rec37:List Value→St→Option Cut) (xs35:List Value) (s36:St):Option Cut :=
  S.bd (bin .lss (xs35.getD 3 undef) (xs35.getD 2 undef)) fun x38=>S.cnd x38 (S.bd (idx s36 14 (xs35.getD 1 undef) (xs35.getD 3 undef)) fun x39=>S.bd (lda s36 14 x39) fun x40=>S.bd (bx (Go.Value.agg #[(.int .i64 0),(.int .u64 0),(.int .i64 0),(.bool Bool.false),(.slice none 0 0),(.int .i64 0),(.int .u64 0),(.int .i64 0),(.int .u64 0),(.int .i64 0),(.int .i64 0),(.int .u64 0),(.int .i64 0),(.int .u64 0)])) fun c41=>S.bd (stl c41 0 14 x40) fun c42=>S.bd (lal c42 0 14) fun x43=>S.bd (Q1d.v (xs35.getD 0 undef) x43 s36) fun r44=>S.bd (bin .add (xs35.getD 3 undef) (.int .i64 1)) fun x45=>rec37 [(xs35.getD 0 undef),(xs35.getD 1 undef),(xs35.getD 2 undef),x45] r44.2) (some (0,[(xs35.getD 0 undef)],s36))
def Q11.t (S:Sig) (a0:Value) (s:St):Option (Value×St) :=
  S.bd (lenL a0) fun x1=>S.bd (S.it (Q11.l2 S) [a0,a0,x1,(.int .i64 0)] s) fun r23=>if r23.1=0 then (S.bd (bld [(.slice none 0 0)] []) fun x24=>S.bd (alv r23.2.2 x24) fun r25=>S.bd (lenL (r23.2.1.getD 0 undef)) fun x26=>S.bd (S.it (Q11.l10 S) [r25.1,(r23.2.1.getD 0 undef),x26,(.int .i64 0)] r25.2) fun r46=>S.bd (nck (r46.2.1.getD 0 undef)) fun x47=>S.bd (fld 0 x47) fun x48=>S.bd (ldc r46.2.2 x48) fun x49=>some ((Value.tuple ⟨[x49,(.int .i64 0)]⟩),r46.2.2)) else (some ((Value.tuple ⟨[(r23.2.1.getD 0 undef),(r23.2.1.getD 1 undef)]⟩),r23.2.2))
def Q11.v (a0:Value) (s:St):Option (Value×St):=Q11.t std a0 s
def Q11.w:List Value→St→Option (Value×St)
  | [a0],s=>Q11.v a0 s
  | _,_=>none
def Q11.an:An:=⟨38,false,[5,9],[(2,⟨[.v 0,.v 10,.v 11,.v 12],[(.exit 0,[.v 0]),(.ret,[.v 2,.v 3])]⟩),(10,⟨[.v 7,.v 24,.v 25,.v 26],[(.exit 2,[.v 7])]⟩)],[],[],[],[]⟩
theorem Q11.ok (S:Sig) (a0:Value) (s:St):evF S Try.prog Q11.ctx Q11.an Try.f38 [a0] s=Q11.t S a0 s:=by kernel_rfl
theorem Q11.cok:CtxOk Try.prog Q11.ctx:=.cons Qy.sound Qy.can <| .cons Q1d.sound Q1d.can <| .nil
theorem Q11.draws:fnDraws Q11.an Try.f38=true:=by kernel_rfl
theorem Q11.can:callOk Try.prog 38=true:=by kernel_rfl
theorem Q11.sound:FnOk Try.prog 38 (.st Q11.w):=FnOk.st_of (evF_ok Q11.cok mixed (f:=38) (fn:=Try.f38) (by kernel_rfl) Q11.draws) fun args s r h=>by
  unfold Q11.w at h; split at h
  · rw [Q11.ok std]; exact h
  · simp at h
def Qh.ctx:Ctx:=[(14,.rd Qc.w),(39,.st Qm.w),(38,.st Q11.w),(30,.st Qo.w)]
def Qh.l6.p1 (S:Sig) (s25:St) (xs24:List Value) (rec26:List Value→St→Option Cut):Option Cut :=
  S.bd (idx s25 2 (xs24.getD 1 undef) (xs24.getD 3 undef)) fun x28=>S.bd (lda s25 2 x28) fun x29=>S.bd (bx (Go.Value.agg #[(.bool Bool.false),(.int .i64 0)])) fun c30=>S.bd (stl c30 0 2 x29) fun c31=>S.bd (lcl c31 0) fun x32=>S.bd (bld [(.int .i64 0),(.int .u64 0),(.int .i64 0),(.bool Bool.false),(.slice none 0 0),(.int .i64 0),(.int .u64 0),(.int .i64 0),(.int .u64 0),(.int .i64 0),(.int .i64 0),(.int .u64 0),(.int .i64 0),(.int .u64 0)] [(0,1,(.int .i64 3)),(3,1,x32)]) fun x33=>S.bd (lcl c31 1) fun x34=>S.bd (bld [(.int .i64 0),(.int .u64 0),(.int .i64 0),(.bool Bool.false),(.slice none 0 0),(.int .i64 0),(.int .u64 0),(.int .i64 0),(.int .u64 0),(.int .i64 0),(.int .i64 0),(.int .u64 0),(.int .i64 0),(.int .u64 0)] [(0,1,(.int .i64 2)),(2,1,x34)]) fun x35=>S.bd (S.bd (bls 14 (List.replicate 2 [(.int .i64 0),(.int .u64 0),(.int .i64 0),(.bool Bool.false),(.slice none 0 0),(.int .i64 0),(.int .u64 0),(.int .i64 0),(.int .u64 0),(.int .i64 0),(.int .i64 0),(.int .u64 0),(.int .i64 0),(.int .u64 0)]) [(0,x33),(1,x35)]) fun rows=>als s25 14 2 rows) fun r36=>S.bd (app r36.2 14 128 (xs24.getD 0 undef) r36.1) fun r37=>S.bd (bin .add (xs24.getD 3 undef) (.int .i64 1)) fun x38=>rec26 [r37.1,(xs24.getD 1 undef),(xs24.getD 2 undef),x38,(Value.agg ⟨(cellsA (xs24.getD 4 undef))⟩)] r37.2
def Qh.l6 (S:Sig) (rec26:List Value→St→Option Cut) (xs24:List Value) (s25:St):Option Cut :=
  S.bd (bin .lss (xs24.getD 3 undef) (xs24.getD 2 undef)) fun x27=>S.cnd x27 (Qh.l6.p1 S s25 xs24 rec26) (some (0,[(xs24.getD 0 undef),(Value.agg ⟨(cellsA (xs24.getD 4 undef))⟩)],s25))
def Qh.t.p1 (S:Sig) (x40:Value) (r39:Cut):Option (Value×St) :=
  S.bd (bld [(.int .i64 0),(.int .u64 0),(.int .i64 0),(.bool Bool.false),(.slice none 0 0),(.int .i64 0),(.int .u64 0),(.int .i64 0),(.int .u64 0),(.int .i64 0),(.int .i64 0),(.int .u64 0),(.int .i64 0),(.int .u64 0)] [(0,1,(.int .i64 2)),(2,1,x40)]) fun x41=>S.bd (S.bd (bls 14 (List.replicate 1 [(.int .i64 0),(.int .u64 0),(.int .i64 0),(.bool Bool.false),(.slice none 0 0),(.int .i64 0),(.int .u64 0),(.int .i64 0),(.int .u64 0),(.int .i64 0),(.int .i64 0),(.int .u64 0),(.int .i64 0),(.int .u64 0)]) [(0,x41)]) fun rows=>als r39.2.2 14 1 rows) fun r42=>S.bd (app r42.2 14 128 (r39.2.1.getD 0 undef) r42.1) fun r43=>S.bd (lcl (cellsA (r39.2.1.getD 1 undef)) 0) fun x44=>S.cnd x44 (S.bd (lal (cellsA (r39.2.1.getD 1 undef)) 21 13) fun x45=>S.bd (Qm.v x45 r43.2) fun r46=>S.bd (app r46.2 14 128 r43.1 r46.1) fun r47=>S.bd (Q11.v r47.1 r47.2) fun r48=>S.bd (xtr 0 r48.1) fun x49=>S.bd (xtr 1 r48.1) fun x50=>some ((Value.tuple ⟨[x49,x50]⟩),r48.2)) (S.bd (lal (cellsA (r39.2.1.getD 1 undef)) 6 15) fun x51=>S.bd (Qo.v x51 r43.2) fun r52=>S.bd (xtr 0 r52.1) fun x53=>S.bd (xtr 1 r52.1) fun x54=>S.bd (lcl (cellsA (r39.2.1.getD 1 undef)) 6) fun x55=>S.bd (cvi .u64 x55) fun x56=>S.bd (bld [(.int .i64 0),(.int .u64 0),(.int .i64 0),(.bool Bool.false),(.slice none 0 0),(.int .i64 0),(.int .u64 0),(.int .i64 0),(.int .u64 0),(.int .i64 0),(.int .i64 0),(.int .u64 0),(.int .i64 0),(.int .u64 0)] [(0,1,(.int .i64 1)),(1,1,x56)]) fun x57=>S.bd (S.bd (bls 14 (List.replicate 1 [(.int .i64 0),(.int .u64 0),(.int .i64 0),(.bool Bool.false),(.slice none 0 0),(.int .i64 0),(.int .u64 0),(.int .i64 0),(.int .u64 0),(.int .i64 0),(.int .i64 0),(.int .u64 0),(.int .i64 0),(.int .u64 0)]) [(0,x57)]) fun rows=>als r52.2 14 1 rows) fun r58=>S.bd (app r58.2 14 128 r43.1 r58.1) fun r59=>S.bd (app r59.2 14 128 r59.1 x53) fun r60=>S.bd (Q11.v r60.1 r60.2) fun r61=>S.bd (xtr 0 r61.1) fun x62=>S.bd (xtr 1 r61.1) fun x63=>some ((Value.tuple ⟨[x62,x63]⟩),r61.2))
def Qh.t (S:Sig) (a0:Value) (s:St):Option (Value×St) :=
  S.bd (bx a0) fun c1=>S.bd (lal c1 0 34) fun x2=>S.bd (Qc.r x2 s) fun x3=>S.bd (eqb [1] false true x3 (.int .i64 0)) fun x4=>S.cnd x4 (some ((Value.tuple ⟨[(.slice none 0 0),x3]⟩),s)) (S.bd (lcl c1 0) fun x5=>S.bd (bld [(.int .i64 0),(.int .u64 0),(.int .i64 0),(.bool Bool.false),(.slice none 0 0),(.int .i64 0),(.int .u64 0),(.int .i64 0),(.int .u64 0),(.int .i64 0),(.int .i64 0),(.int .u64 0),(.int .i64 0),(.int .u64 0)] [(0,1,(.int .i64 3)),(3,1,x5)]) fun x6=>S.bd (S.bd (bls 14 (List.replicate 1 [(.int .i64 0),(.int .u64 0),(.int .i64 0),(.bool Bool.false),(.slice none 0 0),(.int .i64 0),(.int .u64 0),(.int .i64 0),(.int .u64 0),(.int .i64 0),(.int .i64 0),(.int .u64 0),(.int .i64 0),(.int .u64 0)]) [(0,x6)]) fun rows=>als s 14 1 rows) fun r7=>S.bd (lal c1 1 2) fun x8=>S.bd (lal c1 3 2) fun x9=>S.bd (S.bd (bls 2 (List.replicate 2 [(.bool Bool.false),(.int .i64 0)]) [(0,x8),(1,x9)]) fun rows=>als r7.2 2 2 rows) fun r10=>S.bd (lenL r10.1) fun x11=>S.bd (S.it (Qh.l6 S) [r7.1,r10.1,x11,(.int .i64 0),(Value.agg ⟨c1⟩)] r10.2) fun r39=>S.bd (lcl (cellsA (r39.2.1.getD 1 undef)) 5) fun x40=>Qh.t.p1 S x40 r39)
def Qh.v (a0:Value) (s:St):Option (Value×St):=Qh.t std a0 s
def Qh.w:List Value→St→Option (Value×St)
  | [a0],s=>Qh.v a0 s
  | _,_=>none
def Qh.an:An:=⟨75,false,[1,7],[(6,⟨[.p 1 1 0,.v 5,.v 23,.v 24,.v 25,.l 1],[(.exit 0,[.p 1 1 0,.v 5,.l 1])]⟩)],[],[],[],[]⟩
theorem Qh.ok (S:Sig) (a0:Value) (s:St):evF S Try.prog Qh.ctx Qh.an Try.f24 [a0] s=Qh.t S a0 s:=by kernel_rfl
theorem Qh.cok:CtxOk Try.prog Qh.ctx:=.cons Qc.sound Qc.can <| .cons Qm.sound Qm.can <| .cons Q11.sound Q11.can <| .cons Qo.sound Qo.can <| .nil
theorem Qh.draws:fnDraws Qh.an Try.f24=true:=by kernel_rfl
theorem Qh.can:callOk Try.prog 24=true:=by kernel_rfl
theorem Qh.sound:FnOk Try.prog 24 (.st Qh.w):=FnOk.st_of (evF_ok Qh.cok mixed (f:=24) (fn:=Try.f24) (by kernel_rfl) Qh.draws) fun args s r h=>by
  unfold Qh.w at h; split at h
  · rw [Qh.ok std]; exact h
  · simp at h
def Q14.ctx:Ctx:=[(71,.rd Q17.w)]
def Q14.t (S:Sig) (a0:Value) (s:St):Option Value :=
  S.bd (bld [(.int .i64 0),(.int .u64 0),(.int .i64 0),(.bool Bool.false),(.slice none 0 0),(.int .i64 0),(.int .u64 0),(.int .i64 0),(.int .u64 0),(.int .i64 0),(.int .i64 0),(.int .u64 0),(.int .i64 0),(.int .u64 0)] [(0,1,a0)]) fun x1=>S.bd (Q17.r x1 s) fun x2=>S.bd (xtr 0 x2) fun x3=>S.bd (xtr 1 x2) fun x4=>S.bd (bx (Go.Value.agg #[(.int .i64 0),(.int .u64 0),(.int .i64 0),(.bool Bool.false),(.slice none 0 0),(.int .i64 0),(.int .u64 0),(.int .i64 0),(.int .u64 0),(.int .i64 0),(.int .i64 0),(.int .u64 0),(.int .i64 0),(.int .u64 0)])) fun c5=>S.bd (stl c5 0 14 x3) fun c6=>some (x4)
def Q14.r (a0:Value) (s:St):Option Value:=Q14.t std a0 s
def Q14.w:List Value→St→Option Value
  | [a0],s=>Q14.r a0 s
  | _,_=>none
def Q14.an:An:=⟨12,true,[3],[],[],[],[],[]⟩
theorem Q14.ok (S:Sig) (a0:Value) (s:St):evG S Try.prog Q14.ctx Q14.an Try.f86 [a0] s=Q14.t S a0 s:=by kernel_rfl
theorem Q14.cok:CtxOk Try.prog Q14.ctx:=.cons Q17.sound Q17.can <| .nil
theorem Q14.draws:fnDraws Q14.an Try.f86=true:=by kernel_rfl
theorem Q14.can:callOk Try.prog 86=true:=by kernel_rfl
theorem Q14.sound:FnOk Try.prog 86 (.rd Q14.w):=FnOk.rd_of (evG_ok Q14.cok mixed (f:=86) (fn:=Try.f86) (by kernel_rfl) Q14.draws) fun args s r h=>by
  unfold Q14.w at h; split at h
  · rw [Q14.ok std]; exact h
  · simp at h
noncomputable def Q16.ctx:Ctx:=[]
noncomputable def Q16.t (S:Sig) (a0:Value) (s:St):Option (Bool×Value×St) :=
  S.bd (show Option Cut from S.bd (nck a0) fun x11=>S.bd (fld 1 x11) fun x12=>S.bd (ldc s x12) fun x13=>S.bd (nck a0) fun x14=>S.bd (fld 0 x14) fun x15=>S.bd (ldc s x15) fun x16=>S.bd (lenL x16) fun x17=>S.bd (bin .geq x13 x17) fun x18=>S.cnd x18 (S.bd (bld [(.int .i64 0)] [(0,1,(.int .i64 32))]) fun x19=>S.bd (panV (Value.iface 135 x19) s) fun q20=>S.cnd (Value.bool q20.1) (some (0,[a0],q20.2.2)) (some (1,[q20.2.1],q20.2.2))) (some (0,[a0],s))) fun r21=>if r21.1=0 then (S.bd (nck (r21.2.1.getD 0 undef)) fun x22=>S.bd (fld 0 x22) fun x23=>S.bd (ldc r21.2.2 x23) fun x24=>S.bd (nck (r21.2.1.getD 0 undef)) fun x25=>S.bd (fld 1 x25) fun x26=>S.bd (ldc r21.2.2 x26) fun x27=>S.bd (idx r21.2.2 1 x24 x27) fun x28=>S.bd (ldc r21.2.2 x28) fun x29=>some (true,x29,r21.2.2)) else (some (false,(r21.2.1.getD 0 undef),r21.2.2))
noncomputable def Q16.q (a0:Value) (s:St):Option (Bool×Value×St):=Q16.t std a0 s
noncomputable def Q16.w:List Value→St→Option (Bool×Value×St)
  | [a0],s=>Q16.q a0 s
  | _,_=>none
noncomputable def Q16.an:An:=⟨25,false,[],[],[(3,⟨[],[(.normal,[.v 0]),(.pan undef,[])]⟩)],[(1,[(z4 0 0),(z4 1 0),(z4 2 0),(z4 3 2),(z4 4 0),(z4 5 0),(z4 6 0),(z4 7 2),(z4 8 2),(z4 9 0)]),(3,[(z4 0 0),(z4 1 0),(z4 2 0),(z4 3 2),(z4 4 0),(z4 5 0),(z4 6 0),(z4 7 2),(z4 8 2),(z4 9 2),(z4 10 0)])],[],[]⟩
theorem Q16.ok (S:Sig) (a0:Value) (s:St):evP S Try.prog Q16.ctx Q16.an Try.f94 [a0] s=Q16.t S a0 s:=by kernel_rfl
theorem Q16.cok:CtxOk Try.prog Q16.ctx:=.nil
theorem Q16.draws:fnDraws Q16.an Try.f94=true:=by kernel_rfl
theorem Q16.can:callOk Try.prog 94=true:=by kernel_rfl
theorem Q16.sound:FnOk Try.prog 94 (.pn Q16.w):=FnOk.pn_of (evP_ok Q16.cok mixed (f:=94) (fn:=Try.f94) (by kernel_rfl) Q16.draws) fun args s r h=>by
  unfold Q16.w at h; split at h
  · rw [Q16.ok std]; exact h
  · simp at h
def Q13.ctx:Ctx:=[]
def Q13.t (S:Sig) (a0 a1 a2 a3:Value) (s:St):Option Value :=
  S.bd (eqb [1] false false a3 (.int .u64 18446744073709551615)) fun x1=>S.cnd x1 (some ((.bool Bool.true))) (S.bd (bin .gtr a1 (.int .i64 28)) fun x2=>S.cnd x2 (some ((.bool Bool.false))) (S.bd (bin .and a2 (.int .u8 127)) fun x3=>S.bd (cvi .u64 x3) fun x4=>S.bd (cvi .u64 a1) fun x5=>S.bd (bin .shl x4 x5) fun x6=>S.bd (bin .add a0 x6) fun x7=>S.bd (show Option Cut from S.bd (bin .geq a2 (.int .u8 128)) fun x13=>S.cnd x13 (S.bd (bin .add a1 (.int .i64 7)) fun x14=>S.bd (cvi .u64 x14) fun x15=>S.bd (bin .shl (.int .u64 1) x15) fun x16=>S.bd (bin .add x7 x16) fun x17=>some (0,[x17,a3],s)) (some (0,[x7,a3],s))) fun r18=>S.bd (bin .leq (r18.2.1.getD 0 undef) (r18.2.1.getD 1 undef)) fun x19=>some (x19)))
def Q13.r (a0 a1 a2 a3:Value) (s:St):Option Value:=Q13.t std a0 a1 a2 a3 s
def Q13.w:List Value→St→Option Value
  | [a0,a1,a2,a3],s=>Q13.r a0 a1 a2 a3 s
  | _,_=>none
def Q13.an:An:=⟨32,true,[],[],[(8,⟨[],[(.normal,[.v 0,.v 3])]⟩)],[],[],[]⟩
theorem Q13.ok (S:Sig) (a0 a1 a2 a3:Value) (s:St):evG S Try.prog Q13.ctx Q13.an Try.f103 [a0,a1,a2,a3] s=Q13.t S a0 a1 a2 a3 s:=by kernel_rfl
theorem Q13.cok:CtxOk Try.prog Q13.ctx:=.nil
theorem Q13.draws:fnDraws Q13.an Try.f103=true:=by kernel_rfl
theorem Q13.can:callOk Try.prog 103=true:=by kernel_rfl
theorem Q13.sound:FnOk Try.prog 103 (.rd Q13.w):=FnOk.rd_of (evG_ok Q13.cok mixed (f:=103) (fn:=Try.f103) (by kernel_rfl) Q13.draws) fun args s r h=>by
  unfold Q13.w at h; split at h
  · rw [Q13.ok std]; exact h
  · simp at h
noncomputable def Q15.ctx:Ctx:=[(94,.pn Q16.w)]
noncomputable def Q15.t (S:Sig) (a0 a1:Value) (s:St):Option (Bool×Value×St) :=
  S.bd (show Option Cut from S.bd (un .not a1) fun x4=>S.cnd x4 (S.bd (bld [(.int .i64 0)] [(0,1,(.int .i64 31))]) fun x5=>S.bd (panV (Value.iface 135 x5) s) fun q6=>S.cnd (Value.bool q6.1) (some (0,[a0],q6.2.2)) (some (1,[q6.2.1],q6.2.2))) (some (0,[a0],s))) fun r7=>if r7.1=0 then (S.bd (Q16.q (r7.2.1.getD 0 undef) r7.2.2) fun q8=>S.cnd (Value.bool q8.1) (S.bd (nck (r7.2.1.getD 0 undef)) fun x9=>S.bd (fld 1 x9) fun x10=>S.bd (ldc q8.2.2 x10) fun x11=>S.bd (bin .add x11 (.int .i64 1)) fun x12=>S.bd (nck (r7.2.1.getD 0 undef)) fun x13=>S.bd (fld 1 x13) fun x14=>S.bd (stv q8.2.2 1 x14 x12) fun s15=>some (true,q8.2.1,s15)) (some (false,q8.2.1,q8.2.2))) else (some (false,(r7.2.1.getD 0 undef),r7.2.2))
noncomputable def Q15.q (a0 a1:Value) (s:St):Option (Bool×Value×St):=Q15.t std a0 a1 s
noncomputable def Q15.w:List Value→St→Option (Bool×Value×St)
  | [a0,a1],s=>Q15.q a0 a1 s
  | _,_=>none
noncomputable def Q15.an:An:=⟨20,false,[],[],[(3,⟨[],[(.normal,[.v 0]),(.pan undef,[])]⟩)],[],[],[]⟩
theorem Q15.ok (S:Sig) (a0 a1:Value) (s:St):evP S Try.prog Q15.ctx Q15.an Try.f95 [a0,a1] s=Q15.t S a0 a1 s:=by kernel_rfl
theorem Q15.cok:CtxOk Try.prog Q15.ctx:=.cons Q16.sound Q16.can <| .nil
theorem Q15.draws:fnDraws Q15.an Try.f95=true:=by kernel_rfl
theorem Q15.can:callOk Try.prog 95=true:=by kernel_rfl
theorem Q15.sound:FnOk Try.prog 95 (.pn Q15.w):=FnOk.pn_of (evP_ok Q15.cok mixed (f:=95) (fn:=Try.f95) (by kernel_rfl) Q15.draws) fun args s r h=>by
  unfold Q15.w at h; split at h
  · rw [Q15.ok std]; exact h
  · simp at h
noncomputable def Q1b.ctx:Ctx:=[(94,.pn Q16.w),(103,.rd Q13.w),(95,.pn Q15.w)]
noncomputable def Q1b.l4.p1 (S:Sig) (xs35:List Value) (q40:Bool×Value×St) (rec37:List Value→St→Option Cut):Option Cut :=
  S.bd (nck (xs35.getD 0 undef)) fun x41=>S.bd (fld 0 x41) fun x42=>S.bd (bin .gtr (xs35.getD 3 undef) (.int .i64 0)) fun x43=>S.bd (S.gd x43 true (some q40.2.1)) fun x44=>S.bd (S.gd x43 true (eqb [1] false false x44 (.int .u8 0))) fun x45=>S.bd (pik x43 x45 (.bool Bool.false)) fun x46=>S.bd (un .not x46) fun x47=>S.bd (S.gd x47 true (some (xs35.getD 3 undef))) fun x48=>S.bd (S.gd x47 true (eqb [1] false false x48 (.int .i64 9))) fun x49=>S.bd (S.gd x47 true (some x49)) fun x50=>S.bd (S.gd x50 true (some q40.2.1)) fun x51=>S.bd (S.gd x50 true (eqb [1] false true x51 (.int .u8 1))) fun x52=>S.bd (S.gd x47 true (pik x50 x52 (.bool Bool.false))) fun x53=>S.bd (S.gd x47 true (un .not x53)) fun x54=>S.bd (pik x47 x54 (.bool Bool.false)) fun x55=>S.bd (S.gd x55 true (some (xs35.getD 2 undef))) fun x56=>S.bd (S.gd x55 true (some (xs35.getD 3 undef))) fun x57=>S.bd (S.gd x55 true (bin .mul (.int .i64 7) x57)) fun x58=>S.bd (S.gd x55 true (some q40.2.1)) fun x59=>S.bd (S.gd x55 true (some (xs35.getD 1 undef))) fun x60=>S.bd (S.gd x55 true (Q13.r x56 x58 x59 x60 q40.2.2)) fun x61=>S.bd (pik x55 x61 (.bool Bool.false)) fun x62=>S.bd (Q15.q x42 x62 q40.2.2) fun q63=>S.cnd (Value.bool q63.1) (S.bd (bin .and q40.2.1 (.int .u8 127)) fun x64=>S.bd (cvi .u64 x64) fun x65=>S.bd (bin .mul (.int .i64 7) (xs35.getD 3 undef)) fun x66=>S.bd (cvi .u64 x66) fun x67=>S.bd (bin .shl x65 x67) fun x68=>S.bd (bin .or (xs35.getD 2 undef) x68) fun x69=>S.bd (bin .lss q40.2.1 (.int .u8 128)) fun x70=>S.cnd x70 (some (1,[x69],q63.2.2)) (S.bd (bin .add (xs35.getD 3 undef) (.int .i64 1)) fun x71=>rec37 [(xs35.getD 0 undef),(xs35.getD 1 undef),x69,x71] q63.2.2)) (some (0,[q63.2.1],q63.2.2))
noncomputable def Q1b.l4 (S:Sig) (rec37:List Value→St→Option Cut) (xs35:List Value) (s36:St):Option Cut :=
  S.bd (nck (xs35.getD 0 undef)) fun x38=>S.bd (fld 0 x38) fun x39=>S.bd (Q16.q x39 s36) fun q40=>S.cnd (Value.bool q40.1) (Q1b.l4.p1 S xs35 q40 rec37) (some (0,[q40.2.1],q40.2.2))
noncomputable def Q1b.t (S:Sig) (a0 a1:Value) (s:St):Option (Bool×Value×St) :=
  S.bd (S.it (Q1b.l4 S) [a0,a1,(.int .u64 0),(.int .i64 0)] s) fun r72=>if r72.1=0 then (some (false,(r72.2.1.getD 0 undef),r72.2.2)) else (some (true,(r72.2.1.getD 0 undef),r72.2.2))
noncomputable def Q1b.q (a0 a1:Value) (s:St):Option (Bool×Value×St):=Q1b.t std a0 a1 s
noncomputable def Q1b.w:List Value→St→Option (Bool×Value×St)
  | [a0,a1],s=>Q1b.q a0 a1 s
  | _,_=>none
noncomputable def Q1b.an:An:=⟨54,false,[],[(4,⟨[.v 0,.v 1,.v 5,.v 6],[(.pan undef,[]),(.ret,[.v 4])]⟩)],[],[(5,[(z4 0 0),(z4 1 0),(z4 2 0),(z4 3 0),(z4 4 0),(z4 5 0),(z4 6 0),(z4 7 0),(z4 8 0),(z4 9 0),(z4 10 0),(z4 11 0),(z4 12 0),(z4 13 0),(z4 14 0),(z4 15 0),(z4 16 0),(z4 17 0),(z4 18 0),(z4 19 0),(z4 20 0),(z4 21 0),(z4 22 0),(z4 23 0),(z4 24 0),(z4 25 3),(z4 26 0),(z4 27 4)])],[],[]⟩
theorem Q1b.ok (S:Sig) (a0 a1:Value) (s:St):evP S Try.prog Q1b.ctx Q1b.an Try.f92 [a0,a1] s=Q1b.t S a0 a1 s:=by kernel_rfl
theorem Q1b.cok:CtxOk Try.prog Q1b.ctx:=.cons Q16.sound Q16.can <| .cons Q13.sound Q13.can <| .cons Q15.sound Q15.can <| .nil
theorem Q1b.draws:fnDraws Q1b.an Try.f92=true:=by kernel_rfl
theorem Q1b.can:callOk Try.prog 92=true:=by kernel_rfl
theorem Q1b.sound:FnOk Try.prog 92 (.pn Q1b.w):=FnOk.pn_of (evP_ok Q1b.cok mixed (f:=92) (fn:=Try.f92) (by kernel_rfl) Q1b.draws) fun args s r h=>by
  unfold Q1b.w at h; split at h
  · rw [Q1b.ok std]; exact h
  · simp at h
noncomputable def Q19.ctx:Ctx:=[(92,.pn Q1b.w)]
noncomputable def Q19.t (S:Sig) (a0:Value) (s:St):Option (Bool×Value×St) :=
  S.bd (Q1b.q a0 (.int .u64 18446744073709551615) s) fun q1=>S.cnd (Value.bool q1.1) (S.bd (bin .shr q1.2.1 (.int .u64 1)) fun x2=>S.bd (cvi .i64 x2) fun x3=>S.bd (bin .and q1.2.1 (.int .u64 1)) fun x4=>S.bd (cvi .i64 x4) fun x5=>S.bd (un .neg x5) fun x6=>S.bd (bin .xor x3 x6) fun x7=>some (true,x7,q1.2.2)) (some (false,q1.2.1,q1.2.2))
noncomputable def Q19.q (a0:Value) (s:St):Option (Bool×Value×St):=Q19.t std a0 s
noncomputable def Q19.w:List Value→St→Option (Bool×Value×St)
  | [a0],s=>Q19.q a0 s
  | _,_=>none
noncomputable def Q19.an:An:=⟨14,false,[],[],[],[],[],[]⟩
theorem Q19.ok (S:Sig) (a0:Value) (s:St):evP S Try.prog Q19.ctx Q19.an Try.f93 [a0] s=Q19.t S a0 s:=by kernel_rfl
theorem Q19.cok:CtxOk Try.prog Q19.ctx:=.cons Q1b.sound Q1b.can <| .nil
theorem Q19.draws:fnDraws Q19.an Try.f93=true:=by kernel_rfl
theorem Q19.can:callOk Try.prog 93=true:=by kernel_rfl
theorem Q19.sound:FnOk Try.prog 93 (.pn Q19.w):=FnOk.pn_of (evP_ok Q19.cok mixed (f:=93) (fn:=Try.f93) (by kernel_rfl) Q19.draws) fun args s r h=>by
  unfold Q19.w at h; split at h
  · rw [Q19.ok std]; exact h
  · simp at h
noncomputable def Q1c.ctx:Ctx:=[(94,.pn Q16.w),(95,.pn Q15.w)]
noncomputable def Q1c.l5 (S:Sig) (rec38:List Value→St→Option Cut) (xs36:List Value) (s37:St):Option Cut :=
  S.bd (bin .gtr (xs36.getD 1 undef) (.int .i64 0)) fun x39=>S.cnd x39 (S.bd (nck (xs36.getD 0 undef)) fun x40=>S.bd (fld 0 x40) fun x41=>S.bd (Q16.q x41 s37) fun q42=>S.cnd (Value.bool q42.1) (S.bd (bin .sub (.int .i64 8) (xs36.getD 1 undef)) fun x43=>S.bd (mx2 x43 (.int .i64 0)) fun x44=>S.bd (cvi .u64 x44) fun x45=>S.bd (nck (xs36.getD 0 undef)) fun x46=>S.bd (fld 0 x46) fun x47=>S.bd (bin .shl (.int .u8 1) x45) fun x48=>S.bd (bin .sub x48 (.int .u8 1)) fun x49=>S.bd (bin .and q42.2.1 x49) fun x50=>S.bd (eqb [1] false false x50 (.int .u8 0)) fun x51=>S.bd (Q15.q x47 x51 q42.2.2) fun q52=>S.cnd (Value.bool q52.1) (S.bd (lcl (cellsA (xs36.getD 3 undef)) 1) fun x53=>S.bd (bin .sub (.int .u64 8) x45) fun x54=>S.bd (bin .shl x53 x54) fun x55=>S.bd (bin .shr q42.2.1 x45) fun x56=>S.bd (cvi .u64 x56) fun x57=>S.bd (bin .or x55 x57) fun x58=>S.bd (stl (cellsA (xs36.getD 3 undef)) 1 1 x58) fun c59=>S.bd (bin .sub (xs36.getD 1 undef) (.int .i64 8)) fun x60=>rec38 [(xs36.getD 0 undef),x60,(Value.agg ⟨(cellsA (xs36.getD 2 undef))⟩),(Value.agg ⟨c59⟩)] q52.2.2) (some (1,[q52.2.1],q52.2.2))) (some (1,[q42.2.1],q42.2.2))) (some (0,[(Value.agg ⟨(cellsA (xs36.getD 2 undef))⟩),(Value.agg ⟨(cellsA (xs36.getD 3 undef))⟩)],s37))
noncomputable def Q1c.t (S:Sig) (a0:Value) (s:St):Option (Bool×Value×St) :=
  S.bd (bx (Go.Value.agg #[(.int .i64 0),(.int .u64 0)])) fun c1=>S.bd (nck a0) fun x2=>S.bd (fld 0 x2) fun x3=>S.bd (Q16.q x3 s) fun q4=>S.cnd (Value.bool q4.1) (S.bd (nck a0) fun x5=>S.bd (fld 0 x5) fun x6=>S.bd (bin .leq q4.2.1 (.int .u8 32)) fun x7=>S.bd (Q15.q x6 x7 q4.2.2) fun q8=>S.cnd (Value.bool q8.1) (S.bd (cvi .i64 q4.2.1) fun x9=>S.bd (bld [(.int .i64 0),(.int .u64 0)] [(0,1,x9)]) fun x10=>S.bd (bx (Go.Value.agg #[(.int .i64 0),(.int .u64 0)])) fun c11=>S.bd (stl c11 0 2 x10) fun c12=>S.bd (cvi .i64 q4.2.1) fun x13=>S.bd (S.it (Q1c.l5 S) [a0,x13,(Value.agg ⟨c1⟩),(Value.agg ⟨c12⟩)] q8.2.2) fun r61=>if r61.1=0 then (S.bd (lal (cellsA (r61.2.1.getD 1 undef)) 0 2) fun x62=>S.bd (stl (cellsA (r61.2.1.getD 0 undef)) 0 2 x62) fun c63=>S.bd (lal c63 0 2) fun x64=>some (true,x64,r61.2.2)) else (some (false,(r61.2.1.getD 0 undef),r61.2.2))) (some (false,q8.2.1,q8.2.2))) (some (false,q4.2.1,q4.2.2))
noncomputable def Q1c.q (a0:Value) (s:St):Option (Bool×Value×St):=Q1c.t std a0 s
noncomputable def Q1c.w:List Value→St→Option (Bool×Value×St)
  | [a0],s=>Q1c.q a0 s
  | _,_=>none
noncomputable def Q1c.an:An:=⟨57,false,[2,4],[(5,⟨[.v 0,.p 2 2 0,.p 4 4 0,.v 5,.l 2,.l 4],[(.exit 0,[.p 2 2 0,.p 4 4 0,.l 2,.l 4]),(.pan undef,[])]⟩)],[],[],[],[]⟩
theorem Q1c.ok (S:Sig) (a0:Value) (s:St):evP S Try.prog Q1c.ctx Q1c.an Try.f96 [a0] s=Q1c.t S a0 s:=by kernel_rfl
theorem Q1c.cok:CtxOk Try.prog Q1c.ctx:=.cons Q16.sound Q16.can <| .cons Q15.sound Q15.can <| .nil
theorem Q1c.draws:fnDraws Q1c.an Try.f96=true:=by kernel_rfl
theorem Q1c.can:callOk Try.prog 96=true:=by kernel_rfl
theorem Q1c.sound:FnOk Try.prog 96 (.pn Q1c.w):=FnOk.pn_of (evP_ok Q1c.cok mixed (f:=96) (fn:=Try.f96) (by kernel_rfl) Q1c.draws) fun args s r h=>by
  unfold Q1c.w at h; split at h
  · rw [Q1c.ok std]; exact h
  · simp at h
noncomputable def Q1a.ctx:Ctx:=[(94,.pn Q16.w),(95,.pn Q15.w)]
noncomputable def Q1a.l6 (S:Sig) (rec30:List Value→St→Option Cut) (xs28:List Value) (s29:St):Option Cut :=
  S.bd (bin .lss (xs28.getD 1 undef) (.int .i64 8)) fun x31=>S.cnd x31 (S.bd (lcl (cellsA (xs28.getD 3 undef)) 1) fun x32=>S.bd (bin .shl x32 (.int .u64 8)) fun x33=>S.bd (nck (xs28.getD 0 undef)) fun x34=>S.bd (fld 0 x34) fun x35=>S.bd (Q15.q x35 (.bool Bool.true) s29) fun q36=>S.cnd (Value.bool q36.1) (S.bd (cvi .u64 q36.2.1) fun x37=>S.bd (bin .or x33 x37) fun x38=>S.bd (stl (cellsA (xs28.getD 3 undef)) 1 1 x38) fun c39=>S.bd (bin .add (xs28.getD 1 undef) (.int .i64 1)) fun x40=>rec30 [(xs28.getD 0 undef),x40,(Value.agg ⟨(cellsA (xs28.getD 2 undef))⟩),(Value.agg ⟨c39⟩)] q36.2.2) (some (1,[q36.2.1],q36.2.2))) (some (0,[(Value.agg ⟨(cellsA (xs28.getD 2 undef))⟩),(Value.agg ⟨(cellsA (xs28.getD 3 undef))⟩)],s29))
noncomputable def Q1a.t (S:Sig) (a0:Value) (s:St):Option (Bool×Value×St) :=
  S.bd (bx (Go.Value.agg #[(.int .i64 0),(.int .u64 0)])) fun c1=>S.bd (nck a0) fun x2=>S.bd (fld 0 x2) fun x3=>S.bd (Q16.q x3 s) fun q4=>S.cnd (Value.bool q4.1) (S.bd (nck a0) fun x5=>S.bd (fld 0 x5) fun x6=>S.bd (bin .geq q4.2.1 (.int .u8 1)) fun x7=>S.bd (S.gd x7 true (some q4.2.1)) fun x8=>S.bd (S.gd x7 true (bin .leq x8 (.int .u8 3))) fun x9=>S.bd (pik x7 x9 (.bool Bool.false)) fun x10=>S.bd (Q15.q x6 x10 q4.2.2) fun q11=>S.cnd (Value.bool q11.1) (S.bd (cvi .i64 q4.2.1) fun x12=>S.bd (bld [(.int .i64 0),(.int .u64 0)] [(0,1,x12)]) fun x13=>S.bd (bx (Go.Value.agg #[(.int .i64 0),(.int .u64 0)])) fun c14=>S.bd (stl c14 0 2 x13) fun c15=>S.bd (lcl c15 0) fun x16=>S.bd (eqb [1] false false x16 (.int .i64 2)) fun x17=>S.cnd x17 (S.bd (S.it (Q1a.l6 S) [a0,(.int .i64 0),(Value.agg ⟨c1⟩),(Value.agg ⟨c15⟩)] q11.2.2) fun r41=>if r41.1=0 then (S.bd (lal (cellsA (r41.2.1.getD 1 undef)) 0 2) fun x42=>S.bd (stl (cellsA (r41.2.1.getD 0 undef)) 0 2 x42) fun c43=>S.bd (lal c43 0 2) fun x44=>some (true,x44,r41.2.2)) else (some (false,(r41.2.1.getD 0 undef),r41.2.2))) (S.bd (lal c15 0 2) fun x45=>S.bd (stl c1 0 2 x45) fun c46=>S.bd (lal c46 0 2) fun x47=>some (true,x47,q11.2.2))) (some (false,q11.2.1,q11.2.2))) (some (false,q4.2.1,q4.2.2))
noncomputable def Q1a.q (a0:Value) (s:St):Option (Bool×Value×St):=Q1a.t std a0 s
noncomputable def Q1a.w:List Value→St→Option (Bool×Value×St)
  | [a0],s=>Q1a.q a0 s
  | _,_=>none
noncomputable def Q1a.an:An:=⟨39,false,[2,4],[(6,⟨[.v 0,.p 2 2 0,.p 4 4 0,.v 25,.l 2,.l 4],[(.exit 0,[.p 2 2 0,.p 4 4 0,.l 2,.l 4]),(.pan undef,[])]⟩)],[],[(7,[(z4 0 0),(z4 1 33),(z4 2 0),(z4 3 0),(z4 4 0),(z4 5 0),(z4 6 4),(z4 7 0),(z4 8 0),(z4 9 0),(z4 10 37)])],[],[]⟩
theorem Q1a.ok (S:Sig) (a0:Value) (s:St):evP S Try.prog Q1a.ctx Q1a.an Try.f97 [a0] s=Q1a.t S a0 s:=by kernel_rfl
theorem Q1a.cok:CtxOk Try.prog Q1a.ctx:=.cons Q16.sound Q16.can <| .cons Q15.sound Q15.can <| .nil
theorem Q1a.draws:fnDraws Q1a.an Try.f97=true:=by kernel_rfl
theorem Q1a.can:callOk Try.prog 97=true:=by kernel_rfl
theorem Q1a.sound:FnOk Try.prog 97 (.pn Q1a.w):=FnOk.pn_of (evP_ok Q1a.cok mixed (f:=97) (fn:=Try.f97) (by kernel_rfl) Q1a.draws) fun args s r h=>by
  unfold Q1a.w at h; split at h
  · rw [Q1a.ok std]; exact h
  · simp at h
noncomputable def Q18.ctx:Ctx:=[(92,.pn Q1b.w),(93,.pn Q19.w),(94,.pn Q16.w),(95,.pn Q15.w),(96,.pn Q1c.w),(97,.pn Q1a.w)]
noncomputable def Q18.l12 (S:Sig) (rec43:List Value→St→Option Cut) (xs41:List Value) (s42:St):Option Cut :=
  S.bd (bin .lss (xs41.getD 2 undef) (xs41.getD 1 undef)) fun x44=>S.cnd x44 (S.bd (lcl (cellsA (xs41.getD 4 undef)) 4) fun x45=>S.bd (nck (xs41.getD 0 undef)) fun x46=>S.bd (fld 0 x46) fun x47=>S.bd (Q15.q x47 (.bool Bool.true) s42) fun q48=>S.cnd (Value.bool q48.1) (S.bd (S.bd (bls 1 (List.replicate 1 [(.int .u8 0)]) [(0,q48.2.1)]) fun rows=>als q48.2.2 1 1 rows) fun r49=>S.bd (app r49.2 1 1 x45 r49.1) fun r50=>S.bd (stl (cellsA (xs41.getD 4 undef)) 4 1 r50.1) fun c51=>S.bd (bin .add (xs41.getD 2 undef) (.int .u64 1)) fun x52=>rec43 [(xs41.getD 0 undef),(xs41.getD 1 undef),x52,(Value.agg ⟨(cellsA (xs41.getD 3 undef))⟩),(Value.agg ⟨c51⟩)] r50.2) (some (1,[q48.2.1],q48.2.2))) (some (0,[(Value.agg ⟨(cellsA (xs41.getD 3 undef))⟩),(Value.agg ⟨(cellsA (xs41.getD 4 undef))⟩)],s42))
noncomputable def Q18.t.p1 (S:Sig) (a1:Value) (a0:Value) (s:St) (c1:List Value) (c4:List Value):Option (Bool×Value×St) :=
  S.bd (eqb [1] false false a1 (.int .i64 4)) fun x30=>S.cnd x30 (S.bd (Q1b.q a0 (.int .u64 65536) s) fun q31=>S.cnd (Value.bool q31.1) (S.bd (S.it (Q18.l12 S) [a0,q31.2.1,(.int .u64 0),(Value.agg ⟨c1⟩),(Value.agg ⟨c4⟩)] q31.2.2) fun r53=>if r53.1=0 then (S.bd (lal (cellsA (r53.2.1.getD 1 undef)) 0 14) fun x54=>S.bd (stl (cellsA (r53.2.1.getD 0 undef)) 0 14 x54) fun c55=>S.bd (lal c55 0 14) fun x56=>some (true,x56,r53.2.2)) else (some (false,(r53.2.1.getD 0 undef),r53.2.2))) (some (false,q31.2.1,q31.2.2))) (S.bd (eqb [1] false false a1 (.int .i64 5)) fun x57=>S.cnd x57 (S.bd (Q1c.q a0 s) fun q58=>S.cnd (Value.bool q58.1) (S.bd (stl c4 5 2 q58.2.1) fun c59=>S.bd (lal c59 0 14) fun x60=>S.bd (stl c1 0 14 x60) fun c61=>S.bd (lal c61 0 14) fun x62=>some (true,x62,q58.2.2)) (some (false,q58.2.1,q58.2.2))) (S.bd (eqb [1] false false a1 (.int .i64 6)) fun x63=>S.cnd x63 (S.bd (Q1a.q a0 s) fun q64=>S.cnd (Value.bool q64.1) (S.bd (stl c4 7 2 q64.2.1) fun c65=>S.bd (lal c65 0 14) fun x66=>S.bd (stl c1 0 14 x66) fun c67=>S.bd (lal c67 0 14) fun x68=>some (true,x68,q64.2.2)) (some (false,q64.2.1,q64.2.2))) (S.bd (eqb [1] false false a1 (.int .i64 7)) fun x69=>S.cnd x69 (S.bd (Q19.q a0 s) fun q70=>S.cnd (Value.bool q70.1) (S.bd (stl c4 9 1 q70.2.1) fun c71=>S.bd (Q1a.q a0 q70.2.2) fun q72=>S.cnd (Value.bool q72.1) (S.bd (stl c71 10 2 q72.2.1) fun c73=>S.bd (Q1c.q a0 q72.2.2) fun q74=>S.cnd (Value.bool q74.1) (S.bd (stl c73 12 2 q74.2.1) fun c75=>S.bd (lal c75 0 14) fun x76=>S.bd (stl c1 0 14 x76) fun c77=>S.bd (lal c77 0 14) fun x78=>some (true,x78,q74.2.2)) (some (false,q74.2.1,q74.2.2))) (some (false,q72.2.1,q72.2.2))) (some (false,q70.2.1,q70.2.2))) (S.bd (lal c4 0 14) fun x79=>S.bd (stl c1 0 14 x79) fun c80=>S.bd (lal c80 0 14) fun x81=>some (true,x81,s)))))
noncomputable def Q18.t (S:Sig) (a0 a1:Value) (s:St):Option (Bool×Value×St) :=
  S.bd (bx (Go.Value.agg #[(.int .i64 0),(.int .u64 0),(.int .i64 0),(.bool Bool.false),(.slice none 0 0),(.int .i64 0),(.int .u64 0),(.int .i64 0),(.int .u64 0),(.int .i64 0),(.int .i64 0),(.int .u64 0),(.int .i64 0),(.int .u64 0)])) fun c1=>S.bd (bld [(.int .i64 0),(.int .u64 0),(.int .i64 0),(.bool Bool.false),(.slice none 0 0),(.int .i64 0),(.int .u64 0),(.int .i64 0),(.int .u64 0),(.int .i64 0),(.int .i64 0),(.int .u64 0),(.int .i64 0),(.int .u64 0)] [(0,1,a1)]) fun x2=>S.bd (bx (Go.Value.agg #[(.int .i64 0),(.int .u64 0),(.int .i64 0),(.bool Bool.false),(.slice none 0 0),(.int .i64 0),(.int .u64 0),(.int .i64 0),(.int .u64 0),(.int .i64 0),(.int .i64 0),(.int .u64 0),(.int .i64 0),(.int .u64 0)])) fun c3=>S.bd (stl c3 0 14 x2) fun c4=>S.bd (eqb [1] false false a1 (.int .i64 1)) fun x5=>S.cnd x5 (S.bd (Q1b.q a0 (.int .u64 18446744073709551615) s) fun q6=>S.cnd (Value.bool q6.1) (S.bd (stl c4 1 1 q6.2.1) fun c7=>S.bd (lal c7 0 14) fun x8=>S.bd (stl c1 0 14 x8) fun c9=>S.bd (lal c9 0 14) fun x10=>some (true,x10,q6.2.2)) (some (false,q6.2.1,q6.2.2))) (S.bd (eqb [1] false false a1 (.int .i64 2)) fun x11=>S.cnd x11 (S.bd (Q19.q a0 s) fun q12=>S.cnd (Value.bool q12.1) (S.bd (stl c4 2 1 q12.2.1) fun c13=>S.bd (lal c13 0 14) fun x14=>S.bd (stl c1 0 14 x14) fun c15=>S.bd (lal c15 0 14) fun x16=>some (true,x16,q12.2.2)) (some (false,q12.2.1,q12.2.2))) (S.bd (eqb [1] false false a1 (.int .i64 3)) fun x17=>S.cnd x17 (S.bd (nck a0) fun x18=>S.bd (fld 0 x18) fun x19=>S.bd (Q16.q x19 s) fun q20=>S.cnd (Value.bool q20.1) (S.bd (nck a0) fun x21=>S.bd (fld 0 x21) fun x22=>S.bd (bin .leq q20.2.1 (.int .u8 1)) fun x23=>S.bd (Q15.q x22 x23 q20.2.2) fun q24=>S.cnd (Value.bool q24.1) (S.bd (eqb [1] false false q24.2.1 (.int .u8 1)) fun x25=>S.bd (stl c4 3 1 x25) fun c26=>S.bd (lal c26 0 14) fun x27=>S.bd (stl c1 0 14 x27) fun c28=>S.bd (lal c28 0 14) fun x29=>some (true,x29,q24.2.2)) (some (false,q24.2.1,q24.2.2))) (some (false,q20.2.1,q20.2.2))) (Q18.t.p1 S a1 a0 s c1 c4)))
noncomputable def Q18.q (a0 a1:Value) (s:St):Option (Bool×Value×St):=Q18.t std a0 a1 s
noncomputable def Q18.w:List Value→St→Option (Bool×Value×St)
  | [a0,a1],s=>Q18.q a0 a1 s
  | _,_=>none
noncomputable def Q18.an:An:=⟨75,false,[4,5],[(12,⟨[.v 0,.p 4 4 0,.p 5 5 0,.v 37,.v 38,.l 4,.l 5],[(.exit 1,[.p 4 4 0,.p 5 5 0,.l 4,.l 5]),(.pan undef,[])]⟩)],[],[(13,[(z4 0 0),(z4 1 41),(z4 2 0),(z4 3 0),(z4 4 0),(z4 5 4),(z4 6 3),(z4 7 4),(z4 8 0),(z4 9 45)])],[],[]⟩
theorem Q18.ok (S:Sig) (a0 a1:Value) (s:St):evP S Try.prog Q18.ctx Q18.an Try.f88 [a0,a1] s=Q18.t S a0 a1 s:=by kernel_rfl
theorem Q18.cok:CtxOk Try.prog Q18.ctx:=.cons Q1b.sound Q1b.can <| .cons Q19.sound Q19.can <| .cons Q16.sound Q16.can <| .cons Q15.sound Q15.can <| .cons Q1c.sound Q1c.can <| .cons Q1a.sound Q1a.can <| .nil
theorem Q18.draws:fnDraws Q18.an Try.f88=true:=by kernel_rfl
theorem Q18.can:callOk Try.prog 88=true:=by kernel_rfl
theorem Q18.sound:FnOk Try.prog 88 (.pn Q18.w):=FnOk.pn_of (evP_ok Q18.cok mixed (f:=88) (fn:=Try.f88) (by kernel_rfl) Q18.draws) fun args s r h=>by
  unfold Q18.w at h; split at h
  · rw [Q18.ok std]; exact h
  · simp at h
noncomputable def Q10.ctx:Ctx:=[]
theorem Q10.ctxok:CtxOk Try.prog Q10.ctx:=.nil
noncomputable def Qz.ctx:Ctx:=[(86,.rd Q14.w),(88,.pn Q18.w)]
theorem Qz.ctxok:CtxOk Try.prog Qz.ctx:=.cons Q14.sound Q14.can <| .cons Q18.sound Q18.can <| .nil
noncomputable def Qz.l2 (S:Sig) (rec16:List Value→St→Option Cut) (xs14:List Value) (s15:St):Option Cut :=
  S.bd (bin .lss (xs14.getD 7 undef) (xs14.getD 6 undef)) fun x17=>S.cnd x17 (S.bd (idx s15 1 (xs14.getD 5 undef) (xs14.getD 7 undef)) fun x18=>S.bd (ldc s15 x18) fun x19=>S.bd (Q14.r x19 s15) fun x20=>S.bd (un .not x20) fun x21=>S.cnd x21 (S.bd (stv s15 1 (xs14.getD 2 undef) (.slice none 0 0)) fun s22=>S.bd (stv s22 1 (xs14.getD 3 undef) (.int .i64 0)) fun s23=>S.bd (stv s23 1 (xs14.getD 4 undef) (.int .i64 30)) fun s24=>some (1,[(xs14.getD 2 undef),(xs14.getD 3 undef),(xs14.getD 4 undef)],s24)) (S.bd (bin .add (xs14.getD 7 undef) (.int .i64 1)) fun x25=>rec16 [(xs14.getD 0 undef),(xs14.getD 1 undef),(xs14.getD 2 undef),(xs14.getD 3 undef),(xs14.getD 4 undef),(xs14.getD 5 undef),(xs14.getD 6 undef),x25] s15)) (some (0,[(xs14.getD 0 undef),(xs14.getD 1 undef),(xs14.getD 2 undef),(xs14.getD 3 undef),(xs14.getD 4 undef)],s15))
noncomputable def Qz.l10 (S:Sig) (rec49:List Value→St→Option Cut) (xs47:List Value) (s48:St):Option Cut :=
  S.bd (bin .lss (xs47.getD 6 undef) (xs47.getD 5 undef)) fun x50=>S.cnd x50 (S.bd (idx s48 1 (xs47.getD 4 undef) (xs47.getD 6 undef)) fun x51=>S.bd (ldc s48 x51) fun x52=>S.bd (ldc s48 (xs47.getD 0 undef)) fun x53=>S.bd (ldc s48 (xs47.getD 3 undef)) fun x54=>S.bd (Q18.q x54 x52 s48) fun q55=>S.cnd (Value.bool q55.1) (S.bd (ldc q55.2.2 (xs47.getD 0 undef)) fun x56=>S.cnd (Value.bool (sameV x56 x53)) (S.bd (S.bd (bls 14 (List.replicate 1 [(.int .i64 0),(.int .u64 0),(.int .i64 0),(.bool Bool.false),(.slice none 0 0),(.int .i64 0),(.int .u64 0),(.int .i64 0),(.int .u64 0),(.int .i64 0),(.int .i64 0),(.int .u64 0),(.int .i64 0),(.int .u64 0)]) [(0,q55.2.1)]) fun rows=>als q55.2.2 14 1 rows) fun r57=>S.bd (app r57.2 14 128 x53 r57.1) fun r58=>S.bd (stv r58.2 1 (xs47.getD 0 undef) r58.1) fun s59=>S.bd (bin .add (xs47.getD 6 undef) (.int .i64 1)) fun x60=>rec49 [(xs47.getD 0 undef),(xs47.getD 1 undef),(xs47.getD 2 undef),(xs47.getD 3 undef),(xs47.getD 4 undef),(xs47.getD 5 undef),x60] s59) (none)) (some (1,[q55.2.1,(xs47.getD 0 undef),(xs47.getD 1 undef),(xs47.getD 2 undef)],q55.2.2))) (some (0,[(xs47.getD 0 undef),(xs47.getD 1 undef),(xs47.getD 2 undef),(xs47.getD 3 undef)],s48))
noncomputable def Qz.h (S:Sig) (a0 a1:Value) (s:St):Option (Bool×List Value×St) :=
  S.bd (alv s (.slice none 0 0)) fun r1=>S.bd (alv r1.2 (.int .i64 0)) fun r2=>S.bd (alv r2.2 (.int .i64 0)) fun r3=>S.bd (lenL a1) fun x4=>S.bd (S.it (Qz.l2 S) [a0,a1,r1.1,r2.1,r3.1,a1,x4,(.int .i64 0)] r3.2) fun r26=>if r26.1=0 then (S.bd (bld [(.slice none 0 0),(.int .i64 0)] [(0,1,(r26.2.1.getD 0 undef))]) fun x30=>S.bd (bld [(.slice none 0 0),(.int .i64 0)] [(0,2,x30)]) fun x31=>S.bd (alv r26.2.2 x31) fun r32=>S.bd (alv r32.2 (.pointer none)) fun r33=>S.bd (stv r33.2 1 r33.1 r32.1) fun s34=>some (true,[(r26.2.1.getD 1 undef),(r26.2.1.getD 2 undef),(r26.2.1.getD 3 undef),(r26.2.1.getD 4 undef),r33.1],s34)) else (S.bd (ldc r26.2.2 (r26.2.1.getD 0 undef)) fun x27=>S.bd (ldc r26.2.2 (r26.2.1.getD 1 undef)) fun x28=>S.bd (ldc r26.2.2 (r26.2.1.getD 2 undef)) fun x29=>some (false,[x27,x28,x29],r26.2.2))
noncomputable def Qz.b (S:Sig) (a0 a1 a2 a3 a4 a5:Value) (s:St):Option (Bool×Value×List Value×St) :=
  S.bd (lenL a1) fun x35=>S.bd (S.it (Qz.l10 S) [a2,a3,a4,a5,a1,x35,(.int .i64 0)] s) fun r61=>if r61.1=0 then (S.bd (ldc r61.2.2 (r61.2.1.getD 0 undef)) fun x62=>S.bd (ldc r61.2.2 (r61.2.1.getD 3 undef)) fun x63=>S.bd (nck x63) fun x64=>S.bd (fld 0 x64) fun x65=>S.bd (fld 1 x65) fun x66=>S.bd (ldc r61.2.2 x66) fun x67=>S.bd (stv r61.2.2 1 (r61.2.1.getD 0 undef) x62) fun s68=>S.bd (ldc s68 (r61.2.1.getD 3 undef)) fun x69=>S.cnd (Value.bool (sameV x69 x63)) (S.bd (ldc s68 x66) fun x70=>S.cnd (Value.bool (sameV x70 x67)) (S.bd (stv s68 1 (r61.2.1.getD 1 undef) x67) fun s71=>S.bd (stv s71 1 (r61.2.1.getD 2 undef) (.int .i64 0)) fun s72=>some (true,undef,[(r61.2.1.getD 0 undef),(r61.2.1.getD 1 undef),(r61.2.1.getD 2 undef)],s72)) (none)) (none)) else (some (false,(r61.2.1.getD 0 undef),[(r61.2.1.getD 1 undef),(r61.2.1.getD 2 undef),(r61.2.1.getD 3 undef)],r61.2.2))
noncomputable def Q10.c (S:Sig) (a0 a1 a2 a3 a4:Value) (s:St):Option St :=
  S.bd (eqI false a4 Go.Value.nilIface) fun x1=>S.cnd x1 (some s) (S.bd (tas Try.prog 135 true (Go.Value.agg #[(.int .i64 0)]) a4) fun x2=>S.bd (xtr 0 x2) fun x3=>S.bd (xtr 1 x2) fun x4=>S.bd (bx (Go.Value.agg #[(.int .i64 0)])) fun c5=>S.bd (stl c5 0 1 x3) fun c6=>S.bd (show Option Cut from S.bd (un .not x4) fun x9=>S.cnd x9 (S.bd (panV a4 s) fun q10=>S.cnd (Value.bool q10.1) (some (0,[a0,a1,a2,a3,(Value.agg ⟨c6⟩)],q10.2.2)) (some (1,[q10.2.1],q10.2.2))) (some (0,[a0,a1,a2,a3,(Value.agg ⟨c6⟩)],s))) fun r11=>if r11.1=0 then (S.bd (ldc r11.2.2 (r11.2.1.getD 0 undef)) fun x12=>S.bd (nck x12) fun x13=>S.bd (fld 0 x13) fun x14=>S.bd (fld 1 x14) fun x15=>S.bd (ldc r11.2.2 x15) fun x16=>S.bd (lcl (cellsA (r11.2.1.getD 4 undef)) 0) fun x17=>S.bd (stv r11.2.2 1 (r11.2.1.getD 1 undef) (.slice none 0 0)) fun s18=>S.bd (stv s18 1 (r11.2.1.getD 2 undef) x16) fun s19=>S.bd (stv s19 1 (r11.2.1.getD 3 undef) x17) fun s20=>some s20) else (none))
noncomputable def Qz.an:An:=⟨46,false,[],[(2,⟨[.v 0,.v 1,.v 4,.v 5,.v 6,.v 12,.v 13,.v 14],[(.exit 0,[.v 0,.v 1,.v 4,.v 5,.v 6]),(.ret,[.v 4,.v 5,.v 6])]⟩),(10,⟨[.v 4,.v 5,.v 6,.v 9,.v 27,.v 28,.v 29],[(.exit 2,[.v 4,.v 5,.v 6,.v 9]),(.pan undef,[.v 4,.v 5,.v 6])]⟩)],[],[(12,[(z4 0 2),(z4 1 2),(z4 2 0),(3,4,[0],[]),(z4 4 3),(z4 5 4),(z4 6 4)]),(14,[(z4 0 2),(z4 1 2),(z4 2 0),(z4 3 0),(z4 4 0),(z4 5 2),(6,4,[1,5],[]),(z4 7 4),(z4 8 4)])],[],[]⟩
noncomputable def Qz.an2 (D:List Deferred):An:=⟨46,false,[],[(2,⟨[.v 0,.v 1,.v 4,.v 5,.v 6,.v 12,.v 13,.v 14],[(.exit 0,[.v 0,.v 1,.v 4,.v 5,.v 6]),(.ret,[.v 4,.v 5,.v 6])]⟩),(10,⟨[.v 4,.v 5,.v 6,.v 9,.v 27,.v 28,.v 29],[(.exit 2,[.v 4,.v 5,.v 6,.v 9]),(.pan undef,[.v 4,.v 5,.v 6])]⟩)],[],[(12,[(z4 0 2),(z4 1 2),(z4 2 0),(3,4,[0],[]),(z4 4 3),(z4 5 4),(z4 6 4)]),(14,[(z4 0 2),(z4 1 2),(z4 2 0),(z4 3 0),(z4 4 0),(z4 5 2),(6,4,[1,5],[]),(z4 7 4),(z4 8 4)])],D,[4,5,6]⟩
noncomputable def Q10.an:An:=⟨25,false,[5],[],[(5,⟨[],[(.normal,[.v 0,.v 1,.v 2,.v 3,.p 5 5 0,.l 5]),(.pan undef,[])]⟩)],[(5,[(z4 0 2),(z4 1 0),(z4 2 0),(z4 3 0),(z4 4 2),(z4 5 0),(z4 6 41),(z4 7 4),(z4 8 4),(z4 9 4)])],[],[]⟩
theorem Qz.hok (S:Sig) (a0 a1:Value) (s:St):dfHead S Try.prog Qz.ctx Qz.an (dfP1 Try.f66) (dfP2 Try.f66) (dfP3 Try.f66) [1,4,5,6,9] Try.f66.results.toList [a0,a1] s=Qz.h S a0 a1 s:=by kernel_rfl
theorem Qz.bok (S:Sig) (D:List Deferred) (a0 a1 a2 a3 a4 a5:Value) (s:St):dfBody S Try.prog Qz.ctx (Qz.an2 D) (dfP4 Try.f66) 26 a0 [1,4,5,6,9] [4,5,6] [a1,a2,a3,a4,a5] s=Qz.b S a0 a1 a2 a3 a4 a5 s:=by kernel_rfl
theorem Q10.cok (S:Sig) (a0 a1 a2 a3 a4:Value) (s:St):cloB S Try.prog Q10.ctx Q10.an (clP Try.f87) 4 [a0,a1,a2,a3] a4 s=Q10.c S a0 a1 a2 a3 a4 s:=by kernel_rfl
noncomputable def Qz.hw:List Value→St→Option (Bool×List Value×St)
  | [a0,a1],s=>Qz.h std a0 a1 s
  | _,_=>none
noncomputable def Qz.bw:Value→List Value→St→Option (Bool×Value×List Value×St)
  | a0,[a1,a2,a3,a4,a5],s=>Qz.b std a0 a1 a2 a3 a4 a5 s
  | _,_,_=>none
noncomputable def Q10.cw:List Value→Value→St→Option St
  | [a0,a1,a2,a3],a4,s=>Q10.c std a0 a1 a2 a3 a4 s
  | _,_,_=>none
theorem Q10.can:callOk Try.prog 87=true:=by kernel_rfl
theorem Q10.clo : CloOk Try.prog 87 Q10.cw := clo_ok Q10.ctxok mixed (an := Q10.an) (f := 87) (fn := Try.f87) (B := clP Try.f87) (id := 0) (t1 := 7) (t2 := 4) (ty1 := 20) (p1 := "pack.go:281") (ed1 := #[]) (ty2 := 20) (p2 := "pack.go:281") (ed2 := #[(Go.Edge.mk 0 Go.Ground.data), (Go.Edge.mk 0 Go.Ground.chain), (Go.Edge.mk 0 Go.Ground.phase)])
  (by kernel_rfl) (by kernel_rfl) (by kernel_rfl) (by decide) (by decide) rfl (by kernel_rfl) (by kernel_rfl) fun args x s r h=>by
  unfold Q10.cw at h; split at h
  · exact ⟨by simp,by simp,(Q10.cok std ..).trans h⟩
  · simp at h
noncomputable def Qz.w:List Value→St→Option (Value×St):=dfW Try.prog Qz.hw Qz.bw 87 [1,4,5,6,9] [Operand.tmp 9,Operand.tmp 4,Operand.tmp 5,Operand.tmp 6] Q10.cw Try.f66.results.toList [4,5,6]
noncomputable def Qz.v (a0 a1:Value) (s:St):Option (Value×St):=Qz.w [a0,a1] s
theorem Qz.can:callOk Try.prog 66=true:=by kernel_rfl
theorem Qz.sound : FnOk Try.prog 66 (.st Qz.w) := defer_ok (an := Qz.an) (an2 := Qz.an2) Qz.ctxok Qz.ctxok mixed (f := 66) (f2 := 87) (fn := Try.f66) (H1 := dfP1 Try.f66) (H2 := dfP2 Try.f66) (H3 := dfP3 Try.f66) (B := dfP4 Try.f66) (id := 8) (t := 26) (caps := [Operand.tmp 9, Operand.tmp 4, Operand.tmp 5, Operand.tmp 6]) (ts := [1, 4, 5, 6, 9]) (zs := [4, 5, 6]) (ty1 := 1) (p1 := "pack.go:280") (ed1 := #[]) (ty2 := 0) (p2 := "pack.go:280") (ed2 := #[(Go.Edge.mk 0 Go.Ground.data)])
  (by kernel_rfl) (by kernel_rfl) (by kernel_rfl) (by decide) rfl (fun _=>⟨rfl,rfl⟩) (by kernel_rfl) (by kernel_rfl) (by kernel_rfl) (fun D=>by kernel_rfl) Q10.can Q10.clo (fun args s r h=>by
  unfold Qz.hw at h; split at h
  · exact ⟨by simp [Qz.an],(Qz.hok std ..).trans h⟩
  · simp at h) fun D v ys s r h=>by
  unfold Qz.bw at h; split at h
  · exact (Qz.bok std ..).trans h
  · simp at h
def Qw.ctx:Ctx:=[(66,.st Qz.w)]
def Qw.t (S:Sig) (a0 a1:Value) (s:St):Option (Value×St) :=
  S.bd (bx (Go.Value.agg #[(.int .i64 0),(.int .u64 0),(.int .i64 0),(.bool Bool.false),(.slice none 0 0),(.int .i64 0),(.int .u64 0),(.int .i64 0),(.int .u64 0),(.int .i64 0),(.int .i64 0),(.int .u64 0),(.int .i64 0),(.int .u64 0)])) fun c1=>S.bd (nck a0) fun x2=>S.bd (fld 0 x2) fun x3=>S.bd (ldc s x3) fun x4=>S.bd (S.bd (bls 1 (List.replicate 1 [(.int .i64 0)]) [(0,a1)]) fun rows=>als s 1 1 rows) fun r5=>S.bd (Qz.v x4 r5.1 r5.2) fun r6=>S.bd (xtr 0 r6.1) fun x7=>S.bd (xtr 1 r6.1) fun x8=>S.bd (xtr 2 r6.1) fun x9=>S.bd (eqb [1] false true x9 (.int .i64 0)) fun x10=>S.bd (S.gd x10 false (some a0)) fun x11=>S.bd (S.gd x10 false (nck x11)) fun x12=>S.bd (S.gd x10 false (fld 1 x12)) fun x13=>S.bd (S.gd x10 false (ldc r6.2 x13)) fun x14=>S.bd (S.gd x10 false (un .not x14)) fun x15=>S.bd (pik x10 (.bool Bool.true) x15) fun x16=>S.cnd x16 (S.bd (nck a0) fun x17=>S.bd (fld 1 x17) fun x18=>S.bd (stv r6.2 1 x18 (.bool Bool.false)) fun s19=>S.bd (bld [(.int .i64 0),(.int .u64 0),(.int .i64 0),(.bool Bool.false),(.slice none 0 0),(.int .i64 0),(.int .u64 0),(.int .i64 0),(.int .u64 0),(.int .i64 0),(.int .i64 0),(.int .u64 0),(.int .i64 0),(.int .u64 0)] []) fun x20=>S.bd (stl c1 0 14 x20) fun c21=>S.bd (lal c21 0 14) fun x22=>some (x22,s19)) (S.bd (nck a0) fun x23=>S.bd (fld 0 x23) fun x24=>S.bd (ldc r6.2 x24) fun x25=>S.bd (slc r6.2 1 x25 (some x8) none none) fun x26=>S.bd (nck a0) fun x27=>S.bd (fld 0 x27) fun x28=>S.bd (stv r6.2 1 x28 x26) fun s29=>S.bd (idx s29 14 x7 (.int .i64 0)) fun x30=>S.bd (lda s29 14 x30) fun x31=>S.bd (stl c1 0 14 x31) fun c32=>S.bd (lal c32 0 14) fun x33=>some (x33,s29))
def Qw.v (a0 a1:Value) (s:St):Option (Value×St):=Qw.t std a0 a1 s
def Qw.w:List Value→St→Option (Value×St)
  | [a0,a1],s=>Qw.v a0 a1 s
  | _,_=>none
def Qw.an:An:=⟨44,false,[4],[],[],[],[],[]⟩
theorem Qw.ok (S:Sig) (a0 a1:Value) (s:St):evF S Try.prog Qw.ctx Qw.an Try.f45 [a0,a1] s=Qw.t S a0 a1 s:=by kernel_rfl
theorem Qw.cok:CtxOk Try.prog Qw.ctx:=.cons Qz.sound Qz.can <| .nil
theorem Qw.draws:fnDraws Qw.an Try.f45=true:=by kernel_rfl
theorem Qw.can:callOk Try.prog 45=true:=by kernel_rfl
theorem Qw.sound:FnOk Try.prog 45 (.st Qw.w):=FnOk.st_of (evF_ok Qw.cok mixed (f:=45) (fn:=Try.f45) (by kernel_rfl) Qw.draws) fun args s r h=>by
  unfold Qw.w at h; split at h
  · rw [Qw.ok std]; exact h
  · simp at h
def Qr.ctx:Ctx:=[(45,.st Qw.w)]
def Qr.t (S:Sig) (a0:Value) (s:St):Option (Value×St) :=
  S.bd (bx (Go.Value.agg #[(.bool Bool.false),(.int .i64 0)])) fun c1=>S.bd (Qw.v a0 (.int .i64 3) s) fun r2=>S.bd (prt 3 1 false r2.1) fun x3=>S.bd (Qw.v a0 (.int .i64 2) r2.2) fun r4=>S.bd (prt 2 1 false r4.1) fun x5=>S.bd (bld [(.bool Bool.false),(.int .i64 0)] [(0,1,x3),(1,1,x5)]) fun x6=>S.bd (stl c1 0 2 x6) fun c7=>S.bd (lal c7 0 2) fun x8=>some (x8,r4.2)
def Qr.v (a0:Value) (s:St):Option (Value×St):=Qr.t std a0 s
def Qr.w:List Value→St→Option (Value×St)
  | [a0],s=>Qr.v a0 s
  | _,_=>none
def Qr.an:An:=⟨10,false,[2],[],[],[],[],[]⟩
theorem Qr.ok (S:Sig) (a0:Value) (s:St):evF S Try.prog Qr.ctx Qr.an Try.f46 [a0] s=Qr.t S a0 s:=by kernel_rfl
theorem Qr.cok:CtxOk Try.prog Qr.ctx:=.cons Qw.sound Qw.can <| .nil
theorem Qr.draws:fnDraws Qr.an Try.f46=true:=by kernel_rfl
theorem Qr.can:callOk Try.prog 46=true:=by kernel_rfl
theorem Qr.sound:FnOk Try.prog 46 (.st Qr.w):=FnOk.st_of (evF_ok Qr.cok mixed (f:=46) (fn:=Try.f46) (by kernel_rfl) Qr.draws) fun args s r h=>by
  unfold Qr.w at h; split at h
  · rw [Qr.ok std]; exact h
  · simp at h
def Qu.ctx:Ctx:=[(45,.st Qw.w)]
def Qu.t (S:Sig) (a0:Value) (s:St):Option (Value×St) :=
  S.bd (Qw.v a0 (.int .i64 1) s) fun r1=>S.bd (prt 1 1 false r1.1) fun x2=>S.bd (bin .gtr x2 (.int .u64 100)) fun x3=>S.cnd x3 (S.bd (nck a0) fun x4=>S.bd (fld 1 x4) fun x5=>S.bd (stv r1.2 1 x5 (.bool Bool.false)) fun s6=>some ((.int .i64 0),s6)) (S.bd (cvi .i64 x2) fun x7=>some (x7,r1.2))
def Qu.v (a0:Value) (s:St):Option (Value×St):=Qu.t std a0 s
def Qu.w:List Value→St→Option (Value×St)
  | [a0],s=>Qu.v a0 s
  | _,_=>none
def Qu.an:An:=⟨14,false,[],[],[],[],[],[]⟩
theorem Qu.ok (S:Sig) (a0:Value) (s:St):evF S Try.prog Qu.ctx Qu.an Try.f67 [a0] s=Qu.t S a0 s:=by kernel_rfl
theorem Qu.cok:CtxOk Try.prog Qu.ctx:=.cons Qw.sound Qw.can <| .nil
theorem Qu.draws:fnDraws Qu.an Try.f67=true:=by kernel_rfl
theorem Qu.can:callOk Try.prog 67=true:=by kernel_rfl
theorem Qu.sound:FnOk Try.prog 67 (.st Qu.w):=FnOk.st_of (evF_ok Qu.cok mixed (f:=67) (fn:=Try.f67) (by kernel_rfl) Qu.draws) fun args s r h=>by
  unfold Qu.w at h; split at h
  · rw [Qu.ok std]; exact h
  · simp at h
def Qv.ctx:Ctx:=[(45,.st Qw.w)]
def Qv.t (S:Sig) (a0:Value) (s:St):Option (Value×St) :=
  S.bd (bx (Go.Value.agg #[(.int .i64 0),(.int .i64 0),(.int .u64 0),(.int .i64 0),(.int .u64 0)])) fun c1=>S.bd (Qw.v a0 (.int .i64 3) s) fun r2=>S.bd (prt 3 1 false r2.1) fun x3=>S.bd (un .not x3) fun x4=>S.cnd x4 (S.bd (bld [(.int .i64 0),(.int .i64 0),(.int .u64 0),(.int .i64 0),(.int .u64 0)] []) fun x5=>S.bd (stl c1 0 5 x5) fun c6=>S.bd (lal c6 0 5) fun x7=>some (x7,r2.2)) (S.bd (Qw.v a0 (.int .i64 7) r2.2) fun r8=>S.bd (prt 9 5 true r8.1) fun x9=>S.bd (stl c1 0 5 x9) fun c10=>S.bd (lal c10 0 5) fun x11=>some (x11,r8.2))
def Qv.v (a0:Value) (s:St):Option (Value×St):=Qv.t std a0 s
def Qv.w:List Value→St→Option (Value×St)
  | [a0],s=>Qv.v a0 s
  | _,_=>none
def Qv.an:An:=⟨11,false,[2],[],[],[],[],[]⟩
theorem Qv.ok (S:Sig) (a0:Value) (s:St):evF S Try.prog Qv.ctx Qv.an Try.f68 [a0] s=Qv.t S a0 s:=by kernel_rfl
theorem Qv.cok:CtxOk Try.prog Qv.ctx:=.cons Qw.sound Qw.can <| .nil
theorem Qv.draws:fnDraws Qv.an Try.f68=true:=by kernel_rfl
theorem Qv.can:callOk Try.prog 68=true:=by kernel_rfl
theorem Qv.sound:FnOk Try.prog 68 (.st Qv.w):=FnOk.st_of (evF_ok Qv.cok mixed (f:=68) (fn:=Try.f68) (by kernel_rfl) Qv.draws) fun args s r h=>by
  unfold Qv.w at h; split at h
  · rw [Qv.ok std]; exact h
  · simp at h
def Qs.ctx:Ctx:=[(67,.st Qu.w),(45,.st Qw.w),(68,.st Qv.w)]
def Qs.t (S:Sig) (a0:Value) (s:St):Option (Value×St) :=
  S.bd (bx (Go.Value.agg #[(.int .i64 0),(.bool Bool.false),(.int .i64 0),(.int .i64 0),(.int .u64 0),(.int .i64 0),(.int .u64 0),(.int .i64 0),(.int .i64 0),(.int .u64 0),(.int .i64 0),(.int .u64 0),(.slice none 0 0)])) fun c1=>S.bd (Qu.v a0 s) fun r2=>S.bd (bld [(.int .i64 0),(.bool Bool.false),(.int .i64 0),(.int .i64 0),(.int .u64 0),(.int .i64 0),(.int .u64 0),(.int .i64 0),(.int .i64 0),(.int .u64 0),(.int .i64 0),(.int .u64 0),(.slice none 0 0)] [(0,1,r2.1)]) fun x3=>S.bd (bx (Go.Value.agg #[(.int .i64 0),(.bool Bool.false),(.int .i64 0),(.int .i64 0),(.int .u64 0),(.int .i64 0),(.int .u64 0),(.int .i64 0),(.int .i64 0),(.int .u64 0),(.int .i64 0),(.int .u64 0),(.slice none 0 0)])) fun c4=>S.bd (stl c4 0 13 x3) fun c5=>S.bd (lcl c5 0) fun x6=>S.bd (eqb [1] false true x6 (.int .i64 1)) fun x7=>S.bd (S.gd x7 true (lcl c5 0)) fun x8=>S.bd (S.gd x7 true (eqb [1] false true x8 (.int .i64 3))) fun x9=>S.bd (pik x7 x9 (.bool Bool.false)) fun x10=>S.cnd x10 (S.bd (lal c5 0 13) fun x11=>S.bd (stl c1 0 13 x11) fun c12=>S.bd (lal c12 0 13) fun x13=>some (x13,r2.2)) (S.bd (Qw.v a0 (.int .i64 3) r2.2) fun r14=>S.bd (prt 3 1 false r14.1) fun x15=>S.bd (stl c5 1 1 x15) fun c16=>S.bd (Qv.v a0 r14.2) fun r17=>S.bd (stl c16 2 5 r17.1) fun c18=>S.bd (Qv.v a0 r17.2) fun r19=>S.bd (stl c18 7 5 r19.1) fun c20=>S.bd (lcl c20 0) fun x21=>S.bd (eqb [1] false false x21 (.int .i64 1)) fun x22=>S.cnd x22 (S.bd (Qw.v a0 (.int .i64 4) r19.2) fun r23=>S.bd (prt 4 1 false r23.1) fun x24=>S.bd (stl c20 12 1 x24) fun c25=>S.bd (lal c25 0 13) fun x26=>S.bd (stl c1 0 13 x26) fun c27=>S.bd (lal c27 0 13) fun x28=>some (x28,r23.2)) (S.bd (lal c20 0 13) fun x29=>S.bd (stl c1 0 13 x29) fun c30=>S.bd (lal c30 0 13) fun x31=>some (x31,r19.2)))
def Qs.v (a0:Value) (s:St):Option (Value×St):=Qs.t std a0 s
def Qs.w:List Value→St→Option (Value×St)
  | [a0],s=>Qs.v a0 s
  | _,_=>none
def Qs.an:An:=⟨34,false,[2,3],[],[],[],[],[]⟩
theorem Qs.ok (S:Sig) (a0:Value) (s:St):evF S Try.prog Qs.ctx Qs.an Try.f47 [a0] s=Qs.t S a0 s:=by kernel_rfl
theorem Qs.cok:CtxOk Try.prog Qs.ctx:=.cons Qu.sound Qu.can <| .cons Qw.sound Qw.can <| .cons Qv.sound Qv.can <| .nil
theorem Qs.draws:fnDraws Qs.an Try.f47=true:=by kernel_rfl
theorem Qs.can:callOk Try.prog 47=true:=by kernel_rfl
theorem Qs.sound:FnOk Try.prog 47 (.st Qs.w):=FnOk.st_of (evF_ok Qs.cok mixed (f:=47) (fn:=Try.f47) (by kernel_rfl) Qs.draws) fun args s r h=>by
  unfold Qs.w at h; split at h
  · rw [Qs.ok std]; exact h
  · simp at h
def Qt.ctx:Ctx:=[(67,.st Qu.w),(54,.st Qq.w),(45,.st Qw.w),(56,.rd Qp.w)]
def Qt.l6 (S:Sig) (rec24:List Value→St→Option Cut) (xs22:List Value) (s23:St):Option Cut :=
  S.bd (bin .lss (xs22.getD 5 undef) (xs22.getD 4 undef)) fun x25=>S.cnd x25 (S.bd (idx s23 1 (xs22.getD 3 undef) (xs22.getD 5 undef)) fun x26=>S.bd (ldc s23 x26) fun x27=>S.bd (Qw.v (xs22.getD 0 undef) x27 s23) fun r28=>S.bd (S.bd (bls 14 (List.replicate 1 [(.int .i64 0),(.int .u64 0),(.int .i64 0),(.bool Bool.false),(.slice none 0 0),(.int .i64 0),(.int .u64 0),(.int .i64 0),(.int .u64 0),(.int .i64 0),(.int .i64 0),(.int .u64 0),(.int .i64 0),(.int .u64 0)]) [(0,r28.1)]) fun rows=>als r28.2 14 1 rows) fun r29=>S.bd (app r29.2 14 128 (xs22.getD 2 undef) r29.1) fun r30=>S.bd (bin .add (xs22.getD 5 undef) (.int .i64 1)) fun x31=>rec24 [(xs22.getD 0 undef),(xs22.getD 1 undef),r30.1,(xs22.getD 3 undef),(xs22.getD 4 undef),x31,(Value.agg ⟨(cellsA (xs22.getD 6 undef))⟩)] r30.2) (some (0,[(xs22.getD 1 undef),(xs22.getD 2 undef),(Value.agg ⟨(cellsA (xs22.getD 6 undef))⟩)],s23))
def Qt.t (S:Sig) (a0:Value) (s:St):Option (Value×St) :=
  S.bd (bx (Go.Value.agg #[(.int .i64 0),(.int .i64 0),(.int .u64 0),(.int .i64 0),(.int .i64 0),(.int .u64 0),(.int .i64 0),(.int .u64 0),(.int .i64 0),(.int .i64 0),(.int .u64 0),(.int .i64 0),(.int .u64 0),(.int .i64 0),(.int .i64 0)])) fun c1=>S.bd (Qu.v a0 s) fun r2=>S.bd (Qq.v r2.1 r2.2) fun r3=>S.bd (xtr 0 r3.1) fun x4=>S.bd (xtr 1 r3.1) fun x5=>S.bd (nck a0) fun x6=>S.bd (fld 1 x6) fun x7=>S.bd (ldc r3.2 x7) fun x8=>S.bd (S.gd x8 true (some x5)) fun x9=>S.bd (pik x8 x9 (.bool Bool.false)) fun x10=>S.bd (nck a0) fun x11=>S.bd (fld 1 x11) fun x12=>S.bd (stv r3.2 1 x12 x10) fun s13=>S.bd (lenL x4) fun x14=>S.bd (S.it (Qt.l6 S) [a0,r2.1,(.slice none 0 0),x4,x14,(.int .i64 0),(Value.agg ⟨c1⟩)] s13) fun r32=>S.bd (Qp.r (r32.2.1.getD 0 undef) (r32.2.1.getD 1 undef) r32.2.2) fun x33=>S.bd (stl (cellsA (r32.2.1.getD 2 undef)) 0 15 x33) fun c34=>S.bd (lal c34 0 15) fun x35=>some (x35,r32.2.2)
def Qt.v (a0:Value) (s:St):Option (Value×St):=Qt.t std a0 s
def Qt.w:List Value→St→Option (Value×St)
  | [a0],s=>Qt.v a0 s
  | _,_=>none
def Qt.an:An:=⟨42,false,[2],[(6,⟨[.v 0,.p 2 2 0,.v 3,.v 6,.v 26,.v 27,.v 28,.l 2],[(.exit 0,[.p 2 2 0,.v 3,.v 6,.l 2])]⟩)],[],[],[],[]⟩
theorem Qt.ok (S:Sig) (a0:Value) (s:St):evF S Try.prog Qt.ctx Qt.an Try.f48 [a0] s=Qt.t S a0 s:=by kernel_rfl
theorem Qt.cok:CtxOk Try.prog Qt.ctx:=.cons Qu.sound Qu.can <| .cons Qq.sound Qq.can <| .cons Qw.sound Qw.can <| .cons Qp.sound Qp.can <| .nil
theorem Qt.draws:fnDraws Qt.an Try.f48=true:=by kernel_rfl
theorem Qt.can:callOk Try.prog 48=true:=by kernel_rfl
theorem Qt.sound:FnOk Try.prog 48 (.st Qt.w):=FnOk.st_of (evF_ok Qt.cok mixed (f:=48) (fn:=Try.f48) (by kernel_rfl) Qt.draws) fun args s r h=>by
  unfold Qt.w at h; split at h
  · rw [Qt.ok std]; exact h
  · simp at h
def Qg.ctx:Ctx:=[(45,.st Qw.w),(46,.st Qr.w),(47,.st Qs.w),(48,.st Qt.w),(24,.st Qh.w),(37,.rd Q0.w)]
def Qg.t.p1 (S:Sig) (r26:Cut):Option (Value×St) :=
  S.bd (lal (cellsA (r26.2.1.getD 3 undef)) 0 34) fun x34=>S.bd (Qh.v x34 r26.2.2) fun r35=>S.bd (xtr 0 r35.1) fun x36=>S.bd (xtr 1 r35.1) fun x37=>S.bd (eqb [1] false true x37 (.int .i64 0)) fun x38=>S.bd (S.gd x38 false (some x36)) fun x39=>S.bd (S.gd x38 false (some (r26.2.1.getD 0 undef))) fun x40=>S.bd (S.gd x38 false (Q0.r x39 x40 r35.2)) fun x41=>S.bd (S.gd x38 false (un .not x41)) fun x42=>S.bd (pik x38 (.bool Bool.true) x42) fun x43=>S.cnd x43 (S.bd (bld [(.bool Bool.false),(.bool Bool.false),(.int .i64 0),(.bool Bool.false),(.int .i64 0),(.int .i64 0),(.int .i64 0),(.int .i64 0),(.int .u64 0),(.int .i64 0),(.int .i64 0),(.int .u64 0),(.int .i64 0),(.int .u64 0),(.int .i64 0),(.int .i64 0),(.int .u64 0),(.int .i64 0),(.int .u64 0),(.int .i64 0),(.int .i64 0),(.int .i64 0),(.bool Bool.false),(.int .i64 0),(.int .i64 0),(.int .u64 0),(.int .i64 0),(.int .u64 0),(.int .i64 0),(.int .i64 0),(.int .u64 0),(.int .i64 0),(.int .u64 0),(.slice none 0 0)] []) fun x44=>S.bd (stl (cellsA (r26.2.1.getD 2 undef)) 0 34 x44) fun c45=>S.bd (lal c45 0 34) fun x46=>some ((Value.tuple ⟨[x46,(.int .i64 40)]⟩),r35.2)) (S.bd (lal (cellsA (r26.2.1.getD 3 undef)) 0 34) fun x47=>S.bd (stl (cellsA (r26.2.1.getD 2 undef)) 0 34 x47) fun c48=>S.bd (lal c48 0 34) fun x49=>some ((Value.tuple ⟨[x49,(.int .i64 0)]⟩),r35.2))
def Qg.t.p2 (S:Sig) (c8:List Value) (r9:Value×St) (r3:Value×St) (a0:Value) (c1:List Value):Option (Value×St) :=
  S.bd (stl c8 1 2 r9.1) fun c10=>S.bd (Qr.v r3.1 r9.2) fun r11=>S.bd (stl c10 3 2 r11.1) fun c12=>S.bd (Qw.v r3.1 (.int .i64 2) r11.2) fun r13=>S.bd (prt 2 1 false r13.1) fun x14=>S.bd (stl c12 5 1 x14) fun c15=>S.bd (show Option Cut from S.bd (lcl c15 0) fun x21=>S.cnd x21 (S.bd (Qs.v r3.1 r13.2) fun r22=>S.bd (stl c15 21 13 r22.1) fun c23=>some (0,[a0,r3.1,(Value.agg ⟨c1⟩),(Value.agg ⟨c23⟩)],r22.2)) (S.bd (Qt.v r3.1 r13.2) fun r24=>S.bd (stl c15 6 15 r24.1) fun c25=>some (0,[a0,r3.1,(Value.agg ⟨c1⟩),(Value.agg ⟨c25⟩)],r24.2))) fun r26=>S.bd (nck (r26.2.1.getD 1 undef)) fun x27=>S.bd (fld 1 x27) fun x28=>S.bd (ldc r26.2.2 x28) fun x29=>S.bd (un .not x29) fun x30=>S.cnd x30 (S.bd (bld [(.bool Bool.false),(.bool Bool.false),(.int .i64 0),(.bool Bool.false),(.int .i64 0),(.int .i64 0),(.int .i64 0),(.int .i64 0),(.int .u64 0),(.int .i64 0),(.int .i64 0),(.int .u64 0),(.int .i64 0),(.int .u64 0),(.int .i64 0),(.int .i64 0),(.int .u64 0),(.int .i64 0),(.int .u64 0),(.int .i64 0),(.int .i64 0),(.int .i64 0),(.bool Bool.false),(.int .i64 0),(.int .i64 0),(.int .u64 0),(.int .i64 0),(.int .u64 0),(.int .i64 0),(.int .i64 0),(.int .u64 0),(.int .i64 0),(.int .u64 0),(.slice none 0 0)] []) fun x31=>S.bd (stl (cellsA (r26.2.1.getD 2 undef)) 0 34 x31) fun c32=>S.bd (lal c32 0 34) fun x33=>some ((Value.tuple ⟨[x33,(.int .i64 40)]⟩),r26.2.2)) (Qg.t.p1 S r26)
def Qg.t (S:Sig) (a0:Value) (s:St):Option (Value×St) :=
  S.bd (bx (Go.Value.agg #[(.bool Bool.false),(.bool Bool.false),(.int .i64 0),(.bool Bool.false),(.int .i64 0),(.int .i64 0),(.int .i64 0),(.int .i64 0),(.int .u64 0),(.int .i64 0),(.int .i64 0),(.int .u64 0),(.int .i64 0),(.int .u64 0),(.int .i64 0),(.int .i64 0),(.int .u64 0),(.int .i64 0),(.int .u64 0),(.int .i64 0),(.int .i64 0),(.int .i64 0),(.bool Bool.false),(.int .i64 0),(.int .i64 0),(.int .u64 0),(.int .i64 0),(.int .u64 0),(.int .i64 0),(.int .i64 0),(.int .u64 0),(.int .i64 0),(.int .u64 0),(.slice none 0 0)])) fun c1=>S.bd (bld [(.slice none 0 0),(.bool Bool.false)] [(0,1,a0),(1,1,(.bool Bool.true))]) fun x2=>S.bd (alv s x2) fun r3=>S.bd (Qw.v r3.1 (.int .i64 3) r3.2) fun r4=>S.bd (prt 3 1 false r4.1) fun x5=>S.bd (bld [(.bool Bool.false),(.bool Bool.false),(.int .i64 0),(.bool Bool.false),(.int .i64 0),(.int .i64 0),(.int .i64 0),(.int .i64 0),(.int .u64 0),(.int .i64 0),(.int .i64 0),(.int .u64 0),(.int .i64 0),(.int .u64 0),(.int .i64 0),(.int .i64 0),(.int .u64 0),(.int .i64 0),(.int .u64 0),(.int .i64 0),(.int .i64 0),(.int .i64 0),(.bool Bool.false),(.int .i64 0),(.int .i64 0),(.int .u64 0),(.int .i64 0),(.int .u64 0),(.int .i64 0),(.int .i64 0),(.int .u64 0),(.int .i64 0),(.int .u64 0),(.slice none 0 0)] [(0,1,x5)]) fun x6=>S.bd (bx (Go.Value.agg #[(.bool Bool.false),(.bool Bool.false),(.int .i64 0),(.bool Bool.false),(.int .i64 0),(.int .i64 0),(.int .i64 0),(.int .i64 0),(.int .u64 0),(.int .i64 0),(.int .i64 0),(.int .u64 0),(.int .i64 0),(.int .u64 0),(.int .i64 0),(.int .i64 0),(.int .u64 0),(.int .i64 0),(.int .u64 0),(.int .i64 0),(.int .i64 0),(.int .i64 0),(.bool Bool.false),(.int .i64 0),(.int .i64 0),(.int .u64 0),(.int .i64 0),(.int .u64 0),(.int .i64 0),(.int .i64 0),(.int .u64 0),(.int .i64 0),(.int .u64 0),(.slice none 0 0)])) fun c7=>S.bd (stl c7 0 34 x6) fun c8=>S.bd (Qr.v r3.1 r4.2) fun r9=>Qg.t.p2 S c8 r9 r3 a0 c1
def Qg.v (a0:Value) (s:St):Option (Value×St):=Qg.t std a0 s
def Qg.w:List Value→St→Option (Value×St)
  | [a0],s=>Qg.v a0 s
  | _,_=>none
def Qg.an:An:=⟨54,false,[2,5],[],[(9,⟨[],[(.normal,[.v 0,.p 2 2 0,.v 4,.p 5 5 0,.l 2,.l 5])]⟩)],[],[],[]⟩
theorem Qg.ok (S:Sig) (a0:Value) (s:St):evF S Try.prog Qg.ctx Qg.an Try.f26 [a0] s=Qg.t S a0 s:=by kernel_rfl
theorem Qg.cok:CtxOk Try.prog Qg.ctx:=.cons Qw.sound Qw.can <| .cons Qr.sound Qr.can <| .cons Qs.sound Qs.can <| .cons Qt.sound Qt.can <| .cons Qh.sound Qh.can <| .cons Q0.sound Q0.can <| .nil
theorem Qg.draws:fnDraws Qg.an Try.f26=true:=by kernel_rfl
theorem Qg.can:callOk Try.prog 26=true:=by kernel_rfl
theorem Qg.sound:FnOk Try.prog 26 (.st Qg.w):=FnOk.st_of (evF_ok Qg.cok mixed (f:=26) (fn:=Try.f26) (by kernel_rfl) Qg.draws) fun args s r h=>by
  unfold Qg.w at h; split at h
  · rw [Qg.ok std]; exact h
  · simp at h
def Q2v.ctx:Ctx:=[]
def Q2v.t (S:Sig) (a0:Value) (s:St):Option (Value×St) :=
  S.bd (eqb [4] false false a0 (.slice none 0 0)) fun x1=>S.cnd x1 (some ((.slice none 0 0),s)) (S.bd (S.bd (bls 1 (List.replicate 0 [(.int .u8 0)]) []) fun rows=>als s 1 0 rows) fun r2=>S.bd (app r2.2 1 1 r2.1 a0) fun r3=>some (r3.1,r3.2))
def Q2v.v (a0:Value) (s:St):Option (Value×St):=Q2v.t std a0 s
def Q2v.w:List Value→St→Option (Value×St)
  | [a0],s=>Q2v.v a0 s
  | _,_=>none
def Q2v.an:An:=⟨8,false,[],[],[],[],[],[]⟩
theorem Q2v.ok (S:Sig) (a0:Value) (s:St):evF S Try.prog Q2v.ctx Q2v.an Try.f53 [a0] s=Q2v.t S a0 s:=by kernel_rfl
theorem Q2v.cok:CtxOk Try.prog Q2v.ctx:=.nil
theorem Q2v.draws:fnDraws Q2v.an Try.f53=true:=by kernel_rfl
theorem Q2v.can:callOk Try.prog 53=true:=by kernel_rfl
theorem Q2v.sound:FnOk Try.prog 53 (.st Q2v.w):=FnOk.st_of (evF_ok Q2v.cok mixed (f:=53) (fn:=Try.f53) (by kernel_rfl) Q2v.draws) fun args s r h=>by
  unfold Q2v.w at h; split at h
  · rw [Q2v.ok std]; exact h
  · simp at h
def Qi.ctx:Ctx:=[(14,.rd Qc.w),(12,.rd Qd.w),(53,.st Q2v.w)]
def Qi.t.p1 (S:Sig) (x8:Value) (x9:Value) (s:St) (c3:List Value) (c2:List Value) (c1:List Value):Option (Value×St) :=
  S.bd (S.gd x8 false (Qd.r x9 s)) fun x10=>S.bd (S.gd x8 false (eqb [1] false true x10 (.int .i64 0))) fun x11=>S.bd (pik x8 (.bool Bool.true) x11) fun x12=>S.cnd x12 (S.bd (bld [(.bool Bool.false),(.bool Bool.false),(.int .i64 0),(.bool Bool.false),(.int .i64 0),(.int .i64 0),(.int .i64 0),(.int .i64 0),(.int .u64 0),(.int .i64 0),(.int .i64 0),(.int .u64 0),(.int .i64 0),(.int .u64 0),(.int .i64 0),(.int .i64 0),(.int .u64 0),(.int .i64 0),(.int .u64 0),(.int .i64 0),(.int .i64 0),(.int .i64 0),(.bool Bool.false),(.int .i64 0),(.int .i64 0),(.int .u64 0),(.int .i64 0),(.int .u64 0),(.int .i64 0),(.int .i64 0),(.int .u64 0),(.int .i64 0),(.int .u64 0),(.slice none 0 0)] []) fun x13=>S.bd (stl c3 0 34 x13) fun c14=>S.bd (lal c14 0 34) fun x15=>some ((Value.tuple ⟨[x15,(.int .i64 40)]⟩),s)) (S.bd (lcl c2 12) fun x16=>S.bd (Q2v.v x16 s) fun r17=>S.bd (stl c2 12 1 r17.1) fun c18=>S.bd (lal c1 3 2) fun x19=>S.bd (lal c1 1 2) fun x20=>S.bd (lcl c1 5) fun x21=>S.bd (lal c18 0 13) fun x22=>S.bd (bld [(.bool Bool.false),(.bool Bool.false),(.int .i64 0),(.bool Bool.false),(.int .i64 0),(.int .i64 0),(.int .i64 0),(.int .i64 0),(.int .u64 0),(.int .i64 0),(.int .i64 0),(.int .u64 0),(.int .i64 0),(.int .u64 0),(.int .i64 0),(.int .i64 0),(.int .u64 0),(.int .i64 0),(.int .u64 0),(.int .i64 0),(.int .i64 0),(.int .i64 0),(.bool Bool.false),(.int .i64 0),(.int .i64 0),(.int .u64 0),(.int .i64 0),(.int .u64 0),(.int .i64 0),(.int .i64 0),(.int .u64 0),(.int .i64 0),(.int .u64 0),(.slice none 0 0)] [(0,1,(.bool Bool.true)),(1,2,x19),(3,2,x20),(5,1,x21),(21,13,x22)]) fun x23=>S.bd (stl c3 0 34 x23) fun c24=>S.bd (lal c24 0 34) fun x25=>some ((Value.tuple ⟨[x25,(.int .i64 0)]⟩),r17.2))
def Qi.t (S:Sig) (a0 a1:Value) (s:St):Option (Value×St) :=
  S.bd (bx a0) fun c1=>S.bd (bx a1) fun c2=>S.bd (bx (Go.Value.agg #[(.bool Bool.false),(.bool Bool.false),(.int .i64 0),(.bool Bool.false),(.int .i64 0),(.int .i64 0),(.int .i64 0),(.int .i64 0),(.int .u64 0),(.int .i64 0),(.int .i64 0),(.int .u64 0),(.int .i64 0),(.int .u64 0),(.int .i64 0),(.int .i64 0),(.int .u64 0),(.int .i64 0),(.int .u64 0),(.int .i64 0),(.int .i64 0),(.int .i64 0),(.bool Bool.false),(.int .i64 0),(.int .i64 0),(.int .u64 0),(.int .i64 0),(.int .u64 0),(.int .i64 0),(.int .i64 0),(.int .u64 0),(.int .i64 0),(.int .u64 0),(.slice none 0 0)])) fun c3=>S.bd (lal c1 0 34) fun x4=>S.bd (Qc.r x4 s) fun x5=>S.bd (eqb [1] false true x5 (.int .i64 0)) fun x6=>S.bd (S.gd x6 false (lcl c1 0)) fun x7=>S.bd (pik x6 (.bool Bool.true) x7) fun x8=>S.bd (S.gd x8 false (lal c2 0 13)) fun x9=>Qi.t.p1 S x8 x9 s c3 c2 c1
def Qi.v (a0 a1:Value) (s:St):Option (Value×St):=Qi.t std a0 a1 s
def Qi.w:List Value→St→Option (Value×St)
  | [a0,a1],s=>Qi.v a0 a1 s
  | _,_=>none
def Qi.an:An:=⟨31,false,[2,3,4],[],[],[],[],[]⟩
theorem Qi.ok (S:Sig) (a0 a1:Value) (s:St):evF S Try.prog Qi.ctx Qi.an Try.f28 [a0,a1] s=Qi.t S a0 a1 s:=by kernel_rfl
theorem Qi.cok:CtxOk Try.prog Qi.ctx:=.cons Qc.sound Qc.can <| .cons Qd.sound Qd.can <| .cons Q2v.sound Q2v.can <| .nil
theorem Qi.draws:fnDraws Qi.an Try.f28=true:=by kernel_rfl
theorem Qi.can:callOk Try.prog 28=true:=by kernel_rfl
theorem Qi.sound:FnOk Try.prog 28 (.st Qi.w):=FnOk.st_of (evF_ok Qi.cok mixed (f:=28) (fn:=Try.f28) (by kernel_rfl) Qi.draws) fun args s r h=>by
  unfold Qi.w at h; split at h
  · rw [Qi.ok std]; exact h
  · simp at h
def Q8.ctx:Ctx:=[(24,.st Qh.w),(26,.st Qg.w),(28,.st Qi.w),(20,.rd Qj.w)]
def Q8.t.p1 (S:Sig) (r18:Value×St) (x10:Value) (x13:Value) (x9:Value) (c6:List Value) (c15:List Value):Option (Value×St) :=
  S.bd (xtr 0 r18.1) fun x19=>S.bd (xtr 1 r18.1) fun x20=>S.bd (bx (Go.Value.agg #[(.bool Bool.false),(.bool Bool.false),(.int .i64 0),(.bool Bool.false),(.int .i64 0),(.int .i64 0),(.int .i64 0),(.int .i64 0),(.int .u64 0),(.int .i64 0),(.int .i64 0),(.int .u64 0),(.int .i64 0),(.int .u64 0),(.int .i64 0),(.int .i64 0),(.int .u64 0),(.int .i64 0),(.int .u64 0),(.int .i64 0),(.int .i64 0),(.int .i64 0),(.bool Bool.false),(.int .i64 0),(.int .i64 0),(.int .u64 0),(.int .i64 0),(.int .u64 0),(.int .i64 0),(.int .i64 0),(.int .u64 0),(.int .i64 0),(.int .u64 0),(.slice none 0 0)])) fun c21=>S.bd (stl c21 0 34 x19) fun c22=>S.bd (eqb [1] false false x10 (.int .i64 0)) fun x23=>S.bd (S.gd x23 true (some x13)) fun x24=>S.bd (S.gd x23 true (eqb [1] false false x24 (.int .i64 0))) fun x25=>S.bd (pik x23 x25 (.bool Bool.false)) fun x26=>S.bd (S.gd x26 true (some x20)) fun x27=>S.bd (S.gd x26 true (eqb [1] false false x27 (.int .i64 0))) fun x28=>S.bd (pik x26 x28 (.bool Bool.false)) fun x29=>S.bd (S.gd x29 true (some x9)) fun x30=>S.bd (S.gd x29 true (lenL x30)) fun x31=>S.bd (S.gd x29 true (eqb [1] false false x31 (.int .i64 7))) fun x32=>S.bd (pik x29 x32 (.bool Bool.false)) fun x33=>S.bd (S.gd x33 true (lal c6 0 34)) fun x34=>S.bd (S.gd x33 true (lal c15 0 34)) fun x35=>S.bd (S.gd x33 true (Qj.r x34 x35 r18.2)) fun x36=>S.bd (pik x33 x36 (.bool Bool.false)) fun x37=>S.bd (S.gd x37 true (lcl c22 0)) fun x38=>S.bd (pik x37 x38 (.bool Bool.false)) fun x39=>S.bd (S.gd x39 true (lal c22 3 2)) fun x40=>S.bd (S.gd x39 true (lal c6 1 2)) fun x41=>S.bd (S.gd x39 true (eqb [0,1] true false x40 x41)) fun x42=>S.bd (pik x39 x42 (.bool Bool.false)) fun x43=>S.bd (S.gd x43 true (lcl c22 5)) fun x44=>S.bd (S.gd x43 true (eqb [1] false false x44 (.int .i64 7))) fun x45=>S.bd (pik x43 x45 (.bool Bool.false)) fun x46=>some (x46,r18.2)
def Q8.t.p2 (S:Sig) (r8:Value×St) (x9:Value) (c6:List Value):Option (Value×St) :=
  S.bd (xtr 1 r8.1) fun x10=>S.bd (Qg.v x9 r8.2) fun r11=>S.bd (xtr 0 r11.1) fun x12=>S.bd (xtr 1 r11.1) fun x13=>S.bd (bx (Go.Value.agg #[(.bool Bool.false),(.bool Bool.false),(.int .i64 0),(.bool Bool.false),(.int .i64 0),(.int .i64 0),(.int .i64 0),(.int .i64 0),(.int .u64 0),(.int .i64 0),(.int .i64 0),(.int .u64 0),(.int .i64 0),(.int .u64 0),(.int .i64 0),(.int .i64 0),(.int .u64 0),(.int .i64 0),(.int .u64 0),(.int .i64 0),(.int .i64 0),(.int .i64 0),(.bool Bool.false),(.int .i64 0),(.int .i64 0),(.int .u64 0),(.int .i64 0),(.int .u64 0),(.int .i64 0),(.int .i64 0),(.int .u64 0),(.int .i64 0),(.int .u64 0),(.slice none 0 0)])) fun c14=>S.bd (stl c14 0 34 x12) fun c15=>S.bd (lal c6 0 34) fun x16=>S.bd (bld [(.int .i64 0),(.bool Bool.false),(.int .i64 0),(.int .i64 0),(.int .u64 0),(.int .i64 0),(.int .u64 0),(.int .i64 0),(.int .i64 0),(.int .u64 0),(.int .i64 0),(.int .u64 0),(.slice none 0 0)] [(0,1,(.int .i64 2))]) fun x17=>S.bd (Qi.v x16 x17 r11.2) fun r18=>Q8.t.p1 S r18 x10 x13 x9 c6 c15
def Q8.t (S:Sig) (s:St):Option (Value×St) :=
  S.bd (bld [(.bool Bool.false),(.int .i64 0)] [(0,1,(.bool Bool.true)),(1,1,(.int .i64 1))]) fun x1=>S.bd (bld [(.bool Bool.false),(.int .i64 0)] [(1,1,(.int .i64 2))]) fun x2=>S.bd (bld [(.int .i64 0),(.int .i64 0),(.int .u64 0),(.int .i64 0),(.int .i64 0),(.int .u64 0),(.int .i64 0),(.int .u64 0),(.int .i64 0),(.int .i64 0),(.int .u64 0),(.int .i64 0),(.int .u64 0),(.int .i64 0),(.int .i64 0)] [(0,1,(.int .i64 2))]) fun x3=>S.bd (bld [(.bool Bool.false),(.bool Bool.false),(.int .i64 0),(.bool Bool.false),(.int .i64 0),(.int .i64 0),(.int .i64 0),(.int .i64 0),(.int .u64 0),(.int .i64 0),(.int .i64 0),(.int .u64 0),(.int .i64 0),(.int .u64 0),(.int .i64 0),(.int .i64 0),(.int .u64 0),(.int .i64 0),(.int .u64 0),(.int .i64 0),(.int .i64 0),(.int .i64 0),(.bool Bool.false),(.int .i64 0),(.int .i64 0),(.int .u64 0),(.int .i64 0),(.int .u64 0),(.int .i64 0),(.int .i64 0),(.int .u64 0),(.int .i64 0),(.int .u64 0),(.slice none 0 0)] [(1,2,x1),(3,2,x2),(5,1,(.int .i64 7)),(6,15,x3)]) fun x4=>S.bd (bx (Go.Value.agg #[(.bool Bool.false),(.bool Bool.false),(.int .i64 0),(.bool Bool.false),(.int .i64 0),(.int .i64 0),(.int .i64 0),(.int .i64 0),(.int .u64 0),(.int .i64 0),(.int .i64 0),(.int .u64 0),(.int .i64 0),(.int .u64 0),(.int .i64 0),(.int .i64 0),(.int .u64 0),(.int .i64 0),(.int .u64 0),(.int .i64 0),(.int .i64 0),(.int .i64 0),(.bool Bool.false),(.int .i64 0),(.int .i64 0),(.int .u64 0),(.int .i64 0),(.int .u64 0),(.int .i64 0),(.int .i64 0),(.int .u64 0),(.int .i64 0),(.int .u64 0),(.slice none 0 0)])) fun c5=>S.bd (stl c5 0 34 x4) fun c6=>S.bd (lal c6 0 34) fun x7=>S.bd (Qh.v x7 s) fun r8=>S.bd (xtr 0 r8.1) fun x9=>Q8.t.p2 S r8 x9 c6
def Q8.v (s:St):Option (Value×St):=Q8.t std  s
def Q8.w:List Value→St→Option (Value×St)
  | [],s=>Q8.v  s
  | _,_=>none
def Q8.an:An:=⟨64,false,[1,4,6],[],[],[],[],[]⟩
theorem Q8.ok (S:Sig) (s:St):evF S Try.prog Q8.ctx Q8.an Try.f22 [] s=Q8.t S  s:=by kernel_rfl
theorem Q8.cok:CtxOk Try.prog Q8.ctx:=.cons Qh.sound Qh.can <| .cons Qg.sound Qg.can <| .cons Qi.sound Qi.can <| .cons Qj.sound Qj.can <| .nil
theorem Q8.draws:fnDraws Q8.an Try.f22=true:=by kernel_rfl
theorem Q8.can:callOk Try.prog 22=true:=by kernel_rfl
theorem Q8.sound:FnOk Try.prog 22 (.st Q8.w):=FnOk.st_of (evF_ok Q8.cok mixed (f:=22) (fn:=Try.f22) (by kernel_rfl) Q8.draws) fun args s r h=>by
  unfold Q8.w at h; split at h
  · rw [Q8.ok std]; exact h
  · simp at h
def Q9.r (s:St):Option Value:=some (Value.bool true)
def Q9.w:List Value→St→Option Value:=closedW (Value.bool true)
theorem Q9.can:callOk Try.prog 22=true:=Q8.can
theorem Q9.sound:FnOk Try.prog 22 (.rd Q9.w):=FnOk.closed Q8.sound (by kernel_rfl) rfl
def Q6.ctx:Ctx:=[(9,.rd Qb.w),(10,.rd Qf.w),(11,.rd Q28.w),(12,.rd Qd.w),(13,.rd Q27.w),(14,.rd Qc.w),(15,.rd Q26.w),(16,.rd Ql.w),(17,.rd Q2j.w),(18,.rd Qk.w),(19,.rd Q2i.w),(20,.rd Qj.w),(21,.rd Q2h.w),(22,.rd Q9.w)]
def Q6.t.p1 (S:Sig) (x13:Value) (x18:Value) (c7:List Value) (s:St) (c8:List Value):Option Value :=
  S.bd (pik x13 x18 (.bool Bool.false)) fun x19=>S.bd (S.gd x19 true (lal c7 0 34)) fun x20=>S.bd (S.gd x19 true (lal c7 0 34)) fun x21=>S.bd (S.gd x19 true (Qc.r x20 s)) fun x22=>S.bd (S.gd x19 true (Q26.r x21 s)) fun x23=>S.bd (S.gd x19 true (eqb [1] false false x22 x23)) fun x24=>S.bd (pik x19 x24 (.bool Bool.false)) fun x25=>S.bd (S.gd x25 true (lal c7 6 15)) fun x26=>S.bd (S.gd x25 true (lal c8 6 15)) fun x27=>S.bd (S.gd x25 true (lal c7 6 15)) fun x28=>S.bd (S.gd x25 true (lal c8 6 15)) fun x29=>S.bd (S.gd x25 true (Ql.r x26 x27 s)) fun x30=>S.bd (S.gd x25 true (Q2j.r x28 x29 s)) fun x31=>S.bd (S.gd x25 true (eqb [0] false false x30 x31)) fun x32=>S.bd (pik x25 x32 (.bool Bool.false)) fun x33=>S.bd (S.gd x33 true (lal c7 21 13)) fun x34=>S.bd (S.gd x33 true (lal c8 21 13)) fun x35=>S.bd (S.gd x33 true (lal c7 21 13)) fun x36=>S.bd (S.gd x33 true (lal c8 21 13)) fun x37=>S.bd (S.gd x33 true (Qk.r x34 x35 s)) fun x38=>S.bd (S.gd x33 true (Q2i.r x36 x37 s)) fun x39=>S.bd (S.gd x33 true (eqb [0] false false x38 x39)) fun x40=>S.bd (pik x33 x40 (.bool Bool.false)) fun x41=>S.bd (S.gd x41 true (lal c7 0 34)) fun x42=>S.bd (S.gd x41 true (lal c8 0 34)) fun x43=>S.bd (S.gd x41 true (lal c7 0 34)) fun x44=>S.bd (S.gd x41 true (lal c8 0 34)) fun x45=>S.bd (S.gd x41 true (Qj.r x42 x43 s)) fun x46=>S.bd (S.gd x41 true (Q2h.r x44 x45 s)) fun x47=>S.bd (S.gd x41 true (eqb [0] false false x46 x47)) fun x48=>S.bd (pik x41 x48 (.bool Bool.false)) fun x49=>S.bd (S.gd x49 true (lal c7 0 34)) fun x50=>S.bd (S.gd x49 true (lal c7 0 34)) fun x51=>S.bd (S.gd x49 true (Qj.r x50 x51 s)) fun x52=>S.bd (pik x49 x52 (.bool Bool.false)) fun x53=>S.bd (S.gd x53 true (Q9.r  s)) fun x54=>S.bd (pik x53 x54 (.bool Bool.false)) fun x55=>some (x55)
def Q6.t (S:Sig) (a0 a1:Value) (s:St):Option Value :=
  S.bd (bx a0) fun c1=>S.bd (bx a1) fun c2=>S.bd (lal c1 0 34) fun x3=>S.bd (lal c2 0 34) fun x4=>S.bd (Qb.r x3 s) fun x5=>S.bd (Qb.r x4 s) fun x6=>S.bd (stl c1 0 34 x5) fun c7=>S.bd (stl c2 0 34 x6) fun c8=>S.bd (lal c7 6 15) fun x9=>S.bd (lal c7 6 15) fun x10=>S.bd (Qf.r x9 s) fun x11=>S.bd (Q28.r x10 s) fun x12=>S.bd (eqb [1] false false x11 x12) fun x13=>S.bd (S.gd x13 true (lal c7 21 13)) fun x14=>S.bd (S.gd x13 true (lal c7 21 13)) fun x15=>S.bd (S.gd x13 true (Qd.r x14 s)) fun x16=>S.bd (S.gd x13 true (Q27.r x15 s)) fun x17=>S.bd (S.gd x13 true (eqb [1] false false x16 x17)) fun x18=>Q6.t.p1 S x13 x18 c7 s c8
def Q6.r (a0 a1:Value) (s:St):Option Value:=Q6.t std a0 a1 s
def Q6.w:List Value→St→Option Value
  | [a0,a1],s=>Q6.r a0 a1 s
  | _,_=>none
def Q6.an:An:=⟨75,true,[2,3],[],[],[(1,[(z4 0 17),(z4 2 25),(z4 1 3),(z4 3 3),(z4 4 21),(z4 5 29)]),(2,[(z4 0 0),(z4 1 17),(z4 3 0),(z4 4 17),(z4 2 3),(z4 5 3),(z4 6 0),(z4 7 0),(z4 8 0),(z4 9 17),(z4 11 0),(z4 12 17),(z4 10 3),(z4 13 3),(z4 14 0),(z4 15 0),(z4 16 0),(z4 17 17),(z4 19 17),(z4 18 3),(z4 20 3),(z4 21 0),(z4 22 0),(z4 23 0),(z4 24 0),(z4 25 17),(z4 26 0),(z4 27 25),(z4 29 0),(z4 30 17),(z4 31 0),(z4 32 25),(z4 28 3),(z4 33 3),(z4 34 0),(z4 35 0),(z4 36 0),(z4 37 0),(z4 38 17),(z4 39 0),(z4 40 25),(z4 42 0),(z4 43 17),(z4 44 0),(z4 45 25),(z4 41 3),(z4 46 3),(z4 47 0),(z4 48 0),(z4 49 0),(z4 50 17),(z4 51 25),(z4 53 17),(z4 54 25),(z4 52 3),(z4 55 3),(z4 56 0),(z4 57 0),(z4 58 0),(z4 59 17),(z4 60 17),(z4 61 3),(z4 62 0),(z4 63 0),(z4 64 3),(z4 65 0),(z4 66 0)])],[],[]⟩
theorem Q6.ok (S:Sig) (a0 a1:Value) (s:St):evG S Try.prog Q6.ctx Q6.an Try.f3 [a0,a1] s=Q6.t S a0 a1 s:=by kernel_rfl
theorem Q6.cok:CtxOk Try.prog Q6.ctx:=.cons Qb.sound Qb.can <| .cons Qf.sound Qf.can <| .cons Q28.sound Q28.can <| .cons Qd.sound Qd.can <| .cons Q27.sound Q27.can <| .cons Qc.sound Qc.can <| .cons Q26.sound Q26.can <| .cons Ql.sound Ql.can <| .cons Q2j.sound Q2j.can <| .cons Qk.sound Qk.can <| .cons Q2i.sound Q2i.can <| .cons Qj.sound Qj.can <| .cons Q2h.sound Q2h.can <| .cons Q9.sound Q9.can <| .nil
theorem Q6.draws:fnDraws Q6.an Try.f3=true:=by kernel_rfl
theorem Q6.can:callOk Try.prog 3=true:=by kernel_rfl
theorem Q6.sound:FnOk Try.prog 3 (.rd Q6.w):=FnOk.rd_of (evG_ok Q6.cok mixed (f:=3) (fn:=Try.f3) (by kernel_rfl) Q6.draws) fun args s r h=>by
  unfold Q6.w at h; split at h
  · rw [Q6.ok std]; exact h
  · simp at h
def Qa.ctx:Ctx:=[]
def Qa.t (S:Sig) (a0:Value) (s:St):Option Value :=
  S.bd (lenL a0) fun x1=>S.bd (bin .gtr x1 (.int .i64 3000)) fun x2=>S.cnd x2 (S.bd (slc s 1 a0 none (some (.int .i64 3000)) none) fun x3=>some (x3)) (some (a0))
def Qa.r (a0:Value) (s:St):Option Value:=Qa.t std a0 s
def Qa.w:List Value→St→Option Value
  | [a0],s=>Qa.r a0 s
  | _,_=>none
def Qa.an:An:=⟨9,true,[],[],[],[],[],[]⟩
theorem Qa.ok (S:Sig) (a0:Value) (s:St):evG S Try.prog Qa.ctx Qa.an Try.f23 [a0] s=Qa.t S a0 s:=by kernel_rfl
theorem Qa.cok:CtxOk Try.prog Qa.ctx:=.nil
theorem Qa.draws:fnDraws Qa.an Try.f23=true:=by kernel_rfl
theorem Qa.can:callOk Try.prog 23=true:=by kernel_rfl
theorem Qa.sound:FnOk Try.prog 23 (.rd Qa.w):=FnOk.rd_of (evG_ok Qa.cok mixed (f:=23) (fn:=Try.f23) (by kernel_rfl) Qa.draws) fun args s r h=>by
  unfold Qa.w at h; split at h
  · rw [Qa.ok std]; exact h
  · simp at h
def Q2t.ctx:Ctx:=[]
def Q2t.t (S:Sig) (a0:Value) (s:St):Option Value :=
  S.bd (bx (Go.Value.agg #[(.int .i64 0),(.int .u64 0),(.int .i64 0),(.bool Bool.false),(.slice none 0 0),(.int .i64 0),(.int .u64 0),(.int .i64 0),(.int .u64 0),(.int .i64 0),(.int .i64 0),(.int .u64 0),(.int .i64 0),(.int .u64 0)])) fun c1=>S.bd (bld [(.int .i64 0),(.int .u64 0),(.int .i64 0),(.bool Bool.false),(.slice none 0 0),(.int .i64 0),(.int .u64 0),(.int .i64 0),(.int .u64 0),(.int .i64 0),(.int .i64 0),(.int .u64 0),(.int .i64 0),(.int .u64 0)] [(0,1,(.int .i64 3)),(3,1,a0)]) fun x2=>S.bd (stl c1 0 14 x2) fun c3=>S.bd (lal c3 0 14) fun x4=>some (x4)
def Q2t.r (a0:Value) (s:St):Option Value:=Q2t.t std a0 s
def Q2t.w:List Value→St→Option Value
  | [a0],s=>Q2t.r a0 s
  | _,_=>none
def Q2t.an:An:=⟨5,true,[2],[],[],[],[],[]⟩
theorem Q2t.ok (S:Sig) (a0:Value) (s:St):evG S Try.prog Q2t.ctx Q2t.an Try.f40 [a0] s=Q2t.t S a0 s:=by kernel_rfl
theorem Q2t.cok:CtxOk Try.prog Q2t.ctx:=.nil
theorem Q2t.draws:fnDraws Q2t.an Try.f40=true:=by kernel_rfl
theorem Q2t.can:callOk Try.prog 40=true:=by kernel_rfl
theorem Q2t.sound:FnOk Try.prog 40 (.rd Q2t.w):=FnOk.rd_of (evG_ok Q2t.cok mixed (f:=40) (fn:=Try.f40) (by kernel_rfl) Q2t.draws) fun args s r h=>by
  unfold Q2t.w at h; split at h
  · rw [Q2t.ok std]; exact h
  · simp at h
def Q2u.ctx:Ctx:=[]
def Q2u.t (S:Sig) (a0:Value) (s:St):Option Value :=
  S.bd (bx (Go.Value.agg #[(.int .i64 0),(.int .u64 0),(.int .i64 0),(.bool Bool.false),(.slice none 0 0),(.int .i64 0),(.int .u64 0),(.int .i64 0),(.int .u64 0),(.int .i64 0),(.int .i64 0),(.int .u64 0),(.int .i64 0),(.int .u64 0)])) fun c1=>S.bd (bld [(.int .i64 0),(.int .u64 0),(.int .i64 0),(.bool Bool.false),(.slice none 0 0),(.int .i64 0),(.int .u64 0),(.int .i64 0),(.int .u64 0),(.int .i64 0),(.int .i64 0),(.int .u64 0),(.int .i64 0),(.int .u64 0)] [(0,1,(.int .i64 2)),(2,1,a0)]) fun x2=>S.bd (stl c1 0 14 x2) fun c3=>S.bd (lal c3 0 14) fun x4=>some (x4)
def Q2u.r (a0:Value) (s:St):Option Value:=Q2u.t std a0 s
def Q2u.w:List Value→St→Option Value
  | [a0],s=>Q2u.r a0 s
  | _,_=>none
def Q2u.an:An:=⟨5,true,[2],[],[],[],[],[]⟩
theorem Q2u.ok (S:Sig) (a0:Value) (s:St):evG S Try.prog Q2u.ctx Q2u.an Try.f41 [a0] s=Q2u.t S a0 s:=by kernel_rfl
theorem Q2u.cok:CtxOk Try.prog Q2u.ctx:=.nil
theorem Q2u.draws:fnDraws Q2u.an Try.f41=true:=by kernel_rfl
theorem Q2u.can:callOk Try.prog 41=true:=by kernel_rfl
theorem Q2u.sound:FnOk Try.prog 41 (.rd Q2u.w):=FnOk.rd_of (evG_ok Q2u.cok mixed (f:=41) (fn:=Try.f41) (by kernel_rfl) Q2u.draws) fun args s r h=>by
  unfold Q2u.w at h; split at h
  · rw [Q2u.ok std]; exact h
  · simp at h
def Q2p.ctx:Ctx:=[]
def Q2p.t (S:Sig) (a0:Value) (s:St):Option Value :=
  S.bd (bx (Go.Value.agg #[(.int .i64 0),(.int .u64 0),(.int .i64 0),(.bool Bool.false),(.slice none 0 0),(.int .i64 0),(.int .u64 0),(.int .i64 0),(.int .u64 0),(.int .i64 0),(.int .i64 0),(.int .u64 0),(.int .i64 0),(.int .u64 0)])) fun c1=>S.bd (bld [(.int .i64 0),(.int .u64 0),(.int .i64 0),(.bool Bool.false),(.slice none 0 0),(.int .i64 0),(.int .u64 0),(.int .i64 0),(.int .u64 0),(.int .i64 0),(.int .i64 0),(.int .u64 0),(.int .i64 0),(.int .u64 0)] [(0,1,(.int .i64 1)),(1,1,a0)]) fun x2=>S.bd (stl c1 0 14 x2) fun c3=>S.bd (lal c3 0 14) fun x4=>some (x4)
def Q2p.r (a0:Value) (s:St):Option Value:=Q2p.t std a0 s
def Q2p.w:List Value→St→Option Value
  | [a0],s=>Q2p.r a0 s
  | _,_=>none
def Q2p.an:An:=⟨5,true,[2],[],[],[],[],[]⟩
theorem Q2p.ok (S:Sig) (a0:Value) (s:St):evG S Try.prog Q2p.ctx Q2p.an Try.f61 [a0] s=Q2p.t S a0 s:=by kernel_rfl
theorem Q2p.cok:CtxOk Try.prog Q2p.ctx:=.nil
theorem Q2p.draws:fnDraws Q2p.an Try.f61=true:=by kernel_rfl
theorem Q2p.can:callOk Try.prog 61=true:=by kernel_rfl
theorem Q2p.sound:FnOk Try.prog 61 (.rd Q2p.w):=FnOk.rd_of (evG_ok Q2p.cok mixed (f:=61) (fn:=Try.f61) (by kernel_rfl) Q2p.draws) fun args s r h=>by
  unfold Q2p.w at h; split at h
  · rw [Q2p.ok std]; exact h
  · simp at h
def Q2r.ctx:Ctx:=[]
def Q2r.t (S:Sig) (a0:Value) (s:St):Option Value :=
  S.bd (bx a0) fun c1=>S.bd (bx (Go.Value.agg #[(.int .i64 0),(.int .u64 0),(.int .i64 0),(.bool Bool.false),(.slice none 0 0),(.int .i64 0),(.int .u64 0),(.int .i64 0),(.int .u64 0),(.int .i64 0),(.int .i64 0),(.int .u64 0),(.int .i64 0),(.int .u64 0)])) fun c2=>S.bd (lal c1 0 5) fun x3=>S.bd (bld [(.int .i64 0),(.int .u64 0),(.int .i64 0),(.bool Bool.false),(.slice none 0 0),(.int .i64 0),(.int .u64 0),(.int .i64 0),(.int .u64 0),(.int .i64 0),(.int .i64 0),(.int .u64 0),(.int .i64 0),(.int .u64 0)] [(0,1,(.int .i64 7)),(9,5,x3)]) fun x4=>S.bd (stl c2 0 14 x4) fun c5=>S.bd (lal c5 0 14) fun x6=>some (x6)
def Q2r.r (a0:Value) (s:St):Option Value:=Q2r.t std a0 s
def Q2r.w:List Value→St→Option Value
  | [a0],s=>Q2r.r a0 s
  | _,_=>none
def Q2r.an:An:=⟨5,true,[1,2],[],[],[],[],[]⟩
theorem Q2r.ok (S:Sig) (a0:Value) (s:St):evG S Try.prog Q2r.ctx Q2r.an Try.f63 [a0] s=Q2r.t S a0 s:=by kernel_rfl
theorem Q2r.cok:CtxOk Try.prog Q2r.ctx:=.nil
theorem Q2r.draws:fnDraws Q2r.an Try.f63=true:=by kernel_rfl
theorem Q2r.can:callOk Try.prog 63=true:=by kernel_rfl
theorem Q2r.sound:FnOk Try.prog 63 (.rd Q2r.w):=FnOk.rd_of (evG_ok Q2r.cok mixed (f:=63) (fn:=Try.f63) (by kernel_rfl) Q2r.draws) fun args s r h=>by
  unfold Q2r.w at h; split at h
  · rw [Q2r.ok std]; exact h
  · simp at h
def Q2m.ctx:Ctx:=[(40,.rd Q2t.w),(63,.rd Q2r.w)]
def Q2m.t (S:Sig) (a0:Value) (s:St):Option (Value×St) :=
  S.bd (bx a0) fun c1=>S.bd (lal c1 0 5) fun x2=>S.bd (bld [(.int .i64 0),(.int .i64 0),(.int .u64 0),(.int .i64 0),(.int .u64 0)] []) fun x3=>S.bd (eqb [1,1,1,1,1] true false x2 x3) fun x4=>S.cnd x4 (S.bd (Q2t.r (.bool Bool.false) s) fun x5=>S.bd (S.bd (bls 14 (List.replicate 1 [(.int .i64 0),(.int .u64 0),(.int .i64 0),(.bool Bool.false),(.slice none 0 0),(.int .i64 0),(.int .u64 0),(.int .i64 0),(.int .u64 0),(.int .i64 0),(.int .i64 0),(.int .u64 0),(.int .i64 0),(.int .u64 0)]) [(0,x5)]) fun rows=>als s 14 1 rows) fun r6=>some (r6.1,r6.2)) (S.bd (lal c1 0 5) fun x7=>S.bd (Q2t.r (.bool Bool.true) s) fun x8=>S.bd (Q2r.r x7 s) fun x9=>S.bd (S.bd (bls 14 (List.replicate 2 [(.int .i64 0),(.int .u64 0),(.int .i64 0),(.bool Bool.false),(.slice none 0 0),(.int .i64 0),(.int .u64 0),(.int .i64 0),(.int .u64 0),(.int .i64 0),(.int .i64 0),(.int .u64 0),(.int .i64 0),(.int .u64 0)]) [(0,x8),(1,x9)]) fun rows=>als s 14 2 rows) fun r10=>some (r10.1,r10.2))
def Q2m.v (a0:Value) (s:St):Option (Value×St):=Q2m.t std a0 s
def Q2m.w:List Value→St→Option (Value×St)
  | [a0],s=>Q2m.v a0 s
  | _,_=>none
def Q2m.an:An:=⟨12,false,[1],[],[],[(3,[(z4 1 9),(z4 0 3),(z4 2 3),(z4 3 3),(z4 4 0)])],[],[]⟩
theorem Q2m.ok (S:Sig) (a0:Value) (s:St):evF S Try.prog Q2m.ctx Q2m.an Try.f62 [a0] s=Q2m.t S a0 s:=by kernel_rfl
theorem Q2m.cok:CtxOk Try.prog Q2m.ctx:=.cons Q2t.sound Q2t.can <| .cons Q2r.sound Q2r.can <| .nil
theorem Q2m.draws:fnDraws Q2m.an Try.f62=true:=by kernel_rfl
theorem Q2m.can:callOk Try.prog 62=true:=by kernel_rfl
theorem Q2m.sound:FnOk Try.prog 62 (.st Q2m.w):=FnOk.st_of (evF_ok Q2m.cok mixed (f:=62) (fn:=Try.f62) (by kernel_rfl) Q2m.draws) fun args s r h=>by
  unfold Q2m.w at h; split at h
  · rw [Q2m.ok std]; exact h
  · simp at h
end
end Go.Proofs.Yteapmnolmfickaa
