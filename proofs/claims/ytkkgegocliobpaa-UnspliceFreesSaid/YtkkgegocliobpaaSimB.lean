/-
  The abstract evaluator, of code. Definitions alone.
-/
import Derived.Test.YtkkgegocliobpaaSimA
import Derived.Orders
namespace Go.Sim

/-! ### Frames -/

inductive Ent where
  | val (v : Value)
  | lp (t j : Nat)

/-- `e`: the temporaries; `l`: the call's own variables; `g`: addresses of these under a guard (temporary, variable, place, the guard's temporary, its value). -/
structure Fr where
  e : List (Nat × Ent)
  l : List (Nat × List Value)
  g : List (Nat × Nat × Nat × Nat × Bool)

def lookE : List (Nat × Ent) → Nat → Option Ent
  | [], _ => none
  | (i, x) :: r, t => if t = i then some x else lookE r t

def lookG : List (Nat × Nat × Nat × Nat × Bool) → Nat → Option (Nat × Nat × Nat × Bool)
  | [], _ => none
  | (i, x) :: r, t => if t = i then some x else lookG r t

/-- May temporary `d` be written beside these guarded addresses? -/
def freeG : List (Nat × Nat × Nat × Nat × Bool) → Nat → Bool
  | [], _ => true
  | (i, _, _, gt, _) :: r, d => if d = i then false else if d = gt then false else freeG r d

def lookL : List (Nat × List Value) → Nat → Option (List Value)
  | [], _ => none
  | (i, x) :: r, t => if t = i then some x else lookL r t

/-- A temporary written. -/
def putK {α : Type} (N : Nat) (fr : Fr) (d : Option Nat) (x : Ent) (K : Fr → Option α) : Option α :=
  match d with
  | none => K fr
  | some d => if d < N then (match fr with
    | ⟨e, l, g⟩ => match freeG g d with
      | true => K ⟨(d, x) :: e, l, g⟩
      | false => none) else none

/-- An address under a guard written. -/
def putGK {α : Type} (N : Nat) (fr : Fr) (d : Option Nat) (t j gt : Nat) (w : Bool) (K : Fr → Option α) : Option α :=
  match d with
  | none => K fr
  | some d => if d < N then (match fr with
    | ⟨e, l, g⟩ => match freeG g d, lookE e d with
      | true, none => if d = gt then none else K ⟨e, l, (d, t, j, gt, w) :: g⟩
      | _, _ => none) else none

/-- Does no address of variable `t` stand in the frame? -/
def freeE : List (Nat × Ent) → Nat → Bool
  | [], _ => true
  | (_, x) :: r, t => match x with
    | .val _ => freeE r t
    | .lp t' _ => if t = t' then false else freeE r t

def freeGL : List (Nat × Nat × Nat × Nat × Bool) → Nat → Bool
  | [], _ => true
  | (_, t', _) :: r, t => if t = t' then false else freeGL r t

/-- A new variable of the call's own. -/
def newLK {α : Type} (fr : Fr) (t : Nat) (cs : List Value) (K : Fr → Option α) : Option α :=
  match fr with
  | ⟨e, l, g⟩ => match freeE e t, freeGL g t with
    | true, true => K ⟨e, (t, cs) :: l, g⟩
    | _, _ => none

/-- A variable of the call's own written. -/
def putLK {α : Type} (fr : Fr) (t : Nat) (cs : List Value) (K : Fr → Option α) : Option α :=
  match fr with
  | ⟨e, l, g⟩ => K ⟨e, (t, cs) :: l, g⟩

/-- What an operand is; `og`: the guard under which it is read. -/
def evE (fr : Fr) (og : Option (Nat × Bool)) : Operand → Option Ent
  | .tmp t => match lookG fr.g t with
    | none => lookE fr.e t
    | some (t', j, gt, w) => match og with
      | none => none
      | some (gt', w') => if gt = gt' then (if w = w' then some (.lp t' j) else none) else none
  | .const v => if plainV v then some (.val v) else none
  | .global _ => none
  | .func f => some (.val (.func (.func f) #[] #[]))

def evV (fr : Fr) (o : Operand) : Option Value :=
  match evE fr none o with
  | some (.val v) => some v
  | _ => none

def evVs (fr : Fr) : List Operand → Option (List Value)
  | [] => some []
  | o :: r => match evV fr o with
    | some v => match evVs fr r with
      | some vs => some (v :: vs)
      | none => none
    | none => none

def evO (fr : Fr) : Option Operand → Option (Option Value)
  | none => some none
  | some o => match evV fr o with
    | some v => some (some v)
    | none => none

def evPs (fr : Fr) : List (Nat × Operand) → Option (List (Nat × Value))
  | [] => some []
  | (i, o) :: r => match evV fr o with
    | some v => match evPs fr r with
      | some vs => some ((i, v) :: vs)
      | none => none
    | none => none

/-! ### Contexts: what the functions called are known to do -/

inductive Fn' where
  | st (v : List Value → St → Option (Value × St))
  | rd (g : List Value → St → Option Value)

abbrev Ctx := List (Nat × Fn')

def lookC : Ctx → Nat → Option Fn'
  | [], _ => none
  | (i, x) :: r, f => if f = i then some x else lookC r f

/-! ### Annotations -/

inductive KE where
  | v (t : Nat)
  | l (t : Nat)
  | p (t t' j : Nat)

inductive Ex where
  | normal
  | exit (id : Nat)
  | ret

def Ex.beq : Ex → Ex → Bool
  | .normal, .normal => true
  | .exit i, .exit j => i == j
  | .ret, .ret => true
  | _, _ => false

structure LoopAn where
  ks : List KE
  exits : List (Ex × List KE)

/-- `pure`: nothing that was there is turned, and nothing new is kept. -/
structure An where
  N : Nat
  pure : Bool
  loc : List Nat
  loops : List (Nat × LoopAn)
  cuts : List (Nat × LoopAn)
  draws : List (Nat × List (Nat × Nat × List Nat × List Nat))

def lookA {α : Type} : List (Nat × α) → Nat → Option α
  | [], _ => none
  | (i, x) :: r, t => if t = i then some x else lookA r t

def memN : List Nat → Nat → Bool
  | [], _ => false
  | i :: r, t => if t = i then true else memN r t

def firstR : Code → Option Nat
  | .region id _ _ => some id
  | .seq a b => match firstR a with
    | some i => some i
    | none => firstR b
  | .cond _ a b => match firstR a with
    | some i => some i
    | none => firstR b
  | .block _ a => firstR a
  | .loop a => firstR a
  | .scope a => firstR a
  | _ => none

/-! ### Types, read off the program -/

def aggT (P : Program) (t : TypeId) : Option Bool :=
  match P.underlying t with
  | some (.struct _) | some (.array _ _) => some true
  | some _ => some false
  | none => none

def sizeT (P : Program) (t : TypeId) : Option Nat :=
  match P.info? t with
  | some i => some i.size
  | none => none

def zeroT (P : Program) (t : TypeId) : Option Value :=
  match P.info? t with
  | some i => i.zero
  | none => none

def bytesT (P : Program) (t : TypeId) : Option Nat :=
  match P.info? t with
  | some i => some i.bytes
  | none => none

def kindsFs (P : Program) (F : TypeId → Option (List Nat)) : List Field → Nat → Option (List Nat)
  | [], _ => some []
  | f :: r, o => if f.offset == o && f.name != "_" then
      match F f.type, sizeT P f.type with
      | some ks, some n => if ks.length = n then (match kindsFs P F r (o + n) with
        | some qs => some (ks ++ qs)
        | none => none) else none
      | _, _ => none
    else none

/-- The kinds of a type's cells, where '==' compares it cell by cell. -/
def kindsT (P : Program) : Nat → TypeId → Option (List Nat)
  | 0, _ => none
  | d + 1, t =>
    match P.underlying t with
    | some .bool => some [0]
    | some (.int _) => some [1]
    | some .string => some [2]
    | some (.pointer _) => some [3]
    | some (.slice _) => some [4]
    | some (.map _ _) => some [5]
    | some (.func _ _ _) => some [6]
    | some (.struct fs) => if P.stoodInHeld t then none else kindsFs P (kindsT P d) fs.toList 0
    | _ => none

def eqOk (P : Program) (t : TypeId) : Option (List Nat × Bool) :=
  match kindsT P 9 t, aggT P t with
  | some ks, some true => if P.eqGuardType P.depth t then none else some (ks, true)
  | some ks, some false => some (ks, false)
  | _, _ => none

def keyKinds : List Nat → Bool
  | [] => true
  | k :: r => decide (k ≤ 2) && keyKinds r

/-! ### Guards -/

def gd (x : Value) (want : Bool) (m : Option Value) : Option Value :=
  match x with
  | .bool b => if b = want then m else some undef
  | _ => some undef

def gdS (x : Value) (want : Bool) (m : Option (Value × St)) (s : St) : Option (Value × St) :=
  match x with
  | .bool b => if b = want then m else some (undef, s)
  | _ => some (undef, s)

def gdU (x : Value) (want : Bool) (m : Option St) (s : St) : Option St :=
  match x with
  | .bool b => if b = want then m else some s
  | _ => some s

def cnd {R : Type} (v : Value) (x y : Option R) : Option R :=
  match v with
  | .bool true => x
  | .bool false => y
  | _ => none

def iter {X R : Type} (f : (X → St → Option R) → X → St → Option R) : Nat → X → St → Option R
  | 0, _, _ => none
  | k + 1, x, s => f (iter f k) x s

def BIG : Nat := 4611686018427387904

/-- The means by which pieces are joined: a variable while the kernel holds the evaluator against a printed function, so that it compares and does not open them. -/
structure Sig where
  bd : {α β : Type} → Option α → (α → Option β) → Option β
  gd : Value → Bool → Option Value → Option Value
  gdS : Value → Bool → Option (Value × St) → St → Option (Value × St)
  gdU : Value → Bool → Option St → St → Option St
  cnd : {R : Type} → Value → Option R → Option R → Option R
  it : {R : Type} → ((List Value → St → Option R) → List Value → St → Option R) → List Value → St → Option R

def std : Sig where
  bd := Option.bind
  gd := gd
  gdS := gdS
  gdU := gdU
  cnd := cnd
  it := fun f xs s => iter f BIG xs s

/-! ### Operations -/

inductive OpR where
  | k (v : Value)
  | v (m : Option Value)
  | s (m : Option (Value × St))
  | u (m : Option St)
  | p (t j : Nat)
  | box (t : Nat) (m : Option (List Value))
  | set (t : Nat) (m : Option (List Value))
  | bad

def isConst : Operand → Bool
  | .const _ => true
  | _ => false

/-- An interface held against a constant. -/
def ifaceC (P : Program) (t : TypeId) (x y : Operand) : Bool :=
  match P.underlying t with
  | some (.interface _) => isConst x || isConst y
  | _ => false

def callC (C : Ctx) (f : Nat) (args : List Value) (s : St) : OpR :=
  match lookC C f with
  | some (.st v) => .s (v args s)
  | some (.rd g) => .v (g args s)
  | none => .bad

/-- A call of a function value. -/
def callV (C : Ctx) (f : Value) (args : List Value) (s : St) : Option (Value × St) :=
  match f with
  | .func (.func f) ⟨a⟩ ⟨c⟩ => match lookC C f with
    | some (.st v) => v (a ++ args ++ c) s
    | some (.rd g) => (g (a ++ args ++ c) s).map fun r => (r, s)
    | none => none
  | _ => none

/-- The method of a type, where it is its own and takes what the interface holds. -/
def methOf (P : Program) (t : TypeId) (name : String) : Option Nat :=
  match P.info? t with
  | some inf => match inf.methods.find? (fun m => m.name == name) with
    | some m => match m.path.isEmpty, m.func, P.underlying t with
      | true, some (f, true), some (.pointer _) => some f
      | _, _, _ => none
    | none => none
  | none => none

/-- A call of a method of what an interface holds. -/
def callI (P : Program) (C : Ctx) (name : String) (r : Value) (args : List Value) (s : St) : Option (Value × St) :=
  match r with
  | .iface t v => match methOf P t name with
    | some f => match lookC C f with
      | some (.st g) => g (v :: args) s
      | some (.rd g) => (g (v :: args) s).map fun r => (r, s)
      | none => none
    | none => none
  | _ => none

/-- What an interface holds, asked for a type. -/
def tas (P : Program) (t : TypeId) (ok : Bool) (z x : Value) : Option Value :=
  match P.underlying t, x with
  | some (.interface _), .nilIface => if ok then some (.tuple ⟨[z, .bool false]⟩) else none
  | some (.interface want), .iface a v => (match P.info? a with
    | some inf => (match Instr.missingMethod want inf.methods with
      | none => some (if ok then .tuple ⟨[.iface a v, .bool true]⟩ else .iface a v)
      | some _ => if ok then some (.tuple ⟨[z, .bool false]⟩) else none)
    | none => none)
  | some d, .nilIface => if ok then some (.tuple ⟨[z, .bool false]⟩) else none
  | some d, .iface a v => if a = t then some (if ok then .tuple ⟨[v, .bool true]⟩ else v) else if ok then some (.tuple ⟨[z, .bool false]⟩) else none
  | _, _ => none

def builtinR (P : Program) (b : Builtin) (ts : List TypeId) (vs : List Value) (s : St) : OpR :=
  match b, ts, vs with
  | .len, [t], [x] => match P.underlying t with
    | some .string => .v (lenS x)
    | some (.slice _) => .v (lenL x)
    | some (.map _ _) => .v (lenM s x)
    | _ => .bad
  | .min, _, [x, y] => .v (mn2 x y)
  | .max, _, [x, y] => .v (mx2 x y)
  | .append, [t, u], [v, x] => match P.underlying t, P.underlying u with
    | some (.slice e), some (.slice _) | some (.slice e), some .string => match sizeT P e, bytesT P e, zeroT P e with
      | some sz, some by_, some z => if (cellsL z).length = sz then .s (app s sz by_ v x) else .bad
      | _, _, _ => .bad
    | _, _ => .bad
  | .copy, [t, u], [v, x] => match P.underlying t, P.underlying u with
    | some (.slice e), some (.slice _) | some (.slice e), some .string => match sizeT P e with
      | some sz => .s (cpy s sz v x)
      | _ => .bad
    | _, _ => .bad
  | _, _, _ => .bad

/-- What an operation does, its guard left aside. -/
def opR (S : Sig) (P : Program) (C : Ctx) (an : An) (fr : Fr) (s : St) (og : Option (Nat × Bool)) (o : Oper) : OpR :=
  match o.op with
  | .move x | .assign x => match evE fr og x with
    | some (.val v) => .k v
    | some (.lp t j) => .p t j
    | none => .bad
  | .pick c a b => match evV fr c, evV fr a, evV fr b with
    | some c, some a, some b => .v (pik c a b)
    | _, _, _ => .bad
  | .alloc t => match zeroT P t with
    | some z => if plainV z then (match o.dst with
        | some d => if memN an.loc d then .box d (bx z) else .s (alv s z)
        | none => .bad) else .bad
    | none => .bad
  | .box _ x => match evV fr x with
    | some v => (match o.dst with
        | some d => if memN an.loc d then .box d (bx v) else .s (alv s v)
        | none => .bad)
    | none => .bad
  | .load t a => match aggT P t, sizeT P t, evE fr og a with
    | some true, some n, some (.val v) => .v (lda s n v)
    | some false, some _, some (.val v) => .v (ldc s v)
    | some agg, some n, some (.lp t' j) => (match lookL fr.l t' with
        | some cs => (match agg with
          | true => .v (lal cs j n)
          | false => .v (lcl cs j))
        | none => .bad)
    | _, _, _ => .bad
  | .store t a x => match sizeT P t, evE fr og a, evV fr x with
    | some n, some (.val p), some v => .u (stv s n p v)
    | some n, some (.lp t' j), some v => (match lookL fr.l t' with
        | some cs => .set t' (stl cs j n v)
        | none => .bad)
    | _, _, _ => .bad
  | .nilCheck x => match evE fr og x with
    | some (.val v) => .v (nck v)
    | some (.lp t j) => .p t j
    | none => .bad
  | .binOp op t x y _ => match evV fr x, evV fr y with
    | some a, some b => match op with
      | .eql => (match eqOk P t with
        | some (ks, agg) => .v (eqb ks agg false a b)
        | none => if ifaceC P t x y then .v (eqI false a b) else .bad)
      | .neq => (match eqOk P t with
        | some (ks, agg) => .v (eqb ks agg true a b)
        | none => if ifaceC P t x y then .v (eqI true a b) else .bad)
      | _ => .v (bin op a b)
    | _, _ => .bad
  | .unOp op _ x => match evV fr x with
    | some a => .v (un op a)
    | none => .bad
  | .convert src dst x => match P.underlying src, P.underlying dst, evV fr x with
    | some (.int _), some (.int k), some a => .v (cvi k a)
    | some .string, some .string, some a => .v (cvs a)
    | some (.slice e), some .string, some a => (match P.underlying e with
        | some (.int .u8) => .v (b2s s a)
        | _ => .bad)
    | some (.slice _), some (.slice e), some a => if src = dst then (match P.underlying e with
        | some (.int .u8) => .s (cvl s a)
        | _ => .bad) else .bad
    | _, _, _ => .bad
  | .makeInterface t x => match P.underlying t, evV fr x with
    | some (.interface _), _ => .bad
    | some _, some a => .k (.iface t a)
    | _, _ => .bad
  | .makeFunc fn f c => match fn, evVs fr f.toList, evVs fr c.toList with
    | .func g, some f, some c => .k (.func (.func g) ⟨f⟩ ⟨c⟩)
    | _, _, _ => .bad
  | .build t ps => match P.underlying t, zeroT P t, evPs fr ps.toList with
    | some (.struct fs), some z, some ps => (if plainV z then (match mapFields P fs.toList ps with
        | some qs => if oneCs (cellsL z) && fs.toList.all (fun f => (sizeT P f.type).isSome) then .v (bld (cellsL z) qs) else .bad
        | none => .bad) else .bad)
    | some (.array _ e), some z, some ps => (if plainV z && oneCs (cellsL z) then (match sizeT P e with
        | some n => .v (bld (cellsL z) (ps.map fun q => (q.1 * n, n, q.2)))
        | none => .bad) else .bad)
    | _, _, _ => .bad
  | .buildSlice t len ps => match P.underlying t, evPs fr ps.toList with
    | some (.slice e), some ps => (match zeroT P e, sizeT P e with
        | some z, some n => if plainV z && oneCs (cellsL z) && decide (len * n ≤ 16777216) && decide (0 < n) && decide ((cellsL z).length = n) then
            .s (S.bd (bls n (List.replicate len (cellsL z)) ps) fun rows => als s n len rows) else .bad
        | _, _ => .bad)
    | _, _ => .bad
  | .makeSlice t l c => match P.underlying t, evV fr l, evV fr c with
    | some (.slice e), some l, some c => (match zeroT P e, sizeT P e, bytesT P e with
        | some z, some n, some by_ => if plainV z && oneCs (cellsL z) && decide (0 < n) && decide ((cellsL z).length = n) then .s (mks s n by_ (cellsL z) l c) else .bad
        | _, _, _ => .bad)
    | _, _, _ => .bad
  | .slice t x lo hi mx => match P.underlying t, evV fr x, evO fr lo, evO fr hi, evO fr mx with
    | some .string, some v, some lo, some hi, some none => .v (slS v lo hi)
    | some (.slice e), some v, some lo, some hi, some mx => (match sizeT P e with
        | some n => if mx.isSome && hi.isNone then .bad else .v (slc s n v lo hi mx)
        | none => .bad)
    | _, _, _, _, _ => .bad
  | .fieldAddr t x f => match P.underlying t with
    | some (.struct fs) => (match fs[f]? with
        | some f => (match sizeT P f.type with
          | some n => if n = 0 then .bad else (match evE fr og x with
            | some (.val v) => .v (fld f.offset v)
            | some (.lp t' j) => .p t' (j + f.offset)
            | none => .bad)
          | none => .bad)
        | none => .bad)
    | _ => .bad
  | .field t x f => match P.underlying t with
    | some (.struct fs) => (match fs[f]?, evV fr x with
        | some f, some v => (match aggT P f.type, sizeT P f.type with
          | some agg, some n => .v (prt f.offset n agg v)
          | _, _ => .bad)
        | _, _ => .bad)
    | _ => .bad
  | .indexAddr t x i => match P.underlying t, evE fr none x, evV fr i with
    | some (.slice e), some (.val v), some i => (match sizeT P e with
        | some n => .v (idx s n v i)
        | none => .bad)
    | some (.array n e), _, some i => (match sizeT P e, evE fr og x with
        | some sz, some (.val v) => .v (idxA n sz v i)
        | some sz, some (.lp t' j) => (match i with
          | .int _ k => if 0 ≤ k ∧ k < n then .p t' (j + k.toNat * sz) else .bad
          | _ => .bad)
        | _, _ => .bad)
    | _, _, _ => .bad
  | .index t x i => match P.underlying t, evV fr x, evV fr i with
    | some .string, some v, some i => .v (idxS v i)
    | _, _, _ => .bad
  | .lookup t x k ok => match P.underlying t, evV fr x, evV fr k with
    | some (.map kt e), some m, some k => (match zeroT P e, kindsT P 9 kt, aggT P kt with
        | some z, some ks, some agg => if plainV z && keyKinds ks then .v (lkp s ks agg z ok m k) else .bad
        | _, _, _ => .bad)
    | _, _, _ => .bad
  | .mapUpdate t x k v | .insert t x k v => match P.underlying t, evV fr x, evV fr k, evV fr v with
    | some (.map kt _), some m, some k, some v => (match kindsT P 9 kt, aggT P kt with
        | some ks, some agg => if keyKinds ks then .u (upm s ks agg m k v) else .bad
        | _, _ => .bad)
    | _, _, _, _ => .bad
  | .makeMap _ none => .s (mkm s)
  | .extract x i => match evV fr x with
    | some v => .v (xtr i v)
    | none => .bad
  | .typeAssert x _ t ok => match evV fr x, zeroT P t with
    | some v, some z => if plainV z then .v (tas P t ok z v) else .bad
    | _, _ => .bad
  | .call c => match evVs fr c.args.toList with
    | none => .bad
    | some args => match c.callee with
      | .value (.func f) => callC C f args s
      | .value x => (match evV fr x with
          | some v => .s (callV C v args s)
          | none => .bad)
      | .builtin b => builtinR P b c.argTypes.toList args s
      | .invoke x name => (match evV fr x with
          | some v => .s (callI P C name v args s)
          | none => .bad)
  | _ => .bad
where
  mapFields (P : Program) (fs : List Field) : List (Nat × Value) → Option (List (Nat × Nat × Value))
    | [] => some []
    | (i, v) :: r => match fs[i]? with
      | some f => match sizeT P f.type, mapFields P fs r with
        | some n, some qs => some ((f.offset, n, v) :: qs)
        | _, _ => none
      | none => none

def evOp {R : Type} (S : Sig) (P : Program) (C : Ctx) (an : An) (ops : Array Oper) (o : Oper) (fr : Fr) (s : St) (K : Fr → St → Option R) : Option R :=
  match o with
  | ⟨dst, op, ty, pos, after, none⟩ => match opR S P C an fr s none ⟨dst, op, ty, pos, after, none⟩ with
    | .k v => putK an.N fr dst (.val v) fun fr => K fr s
    | .v m => S.bd m fun v => putK an.N fr dst (.val v) fun fr => K fr s
    | .s m => if an.pure then none else S.bd m fun r => putK an.N fr dst (.val r.1) fun fr => K fr r.2
    | .u m => if an.pure then none else S.bd m fun s => putK an.N fr dst (.val undef) fun fr => K fr s
    | .p t j => putK an.N fr dst (.lp t j) fun fr => K fr s
    | .box t m => S.bd m fun cs => newLK fr t cs fun fr => putK an.N fr dst (.lp t 0) fun fr => K fr s
    | .set t m => S.bd m fun cs => putLK fr t cs fun fr => putK an.N fr dst (.val undef) fun fr => K fr s
    | .bad => none
  | ⟨dst, op, ty, pos, after, some (j, want)⟩ => match (ops[j]?).bind (·.dst) with
    | none => none
    | some gt => match evE fr none (.tmp gt) with
      | some (.val x) => match opR S P C an fr s (some (gt, want)) ⟨dst, op, ty, pos, after, some (j, want)⟩ with
        | .k v => S.bd (S.gd x want (some v)) fun v => putK an.N fr dst (.val v) fun fr => K fr s
        | .v m => S.bd (S.gd x want m) fun v => putK an.N fr dst (.val v) fun fr => K fr s
        | .s m => if an.pure then none else S.bd (S.gdS x want m s) fun r => putK an.N fr dst (.val r.1) fun fr => K fr r.2
        | .u m => if an.pure then none else S.bd (S.gdU x want m s) fun s => putK an.N fr dst (.val undef) fun fr => K fr s
        | .p t i => putGK an.N fr dst t i gt want fun fr => K fr s
        | _ => none
      | _ => none

def evOps {R : Type} (S : Sig) (P : Program) (C : Ctx) (an : An) (ops : Array Oper) : List Oper → Fr → St → (Fr → St → Option R) → Option R
  | [], fr, s, K => K fr s
  | o :: r, fr, s, K => evOp S P C an ops o fr s fun fr s => evOps S P C an ops r fr s K

/-! ### Code -/

def vals (fr : Fr) : List KE → Option (List Value)
  | [] => some []
  | .v t :: r => match evE fr none (.tmp t) with
    | some (.val v) => match vals fr r with
      | some vs => some (v :: vs)
      | none => none
    | _ => none
  | .l t :: r => match lookL fr.l t with
    | some cs => match vals fr r with
      | some vs => some (.agg ⟨cs⟩ :: vs)
      | none => none
    | none => none
  | .p t t' j :: r => match evE fr none (.tmp t) with
    | some (.lp u i) => if u = t' then (if i = j then vals fr r else none) else none
    | _ => none

/-- The frame that is left of values handed on. -/
def mkK {α : Type} (xs : List Value) : List KE → Nat → (List (Nat × Ent) → List (Nat × List Value) → α) → α
  | [], _, K => K [] []
  | k :: r, i, K => match k with
    | .v t => mkK xs r (i + 1) fun e l => K ((t, .val (xs.getD i undef)) :: e) l
    | .l t => mkK xs r (i + 1) fun e l => K e ((t, cellsA (xs.getD i undef)) :: l)
    | .p t t' j => mkK xs r i fun e l => K ((t, .lp t' j) :: e) l

def exIdx : List (Ex × List KE) → Nat → Ex → Option (Nat × List KE)
  | [], _, _ => none
  | (x, ks) :: r, i, e => if Ex.beq x e then some (i, ks) else exIdx r (i + 1) e

def exK {R : Type} (i : Nat) (K : Ex → List KE → Option R) : List (Ex × List KE) → Nat → Option R
  | [], _ => none
  | (e, ks) :: r, j => match r with
    | [] => K e ks
    | _ :: _ => if i = j then K e ks else exK i K r (j + 1)

/-- The result of a piece that is cut off: which exit, what it hands on, the heap. -/
abbrev Cut := Nat × List Value × St

def cutK (la : LoopAn) (e : Ex) (fr : Fr) (s : St) : Option Cut :=
  match exIdx la.exits 0 e with
  | some (i, ks) => match vals fr ks with
    | some ys => some (i, ys, s)
    | none => none
  | none => none

/-- How an operation behaves in a region that draws its order: 0: it is a mere reading of temporaries; 1: of the call's own variables; 2: of memory; 3: it turns nothing that was there; 4: it may turn memory; 5: it turns the call's own variables; 6: it makes one of these. -/
abbrev Cls := Nat

def edgeOn (o : Oper) (i : Nat) : Bool := o.after.any fun e => Region.binds .any e && e.on == i

/-- Does `ok` leave alone what `oi` looks at and where it writes? -/
def clear (ops : Array Oper) (oi ok : Oper) : Bool :=
  match ok.dst with
  | none => true
  | some d => !(oi.looksAt ops).contains d && oi.dst != some d

def selfClear (ops : Array Oper) (o : Oper) : Bool :=
  match o.dst with
  | none => true
  | some d => !(o.looksAt ops).contains d

/-- Codes: a class and, eight times, the number of the variable of the call's own that is read or turned. -/
def pres (c d : Nat) : Bool := decide (c % 8 = 0) || decide (d % 8 ≤ 3) || (decide (c % 8 = 1) && decide (d % 8 = 4)) || decide (d % 8 = 6) || (decide (d % 8 = 5) && (decide (c % 8 = 2) || decide (c / 8 ≠ d / 8)))

/-- One place in the order: the operation; its code; the readings that are read anew behind it; the new memory that may be made ahead of it. -/
abbrev Ord1 := Nat × Cls × List Nat × List Nat

/-- May reading `oi`, number `i`, of class `c` float over what comes? -/
def okAfter (ops : Array Oper) (oi : Oper) (i c : Nat) : List Ord1 → Bool
  | [] => true
  | (k, d, rs, _) :: r => match ops[k]? with
    | none => false
    | some ok => if edgeOn ok i && decide (3 ≤ d % 8) then true else clear ops oi ok && (pres c d || rs.contains i) && okAfter ops oi i c r

/-- New memory, made at once. -/
def saKind (o : Oper) : Bool :=
  match o.guard, o.dst, o.op with
  | none, some _, .alloc _ => true
  | none, some _, .box _ _ => true
  | none, some _, .buildSlice _ _ _ => true
  | none, some _, .makeMap _ none => true
  | _, _, _ => false

/-- Does nothing beside it look at it or write what it looks at, but what waits for it or for what it waits? -/
def soloOk (ops : Array Oper) (k : Nat) : Bool :=
  match ops[k]? with
  | some ok => saKind ok && selfClear ops ok && (List.range ops.size).all fun m => m == k || match ops[m]? with
    | some om => edgeOn om k || edgeOn ok m || ok.apart ops om
    | none => true
  | none => false

def setAll (listed : Array Bool) : List Nat → Array Bool
  | [] => listed
  | k :: ks => setAll (listed.setIfInBounds k true) ks

def drawOk (ops : Array Oper) : List Ord1 → Array Bool → Bool
  | [], listed => (Region.ready .any ops listed).isEmpty
  | (i, c, rs, ks) :: r, listed =>
    (if c % 8 ≤ 2 then (match ops[i]? with
        | some o => rs.isEmpty && ks.isEmpty && (Region.ready .any ops listed).contains i && Region.free .any ops listed i && selfClear ops o && okAfter ops o i c r
        | none => false)
     else (Region.ready .any ops listed).contains i && (Region.ready .any ops listed).all (fun k => k == i || ks.contains k) &&
       ks.all (fun k => k != i && (Region.ready .any ops listed).contains k && soloOk ops k) && (Region.ready .any ops (setAll listed ks)).all (· == i)) && drawOk ops r (listed.setIfInBounds i true)

def ogOf (ops : Array Oper) (o : Oper) : Option (Nat × Bool) :=
  match o.guard with
  | none => none
  | some (j, w) => match (ops[j]?).bind (·.dst) with
    | some gt => some (gt, w)
    | none => none

/-- What class an operation is of, its frame given. -/
def clsOf (P : Program) (C : Ctx) (an : An) (ops : Array Oper) (fr : Fr) (o : Oper) : Cls :=
  match o.op with
  | .move _ | .assign _ | .nilCheck _ | .fieldAddr .. => 0
  | .pick .. | .binOp .. | .unOp .. | .makeInterface .. | .makeFunc .. | .build .. | .field .. | .index .. | .extract .. => 0
  | .load _ a => match evE fr (ogOf ops o) a with
    | some (.lp _ _) => 1
    | _ => 2
  | .convert src dst _ => match P.underlying src with
    | some (.int _) | some .string => 0
    | _ => match P.underlying dst with
      | some (.slice _) => 4
      | _ => 2
  | .indexAddr t _ _ => match P.underlying t with
    | some (.array _ _) => 0
    | _ => 2
  | .slice .. | .lookup .. => 2
  | .call { callee := .builtin b, .. } => match b with
    | .len => 2
    | .min | .max => 0
    | _ => 4
  | .call { callee := .value (.func f), .. } => match lookC C f with
    | some (.rd _) => 3
    | _ => 4
  | .alloc _ | .box .. => match o.dst with
    | some d => if memN an.loc d then 6 else 3
    | none => 5
  | .buildSlice .. | .makeSlice .. | .makeMap .. => 3
  | .store _ a _ => match evE fr (ogOf ops o) a with
    | some (.lp _ _) => 5
    | _ => 4
  | _ => 4

/-- The variable of the call's own that an operation reads or turns. -/
def slotOf (ops : Array Oper) (fr : Fr) (o : Oper) : Nat :=
  match o.op with
  | .load _ a | .store _ a _ => match evE fr (ogOf ops o) a with
    | some (.lp t _) => t
    | _ => 0
  | _ => 0

def codeOf (P : Program) (C : Ctx) (an : An) (ops : Array Oper) (fr : Fr) (o : Oper) : Cls := clsOf P C an ops fr o + 8 * slotOf ops fr o

mutual
/-- Two values that are one. -/
def sameV : Value → Value → Bool
  | .bool a, .bool b => a == b
  | .int k a, .int k' b => decide (k = k') && decide (a = b)
  | .string a, .string b => decide (a = b)
  | .pointer none, .pointer none => true
  | .pointer (some ⟨b, i, j⟩), .pointer (some ⟨b', i', j'⟩) => decide (b = b') && decide (i = i') && decide (j = j')
  | .slice none n c, .slice none n' c' => decide (n = n') && decide (c = c')
  | .slice (some ⟨b, i, j⟩) n c, .slice (some ⟨b', i', j'⟩) n' c' => decide (b = b') && decide (i = i') && decide (j = j') && decide (n = n') && decide (c = c')
  | .map a, .map b => decide (a = b)
  | .nilIface, .nilIface => true
  | .agg ⟨a⟩, .agg ⟨b⟩ => sameVs a b
  | .tuple ⟨a⟩, .tuple ⟨b⟩ => sameVs a b
  | _, _ => false
def sameVs : List Value → List Value → Bool
  | [], [] => true
  | a :: r, b :: q => sameV a b && sameVs r q
  | _, _ => false
end

/-- Readings read anew: they must be what they were. -/
def rechk {R : Type} (S : Sig) (P : Program) (C : Ctx) (an : An) (ops : Array Oper) : List Nat → Fr → St → Option R → Option R
  | [], _, _, X => X
  | j :: rs, fr, s, X => match ops[j]? with
    | some ⟨some d, op, ty, pos, after, g⟩ => match lookE fr.e d, lookG fr.g d with
      | some (.val v), none => match g with
        | none => (match opR S P C an fr s none ⟨some d, op, ty, pos, after, none⟩ with
          | .v m => S.bd m fun v' => S.cnd (.bool (sameV v' v)) (rechk S P C an ops rs fr s X) none
          | _ => none)
        | some (q, want) => (match (ops[q]?).bind (·.dst) with
          | none => none
          | some gt => match evE fr none (.tmp gt) with
            | some (.val x) => (match opR S P C an fr s (some (gt, want)) ⟨some d, op, ty, pos, after, some (q, want)⟩ with
              | .v m => S.bd (S.gd x want m) fun v' => S.cnd (.bool (sameV v' v)) (rechk S P C an ops rs fr s X) none
              | _ => none)
            | _ => none)
      | _, _ => none
    | _ => none

/-- New memory that may be made ahead: it can be made. -/
def ahead {R : Type} (S : Sig) (P : Program) (C : Ctx) (an : An) (ops : Array Oper) : List Nat → Fr → St → Option R → Option R
  | [], _, _, X => X
  | k :: ks, fr, s, X => match ops[k]? with
    | some o => (match opR S P C an fr s none o with
      | .s m => if an.pure then none else S.bd m fun _ => ahead S P C an ops ks fr s X
      | _ => none)
    | none => none

/-- The operations of a region that draws its order, one after the other. -/
def evDraw {R : Type} (S : Sig) (P : Program) (C : Ctx) (an : An) (ops : Array Oper) : List Ord1 → Fr → St → (Fr → St → Option R) → Option R
  | [], fr, s, K => K fr s
  | (i, c, rs, ks) :: r, fr, s, K => match ops[i]? with
    | some o => if codeOf P C an ops fr o = c ∨ (clsOf P C an ops fr o ≤ 2 ∧ c = 3) then ahead S P C an ops ks fr s (evOp S P C an ops o fr s fun fr s => rechk S P C an ops rs fr s (evDraw S P C an ops r fr s K)) else none
    | none => none

/-- All regions of a code that draw their order, held against the orders given. -/
def drawsOk (an : An) : Code → Bool
  | .region id ops draw => !draw || (match lookA an.draws id with
    | some ord => decide (ord.length ≤ ops.size) && Region.noSelect ops && drawOk ops ord (Array.replicate ops.size false)
    | none => false)
  | .seq a b => drawsOk an a && drawsOk an b
  | .cond _ a b => drawsOk an a && drawsOk an b
  | .block _ a => drawsOk an a
  | .loop a => drawsOk an a
  | .scope a => drawsOk an a
  | _ => true

def evC (S : Sig) (P : Program) (C : Ctx) (an : An) : Code → (R : Type) → Fr → St → (Ex → Fr → St → Option R) → Option R
  | .skip, _, fr, s, K => K .normal fr s
  | .label _, _, fr, s, K => K .normal fr s
  | .region id ops draw, _, fr, s, K =>
    match fr with
    | ⟨e, l, _⟩ => if draw then
      match lookA an.draws id with
      | some ord => evDraw S P C an ops ord ⟨e, l, []⟩ s (K .normal)
      | none => none
    else evOps S P C an ops ops.toList ⟨e, l, []⟩ s (K .normal)
  | .seq a b, R, fr, s, K =>
    match (firstR b).bind (lookA an.cuts) with
    | some la => S.bd (evC S P C an a Cut fr s (cutK la)) fun r => exK r.1 (fun e ks => match e with
        | .normal => mkK r.2.1 ks 0 fun e' l' => evC S P C an b R ⟨e', l', []⟩ r.2.2 K
        | e => mkK r.2.1 ks 0 fun e' l' => K e ⟨e', l', []⟩ r.2.2) la.exits 0
    | none => evC S P C an a R fr s fun e fr s => match e with
        | .normal => evC S P C an b R fr s K
        | e => K e fr s
  | .cond c a b, R, fr, s, K => match evV fr c with
    | some v => S.cnd v (evC S P C an a R fr s K) (evC S P C an b R fr s K)
    | none => none
  | .block id a, R, fr, s, K => evC S P C an a R fr s fun e fr s => match e with
    | .exit i => if i = id then K .normal fr s else K (.exit i) fr s
    | e => K e fr s
  | .loop a, _, fr, s, K => match (firstR a).bind (lookA an.loops) with
    | some la => match vals fr la.ks with
      | some xs => S.bd (S.it (fun rec xs s => mkK xs la.ks 0 fun e' l' => evC S P C an a Cut ⟨e', l', []⟩ s fun e fr s => match e with
          | .normal => match vals fr la.ks with
            | some ys => rec ys s
            | none => none
          | e => cutK la e fr s) xs s) fun r => exK r.1 (fun e ks => mkK r.2.1 ks 0 fun e' l' => K e ⟨e', l', []⟩ r.2.2) la.exits 0
      | none => none
    | none => none
  | .exit id, _, fr, s, K => K (.exit id) fr s
  | .ret, _, fr, s, K => K .ret fr s
  | _, _, _, _, _ => none

/-! ### Functions -/

def argsK {α : Type} : List Value → Nat → (List (Nat × Ent) → α) → α
  | [], _, K => K []
  | v :: r, i, K => argsK r (i + 1) fun e => K ((i, .val v) :: e)

def resK {R : Type} (S : Sig) (P : Program) (fr : Fr) (s : St) : List ResultVar → (List Value → Option R) → Option R
  | [], K => K []
  | .tmp t :: r, K => match evE fr none (.tmp t) with
    | some (.val v) => resK S P fr s r fun vs => K (v :: vs)
    | _ => none
  | .cell a t :: r, K => match aggT P t, sizeT P t, evE fr none (.tmp a) with
    | some true, some n, some (.val v) => S.bd (lda s n v) fun x => resK S P fr s r fun vs => K (x :: vs)
    | some false, some _, some (.val v) => S.bd (ldc s v) fun x => resK S P fr s r fun vs => K (x :: vs)
    | some agg, some n, some (.lp t' j) => (match lookL fr.l t' with
        | some cs => (match agg with
          | true => S.bd (lal cs j n) fun x => resK S P fr s r fun vs => K (x :: vs)
          | false => S.bd (lcl cs j) fun x => resK S P fr s r fun vs => K (x :: vs))
        | none => none)
    | _, _, _ => none

def oneV : List Value → Value
  | [v] => v
  | l => .tuple ⟨l⟩

def evFR (R : Type) (S : Sig) (P : Program) (C : Ctx) (an : An) (fn : Func) (args : List Value) (s : St) (K : Value → St → Option R) : Option R :=
  match fn.body with
  | some c => if fn.ntmps = an.N ∧ args.length ≤ an.N then argsK args 0 fun e => evC S P C an c R ⟨e, [], []⟩ s fun e fr s => match e with
      | .exit _ => none
      | _ => resK S P fr s fn.results.toList fun l => K (oneV l) s
    else none
  | none => none

/-- A function of which the heap's state is a part. -/
def evF (S : Sig) (P : Program) (C : Ctx) (an : An) (fn : Func) (args : List Value) (s : St) : Option (Value × St) :=
  evFR (Value × St) S P C an fn args s fun v s => some (v, s)

/-- A function that turns nothing. -/
def evG (S : Sig) (P : Program) (C : Ctx) (an : An) (fn : Func) (args : List Value) (s : St) : Option Value :=
  if an.pure then evFR Value S P C an fn args s fun v _ => some v else none

end Go.Sim
