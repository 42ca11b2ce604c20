/-
  The abstract evaluator: a deterministic reading of the model's code over a heap of rows. Definitions alone.
  The abstract evaluator, of code. Definitions alone.
  How the abstract heap stands to the model's world, and what keeps it so.
  The operations that touch memory: what the abstract heap answers, the model's world answers too.
  New memory, append, copy.
  append and copy.
  '==', arithmetic, addresses, parts and wholes.
  Addresses, parts and wholes, slices, maps.
  Aggregates, new slices, copies, texts of bytes, maps.
-/
import Derived.Laws.Append
import Derived.Tactics
import Derived.Orders
import Derived.RowKit3
import Derived.Below
import Derived.Laws.CopyRow
import Derived.Laws.Rows
import Derived.Deep.MidRow
import Derived.Laws.BytesString
import Derived.Laws.AppendOwn
import Derived.Laws.StructEq
import Derived.Laws.Slices
import Derived.Laws.MakeOwn
import Derived.Laws.IdiomStrings
import Derived.Laws.BytesArg
namespace Go.Sim

/-! ### The abstract heap -/

inductive Blk where
  | row (sz : Nat) (rows : List (List Value)) (ro : Bool)
  | map (es : List (Value × Value)) (ro : Bool)

def Blk.ro : Blk → Bool
  | .row _ _ r => r
  | .map _ r => r

structure St where
  h : List (Nat × Blk)
  n : Nat

def getH : List (Nat × Blk) → Nat → Option Blk
  | [], _ => none
  | (i, k) :: r, b => if b = i then some k else getH r b

def putH : List (Nat × Blk) → Nat → Blk → List (Nat × Blk)
  | [], _, _ => []
  | (i, k) :: r, b, x => if b = i then (i, x) :: r else (i, k) :: putH r b x

def delH : List (Nat × Blk) → Nat → List (Nat × Blk)
  | [], _ => []
  | (i, k) :: r, b => if b = i then delH r b else (i, k) :: delH r b

def St.get (s : St) (b : Nat) : Option Blk := getH s.h b
def St.put (s : St) (b : Nat) (x : Blk) : St := ⟨putH s.h b x, s.n⟩
def St.del (s : St) (b : Nat) : St := ⟨delH s.h b, s.n⟩
def St.new (s : St) (x : Blk) : St := ⟨(s.n, x) :: s.h, s.n + 1⟩

/-! ### Values -/

/-- The cells of a value. -/
def cellsL : Value → List Value
  | .agg ⟨l⟩ => l
  | v => [v]

/-- The cells of an aggregate. -/
def cellsA : Value → List Value
  | .agg ⟨l⟩ => l
  | _ => []

/-- `l` with `vs` from place `j` on. -/
def spl : List Value → Nat → List Value → List Value
  | l, 0, [] => l
  | _ :: l, 0, v :: vs => v :: spl l 0 vs
  | [], _, _ => []
  | x :: l, j + 1, vs => x :: spl l j vs

/-- A value that lies in one cell. -/
def oneC : Value → Bool
  | .agg _ => false
  | .tuple _ => false
  | _ => true

def oneCs : List Value → Bool
  | [] => true
  | v :: r => oneC v && oneCs r

/-- The cells that a variable of a value takes. -/
def bx : Value → Option (List Value)
  | .tuple _ => none
  | v => some (cellsL v)

mutual
/-- A value that holds no reference into memory. -/
def plainV : Value → Bool
  | .bool _ | .int _ _ | .string _ | .pointer none | .slice none 0 0 | .map none | .nilFunc | .nilIface => true
  | .agg ⟨l⟩ => plainVs l && oneCs l
  | .tuple ⟨l⟩ => plainVs l
  | .iface _ v => plainV v
  | .func _ ⟨a⟩ ⟨b⟩ => plainVs a && plainVs b
  | _ => false
def plainVs : List Value → Bool
  | [] => true
  | v :: r => plainV v && plainVs r
end

/-- What a computation answers that looks at no world and at no program. -/
def run0 {α : Type} : Sem α → Option α
  | .pure a => some a
  | _ => none

/-! ### Operations over values and the heap -/

/-- '==' on what lies in one cell, by its kind: 0 bool, 1 whole number, 2 text, 3 pointer, 4 slice, 5 map, 6 function (the last four against nil). -/
def eqk : Nat → Value → Value → Option Bool
  | 0, .bool a, .bool b => some (a == b)
  | 1, .int k a, .int k' b => if k = k' then some (a == b) else none
  | 2, .string a, .string b => some (decide (a = b))
  | 3, .pointer none, .pointer b => some b.isNone
  | 3, .pointer (some _), .pointer none => some false
  | 4, .slice none 0 0, .slice b _ _ => some b.isNone
  | 4, .slice (some _) _ _, .slice none 0 0 => some false
  | 5, .map none, .map b => some b.isNone
  | 5, .map (some _), .map none => some false
  | 6, .nilFunc, .nilFunc => some true
  | 6, .nilFunc, .func _ _ _ => some false
  | 6, .func _ _ _, .nilFunc => some false
  | _, _, _ => none

def eqks : List Nat → List Value → List Value → Option Bool
  | [], [], [] => some true
  | k :: ks, x :: xs, y :: ys => (eqk k x y).bind fun a => (eqks ks xs ys).bind fun b => some (a && b)
  | _, _, _ => none

/-- '==' on values of a type whose cells are of these kinds. -/
def eqT (ks : List Nat) (agg : Bool) (x y : Value) : Option Bool :=
  match agg with
  | true => match x, y with
    | .agg ⟨xs⟩, .agg ⟨ys⟩ => eqks ks xs ys
    | _, _ => none
  | false => match ks with
    | [k] => eqk k x y
    | _ => none

def eqb (ks : List Nat) (agg neg : Bool) (x y : Value) : Option Value :=
  (eqT ks agg x y).map fun b => .bool (match neg with | true => !b | false => b)

/-- '==' of what an interface holds, with nil. -/
def eqI (neg : Bool) : Value → Value → Option Value
  | .nilIface, .nilIface => some (.bool (match neg with | true => false | false => true))
  | .nilIface, .iface _ _ => some (.bool neg)
  | .iface _ _, .nilIface => some (.bool neg)
  | _, _ => none

def bin (op : BinOp) : Value → Value → Option Value
  | .int k a, .int k' b => run0 (binOp op 0 (.int k a) (.int k' b))
  | .string a, .string b =>
    match op with
    | .add => if a.size + b.size ≤ 9223372036854775807 then some (.string (a ++ b)) else none
    | .lss => some (.bool (Op.bytesLess a.data.toList b.data.toList))
    | .leq => some (.bool (Op.bytesLess a.data.toList b.data.toList || decide (a = b)))
    | .gtr => some (.bool (!(Op.bytesLess a.data.toList b.data.toList || decide (a = b))))
    | .geq => some (.bool (!Op.bytesLess a.data.toList b.data.toList))
    | _ => none
  | _, _ => none

def un (op : UnOp) : Value → Option Value
  | .int k a => run0 (Op.unary op (.int k a))
  | .bool b => run0 (Op.unary op (.bool b))
  | _ => none

/-- A whole number of another kind. -/
def cvi (k : IntKind) : Value → Option Value
  | .int _ n => some (.int k (k.wrap n))
  | _ => none

/-- A text of a text. -/
def cvs : Value → Option Value
  | .string s => some (.string s)
  | _ => none

def isNat : Value → Option Nat
  | .int _ n => if 0 ≤ n then some n.toNat else none
  | _ => none

/-- One cell. -/
def ldc (s : St) : Value → Option Value
  | .pointer (some ⟨b, i, some j⟩) =>
    match s.get b with
    | some (.row _ rows _) => (rows[i]?).bind fun r => r[j]?
    | _ => none
  | _ => none

/-- `n` cells as one value. -/
def lda (s : St) (n : Nat) : Value → Option Value
  | .pointer (some ⟨b, i, some j⟩) =>
    match s.get b with
    | some (.row _ rows _) => (rows[i]?).bind fun r => if j + n ≤ r.length then some (.agg ⟨(r.drop j).take n⟩) else none
    | _ => none
  | _ => none

/-- Cells stored. -/
def sto (s : St) (p : Value) (vs : List Value) : Option St :=
  match p with
  | .pointer (some ⟨b, i, some j⟩) =>
    match s.get b with
    | some (.row sz rows false) => (rows[i]?).bind fun r =>
      if j + vs.length ≤ r.length then some (s.put b (.row sz (rows.set i (spl r j vs)) false)) else none
    | _ => none
  | _ => none

/-- A value of `n` cells stored. -/
def stv (s : St) (n : Nat) (p x : Value) : Option St :=
  (bx x).bind fun cs => if cs.length = n then sto s p cs else none

/-- A field's address. -/
def fld (off : Nat) : Value → Option Value
  | .pointer (some ⟨b, i, some j⟩) => some (.pointer (some ⟨b, i, some (j + off)⟩))
  | _ => none

/-- An element's address. -/
def idx (s : St) (sz : Nat) : Value → Value → Option Value
  | .slice (some ⟨b, i, some 0⟩) len _, .int _ n =>
    if 0 ≤ n ∧ n < len then
      match s.get b with
      | some (.row sz' _ _) => if sz' = sz then some (.pointer (some ⟨b, i + n.toNat, some 0⟩)) else none
      | _ => none
    else none
  | _, _ => none

/-- An element's address in an array. -/
def idxA (n sz : Nat) : Value → Value → Option Value
  | .pointer (some ⟨b, i, some j⟩), .int _ k => if 0 ≤ k ∧ k < n then some (.pointer (some ⟨b, i, some (j + k.toNat * sz)⟩)) else none
  | _, _ => none

/-- A byte of a text. -/
def idxS : Value → Value → Option Value
  | .string s, .int _ n => if 0 ≤ n then (s.data.toList[n.toNat]?).map fun b => .int .u8 b.toNat else none
  | _, _ => none

/-- A part of an aggregate. -/
def prt (off n : Nat) (agg : Bool) : Value → Option Value
  | .agg ⟨l⟩ => if agg then (if off + n ≤ l.length then some (.agg ⟨(l.drop off).take n⟩) else none) else l[off]?
  | _ => none

/-- An aggregate out of parts. -/
def bld : List Value → List (Nat × Nat × Value) → Option Value
  | acc, [] => some (.agg ⟨acc⟩)
  | acc, (off, n, v) :: r => (bx v).bind fun cs => if cs.length = n ∧ off + n ≤ acc.length then bld (spl acc off cs) r else none

/-- Rows out of parts. -/
def bls (n : Nat) : List (List Value) → List (Nat × Value) → Option (List (List Value))
  | acc, [] => some acc
  | acc, (i, v) :: r => (bx v).bind fun cs => if cs.length = n ∧ i < acc.length then bls n (acc.set i cs) r else none

/-- A slice of bytes made of a constant text: nobody turns it from then on. -/
def cvl (s : St) : Value → Option (Value × St)
  | .slice (some ⟨b, i, some 0⟩) len e => match s.get b with
    | some (.row sz rows false) => if len = 0 then none else some (.slice (some ⟨b, i, some 0⟩) len e, s.put b (.row sz rows true))
    | _ => none
  | _ => none

/-- A new variable of its own. -/
def alc (s : St) (cs : List Value) : Option (Value × St) :=
  some (.pointer (some ⟨s.n, 0, some 0⟩), s.new (.row cs.length [cs] false))

def alv (s : St) (v : Value) : Option (Value × St) := (bx v).bind fun cs => alc s cs

/-- A new slice over rows: `len` of them are its own; the rest is room. -/
def als (s : St) (sz len : Nat) (rows : List (List Value)) : Option (Value × St) :=
  some (.slice (some ⟨s.n, 0, some 0⟩) len (2 * rows.length), s.new (.row sz rows false))

def mks (s : St) (sz bytes : Nat) (zero : List Value) (l c : Value) : Option (Value × St) :=
  match l, c with
  | .int _ l, .int _ c => if 0 ≤ l ∧ l ≤ c ∧ c * bytes ≤ 140737488355328 ∧ c ≤ 9223372036854775807 then als s sz l.toNat (List.replicate c.toNat zero) else none
  | _, _ => none

def optN (o : Option Value) (d : Nat) : Option Nat :=
  match o with
  | some v => isNat v
  | none => some d

/-- A slice of a slice. -/
def slc (s : St) (sz : Nat) (v : Value) (lo hi mx : Option Value) : Option Value :=
  (optN lo 0).bind fun l =>
    match v with
    | .slice (some ⟨b, i, some 0⟩) len e =>
      (optN hi len).bind fun h =>
        match s.get b with
        | some (.row sz' _ _) =>
          if sz' = sz ∧ l ≤ h then
            match mx with
            | none => if e = 1 then (if h ≤ len then some (.slice (some ⟨b, i + l, some 0⟩) (h - l) 1) else none)
                      else (if h ≤ e / 2 then some (.slice (some ⟨b, i + l, some 0⟩) (h - l) (2 * (e / 2 - l))) else none)
            | some m => (isNat m).bind fun m =>
              if h ≤ m ∧ (m ≤ len ∨ e ≠ 1 ∧ m ≤ e / 2) then some (.slice (some ⟨b, i + l, some 0⟩) (h - l) (2 * (m - l))) else none
          else none
        | _ => none
    | .slice none 0 0 => (optN hi 0).bind fun h => match mx with
      | none => if h = 0 ∧ l = 0 then some (.slice none 0 0) else none
      | some _ => none
    | _ => none

/-- A slice of a text. -/
def slS (v : Value) (lo hi : Option Value) : Option Value :=
  match v with
  | .string s => (optN lo 0).bind fun l => (optN hi s.size).bind fun h => if l ≤ h ∧ h ≤ s.size then some (.string (s.extract l h)) else none
  | _ => none

/-- The first `n` rows that a slice or a text holds, as elements of `sz` cells. -/
def rowsOf (s : St) (sz n : Nat) : Value → Option (List (List Value))
  | .slice (some ⟨b, i, some 0⟩) len _ =>
    match s.get b with
    | some (.row sz' rows _) => if sz' = sz ∧ n ≤ len ∧ i + n ≤ rows.length then some ((rows.drop i).take n) else none
    | _ => none
  | .slice none 0 0 => if n = 0 then some [] else none
  | .string t => if sz = 1 ∧ n ≤ t.size then some ((t.data.toList.take n).map fun b => [.int .u8 b.toNat]) else none
  | _ => none

def lenV : Value → Option Nat
  | .slice _ n _ => some n
  | .string s => some s.size
  | _ => none

/-- The length of a text, of a slice, of a map. -/
def lenS : Value → Option Value
  | .string t => some (.int .i64 t.size)
  | _ => none

def lenL : Value → Option Value
  | .slice _ n _ => some (.int .i64 n)
  | _ => none

def lenM (s : St) : Value → Option Value
  | .map none => some (.int .i64 0)
  | .map (some b) => match s.get b with
    | some (.map es _) => some (.int .i64 es.length)
    | _ => none
  | _ => none

/-- append. -/
def app (s : St) (sz bytes : Nat) (v x : Value) : Option (Value × St) :=
  match lenV x with
  | none => none
  | some n =>
    match rowsOf s sz n x with
    | none => none
    | some news =>
      match v with
      | .slice none 0 0 =>
        if n = 0 then some (.slice none 0 0, s) else
        if n * bytes ≤ 140737488355328 ∧ n ≤ 9223372036854775807 then some (.slice (some ⟨s.n, 0, some 0⟩) n 1, s.new (.row sz news false)) else none
      | .slice (some ⟨b, i, some 0⟩) len e =>
        match s.get b with
        | some (.row sz' rows ro) =>
          if sz' = sz ∧ i + len ≤ rows.length then
            if (len + n) * bytes ≤ 140737488355328 ∧ len + n ≤ 9223372036854775807 then
              if e = 1 then
                (if ro then none else if n = 0 then some (.slice (some ⟨b, i, some 0⟩) len 1, s)
                 else if i = 0 then some (.slice (some ⟨s.n, 0, some 0⟩) (len + n) 1, (s.del b).new (.row sz (rows.take len ++ news) false)) else none)
              else if len + n ≤ e / 2 then
                (if ro then none else some (.slice (some ⟨b, i, some 0⟩) (len + n) e, s.put b (.row sz (rows.take (i + len) ++ news ++ rows.drop (i + len + n)) false)))
              else some (.slice (some ⟨s.n, 0, some 0⟩) (len + n) 1, s.new (.row sz ((rows.drop i).take len ++ news) false))
            else none
          else none
        | _ => none
      | _ => none

/-- copy. -/
def cpy (s : St) (sz : Nat) (d x : Value) : Option (Value × St) :=
  match lenV d, lenV x with
  | some dn, some xn =>
    (rowsOf s sz (min xn dn) x).bind fun news =>
      match d with
      | .slice (some ⟨b, i, some 0⟩) _ _ =>
        match s.get b with
        | some (.row sz' rows false) =>
          if sz' = sz ∧ i + min xn dn ≤ rows.length then
            if min xn dn = 0 then some (.int .i64 0, s) else some (.int .i64 (min xn dn : Nat), s.put b (.row sz (rows.take i ++ news ++ rows.drop (i + min xn dn)) false))
          else none
        | _ => none
      | .slice none 0 0 => some (.int .i64 0, s)
      | _ => none
  | _, _ => none

/-- A text of bytes. -/
def bytesOf : List (List Value) → Option (List UInt8)
  | [] => some []
  | [.int .u8 n] :: r => (bytesOf r).map (UInt8.ofNat n.toNat :: ·)
  | _ :: _ => none

def b2s (s : St) (v : Value) : Option Value :=
  (lenV v).bind fun n => match v with
    | .slice _ _ _ => (rowsOf s 1 n v).bind fun rows => (bytesOf rows).map fun l => .string ⟨⟨l⟩⟩
    | _ => none

def pik : Value → Value → Value → Option Value
  | .bool true, a, _ => some a
  | .bool false, _, b => some b
  | _, _, _ => none

def nck : Value → Option Value
  | .pointer (some a) => some (.pointer (some a))
  | .func (.func f) a b => some (.func (.func f) a b)
  | _ => none

def xtr (i : Nat) : Value → Option Value
  | .tuple ⟨l⟩ => l[i]?
  | _ => none

def mn2 : Value → Value → Option Value
  | .int k a, .int _ b => some (.int k (if b < a then b else a))
  | _, _ => none

def mx2 : Value → Value → Option Value
  | .int k a, .int _ b => some (.int k (if b > a then b else a))
  | _, _ => none

/-- A cell, some cells of the call's own variable; cells stored into it. -/
def lcl (cs : List Value) (j : Nat) : Option Value := cs[j]?
def lal (cs : List Value) (j n : Nat) : Option Value := if j + n ≤ cs.length then some (.agg ⟨(cs.drop j).take n⟩) else none
def stl (cs : List Value) (j n : Nat) (v : Value) : Option (List Value) :=
  (bx v).bind fun vs => if vs.length = n ∧ j + n ≤ cs.length then some (spl cs j vs) else none

/-! ### Maps with keys without references -/

/-- May it be a key of that shape? -/
def keyS (n : Nat) (agg : Bool) (k : Value) : Bool :=
  plainV k && (match agg, k with
    | true, .agg ⟨l⟩ => decide (l.length = n)
    | true, _ => false
    | false, k => oneC k)

def findM (ks : List Nat) (agg : Bool) : List (Value × Value) → Value → Option (Option Nat)
  | [], _ => some none
  | (k, _) :: r, x => (eqT ks agg x k).bind fun e => if e then some (some 0) else (findM ks agg r x).map fun o => o.map (· + 1)

def mkm (s : St) : Option (Value × St) := some (.map (some s.n), s.new (.map [] false))

def lkp (s : St) (ks : List Nat) (agg : Bool) (zero : Value) (ok : Bool) (m k : Value) : Option Value :=
  if keyS ks.length agg k then
    match m with
    | .map none => some (if ok then .tuple ⟨[zero, .bool false]⟩ else zero)
    | .map (some b) =>
      match s.get b with
      | some (.map es _) => (findM ks agg es k).bind fun o => match o with
        | some i => (es[i]?).map fun e => if ok then .tuple ⟨[e.2, .bool true]⟩ else e.2
        | none => some (if ok then .tuple ⟨[zero, .bool false]⟩ else zero)
      | _ => none
    | _ => none
  else none

def upm (s : St) (ks : List Nat) (agg : Bool) (m k v : Value) : Option St :=
  if keyS ks.length agg k then
    match m with
    | .map (some b) =>
      match s.get b with
      | some (.map es false) => (findM ks agg es k).bind fun o => match o with
        | some i => some (s.put b (.map (es.set i (k, v)) false))
        | none => some (s.put b (.map (es ++ [(k, v)]) false))
      | _ => none
    | _ => none
  else none

end Go.Sim
namespace Go.Sim

/-! ### Frames -/

inductive Ent where
  | val (v : Value)
  | lp (t j : Nat)

/-- `e`: the temporaries; `l`: the call's own variables; `g`: addresses of these under a guard (temporary, variable, place, the guard's temporary, its value). -/
structure Fr where
  e : List (Nat × Ent)
  l : List (Nat × List Value)
  g : List (Nat × Nat × Nat × Nat × Bool)

def lookE : List (Nat × Ent) → Nat → Option Ent
  | [], _ => none
  | (i, x) :: r, t => if t = i then some x else lookE r t

def lookG : List (Nat × Nat × Nat × Nat × Bool) → Nat → Option (Nat × Nat × Nat × Bool)
  | [], _ => none
  | (i, x) :: r, t => if t = i then some x else lookG r t

/-- May temporary `d` be written beside these guarded addresses? -/
def freeG : List (Nat × Nat × Nat × Nat × Bool) → Nat → Bool
  | [], _ => true
  | (i, _, _, gt, _) :: r, d => if d = i then false else if d = gt then false else freeG r d

def lookL : List (Nat × List Value) → Nat → Option (List Value)
  | [], _ => none
  | (i, x) :: r, t => if t = i then some x else lookL r t

def memT : List Nat → Nat → Bool
  | [], _ => false
  | i :: r, t => if t = i then true else memT r t

def keepE (ks : List Nat) : List (Nat × Ent) → List (Nat × Ent)
  | [] => []
  | (t, x) :: r => match memT ks t with
    | true => (t, x) :: keepE ks r
    | false => keepE ks r

/-- What is known still of a frame when it panics. -/
def keepF (ks : List Nat) (fr : Fr) : Fr :=
  match fr with
  | ⟨e, _, _⟩ => ⟨keepE ks e, [], []⟩

/-- A temporary written. -/
def putK {α : Type} (N : Nat) (fr : Fr) (d : Option Nat) (x : Ent) (K : Fr → Option α) : Option α :=
  match d with
  | none => K fr
  | some d => if d < N then (match fr with
    | ⟨e, l, g⟩ => match freeG g d with
      | true => K ⟨(d, x) :: e, l, g⟩
      | false => none) else none

/-- An address under a guard written. -/
def putGK {α : Type} (N : Nat) (fr : Fr) (d : Option Nat) (t j gt : Nat) (w : Bool) (K : Fr → Option α) : Option α :=
  match d with
  | none => K fr
  | some d => if d < N then (match fr with
    | ⟨e, l, g⟩ => match freeG g d, lookE e d with
      | true, none => if d = gt then none else K ⟨e, l, (d, t, j, gt, w) :: g⟩
      | _, _ => none) else none

/-- Does no address of variable `t` stand in the frame? -/
def freeE : List (Nat × Ent) → Nat → Bool
  | [], _ => true
  | (_, x) :: r, t => match x with
    | .val _ => freeE r t
    | .lp t' _ => if t = t' then false else freeE r t

def freeGL : List (Nat × Nat × Nat × Nat × Bool) → Nat → Bool
  | [], _ => true
  | (_, t', _) :: r, t => if t = t' then false else freeGL r t

/-- A new variable of the call's own. -/
def newLK {α : Type} (fr : Fr) (t : Nat) (cs : List Value) (K : Fr → Option α) : Option α :=
  match fr with
  | ⟨e, l, g⟩ => match freeE e t, freeGL g t with
    | true, true => K ⟨e, (t, cs) :: l, g⟩
    | _, _ => none

/-- A variable of the call's own written. -/
def putLK {α : Type} (fr : Fr) (t : Nat) (cs : List Value) (K : Fr → Option α) : Option α :=
  match fr with
  | ⟨e, l, g⟩ => K ⟨e, (t, cs) :: l, g⟩

/-- What an operand is; `og`: the guard under which it is read. -/
def evE (fr : Fr) (og : Option (Nat × Bool)) : Operand → Option Ent
  | .tmp t => match lookG fr.g t with
    | none => lookE fr.e t
    | some (t', j, gt, w) => match og with
      | none => none
      | some (gt', w') => if gt = gt' then (if w = w' then some (.lp t' j) else none) else none
  | .const v => if plainV v then some (.val v) else none
  | .global _ => none
  | .func f => some (.val (.func (.func f) #[] #[]))

def evV (fr : Fr) (o : Operand) : Option Value :=
  match evE fr none o with
  | some (.val v) => some v
  | _ => none

def evVs (fr : Fr) : List Operand → Option (List Value)
  | [] => some []
  | o :: r => match evV fr o with
    | some v => match evVs fr r with
      | some vs => some (v :: vs)
      | none => none
    | none => none

def evO (fr : Fr) : Option Operand → Option (Option Value)
  | none => some none
  | some o => match evV fr o with
    | some v => some (some v)
    | none => none

def evPs (fr : Fr) : List (Nat × Operand) → Option (List (Nat × Value))
  | [] => some []
  | (i, o) :: r => match evV fr o with
    | some v => match evPs fr r with
      | some vs => some ((i, v) :: vs)
      | none => none
    | none => none

/-! ### Contexts: what the functions called are known to do -/

/-- `pn`: it may panic: did it return?, what it returns or the value of the panic, the heap. -/
inductive Fn' where
  | st (v : List Value → St → Option (Value × St))
  | pn (v : List Value → St → Option (Bool × Value × St))
  | rd (g : List Value → St → Option Value)

abbrev Ctx := List (Nat × Fn')

def lookC : Ctx → Nat → Option Fn'
  | [], _ => none
  | (i, x) :: r, f => if f = i then some x else lookC r f

/-! ### Annotations -/

inductive KE where
  | v (t : Nat)
  | l (t : Nat)
  | p (t t' j : Nat)

inductive Ex where
  | normal
  | exit (id : Nat)
  | ret
  | pan (v : Value)

def Ex.beq : Ex → Ex → Bool
  | .normal, .normal => true
  | .exit i, .exit j => i == j
  | .ret, .ret => true
  | .pan _, .pan _ => true
  | _, _ => false

structure LoopAn where
  ks : List KE
  exits : List (Ex × List KE)

/-- `pure`: nothing that was there is turned, and nothing new is kept. `D`: the calls that are deferred while it runs. `keep`: the temporaries that are known still when it panics. -/
structure An where
  N : Nat
  pure : Bool
  loc : List Nat
  loops : List (Nat × LoopAn)
  cuts : List (Nat × LoopAn)
  draws : List (Nat × List (Nat × Nat × List Nat × List Nat))
  D : List Deferred
  keep : List Nat

def lookA {α : Type} : List (Nat × α) → Nat → Option α
  | [], _ => none
  | (i, x) :: r, t => if t = i then some x else lookA r t

def memN : List Nat → Nat → Bool
  | [], _ => false
  | i :: r, t => if t = i then true else memN r t

def firstR : Code → Option Nat
  | .region id _ _ => some id
  | .seq a b => match firstR a with
    | some i => some i
    | none => firstR b
  | .cond _ a b => match firstR a with
    | some i => some i
    | none => firstR b
  | .block _ a => firstR a
  | .loop a => firstR a
  | .scope a => firstR a
  | _ => none

/-! ### Types, read off the program -/

def aggT (P : Program) (t : TypeId) : Option Bool :=
  match P.underlying t with
  | some (.struct _) | some (.array _ _) => some true
  | some _ => some false
  | none => none

def sizeT (P : Program) (t : TypeId) : Option Nat :=
  match P.info? t with
  | some i => some i.size
  | none => none

def zeroT (P : Program) (t : TypeId) : Option Value :=
  match P.info? t with
  | some i => i.zero
  | none => none

def bytesT (P : Program) (t : TypeId) : Option Nat :=
  match P.info? t with
  | some i => some i.bytes
  | none => none

def kindsFs (P : Program) (F : TypeId → Option (List Nat)) : List Field → Nat → Option (List Nat)
  | [], _ => some []
  | f :: r, o => if f.offset == o && f.name != "_" then
      match F f.type, sizeT P f.type with
      | some ks, some n => if ks.length = n then (match kindsFs P F r (o + n) with
        | some qs => some (ks ++ qs)
        | none => none) else none
      | _, _ => none
    else none

/-- The kinds of a type's cells, where '==' compares it cell by cell. -/
def kindsT (P : Program) : Nat → TypeId → Option (List Nat)
  | 0, _ => none
  | d + 1, t =>
    match P.underlying t with
    | some .bool => some [0]
    | some (.int _) => some [1]
    | some .string => some [2]
    | some (.pointer _) => some [3]
    | some (.slice _) => some [4]
    | some (.map _ _) => some [5]
    | some (.func _ _ _) => some [6]
    | some (.struct fs) => if P.stoodInHeld t then none else kindsFs P (kindsT P d) fs.toList 0
    | _ => none

def eqOk (P : Program) (t : TypeId) : Option (List Nat × Bool) :=
  match kindsT P 9 t, aggT P t with
  | some ks, some true => if P.eqGuardType P.depth t then none else some (ks, true)
  | some ks, some false => some (ks, false)
  | _, _ => none

def keyKinds : List Nat → Bool
  | [] => true
  | k :: r => decide (k ≤ 2) && keyKinds r

/-! ### Guards -/

def gd (x : Value) (want : Bool) (m : Option Value) : Option Value :=
  match x with
  | .bool b => if b = want then m else some undef
  | _ => some undef

def gdS (x : Value) (want : Bool) (m : Option (Value × St)) (s : St) : Option (Value × St) :=
  match x with
  | .bool b => if b = want then m else some (undef, s)
  | _ => some (undef, s)

def gdU (x : Value) (want : Bool) (m : Option St) (s : St) : Option St :=
  match x with
  | .bool b => if b = want then m else some s
  | _ => some s

def cnd {R : Type} (v : Value) (x y : Option R) : Option R :=
  match v with
  | .bool true => x
  | .bool false => y
  | _ => none

def iter {X R : Type} (f : (X → St → Option R) → X → St → Option R) : Nat → X → St → Option R
  | 0, _, _ => none
  | k + 1, x, s => f (iter f k) x s

def BIG : Nat := 4611686018427387904

/-- The means by which pieces are joined: a variable while the kernel holds the evaluator against a printed function, so that it compares and does not open them. -/
structure Sig where
  bd : {α β : Type} → Option α → (α → Option β) → Option β
  gd : Value → Bool → Option Value → Option Value
  gdS : Value → Bool → Option (Value × St) → St → Option (Value × St)
  gdU : Value → Bool → Option St → St → Option St
  cnd : {R : Type} → Value → Option R → Option R → Option R
  it : {R : Type} → ((List Value → St → Option R) → List Value → St → Option R) → List Value → St → Option R

def std : Sig where
  bd := Option.bind
  gd := gd
  gdS := gdS
  gdU := gdU
  cnd := cnd
  it := fun f xs s => iter f BIG xs s

/-! ### Operations -/

inductive OpR where
  | k (v : Value)
  | v (m : Option Value)
  | s (m : Option (Value × St))
  | u (m : Option St)
  | pn (m : Option (Bool × Value × St))
  | p (t j : Nat)
  | box (t : Nat) (m : Option (List Value))
  | set (t : Nat) (m : Option (List Value))
  | bad

def isConst : Operand → Bool
  | .const _ => true
  | _ => false

/-- An interface held against a constant. -/
def ifaceC (P : Program) (t : TypeId) (x y : Operand) : Bool :=
  match P.underlying t with
  | some (.interface _) => isConst x || isConst y
  | _ => false

def callC (C : Ctx) (f : Nat) (args : List Value) (s : St) : OpR :=
  match lookC C f with
  | some (.st v) => .s (v args s)
  | some (.rd g) => .v (g args s)
  | some (.pn v) => .pn (v args s)
  | none => .bad

/-- A panic that the text asks for. -/
def panV (v : Value) (s : St) : Option (Bool × Value × St) :=
  match v with
  | .iface t x => some (false, .iface t x, s)
  | _ => none

/-- A call of a function value. -/
def callV (C : Ctx) (f : Value) (args : List Value) (s : St) : Option (Value × St) :=
  match f with
  | .func (.func f) ⟨a⟩ ⟨c⟩ => match lookC C f with
    | some (.st v) => v (a ++ args ++ c) s
    | some (.rd g) => (g (a ++ args ++ c) s).map fun r => (r, s)
    | some (.pn _) => none
    | none => none
  | _ => none

/-- The method of a type, where it is its own and takes what the interface holds. -/
def methOf (P : Program) (t : TypeId) (name : String) : Option Nat :=
  match P.info? t with
  | some inf => match inf.methods.find? (fun m => m.name == name) with
    | some m => match m.path.isEmpty, m.func, P.underlying t with
      | true, some (f, true), some (.pointer _) => some f
      | _, _, _ => none
    | none => none
  | none => none

/-- A call of a method of what an interface holds. -/
def callI (P : Program) (C : Ctx) (name : String) (r : Value) (args : List Value) (s : St) : Option (Value × St) :=
  match r with
  | .iface t v => match methOf P t name with
    | some f => match lookC C f with
      | some (.st g) => g (v :: args) s
      | some (.rd g) => (g (v :: args) s).map fun r => (r, s)
      | some (.pn _) => none
      | none => none
    | none => none
  | _ => none

/-- What an interface holds, asked for a type. -/
def tas (P : Program) (t : TypeId) (ok : Bool) (z x : Value) : Option Value :=
  match P.underlying t, x with
  | some (.interface _), .nilIface => if ok then some (.tuple ⟨[z, .bool false]⟩) else none
  | some (.interface want), .iface a v => (match P.info? a with
    | some inf => (match Instr.missingMethod want inf.methods with
      | none => some (if ok then .tuple ⟨[.iface a v, .bool true]⟩ else .iface a v)
      | some _ => if ok then some (.tuple ⟨[z, .bool false]⟩) else none)
    | none => none)
  | some d, .nilIface => if ok then some (.tuple ⟨[z, .bool false]⟩) else none
  | some d, .iface a v => if a = t then some (if ok then .tuple ⟨[v, .bool true]⟩ else v) else if ok then some (.tuple ⟨[z, .bool false]⟩) else none
  | _, _ => none

def builtinR (P : Program) (b : Builtin) (ts : List TypeId) (vs : List Value) (s : St) : OpR :=
  match b, ts, vs with
  | .len, [t], [x] => match P.underlying t with
    | some .string => .v (lenS x)
    | some (.slice _) => .v (lenL x)
    | some (.map _ _) => .v (lenM s x)
    | _ => .bad
  | .min, _, [x, y] => .v (mn2 x y)
  | .max, _, [x, y] => .v (mx2 x y)
  | .append, [t, u], [v, x] => match P.underlying t, P.underlying u with
    | some (.slice e), some (.slice _) | some (.slice e), some .string => match sizeT P e, bytesT P e, zeroT P e with
      | some sz, some by_, some z => if (cellsL z).length = sz then .s (app s sz by_ v x) else .bad
      | _, _, _ => .bad
    | _, _ => .bad
  | .copy, [t, u], [v, x] => match P.underlying t, P.underlying u with
    | some (.slice e), some (.slice _) | some (.slice e), some .string => match sizeT P e with
      | some sz => .s (cpy s sz v x)
      | _ => .bad
    | _, _ => .bad
  | _, _, _ => .bad

/-- What an operation does, its guard left aside. -/
def opR (S : Sig) (P : Program) (C : Ctx) (an : An) (fr : Fr) (s : St) (og : Option (Nat × Bool)) (o : Oper) : OpR :=
  match o.op with
  | .move x | .assign x => match evE fr og x with
    | some (.val v) => .k v
    | some (.lp t j) => .p t j
    | none => .bad
  | .pick c a b => match evV fr c, evV fr a, evV fr b with
    | some c, some a, some b => .v (pik c a b)
    | _, _, _ => .bad
  | .alloc t => match zeroT P t with
    | some z => if plainV z then (match o.dst with
        | some d => if memN an.loc d then .box d (bx z) else .s (alv s z)
        | none => .bad) else .bad
    | none => .bad
  | .box _ x => match evV fr x with
    | some v => (match o.dst with
        | some d => if memN an.loc d then .box d (bx v) else .s (alv s v)
        | none => .bad)
    | none => .bad
  | .load t a => match aggT P t, sizeT P t, evE fr og a with
    | some true, some n, some (.val v) => .v (lda s n v)
    | some false, some _, some (.val v) => .v (ldc s v)
    | some agg, some n, some (.lp t' j) => (match lookL fr.l t' with
        | some cs => (match agg with
          | true => .v (lal cs j n)
          | false => .v (lcl cs j))
        | none => .bad)
    | _, _, _ => .bad
  | .store t a x => match sizeT P t, evE fr og a, evV fr x with
    | some n, some (.val p), some v => .u (stv s n p v)
    | some n, some (.lp t' j), some v => (match lookL fr.l t' with
        | some cs => .set t' (stl cs j n v)
        | none => .bad)
    | _, _, _ => .bad
  | .nilCheck x => match evE fr og x with
    | some (.val v) => .v (nck v)
    | some (.lp t j) => .p t j
    | none => .bad
  | .binOp op t x y _ => match evV fr x, evV fr y with
    | some a, some b => match op with
      | .eql => (match eqOk P t with
        | some (ks, agg) => .v (eqb ks agg false a b)
        | none => if ifaceC P t x y then .v (eqI false a b) else .bad)
      | .neq => (match eqOk P t with
        | some (ks, agg) => .v (eqb ks agg true a b)
        | none => if ifaceC P t x y then .v (eqI true a b) else .bad)
      | _ => .v (bin op a b)
    | _, _ => .bad
  | .unOp op _ x => match evV fr x with
    | some a => .v (un op a)
    | none => .bad
  | .convert src dst x => match P.underlying src, P.underlying dst, evV fr x with
    | some (.int _), some (.int k), some a => .v (cvi k a)
    | some .string, some .string, some a => .v (cvs a)
    | some (.slice e), some .string, some a => (match P.underlying e with
        | some (.int .u8) => .v (b2s s a)
        | _ => .bad)
    | some (.slice _), some (.slice e), some a => if src = dst then (match P.underlying e with
        | some (.int .u8) => .s (cvl s a)
        | _ => .bad) else .bad
    | _, _, _ => .bad
  | .makeInterface t x => match P.underlying t, evV fr x with
    | some (.interface _), _ => .bad
    | some _, some a => .k (.iface t a)
    | _, _ => .bad
  | .makeFunc fn f c => match fn, evVs fr f.toList, evVs fr c.toList with
    | .func g, some f, some c => .k (.func (.func g) ⟨f⟩ ⟨c⟩)
    | _, _, _ => .bad
  | .build t ps => match P.underlying t, zeroT P t, evPs fr ps.toList with
    | some (.struct fs), some z, some ps => (if plainV z then (match mapFields P fs.toList ps with
        | some qs => if oneCs (cellsL z) && fs.toList.all (fun f => (sizeT P f.type).isSome) then .v (bld (cellsL z) qs) else .bad
        | none => .bad) else .bad)
    | some (.array _ e), some z, some ps => (if plainV z && oneCs (cellsL z) then (match sizeT P e with
        | some n => .v (bld (cellsL z) (ps.map fun q => (q.1 * n, n, q.2)))
        | none => .bad) else .bad)
    | _, _, _ => .bad
  | .buildSlice t len ps => match P.underlying t, evPs fr ps.toList with
    | some (.slice e), some ps => (match zeroT P e, sizeT P e with
        | some z, some n => if plainV z && oneCs (cellsL z) && decide (len * n ≤ 16777216) && decide (0 < n) && decide ((cellsL z).length = n) then
            .s (S.bd (bls n (List.replicate len (cellsL z)) ps) fun rows => als s n len rows) else .bad
        | _, _ => .bad)
    | _, _ => .bad
  | .makeSlice t l c => match P.underlying t, evV fr l, evV fr c with
    | some (.slice e), some l, some c => (match zeroT P e, sizeT P e, bytesT P e with
        | some z, some n, some by_ => if plainV z && oneCs (cellsL z) && decide (0 < n) && decide ((cellsL z).length = n) then .s (mks s n by_ (cellsL z) l c) else .bad
        | _, _, _ => .bad)
    | _, _, _ => .bad
  | .slice t x lo hi mx => match P.underlying t, evV fr x, evO fr lo, evO fr hi, evO fr mx with
    | some .string, some v, some lo, some hi, some none => .v (slS v lo hi)
    | some (.slice e), some v, some lo, some hi, some mx => (match sizeT P e with
        | some n => if mx.isSome && hi.isNone then .bad else .v (slc s n v lo hi mx)
        | none => .bad)
    | _, _, _, _, _ => .bad
  | .fieldAddr t x f => match P.underlying t with
    | some (.struct fs) => (match fs[f]? with
        | some f => (match sizeT P f.type with
          | some n => if n = 0 then .bad else (match evE fr og x with
            | some (.val v) => .v (fld f.offset v)
            | some (.lp t' j) => .p t' (j + f.offset)
            | none => .bad)
          | none => .bad)
        | none => .bad)
    | _ => .bad
  | .field t x f => match P.underlying t with
    | some (.struct fs) => (match fs[f]?, evV fr x with
        | some f, some v => (match aggT P f.type, sizeT P f.type with
          | some agg, some n => .v (prt f.offset n agg v)
          | _, _ => .bad)
        | _, _ => .bad)
    | _ => .bad
  | .indexAddr t x i => match P.underlying t, evE fr none x, evV fr i with
    | some (.slice e), some (.val v), some i => (match sizeT P e with
        | some n => .v (idx s n v i)
        | none => .bad)
    | some (.array n e), _, some i => (match sizeT P e, evE fr og x with
        | some sz, some (.val v) => .v (idxA n sz v i)
        | some sz, some (.lp t' j) => (match i with
          | .int _ k => if 0 ≤ k ∧ k < n then .p t' (j + k.toNat * sz) else .bad
          | _ => .bad)
        | _, _ => .bad)
    | _, _, _ => .bad
  | .index t x i => match P.underlying t, evV fr x, evV fr i with
    | some .string, some v, some i => .v (idxS v i)
    | _, _, _ => .bad
  | .lookup t x k ok => match P.underlying t, evV fr x, evV fr k with
    | some (.map kt e), some m, some k => (match zeroT P e, kindsT P 9 kt, aggT P kt with
        | some z, some ks, some agg => if plainV z && keyKinds ks then .v (lkp s ks agg z ok m k) else .bad
        | _, _, _ => .bad)
    | _, _, _ => .bad
  | .mapUpdate t x k v | .insert t x k v => match P.underlying t, evV fr x, evV fr k, evV fr v with
    | some (.map kt _), some m, some k, some v => (match kindsT P 9 kt, aggT P kt with
        | some ks, some agg => if keyKinds ks then .u (upm s ks agg m k v) else .bad
        | _, _ => .bad)
    | _, _, _, _ => .bad
  | .makeMap _ none => .s (mkm s)
  | .extract x i => match evV fr x with
    | some v => .v (xtr i v)
    | none => .bad
  | .typeAssert x _ t ok => match evV fr x, zeroT P t with
    | some v, some z => if plainV z then .v (tas P t ok z v) else .bad
    | _, _ => .bad
  | .panic x => match evV fr x with
    | some v => .pn (panV v s)
    | none => .bad
  | .call c => match evVs fr c.args.toList with
    | none => .bad
    | some args => match c.callee with
      | .value (.func f) => callC C f args s
      | .value x => (match evV fr x with
          | some v => .s (callV C v args s)
          | none => .bad)
      | .builtin b => builtinR P b c.argTypes.toList args s
      | .invoke x name => (match evV fr x with
          | some v => .s (callI P C name v args s)
          | none => .bad)
  | _ => .bad
where
  mapFields (P : Program) (fs : List Field) : List (Nat × Value) → Option (List (Nat × Nat × Value))
    | [] => some []
    | (i, v) :: r => match fs[i]? with
      | some f => match sizeT P f.type, mapFields P fs r with
        | some n, some qs => some ((f.offset, n, v) :: qs)
        | _, _ => none
      | none => none

def evOp {R : Type} (S : Sig) (P : Program) (C : Ctx) (an : An) (ops : Array Oper) (o : Oper) (fr : Fr) (s : St) (X : Value → Fr → St → Option R) (K : Fr → St → Option R) : Option R :=
  match o with
  | ⟨dst, op, ty, pos, after, none⟩ => match opR S P C an fr s none ⟨dst, op, ty, pos, after, none⟩ with
    | .k v => putK an.N fr dst (.val v) fun fr => K fr s
    | .v m => S.bd m fun v => putK an.N fr dst (.val v) fun fr => K fr s
    | .s m => if an.pure then none else S.bd m fun r => putK an.N fr dst (.val r.1) fun fr => K fr r.2
    | .u m => if an.pure then none else S.bd m fun s => putK an.N fr dst (.val undef) fun fr => K fr s
    | .pn m => if an.pure then none else S.bd m fun r => S.cnd (.bool r.1) (putK an.N fr dst (.val r.2.1) fun fr => K fr r.2.2) (X r.2.1 fr r.2.2)
    | .p t j => putK an.N fr dst (.lp t j) fun fr => K fr s
    | .box t m => S.bd m fun cs => newLK fr t cs fun fr => putK an.N fr dst (.lp t 0) fun fr => K fr s
    | .set t m => S.bd m fun cs => putLK fr t cs fun fr => putK an.N fr dst (.val undef) fun fr => K fr s
    | .bad => none
  | ⟨dst, op, ty, pos, after, some (j, want)⟩ => match (ops[j]?).bind (·.dst) with
    | none => none
    | some gt => match evE fr none (.tmp gt) with
      | some (.val x) => match opR S P C an fr s (some (gt, want)) ⟨dst, op, ty, pos, after, some (j, want)⟩ with
        | .k v => S.bd (S.gd x want (some v)) fun v => putK an.N fr dst (.val v) fun fr => K fr s
        | .v m => S.bd (S.gd x want m) fun v => putK an.N fr dst (.val v) fun fr => K fr s
        | .s m => if an.pure then none else S.bd (S.gdS x want m s) fun r => putK an.N fr dst (.val r.1) fun fr => K fr r.2
        | .u m => if an.pure then none else S.bd (S.gdU x want m s) fun s => putK an.N fr dst (.val undef) fun fr => K fr s
        | .p t i => putGK an.N fr dst t i gt want fun fr => K fr s
        | _ => none
      | _ => none

def evOps {R : Type} (S : Sig) (P : Program) (C : Ctx) (an : An) (ops : Array Oper) : List Oper → Fr → St → (Value → Fr → St → Option R) → (Fr → St → Option R) → Option R
  | [], fr, s, _, K => K fr s
  | o :: r, fr, s, X, K => evOp S P C an ops o fr s X fun fr s => evOps S P C an ops r fr s X K

/-! ### Code -/

def vals (fr : Fr) : List KE → Option (List Value)
  | [] => some []
  | .v t :: r => match evE fr none (.tmp t) with
    | some (.val v) => match vals fr r with
      | some vs => some (v :: vs)
      | none => none
    | _ => none
  | .l t :: r => match lookL fr.l t with
    | some cs => match vals fr r with
      | some vs => some (.agg ⟨cs⟩ :: vs)
      | none => none
    | none => none
  | .p t t' j :: r => match evE fr none (.tmp t) with
    | some (.lp u i) => if u = t' then (if i = j then vals fr r else none) else none
    | _ => none

/-- The frame that is left of values handed on. -/
def mkK {α : Type} (xs : List Value) : List KE → Nat → (List (Nat × Ent) → List (Nat × List Value) → α) → α
  | [], _, K => K [] []
  | k :: r, i, K => match k with
    | .v t => mkK xs r (i + 1) fun e l => K ((t, .val (xs.getD i undef)) :: e) l
    | .l t => mkK xs r (i + 1) fun e l => K e ((t, cellsA (xs.getD i undef)) :: l)
    | .p t t' j => mkK xs r i fun e l => K ((t, .lp t' j) :: e) l

def exIdx : List (Ex × List KE) → Nat → Ex → Option (Nat × List KE)
  | [], _, _ => none
  | (x, ks) :: r, i, e => if Ex.beq x e then some (i, ks) else exIdx r (i + 1) e

def exK {R : Type} (i : Nat) (K : Ex → List KE → Option R) : List (Ex × List KE) → Nat → Option R
  | [], _ => none
  | (e, ks) :: r, j => match r with
    | [] => K e ks
    | _ :: _ => if i = j then K e ks else exK i K r (j + 1)

/-- The result of a piece that is cut off: which exit, what it hands on, the heap. -/
abbrev Cut := Nat × List Value × St

def cutK (la : LoopAn) (e : Ex) (fr : Fr) (s : St) : Option Cut :=
  match exIdx la.exits 0 e with
  | some (i, ks) => match e with
    | .pan x => (match vals fr ks with
      | some ys => some (i, x :: ys, s)
      | none => none)
    | _ => match vals fr ks with
      | some ys => some (i, ys, s)
      | none => none
  | none => none

/-- How an operation behaves in a region that draws its order: 0: it is a mere reading of temporaries; 1: of the call's own variables; 2: of memory; 3: it turns nothing that was there; 4: it may turn memory; 5: it turns the call's own variables; 6: it makes one of these. -/
abbrev Cls := Nat

def edgeOn (o : Oper) (i : Nat) : Bool := o.after.any fun e => Region.binds .any e && e.on == i

/-- Does `ok` leave alone what `oi` looks at and where it writes? -/
def clear (ops : Array Oper) (oi ok : Oper) : Bool :=
  match ok.dst with
  | none => true
  | some d => !(oi.looksAt ops).contains d && oi.dst != some d

def selfClear (ops : Array Oper) (o : Oper) : Bool :=
  match o.dst with
  | none => true
  | some d => !(o.looksAt ops).contains d

/-- Codes: a class and, eight times, the number of the variable of the call's own that is read or turned. -/
def pres (c d : Nat) : Bool := decide (c % 8 = 0) || decide (d % 8 ≤ 3) || (decide (c % 8 = 1) && decide (d % 8 = 4)) || decide (d % 8 = 6) || (decide (d % 8 = 5) && (decide (c % 8 = 2) || decide (c / 8 ≠ d / 8)))

/-- One place in the order: the operation; its code; the readings that are read anew behind it; the new memory that may be made ahead of it. -/
abbrev Ord1 := Nat × Cls × List Nat × List Nat

/-- May reading `oi`, number `i`, of class `c` float over what comes? -/
def okAfter (ops : Array Oper) (oi : Oper) (i c : Nat) : List Ord1 → Bool
  | [] => true
  | (k, d, rs, _) :: r => match ops[k]? with
    | none => false
    | some ok => if edgeOn ok i && decide (3 ≤ d % 8) then true else clear ops oi ok && (pres c d || rs.contains i) && okAfter ops oi i c r

/-- New memory, made at once. -/
def saKind (o : Oper) : Bool :=
  match o.guard, o.dst, o.op with
  | none, some _, .alloc _ => true
  | none, some _, .box _ _ => true
  | none, some _, .buildSlice _ _ _ => true
  | none, some _, .makeSlice _ _ _ => true
  | none, some _, .makeMap _ none => true
  | _, _, _ => false

/-- Does nothing beside it look at it or write what it looks at, but what waits for it or for what it waits? -/
def soloOk (ops : Array Oper) (k : Nat) : Bool :=
  match ops[k]? with
  | some ok => saKind ok && selfClear ops ok && (List.range ops.size).all fun m => m == k || match ops[m]? with
    | some om => edgeOn om k || edgeOn ok m || ok.apart ops om
    | none => true
  | none => false

def setAll (listed : Array Bool) : List Nat → Array Bool
  | [] => listed
  | k :: ks => setAll (listed.setIfInBounds k true) ks

def drawOk (ops : Array Oper) : List Ord1 → Array Bool → Bool
  | [], listed => (Region.ready .any ops listed).isEmpty
  | (i, c, rs, ks) :: r, listed =>
    (if c % 8 ≤ 2 then (match ops[i]? with
        | some o => rs.isEmpty && ks.isEmpty && (Region.ready .any ops listed).contains i && Region.free .any ops listed i && selfClear ops o && okAfter ops o i c r
        | none => false)
     else (Region.ready .any ops listed).contains i && (Region.ready .any ops listed).all (fun k => k == i || ks.contains k) &&
       ks.all (fun k => k != i && (Region.ready .any ops listed).contains k && soloOk ops k) && (Region.ready .any ops (setAll listed ks)).all (· == i)) && drawOk ops r (listed.setIfInBounds i true)

def ogOf (ops : Array Oper) (o : Oper) : Option (Nat × Bool) :=
  match o.guard with
  | none => none
  | some (j, w) => match (ops[j]?).bind (·.dst) with
    | some gt => some (gt, w)
    | none => none

/-- What class an operation is of, its frame given. -/
def clsOf (P : Program) (C : Ctx) (an : An) (ops : Array Oper) (fr : Fr) (o : Oper) : Cls :=
  match o.op with
  | .move _ | .assign _ | .nilCheck _ | .fieldAddr .. => 0
  | .pick .. | .binOp .. | .unOp .. | .makeInterface .. | .makeFunc .. | .build .. | .field .. | .index .. | .extract .. => 0
  | .load _ a => match evE fr (ogOf ops o) a with
    | some (.lp _ _) => 1
    | _ => 2
  | .convert src dst _ => match P.underlying src with
    | some (.int _) | some .string => 0
    | _ => match P.underlying dst with
      | some (.slice _) => 4
      | _ => 2
  | .indexAddr t _ _ => match P.underlying t with
    | some (.array _ _) => 0
    | _ => 2
  | .slice .. | .lookup .. => 2
  | .call { callee := .builtin b, .. } => match b with
    | .len => 2
    | .min | .max => 0
    | _ => 4
  | .call { callee := .value (.func f), .. } => match lookC C f with
    | some (.rd _) => 3
    | _ => 4
  | .alloc _ | .box .. => match o.dst with
    | some d => if memN an.loc d then 6 else 3
    | none => 5
  | .buildSlice .. | .makeSlice .. | .makeMap .. => 3
  | .store _ a _ => match evE fr (ogOf ops o) a with
    | some (.lp _ _) => 5
    | _ => 4
  | _ => 4

/-- The variable of the call's own that an operation reads or turns. -/
def slotOf (ops : Array Oper) (fr : Fr) (o : Oper) : Nat :=
  match o.op with
  | .load _ a | .store _ a _ => match evE fr (ogOf ops o) a with
    | some (.lp t _) => t
    | _ => 0
  | _ => 0

def codeOf (P : Program) (C : Ctx) (an : An) (ops : Array Oper) (fr : Fr) (o : Oper) : Cls := clsOf P C an ops fr o + 8 * slotOf ops fr o

mutual
/-- Two values that are one. -/
def sameV : Value → Value → Bool
  | .bool a, .bool b => a == b
  | .int k a, .int k' b => decide (k = k') && decide (a = b)
  | .string a, .string b => decide (a = b)
  | .pointer none, .pointer none => true
  | .pointer (some ⟨b, i, j⟩), .pointer (some ⟨b', i', j'⟩) => decide (b = b') && decide (i = i') && decide (j = j')
  | .slice none n c, .slice none n' c' => decide (n = n') && decide (c = c')
  | .slice (some ⟨b, i, j⟩) n c, .slice (some ⟨b', i', j'⟩) n' c' => decide (b = b') && decide (i = i') && decide (j = j') && decide (n = n') && decide (c = c')
  | .map a, .map b => decide (a = b)
  | .nilIface, .nilIface => true
  | .agg ⟨a⟩, .agg ⟨b⟩ => sameVs a b
  | .tuple ⟨a⟩, .tuple ⟨b⟩ => sameVs a b
  | _, _ => false
def sameVs : List Value → List Value → Bool
  | [], [] => true
  | a :: r, b :: q => sameV a b && sameVs r q
  | _, _ => false
end

/-- Readings read anew: they must be what they were. -/
def rechk {R : Type} (S : Sig) (P : Program) (C : Ctx) (an : An) (ops : Array Oper) : List Nat → Fr → St → Option R → Option R
  | [], _, _, X => X
  | j :: rs, fr, s, X => match ops[j]? with
    | some ⟨some d, op, ty, pos, after, g⟩ => match lookE fr.e d, lookG fr.g d with
      | some (.val v), none => match g with
        | none => (match opR S P C an fr s none ⟨some d, op, ty, pos, after, none⟩ with
          | .v m => S.bd m fun v' => S.cnd (.bool (sameV v' v)) (rechk S P C an ops rs fr s X) none
          | _ => none)
        | some (q, want) => (match (ops[q]?).bind (·.dst) with
          | none => none
          | some gt => match evE fr none (.tmp gt) with
            | some (.val x) => (match opR S P C an fr s (some (gt, want)) ⟨some d, op, ty, pos, after, some (q, want)⟩ with
              | .v m => S.bd (S.gd x want m) fun v' => S.cnd (.bool (sameV v' v)) (rechk S P C an ops rs fr s X) none
              | _ => none)
            | _ => none)
      | _, _ => none
    | _ => none

/-- New memory that may be made ahead: it can be made. -/
def ahead {R : Type} (S : Sig) (P : Program) (C : Ctx) (an : An) (ops : Array Oper) : List Nat → Fr → St → Option R → Option R
  | [], _, _, X => X
  | k :: ks, fr, s, X => match ops[k]? with
    | some o => (match opR S P C an fr s none o with
      | .s m => if an.pure then none else S.bd m fun _ => ahead S P C an ops ks fr s X
      | _ => none)
    | none => none

/-- The operations of a region that draws its order, one after the other. -/
def evDraw {R : Type} (S : Sig) (P : Program) (C : Ctx) (an : An) (ops : Array Oper) : List Ord1 → Fr → St → (Value → Fr → St → Option R) → (Fr → St → Option R) → Option R
  | [], fr, s, _, K => K fr s
  | (i, c, rs, ks) :: r, fr, s, X, K => match ops[i]? with
    | some o => if codeOf P C an ops fr o = c ∨ (clsOf P C an ops fr o ≤ 2 ∧ c = 3) then ahead S P C an ops ks fr s (evOp S P C an ops o fr s X fun fr s => rechk S P C an ops rs fr s (evDraw S P C an ops r fr s X K)) else none
    | none => none

/-- Does no operation write what is known still when it panics? -/
def keepOk (ks : List Nat) (ops : Array Oper) : Bool :=
  ops.toList.all fun o => match o.dst with
    | some d => !memT ks d
    | none => true

/-- All regions of a code that draw their order, held against the orders given. -/
def drawsOk (an : An) : Code → Bool
  | .region id ops draw => !draw || (match lookA an.draws id with
    | some ord => decide (ord.length ≤ ops.size) && (Region.noSelect ops && keepOk an.keep ops) && drawOk ops ord (Array.replicate ops.size false)
    | none => false)
  | .seq a b => drawsOk an a && drawsOk an b
  | .cond _ a b => drawsOk an a && drawsOk an b
  | .block _ a => drawsOk an a
  | .loop a => drawsOk an a
  | .scope a => drawsOk an a
  | _ => true

def evC (S : Sig) (P : Program) (C : Ctx) (an : An) : Code → (R : Type) → Fr → St → (Ex → Fr → St → Option R) → Option R
  | .skip, _, fr, s, K => K .normal fr s
  | .label _, _, fr, s, K => K .normal fr s
  | .region id ops draw, _, fr, s, K =>
    match fr with
    | ⟨e, l, _⟩ => if draw then
      match lookA an.draws id with
      | some ord => evDraw S P C an ops ord ⟨e, l, []⟩ s (fun x fr => K (.pan x) (keepF an.keep fr)) (K .normal)
      | none => none
    else evOps S P C an ops ops.toList ⟨e, l, []⟩ s (fun x fr => K (.pan x) (keepF an.keep fr)) (K .normal)
  | .seq a b, R, fr, s, K =>
    match (firstR b).bind (lookA an.cuts) with
    | some la => S.bd (evC S P C an a Cut fr s (cutK la)) fun r => exK r.1 (fun e ks => match e with
        | .normal => mkK r.2.1 ks 0 fun e' l' => evC S P C an b R ⟨e', l', []⟩ r.2.2 K
        | .pan _ => mkK r.2.1 ks 1 fun e' l' => K (.pan (r.2.1.getD 0 undef)) (keepF an.keep ⟨e', l', []⟩) r.2.2
        | e => mkK r.2.1 ks 0 fun e' l' => K e ⟨e', l', []⟩ r.2.2) la.exits 0
    | none => evC S P C an a R fr s fun e fr s => match e with
        | .normal => evC S P C an b R fr s K
        | e => K e fr s
  | .cond c a b, R, fr, s, K => match evV fr c with
    | some v => S.cnd v (evC S P C an a R fr s K) (evC S P C an b R fr s K)
    | none => none
  | .block id a, R, fr, s, K => evC S P C an a R fr s fun e fr s => match e with
    | .exit i => if i = id then K .normal fr s else K (.exit i) fr s
    | e => K e fr s
  | .loop a, _, fr, s, K => match (firstR a).bind (lookA an.loops) with
    | some la => match vals fr la.ks with
      | some xs => S.bd (S.it (fun rec xs s => mkK xs la.ks 0 fun e' l' => evC S P C an a Cut ⟨e', l', []⟩ s fun e fr s => match e with
          | .normal => match vals fr la.ks with
            | some ys => rec ys s
            | none => none
          | e => cutK la e fr s) xs s) fun r => exK r.1 (fun e ks => match e with
          | .pan _ => mkK r.2.1 ks 1 fun e' l' => K (.pan (r.2.1.getD 0 undef)) (keepF an.keep ⟨e', l', []⟩) r.2.2
          | e => mkK r.2.1 ks 0 fun e' l' => K e ⟨e', l', []⟩ r.2.2) la.exits 0
      | none => none
    | none => none
  | .exit id, _, fr, s, K => K (.exit id) fr s
  | .ret, _, fr, s, K => K .ret fr s
  | _, _, _, _, _ => none

/-! ### Functions -/

def argsK {α : Type} : List Value → Nat → (List (Nat × Ent) → α) → α
  | [], _, K => K []
  | v :: r, i, K => argsK r (i + 1) fun e => K ((i, .val v) :: e)

def resK {R : Type} (S : Sig) (P : Program) (fr : Fr) (s : St) : List ResultVar → (List Value → Option R) → Option R
  | [], K => K []
  | .tmp t :: r, K => match evE fr none (.tmp t) with
    | some (.val v) => resK S P fr s r fun vs => K (v :: vs)
    | _ => none
  | .cell a t :: r, K => match aggT P t, sizeT P t, evE fr none (.tmp a) with
    | some true, some n, some (.val v) => S.bd (lda s n v) fun x => resK S P fr s r fun vs => K (x :: vs)
    | some false, some _, some (.val v) => S.bd (ldc s v) fun x => resK S P fr s r fun vs => K (x :: vs)
    | some agg, some n, some (.lp t' j) => (match lookL fr.l t' with
        | some cs => (match agg with
          | true => S.bd (lal cs j n) fun x => resK S P fr s r fun vs => K (x :: vs)
          | false => S.bd (lcl cs j) fun x => resK S P fr s r fun vs => K (x :: vs))
        | none => none)
    | _, _, _ => none

def oneV : List Value → Value
  | [v] => v
  | l => .tuple ⟨l⟩

def evFR (R : Type) (S : Sig) (P : Program) (C : Ctx) (an : An) (fn : Func) (args : List Value) (s : St) (X : Value → St → Option R) (K : Value → St → Option R) : Option R :=
  match fn.body with
  | some c => if fn.ntmps = an.N ∧ args.length ≤ an.N then argsK args 0 fun e => evC S P C an c R ⟨e, [], []⟩ s fun e fr s => match e with
      | .exit _ => none
      | .pan x => X x s
      | _ => resK S P fr s fn.results.toList fun l => K (oneV l) s
    else none
  | none => none

/-- A function of which the heap's state is a part. -/
def evF (S : Sig) (P : Program) (C : Ctx) (an : An) (fn : Func) (args : List Value) (s : St) : Option (Value × St) :=
  evFR (Value × St) S P C an fn args s (fun _ _ => none) fun v s => some (v, s)

/-- One that may panic. -/
def evP (S : Sig) (P : Program) (C : Ctx) (an : An) (fn : Func) (args : List Value) (s : St) : Option (Bool × Value × St) :=
  evFR (Bool × Value × St) S P C an fn args s (fun x s => some (false, x, s)) fun v s => some (true, v, s)

/-- A function that turns nothing. -/
def evG (S : Sig) (P : Program) (C : Ctx) (an : An) (fn : Func) (args : List Value) (s : St) : Option Value :=
  if an.pure then evFR Value S P C an fn args s (fun _ _ => none) fun v _ => some v else none

end Go.Sim
namespace Go.Sim
open Go.RowKit (Below)

structure Loc where
  blk : Nat
  off : Nat
  sz : Nat
  cap : Nat

abbrev Phi := Nat → Option Loc

def Phi.le (φ φ' : Phi) : Prop := ∀ b l, φ b = some l → φ' b = some l

theorem Phi.le.refl (φ : Phi) : φ.le φ := fun _ _ h => h
theorem Phi.le.trans {a b c : Phi} (h : a.le b) (k : b.le c) : a.le c := fun x l e => k x l (h x l e)

mutual
inductive VRel (φ : Phi) : Value → Value → Prop
  | bool (b : Bool) : VRel φ (.bool b) (.bool b)
  | int (k : IntKind) (n : Int) : VRel φ (.int k n) (.int k n)
  | str (s : ByteArray) : VRel φ (.string s) (.string s)
  | pnil : VRel φ (.pointer none) (.pointer none)
  | ptr {b i j : Nat} {l : Loc} (h : φ b = some l) : VRel φ (.pointer (some ⟨b, i, some j⟩)) (.pointer (some ⟨l.blk, l.off + i * l.sz + j, none⟩))
  | snil : VRel φ (.slice none 0 0) (.slice none 0 0)
  | slice {b i len e c : Nat} {a : Addr} {l : Loc} (h : φ b = some l) (h1 : len ≤ c) (h2 : i + c ≤ l.cap)
      (h3 : c ≠ 0 → a = ⟨l.blk, l.off + i * l.sz, none⟩) (h4 : (e = 1 ∧ i + c = l.cap) ∨ e = 2 * c) :
      VRel φ (.slice (some ⟨b, i, some 0⟩) len e) (.slice (some a) len c)
  | mnil : VRel φ (.map none) (.map none)
  | map {b : Nat} {l : Loc} (h : φ b = some l) : VRel φ (.map (some b)) (.map (some l.blk))
  | nilF : VRel φ .nilFunc .nilFunc
  | func (fn : Fn) {a a' c c' : List Value} (h1 : VsRel φ a a') (h2 : VsRel φ c c') : VRel φ (.func fn ⟨a⟩ ⟨c⟩) (.func fn ⟨a'⟩ ⟨c'⟩)
  | nilI : VRel φ .nilIface .nilIface
  | iface (t : TypeId) {v v' : Value} (h : VRel φ v v') : VRel φ (.iface t v) (.iface t v')
  | agg {l l' : List Value} (h : VsRel φ l l') (h1 : oneCs l = true) : VRel φ (.agg ⟨l⟩) (.agg ⟨l'⟩)
  | tuple {l l' : List Value} (h : VsRel φ l l') : VRel φ (.tuple ⟨l⟩) (.tuple ⟨l'⟩)
inductive VsRel (φ : Phi) : List Value → List Value → Prop
  | nil : VsRel φ [] []
  | cons {v v' : Value} {l l' : List Value} (h : VRel φ v v') (t : VsRel φ l l') : VsRel φ (v :: l) (v' :: l')
end

mutual
theorem VRel.mono {φ φ' : Phi} (hle : φ.le φ') : ∀ {v v' : Value}, VRel φ v v' → VRel φ' v v'
  | _, _, .bool b => .bool b
  | _, _, .int k n => .int k n
  | _, _, .str s => .str s
  | _, _, .pnil => .pnil
  | _, _, .ptr h => .ptr (hle _ _ h)
  | _, _, .snil => .snil
  | _, _, .slice h h1 h2 h3 h4 => .slice (hle _ _ h) h1 h2 h3 h4
  | _, _, .mnil => .mnil
  | _, _, .map h => .map (hle _ _ h)
  | _, _, .nilF => .nilF
  | _, _, .func fn h1 h2 => .func fn (VsRel.mono hle h1) (VsRel.mono hle h2)
  | _, _, .nilI => .nilI
  | _, _, .iface t h => .iface t (VRel.mono hle h)
  | _, _, .agg h h1 => .agg (VsRel.mono hle h) h1
  | _, _, .tuple h => .tuple (VsRel.mono hle h)
theorem VsRel.mono {φ φ' : Phi} (hle : φ.le φ') : ∀ {l l' : List Value}, VsRel φ l l' → VsRel φ' l l'
  | _, _, .nil => .nil
  | _, _, .cons h t => .cons (VRel.mono hle h) (VsRel.mono hle t)
end

mutual
theorem VRel.of_plain (φ : Phi) : ∀ {v : Value}, plainV v = true → VRel φ v v
  | .bool b, _ => .bool b
  | .int k n, _ => .int k n
  | .string s, _ => .str s
  | .pointer none, _ => .pnil
  | .pointer (some _), h => by simp [plainV] at h
  | .slice none 0 0, _ => .snil
  | .slice none 0 (n + 1), h => by simp [plainV] at h
  | .slice none (n + 1) c, h => by simp [plainV] at h
  | .slice (some _) _ _, h => by simp [plainV] at h
  | .map none, _ => .mnil
  | .map (some _), h => by simp [plainV] at h
  | .nilFunc, _ => .nilF
  | .func fn ⟨a⟩ ⟨c⟩, h => by
    simp only [plainV, Bool.and_eq_true] at h
    exact .func fn (VsRel.of_plain φ h.1) (VsRel.of_plain φ h.2)
  | .nilIface, _ => .nilI
  | .iface t v, h => .iface t (VRel.of_plain φ (by simpa only [plainV] using h))
  | .agg ⟨l⟩, h => by
    simp only [plainV, Bool.and_eq_true] at h
    exact .agg (VsRel.of_plain φ h.1) h.2
  | .tuple ⟨l⟩, h => .tuple (VsRel.of_plain φ (by simpa only [plainV] using h))
  | .float _ _, h => by simp [plainV] at h
  | .complex _ _ _, h => by simp [plainV] at h
  | .chan _, h => by simp [plainV] at h
theorem VsRel.of_plain (φ : Phi) : ∀ {l : List Value}, plainVs l = true → VsRel φ l l
  | [], _ => .nil
  | v :: l, h => by
    simp only [plainVs, Bool.and_eq_true] at h
    exact .cons (VRel.of_plain φ h.1) (VsRel.of_plain φ h.2)
end

mutual
/-- What is plain stands for itself alone. -/
theorem VRel.plain_eq {φ : Phi} : ∀ {v v' : Value}, VRel φ v v' → plainV v = true → v' = v
  | _, _, .bool b, _ => rfl
  | _, _, .int k n, _ => rfl
  | _, _, .str s, _ => rfl
  | _, _, .pnil, _ => rfl
  | _, _, .ptr h, hp => by simp [plainV] at hp
  | _, _, .snil, _ => rfl
  | _, _, .slice h h1 h2 h3 h4, hp => by simp [plainV] at hp
  | _, _, .mnil, _ => rfl
  | _, _, .map h, hp => by simp [plainV] at hp
  | _, _, .nilF, _ => rfl
  | _, _, .func fn h1 h2, hp => by
    simp only [plainV, Bool.and_eq_true] at hp
    rw [VsRel.plain_eq h1 hp.1, VsRel.plain_eq h2 hp.2]
  | _, _, .nilI, _ => rfl
  | _, _, .iface t h, hp => by
    simp only [plainV] at hp
    rw [VRel.plain_eq h hp]
  | _, _, .agg h _, hp => by
    simp only [plainV, Bool.and_eq_true] at hp
    rw [VsRel.plain_eq h hp.1]
  | _, _, .tuple h, hp => by
    simp only [plainV] at hp
    rw [VsRel.plain_eq h hp]
theorem VsRel.plain_eq {φ : Phi} : ∀ {l l' : List Value}, VsRel φ l l' → plainVs l = true → l' = l
  | _, _, .nil, _ => rfl
  | _, _, .cons h t, hp => by
    simp only [plainVs, Bool.and_eq_true] at hp
    rw [VRel.plain_eq h hp.1, VsRel.plain_eq t hp.2]
end

/-! ### Rows of values -/

theorem VsRel.length {φ : Phi} : ∀ {l l' : List Value}, VsRel φ l l' → l.length = l'.length
  | _, _, .nil => rfl
  | _, _, .cons _ t => by simp [VsRel.length t]

theorem VsRel.get {φ : Phi} : ∀ {l l' : List Value}, VsRel φ l l' → ∀ {i : Nat} {v : Value}, l[i]? = some v → ∃ v', l'[i]? = some v' ∧ VRel φ v v'
  | _, _, .nil, i, v, h => by simp at h
  | _, _, .cons h t, 0, v, e => ⟨_, rfl, by simp at e; exact e ▸ h⟩
  | _, _, .cons h t, i + 1, v, e => by
    obtain ⟨v', h1, h2⟩ := VsRel.get t (i := i) (v := v) (by simpa using e)
    exact ⟨v', by simpa using h1, h2⟩

theorem VsRel.of_get {φ : Phi} : ∀ {l l' : List Value}, l.length = l'.length → (∀ (i : Nat) v, l[i]? = some v → ∃ v', l'[i]? = some v' ∧ VRel φ v v') → VsRel φ l l'
  | [], [], _, _ => .nil
  | [], _ :: _, h, _ => by simp at h
  | _ :: _, [], h, _ => by simp at h
  | v :: l, v' :: l', h, hg => by
    refine .cons ?_ (VsRel.of_get (by simpa using h) fun i u hu => by simpa using hg (i + 1) u (by simpa using hu))
    obtain ⟨u, h1, h2⟩ := hg 0 v rfl
    simp at h1
    exact h1 ▸ h2

theorem VsRel.append {φ : Phi} : ∀ {a a' b b' : List Value}, VsRel φ a a' → VsRel φ b b' → VsRel φ (a ++ b) (a' ++ b')
  | _, _, _, _, .nil, h => h
  | _, _, _, _, .cons h t, h' => .cons h (VsRel.append t h')

theorem VsRel.drop {φ : Phi} : ∀ {a a' : List Value} (n : Nat), VsRel φ a a' → VsRel φ (a.drop n) (a'.drop n)
  | _, _, 0, h => by simpa using h
  | _, _, n + 1, .nil => by simpa using VsRel.nil
  | _, _, n + 1, .cons h t => by simpa using VsRel.drop n t

theorem VsRel.take {φ : Phi} : ∀ {a a' : List Value} (n : Nat), VsRel φ a a' → VsRel φ (a.take n) (a'.take n)
  | _, _, 0, h => by simpa using VsRel.nil
  | _, _, n + 1, .nil => by simpa using VsRel.nil
  | _, _, n + 1, .cons h t => by simpa using VsRel.cons h (VsRel.take n t)

theorem VsRel.spl {φ : Phi} : ∀ {l l' : List Value} (j : Nat) {vs vs' : List Value}, VsRel φ l l' → VsRel φ vs vs' → VsRel φ (spl l j vs) (Sim.spl l' j vs')
  | _, _, 0, _, _, h, .nil => by cases h <;> simpa [Sim.spl] using (by first | exact .nil | exact .cons ‹_› ‹_›)
  | _, _, 0, _, _, .nil, .cons h t => by simpa [Sim.spl] using VsRel.nil
  | _, _, 0, _, _, .cons h t, .cons h' t' => by simpa [Sim.spl] using VsRel.cons h' (VsRel.spl 0 t t')
  | _, _, j + 1, _, _, .nil, h => by simpa [Sim.spl] using VsRel.nil
  | _, _, j + 1, _, _, .cons h t, h' => by simpa [Sim.spl] using VsRel.cons h (VsRel.spl j t h')

theorem spl_length : ∀ (l : List Value) (j : Nat) (vs : List Value), (spl l j vs).length = l.length
  | l, 0, [] => by cases l <;> simp [spl]
  | [], 0, _ :: _ => by simp [spl]
  | [], _ + 1, _ => by simp [spl]
  | _ :: l, 0, _ :: vs => by simp [spl, spl_length l 0 vs]
  | _ :: l, j + 1, vs => by simp [spl, spl_length l j vs]

theorem spl_get : ∀ (l : List Value) (j : Nat) (vs : List Value) (i : Nat), j + vs.length ≤ l.length →
    (spl l j vs)[i]? = if j ≤ i ∧ i < j + vs.length then vs[i - j]? else l[i]?
  | l, 0, [], i, _ => by cases l <;> simp [spl]
  | [], 0, _ :: _, i, h => by simp at h
  | [], j + 1, vs, i, h => by simp at h
  | x :: l, 0, v :: vs, 0, _ => by simp [spl]
  | x :: l, 0, v :: vs, i + 1, h => by
    have := spl_get l 0 vs i (by simpa using h)
    simp only [spl, List.getElem?_cons_succ, this, Nat.zero_add, List.length_cons, Nat.zero_le, true_and, Nat.sub_zero, Nat.add_lt_add_iff_right]
  | x :: l, j + 1, vs, 0, _ => by simp [spl]
  | x :: l, j + 1, vs, i + 1, h => by
    have := spl_get l j vs i (by simp at h; omega)
    simp only [spl, List.getElem?_cons_succ, this]
    have e : (j + 1 ≤ i + 1 ∧ i + 1 < j + 1 + vs.length) ↔ (j ≤ i ∧ i < j + vs.length) := by omega
    simp only [e, Nat.add_sub_add_right]

theorem VRel.cellsL {φ : Phi} {v v' : Value} (h : VRel φ v v') : VsRel φ (cellsL v) (Sim.cellsL v') := by
  cases h with
  | agg h _ => exact h
  | bool b => exact .cons (.bool b) .nil
  | int k n => exact .cons (.int k n) .nil
  | str s => exact .cons (.str s) .nil
  | pnil => exact .cons .pnil .nil
  | ptr h => exact .cons (.ptr h) .nil
  | snil => exact .cons .snil .nil
  | slice h h1 h2 h3 h4 => exact .cons (.slice h h1 h2 h3 h4) .nil
  | mnil => exact .cons .mnil .nil
  | map h => exact .cons (.map h) .nil
  | nilF => exact .cons .nilF .nil
  | func fn h1 h2 => exact .cons (.func fn h1 h2) .nil
  | nilI => exact .cons .nilI .nil
  | iface t h => exact .cons (.iface t h) .nil
  | tuple h => exact .cons (.tuple h) .nil

theorem oneCs_get : ∀ {l : List Value}, oneCs l = true → ∀ {i : Nat} {v : Value}, l[i]? = some v → oneC v = true
  | [], _, i, v, h => by simp at h
  | x :: l, h, 0, v, e => by simp only [oneCs, Bool.and_eq_true] at h; simp at e; exact e ▸ h.1
  | x :: l, h, i + 1, v, e => by simp only [oneCs, Bool.and_eq_true] at h; exact oneCs_get h.2 (i := i) (by simpa using e)

theorem oneCs_of : ∀ {l : List Value}, (∀ (i : Nat) v, l[i]? = some v → oneC v = true) → oneCs l = true
  | [], _ => rfl
  | x :: l, h => by
    simp only [oneCs, Bool.and_eq_true]
    exact ⟨h 0 x rfl, oneCs_of fun i v hv => h (i + 1) v (by simpa using hv)⟩

theorem oneCs_take {l : List Value} (n : Nat) (h : oneCs l = true) : oneCs (l.take n) = true :=
  oneCs_of fun i v hv => oneCs_get h (i := i) (by rw [List.getElem?_take] at hv; split at hv <;> simp_all)

theorem oneCs_drop {l : List Value} (n : Nat) (h : oneCs l = true) : oneCs (l.drop n) = true :=
  oneCs_of fun i v hv => oneCs_get h (i := n + i) (by simpa using hv)

theorem oneCs_spl {l vs : List Value} {j : Nat} (h : oneCs l = true) (h' : oneCs vs = true) (hj : j + vs.length ≤ l.length) : oneCs (Sim.spl l j vs) = true :=
  oneCs_of fun i v hv => by
    rw [spl_get l j vs i hj] at hv
    split at hv
    · exact oneCs_get h' hv
    · exact oneCs_get h hv

theorem VRel.oneC {φ : Phi} {v v' : Value} (h : VRel φ v v') : Sim.oneC v' = Sim.oneC v := by
  cases h <;> rfl

theorem VsRel.oneCs {φ : Phi} : ∀ {l l' : List Value}, VsRel φ l l' → Sim.oneCs l' = Sim.oneCs l
  | _, _, .nil => rfl
  | _, _, .cons h t => by simp only [Sim.oneCs, h.oneC, VsRel.oneCs t]

/-- The cells that a variable takes: all of one cell each. -/
theorem bx_rel {φ : Phi} {v v' : Value} {cs : List Value} (h : VRel φ v v') (hb : bx v = some cs) : VsRel φ cs (Sim.cellsL v') ∧ Sim.oneCs cs = true ∧ cs = Sim.cellsL v := by
  have hc := h.cellsL
  cases h <;> simp only [bx, Option.some.injEq, reduceCtorEq] at hb <;> subst hb <;> refine ⟨hc, ?_, rfl⟩ <;> first | rfl | assumption

theorem cells_toList (v : Value) : v.cells.toList = cellsL v := by
  cases v <;> simp [Value.cells, cellsL]

theorem VsRel.zero {φ : Phi} {z : Value} (h : plainV z = true) : VsRel φ (Sim.cellsL z) (Sim.cellsL z) := (VRel.of_plain φ h).cellsL

/-! ### The heap -/

def BRel (φ : Phi) (l : Loc) (k : Blk) (w : World) : Prop :=
  match k with
  | .row sz rows ro => l.sz = sz ∧ rows.length ≤ l.cap ∧ ∃ cs e fz, w.heap[l.blk]? = some (.cells cs e fz) ∧ l.off + l.cap * sz ≤ cs.size ∧
      (∀ (i : Nat) r, rows[i]? = some r → r.length = sz ∧ oneCs r = true ∧ ∀ (j : Nat) v, r[j]? = some v → ∃ u, cs[l.off + i * sz + j]? = some u ∧ VRel φ v u) ∧ (ro = false → fz = (0, 0))
  | .map es _ => ∃ es' clk, w.heap[l.blk]? = some (.map es' clk) ∧ es.length = es'.size ∧ ∀ (i : Nat) k v, es[i]? = some (k, v) → plainV k = true ∧ ∃ e : MapEntry, es'[i]? = some e ∧ e.key = k ∧ VRel φ v e.val

structure Rel (φ : Phi) (s : St) (w : World) : Prop where
  fresh : ∀ b l, φ b = some l → b < s.n
  blk : ∀ b k, s.get b = some k → ∃ l, φ b = some l ∧ BRel φ l k w
  inj : ∀ b c k k' l l', s.get b = some k → s.get c = some k' → b ≠ c → k.ro = false → φ b = some l → φ c = some l' → l.blk ≠ l'.blk

theorem BRel.lt {φ : Phi} {l : Loc} {k : Blk} {w : World} (h : BRel φ l k w) : l.blk < w.heap.size := by
  cases k with
  | row sz rows ro =>
    obtain ⟨_, _, cs, e, fz, hh, _⟩ := h
    rcases Nat.lt_or_ge l.blk w.heap.size with h | h
    · exact h
    · simp [Array.getElem?_eq_none h] at hh
  | map es ro =>
    obtain ⟨es', clk, hh, _⟩ := h
    rcases Nat.lt_or_ge l.blk w.heap.size with h | h
    · exact h
    · simp [Array.getElem?_eq_none h] at hh

theorem BRel.of_same {φ φ' : Phi} {l : Loc} {k : Blk} {w w' : World} (hle : φ.le φ') (h : BRel φ l k w) (hw : w'.heap[l.blk]? = w.heap[l.blk]?) : BRel φ' l k w' := by
  cases k with
  | row sz rows ro =>
    obtain ⟨h1, h2, cs, e, fz, hh, h3, h4, h5⟩ := h
    refine ⟨h1, h2, cs, e, fz, hw.trans hh, h3, fun i r hr => ⟨(h4 i r hr).1, (h4 i r hr).2.1, fun j v hv => ?_⟩, h5⟩
    obtain ⟨u, hu, hv⟩ := (h4 i r hr).2.2 j v hv
    exact ⟨u, hu, hv.mono hle⟩
  | map es ro =>
    obtain ⟨es', clk, hh, h2, h3⟩ := h
    refine ⟨es', clk, hw.trans hh, h2, fun i k v hv => ?_⟩
    obtain ⟨hp, e, he, hk, hv⟩ := h3 i k v hv
    exact ⟨hp, e, he, hk, hv.mono hle⟩

/-! ### Lookups in the abstract heap -/

theorem getH_put : ∀ (h : List (Nat × Blk)) (b c : Nat) (x : Blk), getH (putH h b x) c = if c = b then (getH h b).map (fun _ => x) else getH h c
  | [], b, c, x => by simp [putH, getH]
  | (i, k) :: r, b, c, x => by
    have ih := getH_put r b c x
    simp only [putH]
    by_cases hb : b = i
    · subst hb
      by_cases hc : c = b <;> simp [getH, hc]
    · by_cases hc : c = i
      · subst hc
        simp [getH, hb, Ne.symm hb]
      · by_cases hcb : c = b
        · subst hcb; simp [getH, hb, ih]
        · simp [getH, hb, hc, hcb, ih]

theorem getH_del : ∀ (h : List (Nat × Blk)) (b c : Nat), getH (delH h b) c = if c = b then none else getH h c
  | [], b, c => by simp [delH, getH]
  | (i, k) :: r, b, c => by
    have ih := getH_del r b c
    simp only [delH]
    by_cases hb : b = i
    · subst hb
      by_cases hc : c = b
      · subst hc; simpa [getH] using ih
      · simp [getH, hc, ih]
    · by_cases hc : c = i
      · subst hc
        simp [getH, hb, Ne.symm hb]
      · simp [getH, hb, hc, ih]

theorem St.get_put (s : St) (b c : Nat) (x : Blk) : (s.put b x).get c = if c = b then (s.get b).map (fun _ => x) else s.get c := getH_put s.h b c x
theorem St.get_del (s : St) (b c : Nat) : (s.del b).get c = if c = b then none else s.get c := getH_del s.h b c
theorem St.get_new (s : St) (c : Nat) (x : Blk) : (s.new x).get c = if c = s.n then some x else s.get c := by
  simp only [St.get, St.new, getH]
@[simp] theorem St.n_put (s : St) (b : Nat) (x : Blk) : (s.put b x).n = s.n := rfl
@[simp] theorem St.n_del (s : St) (b : Nat) : (s.del b).n = s.n := rfl
@[simp] theorem St.n_new (s : St) (x : Blk) : (s.new x).n = s.n + 1 := rfl

/-! ### A step -/

/-- What is frozen of what was there is what was. -/
def Froz (w w' : World) : Prop := ∀ a, a.block < w.heap.size → w'.frozen? a = w.frozen? a

/-- What of the world has turned: of what was there, nothing but what the heap's own rows hold. -/
structure Frm (φ : Phi) (s : St) (w w' : World) : Prop where
  os : w'.os = w.os
  tape : w'.tape = w.tape
  output : w'.output = w.output
  size : w.heap.size ≤ w'.heap.size
  old : ∀ c, c < w.heap.size → (∀ b k l, s.get b = some k → k.ro = false → φ b = some l → l.blk ≠ c) → w'.heap[c]? = w.heap[c]?

structure Step (φ : Phi) (s : St) (w : World) (φ' : Phi) (s' : St) (w' : World) : Prop where
  rel : Rel φ' s' w'
  ext : φ.le φ'
  frm : Frm φ s w w'
  own : ∀ b k l, s'.get b = some k → φ' b = some l → w.heap.size ≤ l.blk ∨ ∃ b0 k0 l0, s.get b0 = some k0 ∧ (k.ro = false → k0.ro = false) ∧ φ b0 = some l0 ∧ l0.blk = l.blk

theorem Step.refl {φ : Phi} {s : St} {w : World} (h : Rel φ s w) : Step φ s w φ s w :=
  ⟨h, .refl _, ⟨rfl, rfl, rfl, Nat.le_refl _, fun _ _ _ => rfl⟩, fun b k l h1 h3 => .inr ⟨b, k, l, h1, id, h3, rfl⟩⟩

theorem Step.trans {φ φ' φ'' : Phi} {s s' s'' : St} {w w' w'' : World} (h : Step φ s w φ' s' w') (k : Step φ' s' w' φ'' s'' w'') : Step φ s w φ'' s'' w'' := by
  refine ⟨k.rel, h.ext.trans k.ext, ⟨k.frm.os.trans h.frm.os, k.frm.tape.trans h.frm.tape, k.frm.output.trans h.frm.output, Nat.le_trans h.frm.size k.frm.size, fun c hc hn => ?_⟩, fun b x l h1 h3 => ?_⟩
  · rw [k.frm.old c (Nat.lt_of_lt_of_le hc h.frm.size) fun b x l h1 h2 h3 e => ?_, h.frm.old c hc hn]
    rcases h.own b x l h1 h3 with h4 | ⟨b0, k0, l0, g1, g2, g3, g4⟩
    · omega
    · exact hn b0 k0 l0 g1 (g2 h2) g3 (g4.trans e)
  · rcases k.own b x l h1 h3 with h4 | ⟨b0, k0, l0, g1, g2, g3, g4⟩
    · exact .inl (Nat.le_trans h.frm.size h4)
    · rcases h.own b0 k0 l0 g1 g3 with h5 | ⟨b1, k1, l1, f1, f2, f3, f4⟩
      · exact .inl (g4 ▸ h5)
      · exact .inr ⟨b1, k1, l1, f1, fun hr => f2 (g2 hr), f3, f4.trans g4⟩

/-- Nothing that was there has turned. -/
theorem Rel.of_below {φ : Phi} {s : St} {w w' : World} (h : Rel φ s w) (hb : Below w.heap.size w w') : Rel φ s w' := by
  refine ⟨h.fresh, fun b k hk => ?_, h.inj⟩
  obtain ⟨l, hl, hr⟩ := h.blk b k hk
  exact ⟨l, hl, hr.of_same (.refl _) (hb.block _ hr.lt)⟩

theorem Step.of_below {φ : Phi} {s : St} {w w' : World} (h : Rel φ s w) (hb : Below w.heap.size w w') (hz : Froz w w') : Step φ s w φ s w' :=
  ⟨h.of_below hb, .refl _, ⟨hb.os, hb.tape, hb.output, hb.size, fun c hc _ => hb.block c hc⟩, fun b k l h1 h3 => .inr ⟨b, k, l, h1, id, h3, rfl⟩⟩

theorem Froz.of_below {w w' : World} (hb : Below w.heap.size w w') : Froz w w' := fun a ha => by
  simp only [World.frozen?, hb.block _ ha]

theorem Below.size_trans {w w' w'' : World} (h : Below w.heap.size w w') (k : Below w'.heap.size w' w'') : Below w.heap.size w w'' := h.trans (k.mono h.size)

end Go.Sim
namespace Go.Sim

/-! ### Steps -/

theorem BRel.unfrozen {φ : Phi} {l : Loc} {k : Blk} {w : World} (h : BRel φ l k w) (hro : k.ro = false) {a : Addr} (ha : a.block = l.blk) : w.frozen? a = false := by
  unfold World.frozen?
  cases k with
  | row sz rows ro =>
    obtain ⟨_, _, cs, e, fz, hh, _, _, h5⟩ := h
    have := h5 hro
    subst this
    rw [ha, hh]
    simp
  | map es ro =>
    obtain ⟨es', clk, hh, _⟩ := h
    rw [ha, hh]

theorem Rel.at {φ : Phi} {s : St} {w : World} {b : Nat} {k : Blk} {l : Loc} (h : Rel φ s w) (hk : s.get b = some k) (hl : φ b = some l) : BRel φ l k w := by
  obtain ⟨l2, h1, h2⟩ := h.blk b k hk
  rw [hl] at h1
  simp only [Option.some.injEq] at h1
  exact h1 ▸ h2

/-- One row turned in place. -/
theorem put_step {φ : Phi} {s : St} {w w' : World} {b : Nat} {k k' : Blk} {l : Loc} (h : Rel φ s w) (hk : s.get b = some k) (hro : k.ro = false)
    (hl : φ b = some l) (hB : BRel φ l k' w') (hf : ∀ c, c ≠ l.blk → w'.heap[c]? = w.heap[c]?) (hs : w'.heap.size = w.heap.size)
    (ho : w'.os = w.os) (ht : w'.tape = w.tape) (hu : w'.output = w.output) : Step φ s w φ (s.put b k') w' := by
  have hget : ∀ c x, (s.put b k').get c = some x → (c = b ∧ x = k') ∨ (c ≠ b ∧ s.get c = some x) := by
    intro c x hx
    rw [St.get_put] at hx
    by_cases hc : c = b
    · subst hc; rw [if_pos rfl, hk] at hx; simp at hx; exact .inl ⟨rfl, hx.symm⟩
    · rw [if_neg hc] at hx; exact .inr ⟨hc, hx⟩
  refine ⟨⟨h.fresh, fun c x hx => ?_, fun c d x y l1 l2 hx hy hne hr h1 h2 => ?_⟩, .refl _, ⟨ho, ht, hu, Nat.le_of_eq hs.symm, fun c hc hn => hf c fun e => hn b k l hk hro hl e.symm⟩, fun c x l1 hx h1 => ?_⟩
  · rcases hget c x hx with ⟨rfl, rfl⟩ | ⟨hc, hx⟩
    · exact ⟨l, hl, hB⟩
    · obtain ⟨l1, h1, h2⟩ := h.blk c x hx
      exact ⟨l1, h1, h2.of_same (.refl _) (hf _ (fun e => h.inj b c k x l l1 hk hx (Ne.symm hc) hro hl h1 e.symm))⟩
  · rcases hget c x hx with ⟨rfl, rfl⟩ | ⟨hc, hx'⟩
    · rcases hget d y hy with ⟨rfl, rfl⟩ | ⟨hd, hy'⟩
      · exact absurd rfl hne
      · exact h.inj c d k y l1 l2 hk hy' hne hro h1 h2
    · rcases hget d y hy with ⟨rfl, rfl⟩ | ⟨hd, hy'⟩
      · exact h.inj c d x k l1 l2 hx' hk hne hr h1 h2
      · exact h.inj c d x y l1 l2 hx' hy' hne hr h1 h2
  · rcases hget c x hx with ⟨rfl, rfl⟩ | ⟨hc, hx⟩
    · exact .inr ⟨c, k, l1, hk, fun _ => hro, h1, rfl⟩
    · exact .inr ⟨c, x, l1, hx, id, h1, rfl⟩

/-- The place of one more row. -/
def Phi.add (φ : Phi) (n : Nat) (l : Loc) : Phi := fun b => if b = n then some l else φ b

theorem Phi.le_add {φ : Phi} {s : St} {w : World} (h : Rel φ s w) (l : Loc) : φ.le (φ.add s.n l) := by
  intro b l' hb
  have := h.fresh b l' hb
  unfold Phi.add
  rw [if_neg (by omega)]
  exact hb

theorem Phi.add_self (φ : Phi) (n : Nat) (l : Loc) : φ.add n l n = some l := by simp [Phi.add]

/-- One row more, in a block that was not there. -/
theorem new_step {φ : Phi} {s : St} {w w' : World} {k : Blk} {l : Loc} (h : Rel φ s w) (hl : w.heap.size ≤ l.blk)
    (hB : BRel (φ.add s.n l) l k w') (hf : ∀ c, c < w.heap.size → w'.heap[c]? = w.heap[c]?) (hs : w.heap.size ≤ w'.heap.size)
    (ho : w'.os = w.os) (ht : w'.tape = w.tape) (hu : w'.output = w.output) (hz : Froz w w') : Step φ s w (φ.add s.n l) (s.new k) w' := by
  have hle := Phi.le_add h l
  have hget : ∀ c x, (s.new k).get c = some x → (c = s.n ∧ x = k) ∨ (c ≠ s.n ∧ s.get c = some x) := by
    intro c x hx
    rw [St.get_new] at hx
    by_cases hc : c = s.n
    · rw [if_pos hc] at hx; simp at hx; exact .inl ⟨hc, hx.symm⟩
    · rw [if_neg hc] at hx; exact .inr ⟨hc, hx⟩
  have hphi : ∀ c x, s.get c = some x → ∀ l1, φ.add s.n l c = some l1 → φ c = some l1 ∧ l1.blk < w.heap.size := by
    intro c x hx l1 h1
    obtain ⟨l2, h2, h3⟩ := h.blk c x hx
    have := hle c l2 h2
    rw [this] at h1
    simp at h1
    subst h1
    exact ⟨h2, h3.lt⟩
  refine ⟨⟨fun b l1 hb => ?_, fun c x hx => ?_, fun c d x y l1 l2 hx hy hne hr h1 h2 => ?_⟩, hle, ⟨ho, ht, hu, hs, fun c hc _ => hf c hc⟩, fun c x l1 hx h1 => ?_⟩
  · unfold Phi.add at hb
    by_cases hc : b = s.n
    · subst hc; simp
    · rw [if_neg hc] at hb
      have := h.fresh b l1 hb
      simp; omega
  · rcases hget c x hx with ⟨rfl, rfl⟩ | ⟨hc, hx⟩
    · exact ⟨l, Phi.add_self _ _ _, hB⟩
    · obtain ⟨l1, h1, h2⟩ := h.blk c x hx
      exact ⟨l1, hle _ _ h1, h2.of_same hle (hf _ h2.lt)⟩
  · rcases hget c x hx with ⟨rfl, rfl⟩ | ⟨hc, hx'⟩
    · rcases hget d y hy with ⟨rfl, rfl⟩ | ⟨hd, hy'⟩
      · exact absurd rfl hne
      · rw [Phi.add_self] at h1; simp at h1; subst h1
        have := (hphi d y hy' l2 h2).2
        omega
    · rcases hget d y hy with ⟨rfl, rfl⟩ | ⟨hd, hy'⟩
      · rw [Phi.add_self] at h2; simp at h2; subst h2
        have := (hphi c x hx' l1 h1).2
        omega
      · exact h.inj c d x y l1 l2 hx' hy' hne hr (hphi c x hx' l1 h1).1 (hphi d y hy' l2 h2).1
  · rcases hget c x hx with ⟨rfl, rfl⟩ | ⟨hc, hx⟩
    · rw [Phi.add_self] at h1; simp at h1; subst h1
      exact .inl hl
    · exact .inr ⟨c, x, l1, hx, id, (hphi c x hx l1 h1).1, rfl⟩

/-- A row moved under a new name, its block turned. -/
theorem move_step {φ : Phi} {s : St} {w w' : World} {b : Nat} {k k' : Blk} {l l' : Loc} (h : Rel φ s w) (hk : s.get b = some k) (hro : k.ro = false) (hro' : k'.ro = false)
    (hl : φ b = some l) (hll : l'.blk = l.blk) (hB : BRel (φ.add s.n l') l' k' w') (hf : ∀ c, c ≠ l.blk → w'.heap[c]? = w.heap[c]?) (hs : w'.heap.size = w.heap.size)
    (ho : w'.os = w.os) (ht : w'.tape = w.tape) (hu : w'.output = w.output) : Step φ s w (φ.add s.n l') ((s.del b).new k') w' := by
  have hle := Phi.le_add h l'
  have hbn : b ≠ s.n := by have := h.fresh b l hl; omega
  have hget : ∀ c x, ((s.del b).new k').get c = some x → (c = s.n ∧ x = k') ∨ (c ≠ s.n ∧ c ≠ b ∧ s.get c = some x) := by
    intro c x hx
    rw [St.get_new, show (s.del b).n = s.n from rfl] at hx
    by_cases hc : c = s.n
    · rw [if_pos hc] at hx; simp at hx; exact .inl ⟨hc, hx.symm⟩
    · rw [if_neg hc, St.get_del] at hx
      by_cases hcb : c = b
      · rw [if_pos hcb] at hx; simp at hx
      · rw [if_neg hcb] at hx; exact .inr ⟨hc, hcb, hx⟩
  have hphi : ∀ c x, s.get c = some x → ∀ l1, φ.add s.n l' c = some l1 → φ c = some l1 := by
    intro c x hx l1 h1
    obtain ⟨l2, h2, h3⟩ := h.blk c x hx
    have := hle c l2 h2
    rw [this] at h1
    simp at h1
    subst h1
    exact h2
  refine ⟨⟨fun c l1 hb => ?_, fun c x hx => ?_, fun c d x y l1 l2 hx hy hne hr h1 h2 => ?_⟩, hle, ⟨ho, ht, hu, Nat.le_of_eq hs.symm, fun c hc hn => hf c fun e => hn b k l hk hro hl e.symm⟩, fun c x l1 hx h1 => ?_⟩
  · unfold Phi.add at hb
    by_cases hc : c = s.n
    · subst hc; simp
    · rw [if_neg hc] at hb
      have := h.fresh c l1 hb
      simp; omega
  · rcases hget c x hx with ⟨rfl, rfl⟩ | ⟨hc, hcb, hx⟩
    · exact ⟨l', Phi.add_self _ _ _, hB⟩
    · obtain ⟨l1, h1, h2⟩ := h.blk c x hx
      exact ⟨l1, hle _ _ h1, h2.of_same hle (hf _ (fun e => h.inj b c k x l l1 hk hx (Ne.symm hcb) hro hl h1 e.symm))⟩
  · rcases hget c x hx with ⟨rfl, rfl⟩ | ⟨hc, hcb, hx'⟩
    · rcases hget d y hy with ⟨rfl, rfl⟩ | ⟨hd, hdb, hy'⟩
      · exact absurd rfl hne
      · rw [Phi.add_self] at h1; simp at h1; subst h1
        rw [hll]
        exact h.inj b d k y l l2 hk hy' (Ne.symm hdb) hro hl (hphi d y hy' l2 h2)
    · rcases hget d y hy with ⟨rfl, rfl⟩ | ⟨hd, hdb, hy'⟩
      · rw [Phi.add_self] at h2; simp at h2; subst h2
        rw [hll]
        exact h.inj c b x k l1 l hx' hk hcb hr (hphi c x hx' l1 h1) hl
      · exact h.inj c d x y l1 l2 hx' hy' hne hr (hphi c x hx' l1 h1) (hphi d y hy' l2 h2)
  · rcases hget c x hx with ⟨rfl, rfl⟩ | ⟨hc, hcb, hx⟩
    · rw [Phi.add_self] at h1; simp at h1; subst h1
      exact .inr ⟨b, k, l, hk, fun _ => hro, hl, hll.symm⟩
    · exact .inr ⟨c, x, l1, hx, id, hphi c x hx l1 h1, rfl⟩

/-! ### Loads -/

theorem cell_at {w : World} {g o : Nat} {cs : Array Value} {e : TypeId} {fz : Nat × Nat} (h : w.heap[g]? = some (.cells cs e fz)) : w.cell? ⟨g, o, none⟩ = cs[o]? := by
  simp [World.cell?, h]

theorem ldc_sound {φ : Phi} {s : St} {w : World} {v v' x : Value} (h : Rel φ s w) (hv : VRel φ v v') (hx : ldc s v = some x) :
    ∃ a x', v' = .pointer (some a) ∧ w.cell? a = some x' ∧ VRel φ x x' := by
  cases hv with
  | @ptr b i j l hl =>
    simp only [ldc] at hx
    cases hb : s.get b with
    | none => simp [hb] at hx
    | some k =>
      cases k with
      | map es ro => simp [hb] at hx
      | row sz rows ro =>
        simp only [hb] at hx
        cases hr : rows[i]? with
        | none => simp [hr] at hx
        | some r =>
          simp only [hr, Option.bind_some] at hx
          obtain ⟨l2, h2, hB⟩ := h.blk b _ hb
          rw [hl] at h2
          simp at h2
          subst h2
          obtain ⟨h1, h2, cs, e, fz, hh, h3, h4, h5⟩ := hB
          obtain ⟨u, hu, hru⟩ := (h4 i r hr).2.2 j x hx
          exact ⟨_, u, rfl, by rw [cell_at hh, h1]; exact hu, hru⟩
  | _ => simp [ldc] at hx

theorem lda_sound {φ : Phi} {s : St} {w : World} {n : Nat} {v v' x : Value} (h : Rel φ s w) (hv : VRel φ v v') (hx : lda s n v = some x) :
    ∃ a xs', v' = .pointer (some a) ∧ xs'.length = n ∧ (∀ j u, xs'[j]? = some u → w.cell? (a.add j) = some u) ∧ VRel φ x (.agg ⟨xs'⟩) := by
  cases hv with
  | @ptr b i j l hl =>
    simp only [lda] at hx
    cases hb : s.get b with
    | none => simp [hb] at hx
    | some k =>
      cases k with
      | map es ro => simp [hb] at hx
      | row sz rows ro =>
        simp only [hb] at hx
        cases hr : rows[i]? with
        | none => simp [hr] at hx
        | some r =>
          simp only [hr, Option.bind_some] at hx
          by_cases hn : j + n ≤ r.length
          · rw [if_pos hn] at hx
            simp at hx
            subst hx
            obtain ⟨l2, h2, hB⟩ := h.blk b _ hb
            rw [hl] at h2
            simp at h2
            subst h2
            obtain ⟨h1, h2, cs, e, fz, hh, h3, h4, h5⟩ := hB
            obtain ⟨g1, g2, g3⟩ := h4 i r hr
            have hlen : ((r.drop j).take n).length = n := by simp; omega
            have hex : ∀ m, m < n → ∃ u, cs[l.off + i * sz + j + m]? = some u ∧ VRel φ (r[j + m]?.getD undef) u := by
              intro m hm
              have hlt : j + m < r.length := by omega
              obtain ⟨u, hu, hru⟩ := g3 (j + m) r[j + m] (by simp [hlt])
              exact ⟨u, by rw [← Nat.add_assoc] at hu; exact hu, by simpa [hlt] using hru⟩
            have hsz : ∀ m, m < n → l.off + i * sz + j + m < cs.size := by
              intro m hm
              obtain ⟨u, hu, _⟩ := hex m hm
              rcases Nat.lt_or_ge (l.off + i * sz + j + m) cs.size with h | h
              · exact h
              · simp [Array.getElem?_eq_none h] at hu
            refine ⟨_, (List.range n).map (fun m => cs.getD (l.off + i * sz + j + m) undef), rfl, by simp, ?_, .agg (VsRel.of_get (by simp only [hlen, List.length_map, List.length_range]) ?_) (oneCs_take _ (oneCs_drop _ g2))⟩
            · intro m u hu
              rw [Addr.add_mid, cell_at hh, h1]
              have hm : m < n := by
                rcases Nat.lt_or_ge m n with h | h
                · exact h
                · simp [h] at hu
              have hs := hsz m hm
              simp [hm] at hu
              simp [hs] at hu
              simp [hs, hu]
            · intro m u hu
              have hm : m < n := by
                rcases Nat.lt_or_ge m n with h | h
                · exact h
                · rw [List.getElem?_eq_none (by omega)] at hu; simp at hu
              obtain ⟨u', hu', hru⟩ := hex m hm
              have hs := hsz m hm
              rw [List.getElem?_take, if_pos hm, List.getElem?_drop] at hu
              rw [hu] at hru
              refine ⟨u', ?_, by simpa using hru⟩
              simp [hm, Array.getD, hs]
              simpa [hs] using hu'
          · simp [hn] at hx
  | _ => simp [lda] at hx

/-! ### Stores -/

theorem row_len {φ : Phi} {l : Loc} {sz : Nat} {rows : List (List Value)} {ro : Bool} {w : World} (h : BRel φ l (.row sz rows ro) w) {i : Nat} {r : List Value} (hr : rows[i]? = some r) :
    l.sz = sz ∧ r.length = sz ∧ i < l.cap ∧ ∀ j, j ≤ sz → l.off + i * sz + j ≤ l.off + l.cap * sz := by
  obtain ⟨h1, h2, cs, e, fz, hh, h3, h4, h5⟩ := h
  have hi : i < rows.length := by
    rcases Nat.lt_or_ge i rows.length with h | h
    · exact h
    · simp [List.getElem?_eq_none h] at hr
  refine ⟨h1, (h4 i r hr).1, by omega, fun j hj => ?_⟩
  have : (i + 1) * sz ≤ l.cap * sz := Nat.mul_le_mul_right _ (by omega)
  rw [Nat.add_mul] at this
  omega

theorem sto_sound {φ : Phi} {s s' : St} {w : World} {v v' : Value} {vs vs' : List Value} (P : Program) (h : Rel φ s w) (hv : VRel φ v v') (hvs : VsRel φ vs vs') (h1 : oneCs vs = true)
    (hx : sto s v vs = some s') : ∃ a w', v' = .pointer (some a) ∧ (storeCells a vs').run P w = .ok () w' ∧ Step φ s w φ s' w' := by
  cases hv with
  | @ptr b i j l hl =>
    simp only [sto] at hx
    cases hb : s.get b with
    | none => simp [hb] at hx
    | some k =>
      cases k with
      | map es ro => simp [hb] at hx
      | row sz rows ro =>
        cases ro with
        | true => simp [hb] at hx
        | false =>
          simp only [hb] at hx
          cases hr : rows[i]? with
          | none => simp [hr] at hx
          | some r =>
            simp only [hr, Option.bind_some] at hx
            by_cases hn : j + vs.length ≤ r.length
            · rw [if_pos hn] at hx
              simp at hx
              subst hx
              obtain ⟨l2, h2, hB⟩ := h.blk b _ hb
              rw [hl] at h2
              simp at h2
              subst h2
              obtain ⟨g0, g1, g2, g3⟩ := row_len hB hr
              obtain ⟨k1, k2, cs, e, fz, hh, k3, k4, k5⟩ := hB
              have hfz := k5 rfl
              subst hfz
              have hvl := hvs.length
              have hle : l.off + i * sz + j + vs'.length ≤ cs.size := by
                have := g3 (j + vs.length) (by omega)
                omega
              have hone : ∀ x ∈ vs', x.oneCell' = true := by
                have ho := hvs.oneCs
                rw [h1] at ho
                intro x hx
                obtain ⟨m, hm⟩ := List.getElem?_of_mem hx
                have := oneCs_get ho hm
                cases x <;> simp_all [oneC, Value.oneCell']
              have hrun := run_storeCells_at P l.blk (l.off + i * sz + j) e vs' 0 cs w hh (by simpa using hle) hone
              refine ⟨⟨l.blk, l.off + i * l.sz + j, none⟩, _, rfl, by rw [k1]; exact hrun, put_step h hb rfl hl ?_ (fun c hc => setRow_other w l.blk c _ hc) (by simp) rfl rfl rfl⟩
              have hsz : (cs.toList.take (l.off + i * sz + j + 0) ++ vs' ++ cs.toList.drop (l.off + i * sz + j + 0 + vs'.length)).toArray.size = cs.size := by
                simp; omega
              refine ⟨k1, by simpa using k2, _, e, (0, 0), setRow_heap w l.blk cs _ e _ hh, by rw [hsz]; exact k3, fun m q hq => ?_, fun _ => rfl⟩
              rw [List.getElem?_set] at hq
              have hget : ∀ o, (cs.toList.take (l.off + i * sz + j + 0) ++ vs' ++ cs.toList.drop (l.off + i * sz + j + 0 + vs'.length)).toArray[o]? =
                  if l.off + i * sz + j ≤ o ∧ o < l.off + i * sz + j + vs'.length then vs'[o - (l.off + i * sz + j)]? else cs[o]? := by
                intro o
                simp only [Nat.add_zero, List.getElem?_toArray]
                by_cases ho : o < l.off + i * sz + j
                · rw [if_neg (by omega), List.append_assoc, List.getElem?_append_left (by simp; omega)]
                  simp [ho]
                · by_cases ho2 : o < l.off + i * sz + j + vs'.length
                  · rw [if_pos (by omega), List.append_assoc, List.getElem?_append_right (by simp; omega), List.getElem?_append_left (by simp; omega)]
                    congr 1
                    simp; omega
                  · rw [if_neg (by omega), List.append_assoc, List.getElem?_append_right (by simp; omega), List.getElem?_append_right (by simp; omega), List.getElem?_drop]
                    simp
                    congr 1
                    omega
              by_cases him : i = m
              · subst him
                simp only [if_true] at hq
                split at hq
                · simp at hq
                  subst hq
                  refine ⟨by rw [spl_length]; exact g1, oneCs_spl (k4 i r hr).2.1 h1 hn, fun q u hu => ?_⟩
                  rw [spl_get r j vs q hn] at hu
                  rw [hget]
                  by_cases hjq : j ≤ q ∧ q < j + vs.length
                  · rw [if_pos hjq] at hu
                    rw [if_pos (by omega)]
                    obtain ⟨u', hu1, hu2⟩ := hvs.get hu
                    exact ⟨u', by rw [← hu1]; congr 1; omega, hu2⟩
                  · rw [if_neg hjq] at hu
                    have hq : q < r.length := by
                      rcases Nat.lt_or_ge q r.length with h | h
                      · exact h
                      · simp [List.getElem?_eq_none h] at hu
                    rw [if_neg (by omega)]
                    exact (k4 i r hr).2.2 q u hu
                · simp at hq
              · rw [if_neg him] at hq
                obtain ⟨q1, q2, q3⟩ := k4 m q hq
                refine ⟨q1, q2, fun p u hu => ?_⟩
                rw [hget]
                have hp : p < q.length := by
                  rcases Nat.lt_or_ge p q.length with h | h
                  · exact h
                  · simp [List.getElem?_eq_none h] at hu
                have hmul : m * sz + sz ≤ i * sz ∨ i * sz + sz ≤ m * sz := by
                  rcases Nat.lt_or_ge m i with h | h
                  · left
                    have : (m + 1) * sz ≤ i * sz := Nat.mul_le_mul_right _ (by omega)
                    rw [Nat.add_mul] at this
                    omega
                  · right
                    have : (i + 1) * sz ≤ m * sz := Nat.mul_le_mul_right _ (by omega)
                    rw [Nat.add_mul] at this
                    omega
                rw [if_neg (by omega)]
                exact q3 p u hu
            · simp [hn] at hx
  | _ => simp [sto] at hx

end Go.Sim
namespace Go.Sim

/-! ### Rows end to end -/

theorem flat_len : ∀ {rows : List (List Value)} {sz : Nat}, (∀ r ∈ rows, r.length = sz) → rows.flatten.length = rows.length * sz
  | [], sz, _ => by simp
  | r :: rows, sz, h => by
    have := flat_len (rows := rows) (sz := sz) fun x hx => h x (by simp [hx])
    simp only [List.flatten_cons, List.length_append, this, h r (by simp), List.length_cons]
    rw [Nat.add_mul]; omega

theorem flat_get : ∀ {rows : List (List Value)} {sz : Nat}, (∀ r ∈ rows, r.length = sz) → ∀ {i j : Nat} {r : List Value} {v : Value}, rows[i]? = some r → r[j]? = some v → rows.flatten[i * sz + j]? = some v
  | [], sz, _, i, j, r, v, h, _ => by simp at h
  | q :: rows, sz, hl, 0, j, r, v, h, hv => by
    simp at h
    subst h
    have hj : j < q.length := by
      rcases Nat.lt_or_ge j q.length with h | h
      · exact h
      · simp [List.getElem?_eq_none h] at hv
    simp only [List.flatten_cons, Nat.zero_mul, Nat.zero_add]
    rw [List.getElem?_append_left hj]
    exact hv
  | q :: rows, sz, hl, i + 1, j, r, v, h, hv => by
    have hq := hl q (by simp)
    have := flat_get (rows := rows) (sz := sz) (fun x hx => hl x (by simp [hx])) (i := i) (j := j) (by simpa using h) hv
    simp only [List.flatten_cons]
    rw [List.getElem?_append_right (by rw [hq, Nat.add_mul]; omega), ← this]
    congr 1
    rw [hq, Nat.add_mul]; omega

theorem mem_get {α : Type} {l : List α} {x : α} (h : x ∈ l) : ∃ i : Nat, l[i]? = some x := List.getElem?_of_mem h

/-- What rows read from a slice or a text stand for. -/
theorem rows_sound {φ : Phi} {s : St} {w : World} {sz n : Nat} {x x' : Value} {rows : List (List Value)} (P : Program) (h : Rel φ s w) (hv : VRel φ x x') (hx : rowsOf s sz n x = some rows) :
    rows.length = n ∧ (∀ r ∈ rows, r.length = sz ∧ oneCs r = true) ∧ ∃ xs', xs'.length = n * sz ∧ VsRel φ rows.flatten xs' ∧
      ∀ w2 : World, w2.heap = w.heap → (Builtin.firstCells sz n x').run P w2 = .ok ⟨xs'⟩ w2 := by
  cases hv with
  | snil =>
    simp only [rowsOf] at hx
    split at hx
    · rename_i h0
      simp at hx
      subst hx; subst h0
      exact ⟨rfl, by simp, [], by simp, .nil, fun w2 _ => by simp [Builtin.firstCells]⟩
    · simp at hx
  | str t =>
    simp only [rowsOf] at hx
    by_cases h1 : sz = 1 ∧ n ≤ t.size
    · rw [if_pos h1] at hx
      obtain ⟨rfl, hn⟩ := h1
      have hx := Option.some.inj hx
      subst hx
      have hlen : (t.data.toList.take n).length = n := by
        rw [List.length_take, Array.length_toList]
        exact Nat.min_eq_left hn
      have hfl : ∀ (l : List UInt8), (l.map fun b => [Value.int .u8 b.toNat]).flatten = l.map fun b => Value.int .u8 b.toNat := by
        intro l
        induction l with
        | nil => rfl
        | cons b l ih => simp only [List.map_cons, List.flatten_cons, ih, List.singleton_append]
      refine ⟨by rw [List.length_map]; exact hlen, fun r hr => ?_, (t.data.toList.take n).map (fun b => .int .u8 b.toNat), by rw [List.length_map, hlen]; omega, ?_, fun w2 _ => ?_⟩
      · obtain ⟨b, _, rfl⟩ := List.mem_map.1 hr
        exact ⟨rfl, rfl⟩
      · rw [hfl]
        refine VsRel.of_get rfl fun i v hv => ⟨v, hv, ?_⟩
        rw [List.getElem?_map] at hv
        cases hb : (t.data.toList.take n)[i]? with
        | none => simp [hb] at hv
        | some b => simp only [hb, Option.map_some, Option.some.injEq] at hv; subst hv; exact .int _ _
      · simp only [Builtin.firstCells, Sem.run_pure]
        congr 1
        apply Array.ext'
        simp [ByteArray.extract, ByteArray.copySlice]
    · simp [h1] at hx
  | @slice b i len e c a l hl h1 h2 h3 h4 =>
    simp only [rowsOf] at hx
    cases hb : s.get b with
    | none => simp [hb] at hx
    | some k =>
      cases k with
      | map es ro => simp [hb] at hx
      | row sz' rws ro =>
        simp only [hb] at hx
        by_cases hc : sz' = sz ∧ n ≤ len ∧ i + n ≤ rws.length
        · rw [if_pos hc] at hx
          obtain ⟨rfl, hnl, hin⟩ := hc
          simp at hx
          subst hx
          obtain ⟨l2, g2, hB⟩ := h.blk b _ hb
          rw [hl] at g2
          simp at g2
          subst g2
          obtain ⟨k1, k2, cs, e', fz, hh, k3, k4, k5⟩ := hB
          have hrow : ∀ m, m < n → ∃ r, ((rws.drop i).take n)[m]? = some r ∧ rws[i + m]? = some r := by
            intro m hm
            have : i + m < rws.length := by omega
            exact ⟨rws[i + m], by rw [List.getElem?_take, if_pos hm, List.getElem?_drop, List.getElem?_eq_getElem this], List.getElem?_eq_getElem this⟩
          have hmem : ∀ r ∈ (rws.drop i).take n, r.length = sz' ∧ oneCs r = true := by
            intro r hr
            obtain ⟨m, hm⟩ := mem_get hr
            have hmn : m < n := by
              rcases Nat.lt_or_ge m n with h | h
              · exact h
              · rw [List.getElem?_take, if_neg (by omega)] at hm; simp at hm
            obtain ⟨r', e1, e2⟩ := hrow m hmn
            rw [hm] at e1
            simp at e1
            subst e1
            exact ⟨(k4 _ r e2).1, (k4 _ r e2).2.1⟩
          have hlen : ((rws.drop i).take n).length = n := by simp; omega
          have hfl : ((rws.drop i).take n).flatten.length = n * sz' := by rw [flat_len fun r hr => (hmem r hr).1, hlen]
          -- the cells
          have hcell : ∀ m, m < n * sz' → ∃ u, cs[l.off + i * sz' + m]? = some u ∧ VRel φ (((rws.drop i).take n).flatten[m]?.getD undef) u := by
            intro m hm
            have hs0 : 0 < sz' := by
              rcases Nat.eq_zero_or_pos sz' with h | h
              · subst h; simp at hm
              · exact h
            have hq : m / sz' < n := (Nat.div_lt_iff_lt_mul hs0).2 hm
            obtain ⟨r, e1, e2⟩ := hrow (m / sz') hq
            have hrl := (k4 _ r e2).1
            have hj : m % sz' < r.length := by rw [hrl]; exact Nat.mod_lt _ hs0
            have hv : r[m % sz']? = some r[m % sz'] := List.getElem?_eq_getElem hj
            obtain ⟨u, hu, hru⟩ := (k4 _ r e2).2.2 _ _ hv
            have hdm : m / sz' * sz' + m % sz' = m := by rw [Nat.mul_comm]; exact Nat.div_add_mod m sz'
            refine ⟨u, ?_, ?_⟩
            · rw [← hu]; congr 1
              rw [Nat.add_mul]; omega
            · have := flat_get (fun r hr => (hmem r hr).1) e1 hv
              rw [hdm] at this
              rw [this]
              simpa using hru
          refine ⟨hlen, hmem, (List.range (n * sz')).map (fun m => cs.getD (l.off + i * sz' + m) undef), by simp, VsRel.of_get (by simp only [hfl, List.length_map, List.length_range]) ?_, fun w2 hw2 => ?_⟩
          · intro m v hv
            have hm : m < n * sz' := by
              rcases Nat.lt_or_ge m (n * sz') with h | h
              · exact h
              · rw [List.getElem?_eq_none (by omega)] at hv; simp at hv
            obtain ⟨u, hu, hru⟩ := hcell m hm
            rw [hv] at hru
            refine ⟨u, ?_, by simpa using hru⟩
            have hlt : l.off + i * sz' + m < cs.size := by
              rcases Nat.lt_or_ge (l.off + i * sz' + m) cs.size with h | h
              · exact h
              · simp [Array.getElem?_eq_none h] at hu
            simp [hm, hlt]
            simpa [hlt] using hu
          · simp only [Builtin.firstCells]
            rcases Nat.eq_zero_or_pos (n * sz') with h0 | h0
            · rw [h0]
              simp [loadCells, loadCellsFrom]
            · have hc0 : c ≠ 0 := by
                rcases Nat.eq_zero_or_pos n with h | h
                · subst h; simp at h0
                · omega
              rw [h3 hc0]
              have := run_loadCells (P := P) w2 ⟨l.blk, l.off + i * l.sz, none⟩ (n * sz') (fun m => cs.getD (l.off + i * sz' + m) undef) (fun m hm => by
                obtain ⟨u, hu, _⟩ := hcell m hm
                have hlt : l.off + i * sz' + m < cs.size := by
                  rcases Nat.lt_or_ge (l.off + i * sz' + m) cs.size with h | h
                  · exact h
                  · simp [Array.getElem?_eq_none h] at hu
                rw [Addr.add_mid, cell_at (hw2 ▸ hh), k1]
                simp [hlt])
              rw [this]
        · simp [hc] at hx
  | _ => simp [rowsOf] at hx

/-! ### New memory -/

theorem alc_sound {φ : Phi} {s s' : St} {w : World} {cs cs' : List Value} {r : Value} (t : TypeId) (h : Rel φ s w) (hv : VsRel φ cs cs') (h1 : oneCs cs = true) (hx : alc s cs = some (r, s')) :
    ∃ φ', VRel φ' r (.pointer (some ⟨w.heap.size, 0, none⟩)) ∧ Step φ s w φ' s' (w.alloc (.cells ⟨cs'⟩ t)) := by
  simp only [alc, Option.some.injEq, Prod.mk.injEq] at hx
  obtain ⟨rfl, rfl⟩ := hx
  let l : Loc := ⟨w.heap.size, 0, cs.length, 1⟩
  refine ⟨φ.add s.n l, ?_, new_step (l := l) h (Nat.le_refl _) ?_ (fun c hc => heap_alloc_old w _ c hc) (by simp) rfl rfl rfl (fun a _ => Go.RowKit.frozen?_alloc_cells w _ _ a)⟩
  · have := VRel.ptr (l := l) (i := 0) (j := 0) (Phi.add_self φ s.n l)
    simpa [l] using this
  · refine ⟨rfl, by simp [l], ⟨cs'⟩, t, (0, 0), heap_alloc_new w _, by simp [l, hv.length], fun i q hq => ?_, fun _ => rfl⟩
    cases i with
    | zero =>
      simp at hq
      subst hq
      refine ⟨rfl, h1, fun j v hjv => ?_⟩
      obtain ⟨u, hu, hr⟩ := hv.get hjv
      exact ⟨u, by simpa [l] using hu, hr.mono (Phi.le_add h l)⟩
    | succ i => simp at hq

theorem als_sound {φ : Phi} {s s' : St} {w : World} {sz len : Nat} {rows : List (List Value)} {cs' : List Value} {r : Value} (t : TypeId) (h : Rel φ s w)
    (hr : ∀ q ∈ rows, q.length = sz ∧ oneCs q = true) (hv : VsRel φ rows.flatten cs') (hl : len ≤ rows.length) (hx : als s sz len rows = some (r, s')) :
    ∃ φ', VRel φ' r (.slice (some ⟨w.heap.size, 0, none⟩) len rows.length) ∧ Step φ s w φ' s' (w.alloc (.cells ⟨cs'⟩ t)) := by
  simp only [als, Option.some.injEq, Prod.mk.injEq] at hx
  obtain ⟨rfl, rfl⟩ := hx
  let l : Loc := ⟨w.heap.size, 0, sz, rows.length⟩
  have hcl : cs'.length = rows.length * sz := by rw [← hv.length, flat_len fun q hq => (hr q hq).1]
  refine ⟨φ.add s.n l, ?_, new_step (l := l) h (Nat.le_refl _) ?_ (fun c hc => heap_alloc_old w _ c hc) (by simp) rfl rfl rfl (fun a _ => Go.RowKit.frozen?_alloc_cells w _ _ a)⟩
  · exact VRel.slice (l := l) (i := 0) (Phi.add_self _ _ _) hl (by simp [l]) (fun _ => by simp [l]) (.inr rfl)
  · refine ⟨rfl, by simp [l], ⟨cs'⟩, t, (0, 0), heap_alloc_new w _, by simp [l, hcl], fun i q hq => ?_, fun _ => rfl⟩
    have hm := List.mem_of_getElem? hq
    refine ⟨(hr q hm).1, (hr q hm).2, fun j v hjv => ?_⟩
    have := flat_get (fun q hq => (hr q hq).1) hq hjv
    obtain ⟨u, hu, hr⟩ := hv.get this
    exact ⟨u, by simpa [l] using hu, hr.mono (Phi.le_add h l)⟩

end Go.Sim
namespace Go.Sim

def notInt : TypeDesc → Bool
  | .slice _ => true
  | .string => true
  | _ => false

theorem notInt_cases {d : TypeDesc} (h : notInt d = true) : (∃ e, d = .slice e) ∨ d = .string := by
  cases d <;> simp_all [notInt]

theorem lenV_rel {φ : Phi} {x x' : Value} {n : Nat} (P : Program) (h : VRel φ x x') (hn : lenV x = some n) (w : World) : (Builtin.lenOf x').run P w = .ok n w := by
  cases h <;> simp [lenV] at hn <;> subst hn <;> simp [Builtin.lenOf]

section
variable {P : Program} {t u ty e : TypeId} {inf : TypeInfo} {d : TypeDesc} {z : Value}

theorem append_in (w : World) (ht : P.underlying t = some (.slice e)) (hu : P.underlying u = some d) (hd : notInt d = true) (hi : P.info? e = some inf)
    {base : Option Addr} {sLen sCap n : Nat} {x' : Value} {xs' : List Value} (hl : (Builtin.lenOf x').run P w = .ok n w) (hf : (Builtin.firstCells inf.size n x').run P w = .ok ⟨xs'⟩ w)
    (hc : sLen + n ≤ sCap) {w' : World} (hs : ∀ a, base = some a → (storeCells (a.add (sLen * inf.size)) xs').run P w = .ok () w') (hn : base = none → w' = w) :
    (Builtin.append_ #[t, u] ty #[.slice base sLen sCap, x']).run P w = .ok (.slice base (sLen + n) sCap) w' := by
  cases base with
  | none =>
    have := hn rfl
    subst this
    rcases notInt_cases hd with ⟨e2, rfl⟩ | rfl <;>
      simp [Builtin.append_, run_underlying ht, run_underlying hu, sizeOf, typeInfo, hi, hl, hf, hc]
  | some a =>
    have hs := hs a rfl
    rcases notInt_cases hd with ⟨e2, rfl⟩ | rfl <;>
      simp [Builtin.append_, run_underlying ht, run_underlying hu, sizeOf, typeInfo, hi, hl, hf, hc, hs]

theorem append_out (w : World) (ht : P.underlying t = some (.slice e)) (hu : P.underlying u = some d) (hd : notInt d = true) (hi : P.info? e = some inf) (hz : inf.zero = some z)
    {base : Option Addr} {sLen sCap n : Nat} {x' : Value} {olds xs' : List Value} (hl : (Builtin.lenOf x').run P w = .ok n w)
    (ho : (Builtin.firstCells inf.size sLen (.slice base sLen sCap)).run P w.drew = .ok ⟨olds⟩ w.drew) (hf : (Builtin.firstCells inf.size n x').run P w.drew = .ok ⟨xs'⟩ w.drew)
    (hc : sCap < sLen + n) (hb : (sLen + n) * inf.bytes ≤ 140737488355328) (h63 : sLen + n ≤ 9223372036854775807) :
    (Builtin.append_ #[t, u] ty #[.slice base sLen sCap, x']).run P w =
      .ok (.slice (some ⟨w.heap.size, 0, none⟩) (sLen + n) (grownCap w (sLen + n) sCap e))
        (w.drew.alloc (.cells ⟨olds ++ xs' ++ (Builtin.zeroCells z.cells (grownCap w (sLen + n) sCap e - (sLen + n))).toList⟩ e)) := by
  have hn : ¬ (sLen + n ≤ sCap) := by omega
  have h63' : ¬ (9223372036854775807 < ((sLen : Int) + (n : Int))) := by omega
  have hfit := growslice_fits (bytes := inf.bytes) hc hb
  have h48' : ¬ (281474976710656 < Builtin.nextslicecap (sLen + n) sCap * inf.bytes) := by omega
  rcases notInt_cases hd with ⟨e2, rfl⟩ | rfl <;>
    simp [Builtin.append_, run_underlying ht, run_underlying hu, sizeOf, typeInfo, zeroValue, hi, hz, hl, hn, h63', h48', Question.forced, hf, ho, newRow, grownCap] <;>
    (congr 2; apply Array.ext'; simp [List.append_assoc])

end

theorem grownCap_ge (w : World) (need old : Nat) (e : TypeId) : need ≤ grownCap w need old e := by
  unfold grownCap
  simp only [Question.cut]
  omega

theorem zeroCells_length (z : Array Value) (n : Nat) : (Builtin.zeroCells z n).toList.length = n * z.size := by
  simp [Builtin.zeroCells]

/-- A new row behind an append. -/
theorem grown_sound {φ : Phi} {s : St} {w : World} {sz n : Nat} {rows : List (List Value)} {cs' rest : List Value} (t : TypeId) (cap : Nat) (h : Rel φ s w)
    (hr : ∀ q ∈ rows, q.length = sz ∧ oneCs q = true) (hv : VsRel φ rows.flatten cs') (hl : n = rows.length) (hcap : n ≤ cap) (hrest : rest.length = (cap - n) * sz) :
    ∃ φ', VRel φ' (.slice (some ⟨s.n, 0, some 0⟩) n 1) (.slice (some ⟨w.heap.size, 0, none⟩) n cap) ∧
      Step φ s w φ' (s.new (.row sz rows false)) (w.drew.alloc (.cells ⟨cs' ++ rest⟩ t)) := by
  let l : Loc := ⟨w.heap.size, 0, sz, cap⟩
  have hcl : cs'.length = rows.length * sz := by rw [← hv.length, flat_len fun q hq => (hr q hq).1]
  have hle : rows.length * sz + (cap - n) * sz = cap * sz := by
    rw [← Nat.add_mul, ← hl]; congr 1; omega
  refine ⟨φ.add s.n l, ?_, new_step (l := l) h (Nat.le_refl _) ?_ (fun c hc => heap_alloc_old w.drew _ c hc) (by simp) rfl rfl rfl (fun a _ => Go.RowKit.frozen?_alloc_cells w.drew _ _ a)⟩
  · exact VRel.slice (l := l) (i := 0) (Phi.add_self _ _ _) hcap (by simp [l]) (fun _ => by simp [l]) (.inl ⟨rfl, by simp [l]⟩)
  · refine ⟨rfl, by simp [l]; omega, ⟨cs' ++ rest⟩, t, (0, 0), heap_alloc_new w.drew _, by simp [l, hcl, hrest]; omega, fun i q hq => ?_, fun _ => rfl⟩
    have hm := List.mem_of_getElem? hq
    refine ⟨(hr q hm).1, (hr q hm).2, fun j v hjv => ?_⟩
    have := flat_get (fun q hq => (hr q hq).1) hq hjv
    obtain ⟨u, hu, hr⟩ := hv.get this
    refine ⟨u, ?_, hr.mono (Phi.le_add h l)⟩
    have hlt : i * sz + j < cs'.length := by
      rcases Nat.lt_or_ge (i * sz + j) cs'.length with h | h
      · exact h
      · simp [List.getElem?_eq_none h] at hu
    simp only [l, Nat.zero_add, List.getElem?_toArray]
    rw [List.getElem?_append_left hlt]
    exact hu

theorem Step.of_get {φ φ' : Phi} {s s' s'' : St} {w w' : World} (h : Step φ s w φ' s' w') (hn : s''.n = s'.n) (hg : ∀ b k, s''.get b = some k → s'.get b = some k) : Step φ s w φ' s'' w' :=
  ⟨⟨fun b l hb => hn ▸ h.rel.fresh b l hb, fun b k hk => h.rel.blk b k (hg b k hk), fun b c k k' l l' h1 h2 => h.rel.inj b c k k' l l' (hg b k h1) (hg c k' h2)⟩, h.ext, h.frm, fun b k l h1 => h.own b k l (hg b k h1)⟩

theorem del_new_get (s : St) (b : Nat) (k : Blk) : ∀ c x, ((s.del b).new k).get c = some x → (s.new k).get c = some x := by
  intro c x hx
  rw [St.get_new, show (s.del b).n = s.n from rfl] at hx
  rw [St.get_new]
  by_cases hc : c = s.n
  · rw [if_pos hc] at hx ⊢; exact hx
  · rw [if_neg hc] at hx ⊢
    rw [St.get_del] at hx
    by_cases hcb : c = b
    · rw [if_pos hcb] at hx; simp at hx
    · rw [if_neg hcb] at hx; exact hx

theorem ones_of {φ : Phi} {rows : List (List Value)} {sz : Nat} {xs' : List Value} (hr : ∀ q ∈ rows, q.length = sz ∧ oneCs q = true) (hv : VsRel φ rows.flatten xs') : ∀ x ∈ xs', x.oneCell' = true := by
  intro x hx
  obtain ⟨m, hm⟩ := List.getElem?_of_mem hx
  have h1 : oneCs rows.flatten = true := by
    refine oneCs_of fun i v hv => ?_
    obtain ⟨q, hq, hvq⟩ := List.mem_flatten.1 (List.mem_of_getElem? hv)
    obtain ⟨j, hj⟩ := List.getElem?_of_mem hvq
    exact oneCs_get (hr q hq).2 hj
  have ho := hv.oneCs
  rw [h1] at ho
  have := oneCs_get ho hm
  cases x <;> simp_all [oneC, Value.oneCell']

/-- Some rows of a block turned: what the world's cells are then. -/
theorem rows_put {φ φ' : Phi} {w : World} {l l' : Loc} {sz i n : Nat} {rows news rows' : List (List Value)} {ro : Bool} {xs' : List Value} {cs : Array Value} {e : TypeId} (hle : φ.le φ')
    (hB : BRel φ l (.row sz rows ro) w) (hh : w.heap[l.blk]? = some (.cells cs e (0, 0)))
    (hr : ∀ q ∈ news, q.length = sz ∧ oneCs q = true) (hn : news.length = n) (hv : VsRel φ news.flatten xs') (hi : i + n ≤ l.cap)
    (hl1 : l'.blk = l.blk) (hl2 : l'.off = l.off) (hl3 : l'.sz = l.sz) (hl4 : l'.cap = l.cap) (hlen : rows'.length ≤ l.cap)
    (hnew : ∀ m q, rows'[m]? = some q → (i ≤ m ∧ m < i + n ∧ news[m - i]? = some q) ∨ ((m < i ∨ i + n ≤ m) ∧ rows[m]? = some q)) :
    BRel φ' l' (.row sz rows' false) (w.setRow l.blk (cs.toList.take (l.off + i * sz) ++ xs' ++ cs.toList.drop (l.off + i * sz + xs'.length)).toArray) := by
  obtain ⟨k1, k2, cs0, e0, fz, hh0, k3, k4, k5⟩ := hB
  rw [hh] at hh0
  simp only [Option.some.injEq, Obj.cells.injEq] at hh0
  obtain ⟨rfl, rfl, rfl⟩ := hh0
  have hxl : xs'.length = n * sz := by rw [← hv.length, flat_len fun q hq => (hr q hq).1, hn]
  have hcap : l.off + i * sz + n * sz ≤ l.off + l.cap * sz := by
    have : (i + n) * sz ≤ l.cap * sz := Nat.mul_le_mul_right _ hi
    rw [Nat.add_mul] at this
    omega
  have hsz : (cs.toList.take (l.off + i * sz) ++ xs' ++ cs.toList.drop (l.off + i * sz + xs'.length)).toArray.size = cs.size := by
    simp; omega
  have hget : ∀ o, (cs.toList.take (l.off + i * sz) ++ xs' ++ cs.toList.drop (l.off + i * sz + xs'.length)).toArray[o]? =
      if l.off + i * sz ≤ o ∧ o < l.off + i * sz + xs'.length then xs'[o - (l.off + i * sz)]? else cs[o]? := by
    intro o
    simp only [List.getElem?_toArray]
    by_cases ho : o < l.off + i * sz
    · rw [if_neg (by omega), List.append_assoc, List.getElem?_append_left (by simp; omega)]
      simp [ho]
    · by_cases ho2 : o < l.off + i * sz + xs'.length
      · rw [if_pos (by omega), List.append_assoc, List.getElem?_append_right (by simp; omega), List.getElem?_append_left (by simp; omega)]
        congr 1
        simp; omega
      · rw [if_neg (by omega), List.append_assoc, List.getElem?_append_right (by simp; omega), List.getElem?_append_right (by simp; omega), List.getElem?_drop]
        simp
        congr 1
        omega
  refine ⟨hl3.trans k1, hl4 ▸ hlen, _, e, (0, 0), by rw [hl1]; exact setRow_heap w l.blk cs _ e _ hh, by rw [hsz, hl2, hl4]; exact k3, fun m q hq => ?_, fun _ => rfl⟩
  rw [hl2]
  rcases hnew m q hq with ⟨h1, h2, h3⟩ | ⟨h1, h3⟩
  · have hm := List.mem_of_getElem? h3
    refine ⟨(hr q hm).1, (hr q hm).2, fun j v hjv => ?_⟩
    have hj : j < q.length := by
      rcases Nat.lt_or_ge j q.length with h | h
      · exact h
      · simp [List.getElem?_eq_none h] at hjv
    have hfg := flat_get (fun q hq => (hr q hq).1) h3 hjv
    obtain ⟨u, hu, hru⟩ := hv.get hfg
    have hql := (hr q hm).1
    have e1 : m * sz = i * sz + (m - i) * sz := by rw [← Nat.add_mul]; congr 1; omega
    have e2 : (m - i) * sz + sz ≤ n * sz := by
      have : (m - i + 1) * sz ≤ n * sz := Nat.mul_le_mul_right _ (by omega)
      rw [Nat.add_mul] at this
      omega
    refine ⟨u, ?_, hru.mono hle⟩
    rw [hget, if_pos (by omega), ← hu]
    congr 1
    omega
  · obtain ⟨q1, q2, q3⟩ := k4 m q h3
    refine ⟨q1, q2, fun j v hjv => ?_⟩
    have hj : j < q.length := by
      rcases Nat.lt_or_ge j q.length with h | h
      · exact h
      · simp [List.getElem?_eq_none h] at hjv
    obtain ⟨u, hu, hru⟩ := q3 j v hjv
    refine ⟨u, ?_, hru.mono hle⟩
    rw [hget, if_neg ?_]
    · exact hu
    · rcases h1 with h1 | h1
      · have : (m + 1) * sz ≤ i * sz := Nat.mul_le_mul_right _ (by omega)
        rw [Nat.add_mul] at this
        omega
      · have : (i + n) * sz ≤ m * sz := Nat.mul_le_mul_right _ (by omega)
        rw [Nat.add_mul] at this
        omega

theorem app_sound {φ : Phi} {s s' : St} {w : World} {sz by_ : Nat} {v v' x x' r : Value} {P : Program} {t u ty e : TypeId} {inf : TypeInfo} {d : TypeDesc} {z : Value}
    (ht : P.underlying t = some (.slice e)) (hu : P.underlying u = some d) (hd : notInt d = true) (hi : P.info? e = some inf) (hz : inf.zero = some z) (hsz : inf.size = sz) (hby : inf.bytes = by_) (hzl : (cellsL z).length = sz)
    (h : Rel φ s w) (hv : VRel φ v v') (hx : VRel φ x x') (ha : app s sz by_ v x = some (r, s')) :
    ∃ φ' r' w', (Builtin.append_ #[t, u] ty #[v', x']).run P w = .ok r' w' ∧ VRel φ' r r' ∧ Step φ s w φ' s' w' := by
  subst hsz; subst hby
  have hzs : z.cells.size = inf.size := by
    have := congrArg List.length (cells_toList z)
    simp at this
    omega
  simp only [app] at ha
  cases hn : lenV x with
  | none => simp [hn] at ha
  | some n =>
    simp only [hn] at ha
    cases hrw : rowsOf s inf.size n x with
    | none => simp [hrw] at ha
    | some news =>
      simp only [hrw] at ha
      obtain ⟨r1, r2, xs', r3, r4, r5⟩ := rows_sound P h hx hrw
      have hlen : ∀ w2 : World, (Builtin.lenOf x').run P w2 = .ok n w2 := lenV_rel P hx hn
      cases hv with
      | snil =>
        simp only at ha
        by_cases h0 : n = 0
        · rw [if_pos h0] at ha
          simp at ha
          obtain ⟨rfl, rfl⟩ := ha
          subst h0
          refine ⟨φ, _, w, append_in w ht hu hd hi (base := none) (hlen w) (r5 w rfl) (by omega) (w' := w) (by simp) (fun _ => rfl), .snil, Step.refl h⟩
        · rw [if_neg h0] at ha
          by_cases hb : n * inf.bytes ≤ 140737488355328 ∧ n ≤ 9223372036854775807
          · rw [if_pos hb] at ha
            simp at ha
            obtain ⟨rfl, rfl⟩ := ha
            have hrun := append_out (ty := ty) w ht hu hd hi hz (base := none) (sLen := 0) (sCap := 0) (olds := []) (hlen w) (by simp [Builtin.firstCells]) (r5 w.drew rfl) (by omega) (by simpa using hb.1) (by omega)
            obtain ⟨φ', g1, g2⟩ := grown_sound (n := n) (rest := (Builtin.zeroCells z.cells (grownCap w (0 + n) 0 e - (0 + n))).toList) e (grownCap w (0 + n) 0 e) h r2 r4 r1.symm
              (by have := grownCap_ge w (0 + n) 0 e; omega) (by rw [zeroCells_length, hzs, Nat.zero_add])
            exact ⟨φ', _, _, hrun, by simpa using g1, by simpa using g2⟩
          · rw [if_neg hb] at ha; simp at ha
      | @slice b i len ec c a l hl h1 h2 h3 h4 =>
        simp only at ha
        cases hb : s.get b with
        | none => simp [hb] at ha
        | some k =>
          cases k with
          | map es ro => simp [hb] at ha
          | row sz' rows ro =>
            simp only [hb] at ha
            by_cases hc : sz' = inf.size ∧ i + len ≤ rows.length
            · rw [if_pos hc] at ha
              obtain ⟨rfl, hil⟩ := hc
              obtain ⟨l2, g2, hB⟩ := h.blk b _ hb
              rw [hl] at g2
              simp only [Option.some.injEq] at g2
              subst g2
              by_cases hbd : (len + n) * inf.bytes ≤ 140737488355328 ∧ len + n ≤ 9223372036854775807
              · rw [if_pos hbd] at ha
                have hB' := hB
                obtain ⟨k1, k2, cs, e', fz, hh, k3, k4, k5⟩ := hB'
                -- the old rows
                have hold : ∀ w2 : World, w2.heap = w.heap → ∃ olds, olds.length = len * inf.size ∧ VsRel φ ((rows.drop i).take len).flatten olds ∧ (Builtin.firstCells inf.size len (.slice (some a) len c)).run P w2 = .ok ⟨olds⟩ w2 := by
                  intro w2 hw2
                  have hro : rowsOf s inf.size len (.slice (some ⟨b, i, some 0⟩) len ec) = some ((rows.drop i).take len) := by
                    simp [rowsOf, hb, hil]
                  obtain ⟨q1, q2, olds, q3, q4, q5⟩ := rows_sound P h (.slice hl h1 h2 h3 h4) hro
                  exact ⟨olds, q3, q4, q5 w2 hw2⟩
                have holdr : ∀ q ∈ (rows.drop i).take len, q.length = inf.size ∧ oneCs q = true := by
                  intro q hq
                  obtain ⟨m, hm⟩ := List.getElem?_of_mem hq
                  rw [List.getElem?_take] at hm
                  split at hm
                  · rw [List.getElem?_drop] at hm
                    exact ⟨(k4 _ q hm).1, (k4 _ q hm).2.1⟩
                  · simp at hm
                -- fresh memory
                have hfresh : c < len + n → ∃ φ' r' w', (Builtin.append_ #[t, u] ty #[.slice (some a) len c, x']).run P w = .ok r' w' ∧ VRel φ' (.slice (some ⟨s.n, 0, some 0⟩) (len + n) 1) r' ∧
                    Step φ s w φ' (s.new (.row inf.size ((rows.drop i).take len ++ news) false)) w' := by
                  intro hcn
                  obtain ⟨olds, o1, o2, o3⟩ := hold w.drew rfl
                  have hrun := append_out (ty := ty) w ht hu hd hi hz (hlen w) o3 (r5 w.drew rfl) hcn hbd.1 hbd.2
                  have hll : ((rows.drop i).take len ++ news).length = len + n := by simp [r1]; omega
                  obtain ⟨φ', g1, g2⟩ := grown_sound (n := len + n) (rows := (rows.drop i).take len ++ news) (cs' := olds ++ xs') (rest := (Builtin.zeroCells z.cells (grownCap w (len + n) c e - (len + n))).toList) e (grownCap w (len + n) c e) h
                    (fun q hq => by rcases List.mem_append.1 hq with hq | hq; exact holdr q hq; exact r2 q hq)
                    (by rw [List.flatten_append]; exact o2.append r4) hll.symm (grownCap_ge w (len + n) c e) (by rw [zeroCells_length, hzs])
                  exact ⟨φ', _, _, hrun, g1, g2⟩
                by_cases he : ec = 1
                · subst he
                  simp only [if_true] at ha
                  cases ro with
                  | true => simp at ha
                  | false =>
                    simp only [Bool.false_eq_true, if_false] at ha
                    have hci : i + c = l.cap := by
                      rcases h4 with ⟨_, h4⟩ | h4
                      · exact h4
                      · omega
                    by_cases hn0 : n = 0
                    · rw [if_pos hn0] at ha
                      simp at ha
                      obtain ⟨rfl, rfl⟩ := ha
                      subst hn0
                      have hxs : xs' = [] := by
                        have : xs'.length = 0 := by simpa using r3
                        exact List.length_eq_zero_iff.1 this
                      subst hxs
                      refine ⟨φ, _, w, append_in w ht hu hd hi (hlen w) (r5 w rfl) (by omega) (w' := w) (fun a _ => by simp [storeCells]) (by simp), .slice hl h1 h2 h3 h4, Step.refl h⟩
                    · rw [if_neg hn0] at ha
                      by_cases hi0 : i = 0
                      · rw [if_pos hi0] at ha
                        simp at ha
                        obtain ⟨rfl, rfl⟩ := ha
                        subst hi0
                        by_cases hcn : len + n ≤ c
                        · have hfz := k5 rfl
                          subst hfz
                          have haddr := h3 (by omega)
                          subst haddr
                          have hst := run_storeCells_at P l.blk (l.off + 0 * l.sz + len * inf.size) e' xs' 0 cs w hh (by
                            have : (len + n) * inf.size ≤ l.cap * inf.size := Nat.mul_le_mul_right _ (by omega)
                            rw [Nat.add_mul] at this
                            simp; omega) (ones_of r2 r4)
                          have hst' : (storeCells ((⟨l.blk, l.off + 0 * l.sz, none⟩ : Addr).add (len * inf.size)) xs').run P w = .ok () (w.setRow l.blk (cs.toList.take (l.off + len * inf.size) ++ xs' ++ cs.toList.drop (l.off + len * inf.size + xs'.length)).toArray) := by
                            rw [Addr.add_mid, hst]; simp
                          refine ⟨φ.add s.n l, _, _, append_in w ht hu hd hi (hlen w) (r5 w rfl) hcn (fun a ha => by cases ha; exact hst') (by simp), ?_, move_step (l' := l) h hb rfl rfl hl rfl ?_ (fun c hc => setRow_other w l.blk c _ hc) (by simp) rfl rfl rfl⟩
                          · exact VRel.slice (Phi.add_self _ _ _) hcn h2 (fun _ => rfl) (.inl ⟨rfl, hci⟩)
                          · refine rows_put (i := len) (n := n) (Phi.le_add h l) hB hh r2 r1 r4 (by omega) rfl rfl rfl rfl (by simp [r1]; omega) fun m q hq => ?_
                            by_cases hm : m < len
                            · right
                              rw [List.getElem?_append_left (by simp; omega), List.getElem?_take, if_pos hm] at hq
                              exact ⟨.inl hm, hq⟩
                            · left
                              rw [List.getElem?_append_right (by simp; omega)] at hq
                              have hlt : (rows.take len).length = len := by simp; omega
                              rw [hlt] at hq
                              have : m - len < news.length := by
                                rcases Nat.lt_or_ge (m - len) news.length with h | h
                                · exact h
                                · simp [List.getElem?_eq_none h] at hq
                              exact ⟨by omega, by omega, hq⟩
                        · obtain ⟨φ', r', w', f1, f2, f3⟩ := hfresh (by omega)
                          refine ⟨φ', r', w', f1, f2, f3.of_get rfl ?_⟩
                          simpa using del_new_get s b (.row inf.size (rows.take len ++ news) false)
                      · rw [if_neg hi0] at ha; simp at ha
                · rw [if_neg he] at ha
                  have hec : ec = 2 * c := by
                    rcases h4 with ⟨h4, _⟩ | h4
                    · exact absurd h4 he
                    · exact h4
                  have hdiv : ec / 2 = c := by omega
                  rw [hdiv] at ha
                  by_cases hcn : len + n ≤ c
                  · rw [if_pos hcn] at ha
                    cases ro with
                    | true => simp at ha
                    | false =>
                      simp only [Bool.false_eq_true, if_false, Option.some.injEq, Prod.mk.injEq] at ha
                      obtain ⟨rfl, rfl⟩ := ha
                      have hfz := k5 rfl
                      subst hfz
                      by_cases hc0 : c = 0
                      · -- nothing at all
                        have hn0 : n = 0 := by omega
                        have hl0 : len = 0 := by omega
                        subst hc0; subst hn0; subst hl0
                        have hxs : xs' = [] := by
                          have : xs'.length = 0 := by simpa using r3
                          exact List.length_eq_zero_iff.1 this
                        subst hxs
                        have hnw : news = [] := List.length_eq_zero_iff.1 r1
                        subst hnw
                        refine ⟨φ, _, w, append_in w ht hu hd hi (hlen w) (r5 w rfl) (by omega) (w' := w) (fun a _ => by simp [storeCells]) (by simp), .slice hl (by omega) h2 h3 h4, ?_⟩
                        refine (Step.refl h).of_get rfl fun m q hq => ?_
                        rw [St.get_put] at hq
                        by_cases hm : m = b
                        · subst hm
                          rw [if_pos rfl, hb] at hq
                          simp at hq
                          rw [hb, ← hq]
                        · rw [if_neg hm] at hq; exact hq
                      · have haddr := h3 hc0
                        subst haddr
                        have hcapsz : (i + len + n) * inf.size ≤ l.cap * inf.size := Nat.mul_le_mul_right _ (by omega)
                        have hst := run_storeCells_at P l.blk (l.off + i * l.sz + len * inf.size) e' xs' 0 cs w hh (by
                          rw [Nat.add_mul, Nat.add_mul] at hcapsz
                          rw [k1, r3]; omega) (ones_of r2 r4)
                        have eo : l.off + i * l.sz + len * inf.size + 0 = l.off + (i + len) * inf.size := by rw [k1, Nat.add_mul]; omega
                        have hst' : (storeCells ((⟨l.blk, l.off + i * l.sz, none⟩ : Addr).add (len * inf.size)) xs').run P w = .ok () (w.setRow l.blk (cs.toList.take (l.off + (i + len) * inf.size) ++ xs' ++ cs.toList.drop (l.off + (i + len) * inf.size + xs'.length)).toArray) := by
                          rw [Addr.add_mid, hst, eo]
                        refine ⟨φ, _, _, append_in w ht hu hd hi (hlen w) (r5 w rfl) hcn (fun a ha => by cases ha; exact hst') (by simp), .slice hl hcn h2 (fun _ => rfl) h4, put_step h hb rfl hl ?_ (fun c hc => setRow_other w l.blk c _ hc) (by simp) rfl rfl rfl⟩
                        refine rows_put (i := i + len) (n := n) (.refl _) hB hh r2 r1 r4 (by omega) rfl rfl rfl rfl (by simp [r1]; omega) fun m q hq => ?_
                        by_cases hm : m < i + len
                        · right
                          rw [List.append_assoc, List.getElem?_append_left (by simp; omega), List.getElem?_take, if_pos hm] at hq
                          exact ⟨.inl hm, hq⟩
                        · have hlt : (rows.take (i + len)).length = i + len := by simp; omega
                          rw [List.append_assoc, List.getElem?_append_right (by omega), hlt] at hq
                          by_cases hm2 : m < i + len + n
                          · left
                            rw [List.getElem?_append_left (by omega)] at hq
                            exact ⟨by omega, hm2, hq⟩
                          · right
                            rw [List.getElem?_append_right (by omega), List.getElem?_drop] at hq
                            refine ⟨.inr (by omega), ?_⟩
                            rw [← hq]; congr 1; omega
                  · rw [if_neg hcn] at ha
                    simp only [Option.some.injEq, Prod.mk.injEq] at ha
                    obtain ⟨rfl, rfl⟩ := ha
                    exact hfresh (by omega)
              · rw [if_neg hbd] at ha; simp at ha
            · rw [if_neg hc] at ha; simp at ha
      | _ => simp at ha

end Go.Sim
set_option linter.unusedSimpArgs false
namespace Go.Sim

section
variable {P : Program} (w : World)

theorem run_isAgg {t : TypeId} {b : Bool} (h : aggT P t = some b) : (isAgg t).run P w = .ok b w := by
  unfold aggT at h
  cases hu : P.underlying t with
  | none => simp [hu] at h
  | some d => cases d <;> simp [hu] at h <;> subst h <;> simp [isAgg, run_underlying hu]

theorem run_sizeOf {t : TypeId} {n : Nat} (h : sizeT P t = some n) : (sizeOf t).run P w = .ok n w := by
  unfold sizeT at h
  cases hi : P.info? t with
  | none => simp [hi] at h
  | some i => simp [hi] at h; subst h; simp [sizeOf, typeInfo, hi]

theorem run_zeroValue {t : TypeId} {z : Value} (h : zeroT P t = some z) : (zeroValue t).run P w = .ok z w := by
  unfold zeroT at h
  cases hi : P.info? t with
  | none => simp [hi] at h
  | some i => simp [hi] at h; simp [zeroValue, typeInfo, hi, h]

theorem run_part_one {t : TypeId} {cs : List Value} {off : Nat} {v : Value} (h : aggT P t = some false) (hv : cs[off]? = some v) : (part t ⟨cs⟩ off).run P w = .ok v w := by
  simp [part, run_isAgg w h, hv]

theorem run_part_agg {t : TypeId} {cs : List Value} {off n : Nat} (h : aggT P t = some true) (hn : sizeT P t = some n) : (part t ⟨cs⟩ off).run P w = .ok (.agg ⟨(cs.drop off).take n⟩) w := by
  simp only [part, Sem.run_bind, run_isAgg w h, Result.andThen_ok, if_true, run_sizeOf w hn, Sem.run_pure]
  congr 2
  apply Array.ext'
  simp

/-! ### '==' -/

theorem eqks_append : ∀ {ks ls : List Nat} {xs ys xs2 ys2 : List Value} {b c : Bool}, eqks ks xs ys = some b → eqks ls xs2 ys2 = some c → eqks (ks ++ ls) (xs ++ xs2) (ys ++ ys2) = some (b && c)
  | [], ls, [], [], xs2, ys2, b, c, h, h' => by simp [eqks] at h; subst h; simpa using h'
  | k :: ks, ls, x :: xs, y :: ys, xs2, ys2, b, c, h, h' => by
    simp only [eqks] at h
    cases h1 : eqk k x y with
    | none => simp [h1] at h
    | some p =>
      cases h2 : eqks ks xs ys with
      | none => simp [h1, h2] at h
      | some q =>
        simp [h1, h2] at h
        subst h
        have := eqks_append h2 h'
        simp [eqks, h1, this, Bool.and_assoc]
  | [], ls, _ :: _, _, _, _, _, _, h, _ => by simp [eqks] at h
  | [], ls, [], _ :: _, _, _, _, _, h, _ => by simp [eqks] at h
  | _ :: _, ls, [], _, _, _, _, _, h, _ => by simp [eqks] at h
  | _ :: _, ls, _ :: _, [], _, _, _, _, h, _ => by simp [eqks] at h

theorem eqks_split : ∀ {ks ls : List Nat} {xs ys : List Value} {b : Bool}, eqks (ks ++ ls) xs ys = some b →
    ∃ p q, eqks ks (xs.take ks.length) (ys.take ks.length) = some p ∧ eqks ls (xs.drop ks.length) (ys.drop ks.length) = some q ∧ b = (p && q)
  | [], ls, xs, ys, b, h => ⟨true, b, by simp [eqks], by simpa using h, by simp⟩
  | k :: ks, ls, [], ys, b, h => by cases ys <;> simp [eqks] at h
  | k :: ks, ls, x :: xs, [], b, h => by simp [eqks] at h
  | k :: ks, ls, x :: xs, y :: ys, b, h => by
    simp only [List.cons_append, eqks] at h
    cases h1 : eqk k x y with
    | none => simp [h1] at h
    | some p =>
      cases h2 : eqks (ks ++ ls) xs ys with
      | none => simp [h1, h2] at h
      | some q =>
        simp [h1, h2] at h
        subst h
        obtain ⟨p2, q2, e1, e2, e3⟩ := eqks_split h2
        exact ⟨p && p2, q2, by simp [eqks, h1, e1], by simpa using e2, by rw [e3, Bool.and_assoc]⟩

theorem eqks_len : ∀ {ks : List Nat} {xs ys : List Value} {b : Bool}, eqks ks xs ys = some b → xs.length = ks.length ∧ ys.length = ks.length
  | [], [], [], _, _ => ⟨rfl, rfl⟩
  | _ :: ks, x :: xs, y :: ys, b, h => by
    unfold eqks at h
    cases h1 : eqk _ x y with
    | none => rw [h1] at h; simp at h
    | some p =>
      cases h2 : eqks ks xs ys with
      | none => rw [h1, h2] at h; simp at h
      | some q => have := eqks_len h2; exact ⟨by simp [this.1], by simp [this.2]⟩
  | [], _ :: _, _, _, h => by simp [eqks] at h
  | [], [], _ :: _, _, h => by simp [eqks] at h
  | _ :: _, [], _, _, h => by simp [eqks] at h
  | _ :: _, _ :: _, [], _, h => by simp [eqks] at h

theorem beq_bytes (s t : ByteArray) : (s == t) = decide (s = t) := by
  rw [beq_toListBytes, ByteArray.toList_eq, ByteArray.toList_eq]
  obtain ⟨⟨x⟩⟩ := s
  obtain ⟨⟨y⟩⟩ := t
  rw [Bool.eq_iff_iff]
  simp

/-- In one cell. -/
theorem eqk_sound {φ : Phi} {t : TypeId} {k : Nat} {x x' y y' : Value} {b : Bool} (d : Nat) (dsc : TypeDesc) (hu : P.underlying t = some dsc)
    (hk : (dsc = .bool ∧ k = 0) ∨ (∃ i, dsc = .int i ∧ k = 1) ∨ (dsc = .string ∧ k = 2) ∨ (∃ e, dsc = .pointer e ∧ k = 3) ∨ (∃ e, dsc = .slice e ∧ k = 4) ∨ (∃ a e, dsc = .map a e ∧ k = 5) ∨ (∃ a r v, dsc = .func a r v ∧ k = 6))
    (hx : VRel φ x x') (hy : VRel φ y y') (he : eqk k x y = some b) : (Op.equalIn (d + 1) t x' y').run P w = .ok b w := by
  unfold eqk at he
  split at he
  · obtain rfl : dsc = .bool := by simpa using hk
    cases hx; cases hy
    simp only [Option.some.injEq] at he; subst he
    simp [Op.equalIn, run_underlying hu]
  · obtain ⟨i, rfl⟩ : ∃ i, dsc = .int i := by simpa using hk
    cases hx; cases hy
    split at he
    · rename_i hkk; subst hkk
      simp only [Option.some.injEq] at he; subst he
      simp [Op.equalIn, run_underlying hu]
    · simp at he
  · obtain rfl : dsc = .string := by simpa using hk
    cases hx; cases hy
    rename_i s t'
    simp only [Option.some.injEq] at he; subst he
    simp only [Op.equalIn, run_underlying hu, Sem.run_bind, Result.andThen_ok, Sem.run_pure]
    rw [beq_bytes]
  · obtain ⟨i, rfl⟩ : ∃ i, dsc = .pointer i := by simpa using hk
    simp only [Option.some.injEq] at he; subst he
    cases hx; cases hy <;> simp [Op.equalIn, run_underlying hu]
  · obtain ⟨i, rfl⟩ : ∃ i, dsc = .pointer i := by simpa using hk
    simp only [Option.some.injEq] at he; subst he
    cases hx; cases hy; simp [Op.equalIn, run_underlying hu]
  · obtain ⟨i, rfl⟩ : ∃ i, dsc = .slice i := by simpa using hk
    simp only [Option.some.injEq] at he; subst he
    cases hx; cases hy <;> simp [Op.equalIn, run_underlying hu]
  · obtain ⟨i, rfl⟩ : ∃ i, dsc = .slice i := by simpa using hk
    simp only [Option.some.injEq] at he; subst he
    cases hx; cases hy; simp [Op.equalIn, run_underlying hu]
  · obtain ⟨a, e, rfl⟩ : ∃ a e, dsc = .map a e := by simpa using hk
    simp only [Option.some.injEq] at he; subst he
    cases hx; cases hy <;> simp [Op.equalIn, run_underlying hu]
  · obtain ⟨a, e, rfl⟩ : ∃ a e, dsc = .map a e := by simpa using hk
    simp only [Option.some.injEq] at he; subst he
    cases hx; cases hy; simp [Op.equalIn, run_underlying hu]
  · obtain ⟨a, r, v, rfl⟩ : ∃ a r v, dsc = .func a r v := by simpa using hk
    simp only [Option.some.injEq] at he; subst he
    cases hx; cases hy; simp [Op.equalIn, run_underlying hu]
  · obtain ⟨a, r, v, rfl⟩ : ∃ a r v, dsc = .func a r v := by simpa using hk
    simp only [Option.some.injEq] at he; subst he
    cases hx; cases hy; simp [Op.equalIn, run_underlying hu]
  · obtain ⟨a, r, v, rfl⟩ : ∃ a r v, dsc = .func a r v := by simpa using hk
    simp only [Option.some.injEq] at he; subst he
    cases hx; cases hy; simp [Op.equalIn, run_underlying hu]
  · simp at he

/-- The field after field. -/
theorem kinds_fields {φ : Phi} {F : TypeId → Option (List Nat)} {d : Nat}
    (hA : ∀ t ks, F t = some ks → aggT P t = some true ∨ (aggT P t = some false ∧ ∃ k, ks = [k]))
    (hF : ∀ t ks, F t = some ks → ∀ {agg : Bool} {x x' y y' : Value} {b : Bool}, aggT P t = some agg → VRel φ x x' → VRel φ y y' → eqT ks agg x y = some b → (Op.equalIn d t x' y').run P w = .ok b w)
    {xs ys xs' ys' : List Value} (hx : VsRel φ xs xs') (hy : VsRel φ ys ys') (h1 : oneCs xs = true) (h2 : oneCs ys = true) :
    ∀ (fs : List Field) (o : Nat) (ks : List Nat) (b : Bool), kindsFs P F fs o = some ks → eqks ks (xs.drop o) (ys.drop o) = some b → (Op.eqFields d ⟨xs'⟩ ⟨ys'⟩ fs).run P w = .ok b w
  | [], o, ks, b, hk, he => by
    simp only [kindsFs, Option.some.injEq] at hk
    subst hk
    have := eqks_len he
    cases hxs : xs.drop o <;> cases hys : ys.drop o <;> simp_all [eqks, Op.eqFields]
  | f :: fs, o, ks, b, hk, he => by
    simp only [kindsFs] at hk
    split at hk
    · rename_i hof
      simp only [Bool.and_eq_true, beq_iff_eq, bne_iff_ne, ne_eq] at hof
      obtain ⟨rfl, hnm⟩ := hof
      split at hk
      · rename_i fk n hfk hn
        split at hk
        · rename_i hlen
          split at hk
          · rename_i qs hqs
            simp only [Option.some.injEq] at hk
            subst hk
            obtain ⟨p, q, e1, e2, rfl⟩ := eqks_split he
            rw [List.drop_drop, List.drop_drop, hlen] at e2
            have ih := kinds_fields hA hF hx hy h1 h2 fs (f.offset + n) qs q hqs e2
            have hl := eqks_len e1
            -- the part
            have hfield : ∃ a b', (part f.type ⟨xs'⟩ f.offset).run P w = .ok a w ∧ (part f.type ⟨ys'⟩ f.offset).run P w = .ok b' w ∧ (Op.equalIn d f.type a b').run P w = .ok p w := by
              rcases hA f.type fk hfk with hagg | ⟨hagg, k, rfl⟩
              · refine ⟨_, _, run_part_agg w hagg hn, run_part_agg w hagg hn, hF f.type fk hfk (agg := true) (x := .agg ⟨(xs.drop f.offset).take n⟩) (y := .agg ⟨(ys.drop f.offset).take n⟩) hagg (.agg ((hx.drop _).take _) (oneCs_take _ (oneCs_drop _ h1))) (.agg ((hy.drop _).take _) (oneCs_take _ (oneCs_drop _ h2))) ?_⟩
                rw [hlen] at e1
                exact e1
              · simp only [List.length_singleton] at e1 hl
                cases hxs : xs[f.offset]? with
                | none =>
                  have : (xs.drop f.offset) = [] := by
                    apply List.drop_eq_nil_of_le
                    exact List.getElem?_eq_none_iff.1 hxs
                  rw [this] at hl; simp at hl
                | some u =>
                  cases hys : ys[f.offset]? with
                  | none =>
                    have : (ys.drop f.offset) = [] := by
                      apply List.drop_eq_nil_of_le
                      exact List.getElem?_eq_none_iff.1 hys
                    rw [this] at hl; simp at hl
                  | some v =>
                    obtain ⟨u', a1, a2⟩ := hx.get hxs
                    obtain ⟨v', b1, b2⟩ := hy.get hys
                    have ex : (xs.drop f.offset).take 1 = [u] := by
                      rw [List.take_one, List.head?_drop, hxs]; rfl
                    have ey : (ys.drop f.offset).take 1 = [v] := by
                      rw [List.take_one, List.head?_drop, hys]; rfl
                    rw [ex, ey] at e1
                    have e1' : eqT [k] false u v = some p := by
                      simp only [eqks] at e1
                      cases hq : eqk k u v with
                      | none => rw [hq] at e1; simp at e1
                      | some q => rw [hq] at e1; simp at e1; subst e1; simp [eqT, hq]
                    exact ⟨u', v', run_part_one w hagg a1, run_part_one w hagg b1, hF f.type [k] hfk hagg a2 b2 e1'⟩
            obtain ⟨a, b', g1, g2, g3⟩ := hfield
            simp only [Op.eqFields, if_pos hnm, Sem.run_bind, g1, g2, g3, Result.andThen_ok]
            cases p
            · simp
            · simpa using ih
          · simp at hk
        · simp at hk
      · simp at hk
    · simp at hk

theorem kindsFs_ne {F : TypeId → Option (List Nat)} : ∀ (fs : List Field) (o : Nat) (ks : List Nat), kindsFs P F fs o = some ks → True := fun _ _ _ _ => trivial

theorem kindsT_agg : ∀ (d : Nat) (t : TypeId) (ks : List Nat), kindsT P d t = some ks → aggT P t = some true ∨ (aggT P t = some false ∧ ∃ k, ks = [k])
  | 0, t, ks, h => by simp [kindsT] at h
  | d + 1, t, ks, h => by
    unfold kindsT at h
    unfold aggT
    split at h <;> rename_i hu <;> (try rw [hu]) <;> simp at h <;> (try subst h) <;> simp

/-- '==' of values of such a type. -/
theorem eqT_sound {φ : Phi} : ∀ (d : Nat) (t : TypeId) (ks : List Nat), kindsT P d t = some ks → ∀ (n : Nat), d ≤ n → ∀ {agg : Bool} {x x' y y' : Value} {b : Bool}, aggT P t = some agg → VRel φ x x' → VRel φ y y' →
    eqT ks agg x y = some b → (Op.equalIn n t x' y').run P w = .ok b w
  | 0, t, ks, hk, _, _, _, _, _, _, _, _, _, _, _, _ => by simp [kindsT] at hk
  | d + 1, t, ks, hk, n, hn, agg, x, x', y, y', b, ha, hx, hy, he => by
    obtain ⟨n, rfl⟩ : ∃ m, n = m + 1 := ⟨n - 1, by omega⟩
    unfold kindsT at hk
    unfold aggT at ha
    split at hk <;> rename_i hu
    case h_8 =>
      rename_i fs
      rw [hu] at ha
      simp only [Option.some.injEq] at ha
      subst ha
      split at hk
      · simp at hk
      · rename_i hst
        simp only [eqT] at he
        split at he
        · rename_i xs ys
          cases hx with
          | agg hx h1 =>
            cases hy with
            | agg hy h2 =>
              have hf : P.fieldsOf t = fs := by simp [Program.fieldsOf, hu]
              rw [run_equalIn_struct (P := P) w n t _ _ (by rw [hf]; exact hu) (by simpa using hst), hf]
              exact kinds_fields w (kindsT_agg d) (fun t ks hk agg x x' y y' b ha hx hy he => eqT_sound d t ks hk n (by omega) ha hx hy he) hx hy h1 h2 fs.toList 0 ks b hk (by simpa using he)
        · simp at he
    all_goals first
      | (simp at hk; done)
      | (rw [hu] at ha
         simp only [Option.some.injEq] at ha hk
         subst ha; subst hk
         simp only [eqT] at he
         exact eqk_sound w n _ hu (by simp) hx hy he)

theorem run_binEq {t : TypeId} {x y : Value} {b : Bool} (neg : Bool)
    (hx : (∀ k a, x ≠ .int k a) ∧ (∀ k a, x ≠ .float k a) ∧ (∀ k a c, x ≠ .complex k a c) ∧ (∀ a, x ≠ .string a))
    (h : (Op.equal t x y).run P w = .ok b w) : (binOp (if neg then .neq else .eql) t x y).run P w = .ok (.bool (if neg then !b else b)) w := by
  obtain ⟨g1, g2, g3, g4⟩ := hx
  cases x <;> first
    | exact absurd rfl (g1 _ _)
    | exact absurd rfl (g2 _ _)
    | exact absurd rfl (g3 _ _ _)
    | exact absurd rfl (g4 _)
    | (cases neg <;> simp [binOp, h])

theorem eqT_false {ks : List Nat} {x y : Value} {b : Bool} (h : eqT ks false x y = some b) : ∃ k, ks = [k] ∧ eqk k x y = some b := by
  simp only [eqT] at h
  split at h
  · exact ⟨_, rfl, h⟩
  · simp at h

theorem eqT_true {ks : List Nat} {x y : Value} {b : Bool} (h : eqT ks true x y = some b) : ∃ xs ys, x = .agg ⟨xs⟩ ∧ y = .agg ⟨ys⟩ ∧ eqks ks xs ys = some b := by
  simp only [eqT] at h
  split at h
  · exact ⟨_, _, rfl, rfl, h⟩
  · simp at h

/-- '==' and '!='. -/
theorem eqb_sound {φ : Phi} {t : TypeId} {ks : List Nat} {agg neg : Bool} {x x' y y' r : Value} (hk : eqOk P t = some (ks, agg)) (hx : VRel φ x x') (hy : VRel φ y y') (he : eqb ks agg neg x y = some r) (xo yo : Operand) :
    ∃ b : Bool, r = .bool b ∧ (eqGuard (if neg then .neq else .eql) t xo yo x' y').run P w = .ok () w ∧ (binOp (if neg then .neq else .eql) t x' y').run P w = .ok (.bool b) w := by
  simp only [eqb, Option.map_eq_some_iff] at he
  obtain ⟨b0, hb, rfl⟩ := he
  refine ⟨if neg then !b0 else b0, by cases neg <;> rfl, ?_⟩
  unfold eqOk at hk
  split at hk
  · rename_i ks' hks ha
    split at hk
    · simp at hk
    · rename_i hg
      simp only [Option.some.injEq, Prod.mk.injEq] at hk
      obtain ⟨rfl, rfl⟩ := hk
      have heq := eqT_sound w 9 t ks' hks 10000 (by omega) ha hx hy hb
      obtain ⟨xs, ys, rfl, rfl, _⟩ := eqT_true hb
      cases hx; cases hy
      exact ⟨run_eqGuard_agg w _ t xo yo _ _ (by simpa using hg), run_binEq w neg (by simp) heq⟩
  · rename_i ks' hks ha
    simp only [Option.some.injEq, Prod.mk.injEq] at hk
    obtain ⟨rfl, rfl⟩ := hk
    have heq := eqT_sound w 9 t ks' hks 10000 (by omega) ha hx hy hb
    obtain ⟨k, rfl, hb2⟩ := eqT_false hb
    clear hb
    rename eqk k x y = some b0 => hb
    unfold eqk at hb
    split at hb
    · cases hx; cases hy
      exact ⟨by cases neg <;> simp [eqGuard], run_binEq w neg (by simp) heq⟩
    · split at hb
      · rename_i hkk; subst hkk
        cases hx; cases hy
        simp only [Option.some.injEq] at hb; subst hb
        exact ⟨by cases neg <;> simp [eqGuard], by cases neg <;> simp [binOp, Op.intCmp, bne]⟩
      · simp at hb
    · cases hx; cases hy
      rename_i s t'
      simp only [Option.some.injEq] at hb; subst hb
      refine ⟨by cases neg <;> simp [eqGuard], ?_⟩
      have := beq_bytes s t'
      rw [beq_toListBytes] at this
      cases neg <;> simp [binOp, Op.stringOp, this]
    · cases hx; cases hy <;> exact ⟨by cases neg <;> simp [eqGuard], run_binEq w neg (by simp) heq⟩
    · cases hx; cases hy; exact ⟨by cases neg <;> simp [eqGuard], run_binEq w neg (by simp) heq⟩
    · cases hx; cases hy <;> exact ⟨by cases neg <;> simp [eqGuard], run_binEq w neg (by simp) heq⟩
    · cases hx; cases hy; exact ⟨by cases neg <;> simp [eqGuard], run_binEq w neg (by simp) heq⟩
    · cases hx; cases hy <;> exact ⟨by cases neg <;> simp [eqGuard], run_binEq w neg (by simp) heq⟩
    · cases hx; cases hy; exact ⟨by cases neg <;> simp [eqGuard], run_binEq w neg (by simp) heq⟩
    · cases hx; cases hy; exact ⟨by cases neg <;> simp [eqGuard], run_binEq w neg (by simp) heq⟩
    · cases hx; cases hy; exact ⟨by cases neg <;> simp [eqGuard], run_binEq w neg (by simp) heq⟩
    · cases hx; cases hy; exact ⟨by cases neg <;> simp [eqGuard], run_binEq w neg (by simp) heq⟩
    · simp at hb
  · simp at hk

theorem iface_eq {t : TypeId} {ms : Array (String × TypeId)} (hu : P.underlying t = some (.interface ms)) (d : Nat) : (Op.equalIn (d + 1) t .nilIface .nilIface).run P w = .ok true w ∧
    (∀ a v, (Op.equalIn (d + 1) t .nilIface (.iface a v)).run P w = .ok false w) ∧ ∀ a v, (Op.equalIn (d + 1) t (.iface a v) .nilIface).run P w = .ok false w := by
  refine ⟨?_, fun a v => ?_, fun a v => ?_⟩ <;> simp [Op.equalIn, run_underlying hu]

theorem eqI_sound {φ : Phi} {t : TypeId} {neg : Bool} {x x' y y' r : Value} {xo yo : Operand} (hc : ifaceC P t xo yo = true) (hx : VRel φ x x') (hy : VRel φ y y') (he : eqI neg x y = some r) :
    ∃ b : Bool, r = .bool b ∧ (eqGuard (if neg then .neq else .eql) t xo yo x' y').run P w = .ok () w ∧ (binOp (if neg then .neq else .eql) t x' y').run P w = .ok (.bool b) w := by
  unfold ifaceC at hc
  split at hc
  · rename_i ms hu
    obtain ⟨q1, q2, q3⟩ := iface_eq (P := P) w hu 9999
    have hg : (eqGuard (if neg then .neq else .eql) t xo yo .nilIface .nilIface).run P w = .ok () w := by
      cases neg <;> cases xo <;> cases yo <;> first | (have h0 : false = true := hc; cases h0) | simp [eqGuard]
    unfold eqI at he
    split at he
    · cases hx; cases hy
      simp only [Option.some.injEq] at he; subst he
      refine ⟨_, rfl, hg, ?_⟩
      have := run_binEq (P := P) w neg (t := t) (x := .nilIface) (y := .nilIface) (b := true) (by simp) q1
      cases neg <;> exact this
    · cases hx
      cases hy with
      | iface a h =>
        rename_i ti vi vi'
        simp only [Option.some.injEq] at he; subst he
        refine ⟨_, rfl, by cases neg <;> simp [eqGuard], ?_⟩
        have := run_binEq (P := P) w neg (t := t) (x := .nilIface) (y := .iface ti vi') (b := false) (by simp) (q2 _ _)
        cases neg <;> exact this
    · cases hy
      cases hx with
      | iface a h =>
        rename_i ti vi vi'
        simp only [Option.some.injEq] at he; subst he
        refine ⟨_, rfl, by cases neg <;> simp [eqGuard], ?_⟩
        have := run_binEq (P := P) w neg (t := t) (x := .iface ti vi') (y := .nilIface) (b := false) (by simp) (q3 _ _)
        cases neg <;> exact this
    · simp at he
  · simp at hc

theorem run0_run {α : Type} {m : Sem α} {a : α} (h : run0 m = some a) : m.run P w = .ok a w := by
  cases m <;> simp [run0] at h
  subst h
  rfl

end

theorem run0_pure {α : Type} (a : α) : run0 (Pure.pure a : Sem α) = some a := rfl
theorem run0_ite {α : Type} (c : Prop) [Decidable c] (x y : Sem α) : run0 (if c then x else y) = if c then run0 x else run0 y := by split <;> rfl
theorem run0_stuck {α : Type} (s : String) : run0 (stuck s : Sem α) = none := rfl
theorem run0_panic {α : Type} (e : RuntimeError) : run0 (runtimePanic e : Sem α) = none := rfl
theorem run0_bind {α β : Type} (x : α) (f : α → Sem β) : run0 ((Pure.pure x : Sem α) >>= f) = run0 (f x) := rfl

theorem bin_int {op : BinOp} {k k' : IntKind} {a c : Int} {r : Value} (he : run0 (binOp op 0 (.int k a) (.int k' c)) = some r) : (∃ k n, r = .int k n) ∨ ∃ b, r = .bool b := by
  by_cases hk : k = k'
  · subst hk
    cases op <;> simp [binOp, Op.shift, Op.intArith, Op.intDiv, Op.intBits, Op.intCmp, run0_pure, run0_ite, run0_stuck, run0_panic] at he <;>
      first
        | exact .inl ⟨_, _, he.symm⟩
        | exact .inl ⟨_, _, he.2.symm⟩
        | exact .inr ⟨_, he.symm⟩
  · cases op <;> simp [binOp, hk, Op.shift, Op.intArith, Op.intDiv, Op.intBits, Op.intCmp, run0_pure, run0_ite, run0_stuck, run0_panic] at he <;>
      first
        | exact .inl ⟨_, _, he.symm⟩
        | exact .inl ⟨_, _, he.2.symm⟩
        | exact .inr ⟨_, he.symm⟩

section
variable {P : Program} (w : World)

theorem bin_sound {φ : Phi} {op : BinOp} {t : TypeId} {x x' y y' r : Value} (hop : op ≠ .eql) (hop2 : op ≠ .neq) (hx : VRel φ x x') (hy : VRel φ y y') (he : bin op x y = some r) (xo yo : Operand) :
    plainV r = true ∧ (eqGuard op t xo yo x' y').run P w = .ok () w ∧ (binOp op t x' y').run P w = .ok r w := by
  have hg : (eqGuard op t xo yo x' y').run P w = .ok () w := by
    cases op <;> first | exact absurd rfl hop | exact absurd rfl hop2 | simp [eqGuard]
  unfold bin at he
  split at he
  · cases hx; cases hy
    rename_i k a k' c
    have hb : binOp op t (.int k a) (.int k' c) = binOp op 0 (.int k a) (.int k' c) := by cases op <;> rfl
    refine ⟨?_, hg, by rw [hb]; exact run0_run w he⟩
    rcases bin_int he with ⟨k, n, rfl⟩ | ⟨b, rfl⟩ <;> rfl
  · cases hx; cases hy
    rename_i a c
    have hbq : (a.toList == c.toList) = decide (a = c) := by rw [← beq_toListBytes]; exact beq_bytes a c
    have hl : ∀ b : ByteArray, b.toList = b.data.toList := ByteArray.toList_eq
    split at he
    · split at he
      · rename_i hsz
        simp only [Option.some.injEq] at he; subst he
        have : ¬ (((a.size + c.size : Nat) : Int) > IntKind.i64.max) := by
          simp [IntKind.max, IntKind.signed, IntKind.bits]; omega
        exact ⟨rfl, hg, by simp only [binOp, Op.stringOp, if_neg this, Sem.run_pure]⟩
      · simp at he
    all_goals first
      | (simp only [Option.some.injEq] at he; subst he
         refine ⟨rfl, hg, ?_⟩
         simp only [binOp, Op.stringOp, Sem.run_pure]
         (try rw [hbq])
         simp only [hl])
      | (simp at he; done)
  · simp at he

theorem un_sound {φ : Phi} {op : UnOp} {x x' r : Value} (hx : VRel φ x x') (he : un op x = some r) : plainV r = true ∧ (Op.unary op x').run P w = .ok r w := by
  unfold un at he
  split at he
  · cases hx
    refine ⟨?_, run0_run w he⟩
    cases op <;> simp [Op.unary, Op.intArith, Op.intBits, run0_pure, run0_stuck] at he <;> subst he <;> rfl
  · cases hx
    refine ⟨?_, run0_run w he⟩
    cases op <;> simp [Op.unary, run0_pure, run0_stuck] at he <;> subst he <;> rfl
  · simp at he

end

end Go.Sim
set_option linter.unusedSimpArgs false
namespace Go.Sim

section
variable {P : Program} (w : World)

theorem isNat_rel {φ : Phi} {v v' : Value} {n : Nat} (h : VRel φ v v') (hn : isNat v = some n) : ∃ k, v' = .int k (n : Int) := by
  cases h <;> simp [isNat] at hn
  obtain ⟨h0, rfl⟩ := hn
  rename_i k i
  exact ⟨k, by congr 1; omega⟩

theorem run_bound {φ : Phi} {v v' : Value} {n y : Nat} (code : BoundsCode) (h : VRel φ v v') (hn : isNat v = some n) (hy : n ≤ y) : (Instr.sliceBound v' y code).run P w = .ok n w := by
  obtain ⟨k, rfl⟩ := isNat_rel h hn
  have : (0 : Int) ≤ n ∧ (n : Int) ≤ y := by omega
  simp [Instr.sliceBound, asIntOf, this]

theorem idxA_run {t e : TypeId} {n sz : Nat} {ad : Addr} {kk : IntKind} {k : Int} (ht : P.underlying t = some (.array n e)) (hs : sizeT P e = some sz) (hk : 0 ≤ k ∧ k < n) :
    (Instr.indexAt t (.pointer (some ad)) (.int kk k)).run P w = .ok (.pointer (some (ad.add (k.toNat * sz)))) w := by
  simp [Instr.indexAt, asIntOf, Instr.sureAddr, run_underlying ht, hk.1, hk.2, run_sizeOf w hs]

theorem idxA_sound {φ : Phi} {t e : TypeId} {n sz : Nat} {v v' i i' r : Value} (ht : P.underlying t = some (.array n e)) (hs : sizeT P e = some sz) (hv : VRel φ v v') (hi : VRel φ i i') (hx : idxA n sz v i = some r) :
    ∃ r', (Instr.indexAt t v' i').run P w = .ok r' w ∧ VRel φ r r' := by
  unfold idxA at hx
  split at hx
  · rename_i b i0 j kk k
    cases hi
    cases hv with
    | ptr hl =>
      rename_i l
      split at hx
      · rename_i hk
        simp only [Option.some.injEq] at hx
        subst hx
        refine ⟨_, idxA_run w ht hs hk, ?_⟩
        have := VRel.ptr (i := i0) (j := j + k.toNat * sz) hl
        simpa [Addr.add_mid, Nat.add_assoc] using this
      · simp at hx
  · simp at hx

theorem idx_sound {φ : Phi} {s : St} {t e : TypeId} {n : Nat} {v v' i i' r : Value} (h : Rel φ s w) (ht : P.underlying t = some (.slice e)) (hn : sizeT P e = some n) (hv : VRel φ v v') (hi : VRel φ i i')
    (hx : idx s n v i = some r) : ∃ r', (Instr.indexAt t v' i').run P w = .ok r' w ∧ VRel φ r r' := by
  unfold idx at hx
  split at hx
  · rename_i b i0 len ec k m
    cases hi
    cases hv with
    | @slice _ _ _ _ c a l hl h1 h2 h3 h4 =>
      split at hx
      · rename_i hm
        cases hb : s.get b with
        | none => simp [hb] at hx
        | some blk =>
          cases blk with
          | map es ro => simp [hb] at hx
          | row sz' rows ro =>
            simp only [hb] at hx
            split at hx
            · rename_i hsz
              subst hsz
              simp only [Option.some.injEq] at hx
              subst hx
              obtain ⟨l2, g2, hB⟩ := h.blk b _ hb
              rw [hl] at g2
              simp only [Option.some.injEq] at g2
              subst g2
              have hc : c ≠ 0 := by omega
              rw [h3 hc]
              refine ⟨.pointer (some ⟨l.blk, l.off + (i0 + m.toNat) * l.sz + 0, none⟩), ?_, .ptr hl⟩
              have hm' : (0 : Int) ≤ m ∧ m < (len : Int) := hm
              simp only [Instr.indexAt, asIntOf, Sem.run_bind, Sem.run_pure, Result.andThen_ok, run_underlying ht, Sem.run_ite, if_pos hm', run_sizeOf w hn, Addr.add_mid]
              congr 4
              rw [hB.1, Nat.add_mul]; omega
            · simp at hx
      · simp at hx
  · simp at hx

theorem fld_sound {φ : Phi} {t : TypeId} {fs : Array Field} {j : Nat} {f : Field} {n : Nat} {v v' r : Value} (ht : P.underlying t = some (.struct fs)) (hf : fs[j]? = some f) (hn : sizeT P f.type = some n) (hn0 : n ≠ 0)
    (hv : VRel φ v v') (hx : fld f.offset v = some r) : ∃ r', (Instr.fieldAt t v' j).run P w = .ok r' w ∧ VRel φ r r' := by
  unfold fld at hx
  split at hx
  · rename_i b i k
    cases hv with
    | @ptr _ _ _ l hl =>
      simp only [Option.some.injEq] at hx
      subst hx
      refine ⟨.pointer (some ⟨l.blk, l.off + i * l.sz + (k + f.offset), none⟩), ?_, .ptr hl⟩
      simp only [Instr.fieldAt, Sem.run_bind, run_underlying ht, Result.andThen_ok, hf, Instr.sureAddr, Sem.run_pure, fieldPlace, run_sizeOf w hn, hn0, if_false, Addr.add_mid, Nat.add_assoc]
  · simp at hx

/-- The same of the call's own variable. -/
theorem fld_lp {t : TypeId} {fs : Array Field} {j : Nat} {f : Field} {n c k : Nat} (ht : P.underlying t = some (.struct fs)) (hf : fs[j]? = some f) (hn : sizeT P f.type = some n) (hn0 : n ≠ 0) :
    (Instr.fieldAt t (.pointer (some ⟨c, k, none⟩)) j).run P w = .ok (.pointer (some ⟨c, k + f.offset, none⟩)) w := by
  simp only [Instr.fieldAt, Sem.run_bind, run_underlying ht, Result.andThen_ok, hf, Instr.sureAddr, Sem.run_pure, fieldPlace, run_sizeOf w hn, hn0, if_false, Addr.add_mid]

theorem prt_sound {φ : Phi} {t : TypeId} {fs : Array Field} {j : Nat} {f : Field} {n : Nat} {agg : Bool} {v v' r : Value} (ht : P.underlying t = some (.struct fs)) (hf : fs[j]? = some f) (hn : sizeT P f.type = some n) (ha : aggT P f.type = some agg)
    (hv : VRel φ v v') (hx : prt f.offset n agg v = some r) : ∃ r', (Instr.field t v' j).run P w = .ok r' w ∧ VRel φ r r' := by
  unfold prt at hx
  split at hx
  · rename_i l
    cases hv with
    | @agg _ l' hl h1 =>
      cases agg with
      | true =>
        simp only [if_true] at hx
        split at hx
        · simp only [Option.some.injEq] at hx
          subst hx
          refine ⟨_, ?_, .agg ((hl.drop _).take _) (oneCs_take _ (oneCs_drop _ h1))⟩
          simp only [Instr.field, Sem.run_bind, run_underlying ht, Result.andThen_ok, hf, asAgg, Sem.run_pure, run_part_agg w ha hn]
        · simp at hx
      | false =>
        simp only [Bool.false_eq_true, if_false] at hx
        obtain ⟨u, hu, hr⟩ := hl.get hx
        refine ⟨u, ?_, hr⟩
        simp only [Instr.field, Sem.run_bind, run_underlying ht, Result.andThen_ok, hf, asAgg, Sem.run_pure, run_part_one w ha hu]
  · simp at hx

theorem idxS_sound {φ : Phi} {t : TypeId} {v v' i i' r : Value} (ht : P.underlying t = some .string) (hv : VRel φ v v') (hi : VRel φ i i') (hx : idxS v i = some r) :
    plainV r = true ∧ (Instr.index t v' i').run P w = .ok r w := by
  unfold idxS at hx
  split at hx
  · rename_i s k n
    cases hv; cases hi
    split at hx
    · rename_i hn
      cases hb : s.data.toList[n.toNat]? with
      | none => simp [hb] at hx
      | some b =>
        simp only [hb, Option.map_some, Option.some.injEq] at hx
        subst hx
        refine ⟨rfl, ?_⟩
        have hb' : s[n.toNat]? = some b := by
          have hlt : n.toNat < s.data.toList.length := by
            rcases Nat.lt_or_ge n.toNat s.data.toList.length with h | h
            · exact h
            · rw [List.getElem?_eq_none h] at hb; simp at hb
          rw [getElem?_pos s n.toNat hlt, ← hb, List.getElem?_eq_getElem hlt]
          rfl
        simp [Instr.index, asIntOf, run_underlying ht, hn, hb']
    · simp at hx
  · simp at hx

/-! ### Slices -/

/-- Bounds that may be left out. -/
inductive ORel (φ : Phi) : Option Value → Option Value → Prop
  | none : ORel φ none none
  | some {v v' : Value} (h : VRel φ v v') : ORel φ (some v) (some v')

theorem slice_run {t e : TypeId} {n l h m len c : Nat} {a : Option Addr} {lo' hi' mx' : Option Value} (ht : P.underlying t = some (.slice e)) (hn : sizeT P e = some n)
    (hl : ∀ y code, l ≤ y → (match (generalizing := false) lo' with | some v => Instr.sliceBound v y code | none => pure 0 : Sem Nat).run P w = .ok l w)
    (hh : (hi' = none ∧ mx' = none ∧ h = len) ∨ ∃ v, hi' = some v ∧ ∀ y code, h ≤ y → (Instr.sliceBound v y code).run P w = .ok h w)
    (hm : (mx' = none ∧ m = c) ∨ ∃ v, mx' = some v ∧ ∀ y code, m ≤ y → (Instr.sliceBound v y code).run P w = .ok m w)
    (h1 : l ≤ h) (h2 : h ≤ m) (h3 : m ≤ c) (h4 : len ≤ c) :
    (Instr.sliceAt t (.slice a len c) lo' hi' mx').run P w = .ok (.slice (if m = l then a else a.map (·.add (l * n))) (h - l) (m - l)) w := by
  have hl1 := hl h .sliceB h1
  have hl2 := hl h .slice3C h1
  rcases hm with ⟨rfl, rfl⟩ | ⟨mv, rfl, hm⟩
  · rcases hh with ⟨rfl, _, rfl⟩ | ⟨hv, rfl, hh⟩
    · cases lo' <;> simp_all [Instr.sliceAt, run_underlying ht, Instr.slice, Instr.sliceBounds, run_sizeOf w hn]
    · have hh1 := hh m .sliceAcap h2
      cases lo' <;> simp_all [Instr.sliceAt, run_underlying ht, Instr.slice, Instr.sliceBounds, run_sizeOf w hn]
  · have hm1 := hm c .slice3Acap h3
    rcases hh with ⟨rfl, h0, rfl⟩ | ⟨hv, rfl, hh⟩
    · simp at h0
    · have hh1 := hh m .slice3B h2
      cases lo' <;> simp_all [Instr.sliceAt, run_underlying ht, Instr.slice, Instr.sliceBounds, run_sizeOf w hn]

theorem lo_run {φ : Phi} {lo lo' : Option Value} {l : Nat} (h : ORel φ lo lo') (hl : optN lo 0 = some l) : ∀ y code, l ≤ y → (match (generalizing := false) lo' with | some v => Instr.sliceBound v y code | none => pure 0 : Sem Nat).run P w = .ok l w := by
  intro y code hy
  cases h with
  | none => simp [optN] at hl; subst hl; simp
  | some h => exact run_bound w code h hl hy

theorem slc_sound {φ : Phi} {s : St} {t e : TypeId} {n : Nat} {v v' r : Value} {lo hi mx lo' hi' mx' : Option Value} (h : Rel φ s w) (ht : P.underlying t = some (.slice e)) (hn : sizeT P e = some n) (hv : VRel φ v v')
    (hlo : ORel φ lo lo') (hhi : ORel φ hi hi') (hmx : ORel φ mx mx') (hmh : mx ≠ none → hi ≠ none)
    (hx : slc s n v lo hi mx = some r) : ∃ r', (Instr.sliceAt t v' lo' hi' mx').run P w = .ok r' w ∧ VRel φ r r' := by
  unfold slc at hx
  cases hl : optN lo 0 with
  | none => simp [hl] at hx
  | some l =>
    simp only [hl, Option.bind_some] at hx
    have hlr := lo_run (P := P) w hlo hl
    split at hx
    · rename_i b i len ec
      cases hv with
      | @slice _ _ _ _ c a lc hlc h1 h2 h3 h4 =>
        cases hh : optN hi len with
        | none => simp [hh] at hx
        | some hb =>
          simp only [hh, Option.bind_some] at hx
          cases hg : s.get b with
          | none => simp [hg] at hx
          | some blk =>
            cases blk with
            | map es ro => simp [hg] at hx
            | row sz' rows ro =>
              simp only [hg] at hx
              split at hx
              · rename_i hc
                obtain ⟨rfl, hlh⟩ := hc
                obtain ⟨l2, g2, hB⟩ := h.blk b _ hg
                rw [hlc] at g2
                simp only [Option.some.injEq] at g2
                subst g2
                have hsz := hB.1
                have haddr : ∀ m, m ≤ c → (m - l ≠ 0) → (if m = l then some a else (some a).map (·.add (l * sz'))) = some ⟨lc.blk, lc.off + (i + l) * lc.sz, none⟩ := by
                  intro m hm hml
                  rw [if_neg (by omega), h3 (by omega)]
                  simp only [Option.map_some, Addr.add_mid, Option.some.injEq, Addr.mk.injEq, true_and, and_true]
                  rw [hsz, Nat.add_mul]; omega
                have hsome : ∀ m, ∃ a', (if m = l then some a else (some a).map (·.add (l * sz'))) = some a' := by
                  intro m; split <;> exact ⟨_, rfl⟩
                have hhr : (hi' = none ∧ mx' = none ∧ hb = len) ∨ ∃ v, hi' = some v ∧ ∀ y code, hb ≤ y → (Instr.sliceBound v y code).run P w = .ok hb w := by
                  cases hhi with
                  | none =>
                    left
                    simp only [optN, Option.some.injEq] at hh
                    refine ⟨rfl, ?_, hh.symm⟩
                    cases hmx with
                    | none => rfl
                    | some _ => exact absurd rfl (hmh (by simp))
                  | some hr => exact .inr ⟨_, rfl, fun y code hy => run_bound w code hr hh hy⟩
                cases hmx with
                | none =>
                  simp only at hx
                  by_cases he : ec = 1
                  · subst he
                    rw [if_pos rfl] at hx
                    split at hx
                    · rename_i hbl
                      simp only [Option.some.injEq] at hx
                      subst hx
                      have hci : i + c = lc.cap := by
                        rcases h4 with ⟨_, h4⟩ | h4
                        · exact h4
                        · omega
                      obtain ⟨a', ha'⟩ := hsome c
                      refine ⟨_, slice_run w ht hn hlr hhr (.inl ⟨rfl, rfl⟩) hlh (by omega) (Nat.le_refl _) h1, ?_⟩
                      rw [ha']
                      exact .slice hlc (by omega) (by omega) (fun hc0 => by rw [haddr c (Nat.le_refl _) hc0] at ha'; exact (Option.some.inj ha').symm) (.inl ⟨rfl, by omega⟩)
                    · simp at hx
                  · rw [if_neg he] at hx
                    have hec : ec = 2 * c := by
                      rcases h4 with ⟨h4, _⟩ | h4
                      · exact absurd h4 he
                      · exact h4
                    have hdiv : ec / 2 = c := by omega
                    rw [hdiv] at hx
                    split at hx
                    · rename_i hbl
                      simp only [Option.some.injEq] at hx
                      subst hx
                      obtain ⟨a', ha'⟩ := hsome c
                      refine ⟨_, slice_run w ht hn hlr hhr (.inl ⟨rfl, rfl⟩) hlh hbl (Nat.le_refl _) h1, ?_⟩
                      rw [ha']
                      exact .slice hlc (by omega) (by omega) (fun hc0 => by rw [haddr c (Nat.le_refl _) hc0] at ha'; exact (Option.some.inj ha').symm) (.inr rfl)
                    · simp at hx
                | @some mv mv' hr =>
                  simp only at hx
                  cases hm : isNat mv with
                  | none => simp [hm] at hx
                  | some m =>
                    simp only [hm, Option.bind_some] at hx
                    split at hx
                    · rename_i hc
                      simp only [Option.some.injEq] at hx
                      subst hx
                      have hmc : m ≤ c := by
                        rcases hc.2 with h | ⟨h, h'⟩
                        · omega
                        · rcases h4 with ⟨h4, _⟩ | h4
                          · exact absurd h4 h
                          · omega
                      obtain ⟨a', ha'⟩ := hsome m
                      refine ⟨_, slice_run w ht hn hlr hhr (.inr ⟨_, rfl, fun y code hy => run_bound w code hr hm hy⟩) hlh hc.1 hmc h1, ?_⟩
                      rw [ha']
                      exact .slice hlc (by omega) (by omega) (fun hc0 => by rw [haddr m hmc hc0] at ha'; exact (Option.some.inj ha').symm) (.inr rfl)
                    · simp at hx
              · simp at hx
    · cases hv
      cases hh : optN hi 0 with
      | none => simp [hh] at hx
      | some hb =>
        simp only [hh, Option.bind_some] at hx
        cases hmx with
        | some _ => simp at hx
        | none =>
          simp only at hx
          split at hx
          · rename_i hc
            simp only [Option.some.injEq] at hx
            subst hx
            obtain ⟨rfl, rfl⟩ := hc
            have hhr : (hi' = none ∧ (none : Option Value) = none ∧ 0 = 0) ∨ ∃ v, hi' = some v ∧ ∀ y code, 0 ≤ y → (Instr.sliceBound v y code).run P w = .ok 0 w := by
              cases hhi with
              | none => exact .inl ⟨rfl, rfl, rfl⟩
              | some hr => exact .inr ⟨_, rfl, fun y code hy => run_bound w code hr hh hy⟩
            refine ⟨_, slice_run w ht hn hlr hhr (.inl ⟨rfl, rfl⟩) (Nat.le_refl _) (Nat.le_refl _) (Nat.le_refl _) (Nat.le_refl _), ?_⟩
            simpa using VRel.snil
          · simp at hx
    · simp at hx

theorem slS_sound {φ : Phi} {t : TypeId} {v v' r : Value} {lo hi lo' hi' : Option Value} (ht : P.underlying t = some .string) (hv : VRel φ v v')
    (hlo : ORel φ lo lo') (hhi : ORel φ hi hi') (hx : slS v lo hi = some r) : plainV r = true ∧ (Instr.sliceAt t v' lo' hi' none).run P w = .ok r w := by
  unfold slS at hx
  split at hx
  · rename_i s
    cases hv
    cases hl : optN lo 0 with
    | none => simp [hl] at hx
    | some l =>
      cases hh : optN hi s.size with
      | none => simp [hl, hh] at hx
      | some h =>
        simp only [hl, hh, Option.bind_some] at hx
        split at hx
        · rename_i hc
          simp only [Option.some.injEq] at hx
          subst hx
          refine ⟨rfl, ?_⟩
          have hl1 := lo_run (P := P) w hlo hl h .sliceB hc.1
          cases hhi with
          | none =>
            simp only [optN, Option.some.injEq] at hh
            subst hh
            cases lo' <;> simp_all [Instr.sliceAt, run_underlying ht, Instr.slice, Instr.sliceBounds]
          | some hr =>
            have hh1 := run_bound (P := P) (y := s.size) w .sliceAlen hr hh hc.2
            cases lo' <;> simp_all [Instr.sliceAt, run_underlying ht, Instr.slice, Instr.sliceBounds]
        · simp at hx
  · simp at hx

end

end Go.Sim
set_option linter.unusedSimpArgs false
namespace Go.Sim

theorem spl_cons : ∀ (l : List Value) (j : Nat) (v : Value) (vs : List Value), j < l.length → spl l j (v :: vs) = spl (l.set j v) (j + 1) vs
  | [], j, v, vs, h => by simp at h
  | x :: l, 0, v, vs, _ => by simp [spl]
  | x :: l, j + 1, v, vs, h => by
    have := spl_cons l j v vs (by simpa using h)
    simp [spl, this]

theorem foldl_spl (off : Nat) : ∀ (l : List Value) (k : Nat) (cs : Array Value), off + k + l.length ≤ cs.size →
    (l.zipIdx k).foldl (fun cs p => cs.setIfInBounds (off + p.2) p.1) cs = ⟨spl cs.toList (off + k) l⟩
  | [], k, cs, _ => by
    have : spl cs.toList (off + k) [] = cs.toList := by
      generalize cs.toList = l
      generalize off + k = j
      induction l generalizing j with
      | nil => cases j <;> simp [spl]
      | cons x l ih => cases j <;> simp [spl, ih]
    simp [this]
  | v :: l, k, cs, h => by
    simp only [List.length_cons] at h
    have := foldl_spl off l (k + 1) (cs.setIfInBounds (off + k) v) (by simp; omega)
    simp only [List.zipIdx_cons, List.foldl_cons, this]
    rw [spl_cons _ _ _ _ (by simp; omega)]
    congr 1
    simp [Nat.add_assoc]

theorem fill_step {place : Nat → Option (Nat × Nat)} {i off n : Nat} {v : Value} {rest : List (Nat × Value)} {cells : Array Value} (hp : place i = some (off, n)) (hn : (cellsL v).length = n) (hle : off + n ≤ cells.size) :
    Instr.fill place cells ((i, v) :: rest) = Instr.fill place ⟨spl cells.toList off (cellsL v)⟩ rest := by
  have hl : v.cells.toList = cellsL v := cells_toList v
  have hsz : v.cells.size = n := by rw [← hn, ← hl]; simp
  simp only [Instr.fill, hp]
  rw [if_neg (by simp [hsz]; omega)]
  congr 1
  have := foldl_spl off (cellsL v) 0 cells (by omega)
  rw [Nat.add_zero] at this
  rw [← this, ← hl, ← Array.foldl_toList]
  simp

/-- An aggregate out of parts, as the model fills it. -/
theorem bld_sound {φ : Phi} {place : Nat → Option (Nat × Nat)} : ∀ (ps ps' : List (Nat × Value)) (qs : List (Nat × Nat × Value)) (acc acc' : List Value) (r : Value),
    ps.length = qs.length → (∀ (k i : Nat) (v : Value), ps[k]? = some (i, v) → ∃ off n, qs[k]? = some (off, n, v) ∧ place i = some (off, n)) →
    ps.length = ps'.length → (∀ (k i : Nat) (v : Value), ps[k]? = some (i, v) → ∃ v', ps'[k]? = some (i, v') ∧ VRel φ v v') →
    VsRel φ acc acc' → oneCs acc = true → bld acc qs = some r → ∃ cs', Instr.fill place ⟨acc'⟩ ps' = some ⟨cs'⟩ ∧ VRel φ r (.agg ⟨cs'⟩)
  | [], [], [], acc, acc', r, _, _, _, _, ha, h1, hb => by
    simp only [bld, Option.some.injEq] at hb
    subst hb
    exact ⟨acc', rfl, .agg ha h1⟩
  | (i, v) :: ps, (i', v') :: ps', (off, n, u) :: qs, acc, acc', r, h1, h2, h3, h4, ha, ho, hb => by
    obtain ⟨off', n', e1, hp⟩ := h2 0 i v rfl
    simp only [List.getElem?_cons_zero, Option.some.injEq, Prod.mk.injEq] at e1
    obtain ⟨rfl, rfl, rfl⟩ := e1
    obtain ⟨v'', e2, hv⟩ := h4 0 i u rfl
    simp only [List.getElem?_cons_zero, Option.some.injEq, Prod.mk.injEq] at e2
    obtain ⟨rfl, rfl⟩ := e2
    simp only [bld] at hb
    cases hbx : bx u with
    | none => simp [hbx] at hb
    | some cs =>
      simp only [hbx, Option.bind_some] at hb
      split at hb
      · rename_i hc
        obtain ⟨b1, b2, b3⟩ := bx_rel hv hbx
        have hlen : (cellsL v').length = n := by rw [← b1.length]; exact hc.1
        have hal : acc'.length = acc.length := ha.length.symm
        obtain ⟨cs', g1, g2⟩ := bld_sound ps ps' qs (spl acc off cs) (spl acc' off (cellsL v')) r (by simpa using h1) (fun k i v hk => h2 (k + 1) i v (by simpa using hk)) (by simpa using h3)
          (fun k i v hk => h4 (k + 1) i v (by simpa using hk)) (ha.spl off b1) (oneCs_spl ho b2 (by rw [hc.1]; exact hc.2)) hb
        refine ⟨cs', ?_, g2⟩
        rw [fill_step hp hlen (by simp [hal]; exact hc.2)]
        exact g1
      · simp at hb
  | [], _ :: _, _, _, _, _, _, _, h, _, _, _, _ => by simp at h
  | _ :: _, [], _, _, _, _, _, _, h, _, _, _, _ => by simp at h
  | [], _, _ :: _, _, _, _, h, _, _, _, _, _, _ => by simp at h
  | _ :: _, _, [], _, _, _, h, _, _, _, _, _, _ => by simp at h

section
variable {P : Program} (w : World)

theorem run_places : ∀ (fs : List Field), (fs.all fun f => (sizeT P f.type).isSome) = true →
    (fs.mapM (fun f => do pure (f.offset, ← sizeOf f.type)) : Sem (List (Nat × Nat))).run P w = .ok (fs.map fun f => (f.offset, (sizeT P f.type).getD 0)) w
  | [], _ => by simp
  | f :: fs, h => by
    simp only [List.all_cons, Bool.and_eq_true] at h
    obtain ⟨n, hn⟩ := Option.isSome_iff_exists.1 h.1
    have ih := run_places fs h.2
    simp only [List.mapM_cons, Sem.run_bind, run_sizeOf w hn, Result.andThen_ok, Sem.run_pure, ih, List.map_cons, hn, Option.getD_some]

theorem build_struct {φ : Phi} {t : TypeId} {fs : Array Field} {z : Value} {ps ps' : List (Nat × Value)} {qs : List (Nat × Nat × Value)} {r : Value} (ht : P.underlying t = some (.struct fs)) (hz : zeroT P t = some z) (hpz : plainV z = true)
    (hone : oneCs (cellsL z) = true) (hall : (fs.toList.all fun f => (sizeT P f.type).isSome) = true) (hq : opR.mapFields P fs.toList ps = some qs)
    (hps : ps.length = ps'.length) (hrel : ∀ (k i : Nat) (v : Value), ps[k]? = some (i, v) → ∃ v', ps'[k]? = some (i, v') ∧ VRel φ v v') (hb : bld (cellsL z) qs = some r) :
    ∃ r', (Instr.build t ps'.toArray).run P w = .ok r' w ∧ VRel φ r r' := by
  have hmap : ∀ (ps : List (Nat × Value)) (qs : List (Nat × Nat × Value)), opR.mapFields P fs.toList ps = some qs →
      ps.length = qs.length ∧ ∀ (k i : Nat) (v : Value), ps[k]? = some (i, v) → ∃ off n, qs[k]? = some (off, n, v) ∧ (fs.toList.map fun f => (f.offset, (sizeT P f.type).getD 0))[i]? = some (off, n) := by
    intro ps
    induction ps with
    | nil => intro qs h; simp only [opR.mapFields, Option.some.injEq] at h; subst h; simp
    | cons p ps ih =>
      obtain ⟨i, v⟩ := p
      intro qs h
      simp only [opR.mapFields] at h
      cases hf : fs.toList[i]? with
      | none => rw [hf] at h; simp at h
      | some f =>
        rw [hf] at h
        simp only at h
        cases hn : sizeT P f.type with
        | none => rw [hn] at h; simp at h
        | some n =>
          cases hr : opR.mapFields P fs.toList ps with
          | none => rw [hn, hr] at h; simp at h
          | some qs' =>
            rw [hn, hr] at h
            simp only [Option.some.injEq] at h
            subst h
            obtain ⟨h1, h2⟩ := ih qs' hr
            refine ⟨by simp [h1], fun k i' v' hk => ?_⟩
            cases k with
            | zero =>
              simp only [List.getElem?_cons_zero, Option.some.injEq, Prod.mk.injEq] at hk
              obtain ⟨rfl, rfl⟩ := hk
              exact ⟨f.offset, n, rfl, by rw [List.getElem?_map, hf]; simp [hn]⟩
            | succ k => simpa using h2 k i' v' (by simpa using hk)
  obtain ⟨m1, m2⟩ := hmap ps qs hq
  obtain ⟨cs', g1, g2⟩ := bld_sound (place := ((fs.toList.map fun f => (f.offset, (sizeT P f.type).getD 0))[·]?)) ps ps' qs (cellsL z) (cellsL z) r m1 m2 hps hrel (VsRel.zero hpz) hone hb
  refine ⟨_, ?_, g2⟩
  have hzc : z.cells = ⟨cellsL z⟩ := by apply Array.ext'; simpa using cells_toList z
  have hpl := run_places (P := P) w fs.toList hall
  have hm : (fs.mapM (fun f => do pure (f.offset, ← sizeOf f.type)) : Sem (Array (Nat × Nat))).run P w = .ok (fs.toList.map fun f => (f.offset, (sizeT P f.type).getD 0)).toArray w := by
    have : fs = fs.toList.toArray := by simp
    rw [this, List.mapM_toArray, Sem.run_map, hpl]
    simp
  simp only [Instr.build, Sem.run_bind, run_zeroValue w hz, Result.andThen_ok, run_underlying ht, hm, hzc]
  simp only [List.getElem?_toArray] at *
  rw [g1]
  simp

theorem build_array {φ : Phi} {t e : TypeId} {m n : Nat} {z : Value} {ps ps' : List (Nat × Value)} {r : Value} (ht : P.underlying t = some (.array m e)) (hz : zeroT P t = some z) (hpz : plainV z = true)
    (hone : oneCs (cellsL z) = true) (hn : sizeT P e = some n)
    (hps : ps.length = ps'.length) (hrel : ∀ (k i : Nat) (v : Value), ps[k]? = some (i, v) → ∃ v', ps'[k]? = some (i, v') ∧ VRel φ v v') (hb : bld (cellsL z) (ps.map fun q => (q.1 * n, n, q.2)) = some r) :
    ∃ r', (Instr.build t ps'.toArray).run P w = .ok r' w ∧ VRel φ r r' := by
  obtain ⟨cs', g1, g2⟩ := bld_sound (place := fun i => some (i * n, n)) ps ps' (ps.map fun q => (q.1 * n, n, q.2)) (cellsL z) (cellsL z) r (by simp) (fun k i v hk => ⟨i * n, n, by simp [hk], rfl⟩) hps hrel (VsRel.zero hpz) hone hb
  refine ⟨_, ?_, g2⟩
  have hzc : z.cells = ⟨cellsL z⟩ := by apply Array.ext'; simpa using cells_toList z
  simp only [Instr.build, Sem.run_bind, run_zeroValue w hz, Result.andThen_ok, run_underlying ht, run_sizeOf w hn, hzc]
  rw [g1]
  simp

/-! ### New slices -/

theorem set_flat : ∀ (rows : List (List Value)) (n i : Nat) (cs : List Value), (∀ r ∈ rows, r.length = n) → cs.length = n → i < rows.length → (rows.set i cs).flatten = spl rows.flatten (i * n) cs
  | [], n, i, cs, _, _, h => by simp at h
  | r :: rows, n, 0, cs, hl, hc, _ => by
    have hr := hl r (by simp)
    simp only [List.set_cons_zero, List.flatten_cons, Nat.zero_mul]
    have : ∀ (a c b : List Value), a.length = c.length → spl (a ++ b) 0 c = c ++ b := by
      intro a
      induction a with
      | nil => intro c b h; have : c = [] := List.length_eq_zero_iff.1 h.symm; subst this; cases b <;> simp [spl]
      | cons x a ih =>
        intro c b h
        cases c with
        | nil => simp at h
        | cons y c => simp [spl, ih c b (by simpa using h)]
    rw [this r cs _ (by omega)]
  | r :: rows, n, i + 1, cs, hl, hc, h => by
    have hr := hl r (by simp)
    have ih := set_flat rows n i cs (fun x hx => hl x (by simp [hx])) hc (by simpa using h)
    simp only [List.set_cons_succ, List.flatten_cons, ih]
    have : ∀ (a b c : List Value) (k : Nat), spl (a ++ b) (a.length + k) c = a ++ spl b k c := by
      intro a
      induction a with
      | nil => intro b c k; simp
      | cons x a ih =>
        intro b c k
        have e : (x :: a).length + k = (a.length + k) + 1 := by simp; omega
        rw [e]
        simp [spl, ih]
    rw [show (i + 1) * n = r.length + i * n by rw [hr, Nat.add_mul]; omega, this]

theorem bls_sound {φ : Phi} {n : Nat} : ∀ (ps ps' : List (Nat × Value)) (acc rows : List (List Value)) (acc' : List Value),
    ps.length = ps'.length → (∀ (k i : Nat) (v : Value), ps[k]? = some (i, v) → ∃ v', ps'[k]? = some (i, v') ∧ VRel φ v v') →
    (∀ r ∈ acc, r.length = n ∧ oneCs r = true) → VsRel φ acc.flatten acc' → bls n acc ps = some rows →
    ∃ cs', Instr.fill (fun i => some (i * n, n)) ⟨acc'⟩ ps' = some ⟨cs'⟩ ∧ VsRel φ rows.flatten cs' ∧ (∀ r ∈ rows, r.length = n ∧ oneCs r = true) ∧ rows.length = acc.length
  | [], [], acc, rows, acc', _, _, h3, h4, hb => by
    simp only [bls, Option.some.injEq] at hb
    subst hb
    exact ⟨acc', rfl, h4, h3, rfl⟩
  | (i, v) :: ps, (i', v') :: ps', acc, rows, acc', h1, h2, h3, h4, hb => by
    obtain ⟨v'', e2, hv⟩ := h2 0 i v rfl
    simp only [List.getElem?_cons_zero, Option.some.injEq, Prod.mk.injEq] at e2
    obtain ⟨rfl, rfl⟩ := e2
    simp only [bls] at hb
    cases hbx : bx v with
    | none => simp [hbx] at hb
    | some cs =>
      simp only [hbx, Option.bind_some] at hb
      split at hb
      · rename_i hc
        obtain ⟨b1, b2, b3⟩ := bx_rel hv hbx
        have hlen : (cellsL v').length = n := by rw [← b1.length]; exact hc.1
        have hfl : acc.flatten.length = acc.length * n := flat_len fun r hr => (h3 r hr).1
        have hal : acc'.length = acc.length * n := by rw [← h4.length, hfl]
        have hin : i' * n + n ≤ acc.length * n := by
          have : (i' + 1) * n ≤ acc.length * n := Nat.mul_le_mul_right _ (by omega)
          rw [Nat.add_mul] at this; omega
        have hset := set_flat acc n i' cs (fun r hr => (h3 r hr).1) hc.1 hc.2
        obtain ⟨cs', g1, g2, g3, g4⟩ := bls_sound ps ps' (acc.set i' cs) rows (spl acc' (i' * n) (cellsL v')) (by simpa using h1) (fun k i v hk => h2 (k + 1) i v (by simpa using hk))
          (fun r hr => by rcases List.mem_or_eq_of_mem_set hr with hr | rfl; exact h3 r hr; exact ⟨hc.1, b2⟩) (by rw [hset]; exact h4.spl _ b1) hb
        refine ⟨cs', ?_, g2, g3, by simpa using g4⟩
        rw [fill_step (place := fun i => some (i * n, n)) rfl hlen (by simp [hal]; exact hin)]
        exact g1
      · simp at hb
  | [], _ :: _, _, _, _, h, _, _, _, _ => by simp at h
  | _ :: _, [], _, _, _, h, _, _, _, _ => by simp at h

/-- Zeroes, row after row. -/
theorem zeros_flat {z : Value} {n : Nat} (len : Nat) (hl : (cellsL z).length = n) (hn : 0 < n) : ((Array.range (len * n)).map (z.cells[· % z.cells.size]!)).toList = (List.replicate len (cellsL z)).flatten := by
  have hzc : z.cells.toList = cellsL z := cells_toList z
  have hzs : z.cells.size = n := by rw [← hl, ← hzc]; simp
  apply List.ext_getElem?
  intro m
  by_cases hm : m < len * n
  · have hq : m / n < len := (Nat.div_lt_iff_lt_mul hn).2 hm
    have hmod : m % n < (cellsL z).length := by rw [hl]; exact Nat.mod_lt _ hn
    have := flat_get (rows := List.replicate len (cellsL z)) (sz := n) (fun r hr => by rw [(List.mem_replicate.1 hr).2]; exact hl) (i := m / n) (j := m % n) (r := cellsL z) (v := (cellsL z)[m % n]) (by simp [hq]) (List.getElem?_eq_getElem hmod)
    rw [show m / n * n + m % n = m by rw [Nat.mul_comm]; exact Nat.div_add_mod m n] at this
    rw [this]
    have hlt : m % n < z.cells.size := by omega
    simp only [Array.toList_map, Array.toList_range, List.getElem?_map, List.getElem?_range hm, Option.map_some, hzs, Option.some.injEq]
    rw [getElem!_pos z.cells (m % n) hlt]
    simp only [← hzc, Array.getElem_toList]
  · rw [List.getElem?_eq_none (by simp; omega), List.getElem?_eq_none]
    rw [flat_len (sz := n) (fun r hr => by rw [(List.mem_replicate.1 hr).2]; exact hl)]
    simp; omega

theorem buildSlice_sound {φ : Phi} {s s' : St} {t e : TypeId} {z : Value} {n len : Nat} {ps ps' : List (Nat × Value)} {r : Value} (h : Rel φ s w) (ht : P.underlying t = some (.slice e)) (hz : zeroT P e = some z) (hn : sizeT P e = some n)
    (hpz : plainV z = true) (hone : oneCs (cellsL z) = true) (hlen : len * n ≤ 16777216) (hn0 : 0 < n) (hzl : (cellsL z).length = n)
    (hps : ps.length = ps'.length) (hrel : ∀ (k i : Nat) (v : Value), ps[k]? = some (i, v) → ∃ v', ps'[k]? = some (i, v') ∧ VRel φ v v')
    (hb : ((bls n (List.replicate len (cellsL z)) ps).bind fun rows => als s n len rows) = some (r, s')) :
    ∃ φ' r' w', (Instr.buildSlice t len ps'.toArray).run P w = .ok r' w' ∧ VRel φ' r r' ∧ Step φ s w φ' s' w' := by
  cases hbl : bls n (List.replicate len (cellsL z)) ps with
  | none => simp [hbl] at hb
  | some rows =>
    simp only [hbl, Option.bind_some] at hb
    have hrep : ∀ q ∈ List.replicate len (cellsL z), q.length = n ∧ oneCs q = true := fun q hq => by rw [(List.mem_replicate.1 hq).2]; exact ⟨hzl, hone⟩
    have hzf : VsRel φ (List.replicate len (cellsL z)).flatten (List.replicate len (cellsL z)).flatten := by
      generalize len = k
      induction k with
      | zero => exact .nil
      | succ k ih => rw [List.replicate_succ, List.flatten_cons]; exact (VsRel.zero hpz).append ih
    obtain ⟨cs', g1, g2, g3, g4⟩ := bls_sound ps ps' (List.replicate len (cellsL z)) rows _ hps hrel hrep hzf hbl
    obtain ⟨φ', q1, q2⟩ := als_sound e h g3 g2 (by rw [g4]; simp) hb
    refine ⟨φ', _, _, ?_, q1, q2⟩
    have hbig : ¬ (len * n > 2 ^ 24) := by simpa using hlen
    have hcells : (Array.range (len * n)).map ((if len * n = 0 then #[] else z.cells)[· % (if len * n = 0 then #[] else z.cells : Array Value).size]!) = ⟨(List.replicate len (cellsL z)).flatten⟩ := by
      apply Array.ext'
      by_cases h0 : len * n = 0
      · have : len = 0 := by
          rcases Nat.mul_eq_zero.1 h0 with h | h
          · exact h
          · omega
        subst this
        simp
      · simp only [if_neg h0]
        exact zeros_flat len hzl hn0
    by_cases h0 : len * n = 0
    · simp only [if_pos h0] at hcells
      simp only [Instr.buildSlice, Sem.run_bind, run_underlying ht, Result.andThen_ok, run_sizeOf w hn, if_neg hbig, Sem.run_ite, if_pos h0, Sem.run_pure, hcells, g1]
      simp [newRow, g4]
    · simp only [if_neg h0] at hcells
      simp only [Instr.buildSlice, Sem.run_bind, run_underlying ht, Result.andThen_ok, run_sizeOf w hn, if_neg hbig, Sem.run_ite, if_neg h0, Sem.run_pure, run_zeroValue w hz, hcells, g1]
      simp [newRow, g4]

theorem mks_sound {φ : Phi} {s s' : St} {t e : TypeId} {inf : TypeInfo} {z l l' c c' : Value} {n : Nat} {r : Value} (h : Rel φ s w) (ht : P.underlying t = some (.slice e)) (hi : P.info? e = some inf) (hz : inf.zero = some z) (hn : inf.size = n)
    (hpz : plainV z = true) (hone : oneCs (cellsL z) = true) (hn0 : 0 < n) (hzl : (cellsL z).length = n) (hl : VRel φ l l') (hc : VRel φ c c') (hb : mks s n inf.bytes (cellsL z) l c = some (r, s')) :
    ∃ φ' r' w', (Instr.makeSlice t l' c').run P w = .ok r' w' ∧ VRel φ' r r' ∧ Step φ s w φ' s' w' := by
  unfold mks at hb
  split at hb
  · rename_i kl lv kc cv
    cases hl; cases hc
    split at hb
    · rename_i hk
      obtain ⟨k1, k2, k3, k4⟩ := hk
      have hzf : VsRel φ (List.replicate cv.toNat (cellsL z)).flatten (List.replicate cv.toNat (cellsL z)).flatten := by
        generalize cv.toNat = k
        induction k with
        | zero => exact .nil
        | succ k ih => rw [List.replicate_succ, List.flatten_cons]; exact (VsRel.zero hpz).append ih
      obtain ⟨φ', q1, q2⟩ := als_sound e h (fun q hq => by rw [(List.mem_replicate.1 hq).2]; exact ⟨hzl, hone⟩) hzf (by simp; omega) hb
      have hrun := run_make (P := P) w t e inf z ht hi hz kl kc lv cv k1 k2 (by rw [Int.mul_comm]; omega) k4
      have hcells : madeCells z.cells (cv.toNat * inf.size) = ⟨(List.replicate cv.toNat (cellsL z)).flatten⟩ := by
        apply Array.ext'
        rw [hn]
        exact zeros_flat cv.toNat hzl hn0
      rw [hcells] at hrun
      exact ⟨φ', _, _, hrun, by simpa using q1, q2⟩
    · simp at hb
  · simp at hb

/-! ### copy -/

theorem cpy_sound {φ : Phi} {s s' : St} {sz : Nat} {v v' x x' r : Value} {t u ty e : TypeId} (ht : P.underlying t = some (.slice e)) (hn : sizeT P e = some sz)
    (h : Rel φ s w) (hv : VRel φ v v') (hx : VRel φ x x') (ha : cpy s sz v x = some (r, s')) :
    ∃ w', (Builtin.copy_ #[t, u] ty #[v', x']).run P w = .ok r w' ∧ plainV r = true ∧ Step φ s w φ s' w' := by
  unfold cpy at ha
  split at ha
  · rename_i dn xn hd hxn
    cases hrw : rowsOf s sz (min xn dn) x with
    | none => simp [hrw] at ha
    | some news =>
      simp only [hrw, Option.bind_some] at ha
      obtain ⟨r1, r2, xs', r3, r4, r5⟩ := rows_sound P h hx hrw
      have hlen := lenV_rel P hx hxn w
      split at ha
      · rename_i b i len ec
        cases hv with
        | @slice _ _ _ _ c a l hl h1 h2 h3 h4 =>
          simp only [lenV, Option.some.injEq] at hd
          subst hd
          cases hb : s.get b with
          | none => simp [hb] at ha
          | some k =>
            cases k with
            | map es ro => simp [hb] at ha
            | row sz' rows ro =>
              cases ro with
              | true => simp [hb] at ha
              | false =>
                simp only [hb] at ha
                split at ha
                · rename_i hc
                  obtain ⟨rfl, hin⟩ := hc
                  obtain ⟨l2, g2, hB⟩ := h.blk b _ hb
                  rw [hl] at g2
                  simp only [Option.some.injEq] at g2
                  subst g2
                  split at ha
                  · rename_i h0
                    simp only [Option.some.injEq, Prod.mk.injEq] at ha
                    obtain ⟨rfl, rfl⟩ := ha
                    have hxs : xs' = [] := List.length_eq_zero_iff.1 (by rw [r3, h0]; simp)
                    subst hxs
                    have hf := r5 w rfl
                    refine ⟨w, ?_, rfl, Step.refl h⟩
                    rw [h0] at hf
                    have h0' : Nat.min xn len = 0 := h0
                    simp [Builtin.copy_, run_underlying ht, hlen, run_sizeOf w hn, h0', hf, storeCells, goInt]
                  · rename_i h0
                    simp only [Option.some.injEq, Prod.mk.injEq] at ha
                    obtain ⟨rfl, rfl⟩ := ha
                    have hB' := hB
                    obtain ⟨k1, k2, cs, e', fz, hh, k3, k4, k5⟩ := hB'
                    have hfz := k5 rfl
                    subst hfz
                    have hmin : min xn len ≤ len := Nat.min_le_right _ _
                    have haddr := h3 (by omega)
                    subst haddr
                    have hcapsz : (i + min xn len) * sz' ≤ l.cap * sz' := Nat.mul_le_mul_right _ (by omega)
                    have hst := run_storeCells_at P l.blk (l.off + i * l.sz) e' xs' 0 cs w hh (by
                      rw [Nat.add_mul] at hcapsz
                      rw [k1, r3]; omega) (ones_of r2 r4)
                    have hf := r5 w rfl
                    have hst' : (storeCells (⟨l.blk, l.off + i * l.sz, none⟩ : Addr) xs').run P w = .ok () (w.setRow l.blk (cs.toList.take (l.off + i * sz') ++ xs' ++ cs.toList.drop (l.off + i * sz' + xs'.length)).toArray) := by
                      rw [hst, k1]; simp
                    refine ⟨_, ?_, rfl, put_step h hb rfl hl (rows_put (i := i) (n := min xn len) (.refl _) hB hh r2 r1 r4 (by omega) rfl rfl rfl rfl (by simp [r1]; omega) fun m q hq => ?_) (fun c hc => setRow_other w l.blk c _ hc) (by simp) rfl rfl rfl⟩
                    · have hm' : Nat.min xn len = min xn len := rfl
                      simp [Builtin.copy_, run_underlying ht, hlen, run_sizeOf w hn, hm', hf, hst', goInt]
                    · by_cases hm : m < i
                      · right
                        rw [List.append_assoc, List.getElem?_append_left (by simp; omega), List.getElem?_take, if_pos hm] at hq
                        exact ⟨.inl hm, hq⟩
                      · have hlt : (rows.take i).length = i := by simp; omega
                        rw [List.append_assoc, List.getElem?_append_right (by omega), hlt] at hq
                        by_cases hm2 : m < i + min xn len
                        · left
                          rw [List.getElem?_append_left (by omega)] at hq
                          exact ⟨by omega, hm2, hq⟩
                        · right
                          rw [List.getElem?_append_right (by omega), List.getElem?_drop] at hq
                          refine ⟨.inr (by omega), ?_⟩
                          rw [← hq]; congr 1; omega
                · simp at ha
      · cases hv
        simp only [Option.some.injEq, Prod.mk.injEq] at ha
        obtain ⟨rfl, rfl⟩ := ha
        simp only [lenV, Option.some.injEq] at hd
        subst hd
        have hf := r5 w rfl
        have h0' : Nat.min xn 0 = 0 := Nat.min_zero xn
        rw [show min xn 0 = 0 from Nat.min_zero xn] at hf
        refine ⟨w, ?_, rfl, Step.refl h⟩
        simp [Builtin.copy_, run_underlying ht, hlen, run_sizeOf w hn, hf, goInt]
      · simp at ha
  · simp at ha

/-! ### A text of bytes -/

theorem bytesOf_spec : ∀ {rows : List (List Value)} {l : List UInt8}, bytesOf rows = some l → ∃ ns : List Int, rows.flatten = ns.map (Value.int .u8) ∧ l = ns.map (fun n => UInt8.ofNat n.toNat) ∧ ns.length = rows.length
  | [], l, h => by simp only [bytesOf, Option.some.injEq] at h; subst h; exact ⟨[], rfl, rfl, rfl⟩
  | r :: rows, l, h => by
    unfold bytesOf at h
    split at h
    · rename_i heq; simp at heq
    · rename_i n rs heq
      simp only [List.cons.injEq] at heq
      obtain ⟨rfl, rfl⟩ := heq
      cases hb : bytesOf rows with
      | none => simp [hb] at h
      | some l' =>
        simp only [hb, Option.map_some, Option.some.injEq] at h
        subst h
        obtain ⟨ns, h1, h2, h3⟩ := bytesOf_spec hb
        exact ⟨n :: ns, by simp [h1], by simp [h2], by simp [h3]⟩
    · simp at h

theorem b2s_sound {φ : Phi} {s : St} {src dst e : TypeId} {v v' r : Value} (hs : P.underlying src = some (.slice e)) (he : P.underlying e = some (.int .u8)) (hd : P.underlying dst = some .string)
    (h : Rel φ s w) (hv : VRel φ v v') (hx : b2s s v = some r) : plainV r = true ∧ (convert src dst v').run P w = .ok r w := by
  unfold b2s at hx
  cases hn : lenV v with
  | none => simp [hn] at hx
  | some n =>
    simp only [hn, Option.bind_some] at hx
    split at hx
    · rename_i a len ec
      cases hrw : rowsOf s 1 n (.slice a len ec) with
      | none => simp [hrw] at hx
      | some rows =>
        simp only [hrw, Option.bind_some] at hx
        cases hb : bytesOf rows with
        | none => simp [hb] at hx
        | some l =>
          simp only [hb, Option.map_some, Option.some.injEq] at hx
          subst hx
          refine ⟨rfl, ?_⟩
          obtain ⟨r1, r2, xs', r3, r4, r5⟩ := rows_sound P h hv hrw
          obtain ⟨ns, n1, n2, n3⟩ := bytesOf_spec hb
          rw [n1] at r4
          have hpl : ∀ l : List Int, plainVs (l.map (Value.int .u8)) = true := by
            intro l
            induction l with
            | nil => rfl
            | cons x l ih => simp [plainVs, plainV, ih]
          have hxs : xs' = ns.map (Value.int .u8) := r4.plain_eq (hpl ns)
          have hf := r5 w rfl
          simp only [lenV, Option.some.injEq] at hn
          subst hn
          cases hv with
          | snil =>
            have : ns = [] := List.length_eq_zero_iff.1 (by rw [n3, r1])
            subst this
            rw [run_convert_bytes_nil w src e hs he 0 0 dst hd, n2]
            rfl
          | @slice _ _ _ _ c a lc hlc h1 h2 h3 h4 =>
            simp only [Builtin.firstCells, Nat.mul_one] at hf
            rw [hxs] at hf
            rw [run_convert_bytes_string w src dst e _ len c hs he hd, run_bytesToString w a len c ns hf, foldl_push_bytes, n2]
            simp [ByteArray.empty, ByteArray.emptyWithCapacity]
            rfl
    · simp at hx

end

end Go.Sim
