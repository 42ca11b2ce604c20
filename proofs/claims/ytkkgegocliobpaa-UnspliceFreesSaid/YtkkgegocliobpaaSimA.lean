/-
  The abstract evaluator: a deterministic reading of the model's code over a heap of rows. Definitions alone.
-/
import Derived.Laws.Append
import Derived.Tactics
namespace Go.Sim

/-! ### The abstract heap -/

inductive Blk where
  | row (sz : Nat) (rows : List (List Value)) (ro : Bool)
  | map (es : List (Value × Value)) (ro : Bool)

def Blk.ro : Blk → Bool
  | .row _ _ r => r
  | .map _ r => r

structure St where
  h : List (Nat × Blk)
  n : Nat

def getH : List (Nat × Blk) → Nat → Option Blk
  | [], _ => none
  | (i, k) :: r, b => if b = i then some k else getH r b

def putH : List (Nat × Blk) → Nat → Blk → List (Nat × Blk)
  | [], _, _ => []
  | (i, k) :: r, b, x => if b = i then (i, x) :: r else (i, k) :: putH r b x

def delH : List (Nat × Blk) → Nat → List (Nat × Blk)
  | [], _ => []
  | (i, k) :: r, b => if b = i then delH r b else (i, k) :: delH r b

def St.get (s : St) (b : Nat) : Option Blk := getH s.h b
def St.put (s : St) (b : Nat) (x : Blk) : St := ⟨putH s.h b x, s.n⟩
def St.del (s : St) (b : Nat) : St := ⟨delH s.h b, s.n⟩
def St.new (s : St) (x : Blk) : St := ⟨(s.n, x) :: s.h, s.n + 1⟩

/-! ### Values -/

/-- The cells of a value. -/
def cellsL : Value → List Value
  | .agg ⟨l⟩ => l
  | v => [v]

/-- The cells of an aggregate. -/
def cellsA : Value → List Value
  | .agg ⟨l⟩ => l
  | _ => []

/-- `l` with `vs` from place `j` on. -/
def spl : List Value → Nat → List Value → List Value
  | l, 0, [] => l
  | _ :: l, 0, v :: vs => v :: spl l 0 vs
  | [], _, _ => []
  | x :: l, j + 1, vs => x :: spl l j vs

/-- A value that lies in one cell. -/
def oneC : Value → Bool
  | .agg _ => false
  | .tuple _ => false
  | _ => true

def oneCs : List Value → Bool
  | [] => true
  | v :: r => oneC v && oneCs r

/-- The cells that a variable of a value takes. -/
def bx : Value → Option (List Value)
  | .tuple _ => none
  | v => some (cellsL v)

mutual
/-- A value that holds no reference into memory. -/
def plainV : Value → Bool
  | .bool _ | .int _ _ | .string _ | .pointer none | .slice none 0 0 | .map none | .nilFunc | .nilIface => true
  | .agg ⟨l⟩ => plainVs l && oneCs l
  | .tuple ⟨l⟩ => plainVs l
  | .iface _ v => plainV v
  | .func _ ⟨a⟩ ⟨b⟩ => plainVs a && plainVs b
  | _ => false
def plainVs : List Value → Bool
  | [] => true
  | v :: r => plainV v && plainVs r
end

/-- What a computation answers that looks at no world and at no program. -/
def run0 {α : Type} : Sem α → Option α
  | .pure a => some a
  | _ => none

/-! ### Operations over values and the heap -/

/-- '==' on what lies in one cell, by its kind: 0 bool, 1 whole number, 2 text, 3 pointer, 4 slice, 5 map, 6 function (the last four against nil). -/
def eqk : Nat → Value → Value → Option Bool
  | 0, .bool a, .bool b => some (a == b)
  | 1, .int k a, .int k' b => if k = k' then some (a == b) else none
  | 2, .string a, .string b => some (decide (a = b))
  | 3, .pointer none, .pointer b => some b.isNone
  | 3, .pointer (some _), .pointer none => some false
  | 4, .slice none 0 0, .slice b _ _ => some b.isNone
  | 4, .slice (some _) _ _, .slice none 0 0 => some false
  | 5, .map none, .map b => some b.isNone
  | 5, .map (some _), .map none => some false
  | 6, .nilFunc, .nilFunc => some true
  | 6, .nilFunc, .func _ _ _ => some false
  | 6, .func _ _ _, .nilFunc => some false
  | _, _, _ => none

def eqks : List Nat → List Value → List Value → Option Bool
  | [], [], [] => some true
  | k :: ks, x :: xs, y :: ys => (eqk k x y).bind fun a => (eqks ks xs ys).bind fun b => some (a && b)
  | _, _, _ => none

/-- '==' on values of a type whose cells are of these kinds. -/
def eqT (ks : List Nat) (agg : Bool) (x y : Value) : Option Bool :=
  match agg with
  | true => match x, y with
    | .agg ⟨xs⟩, .agg ⟨ys⟩ => eqks ks xs ys
    | _, _ => none
  | false => match ks with
    | [k] => eqk k x y
    | _ => none

def eqb (ks : List Nat) (agg neg : Bool) (x y : Value) : Option Value :=
  (eqT ks agg x y).map fun b => .bool (match neg with | true => !b | false => b)

/-- '==' of what an interface holds, with nil. -/
def eqI (neg : Bool) : Value → Value → Option Value
  | .nilIface, .nilIface => some (.bool (match neg with | true => false | false => true))
  | .nilIface, .iface _ _ => some (.bool neg)
  | .iface _ _, .nilIface => some (.bool neg)
  | _, _ => none

def bin (op : BinOp) : Value → Value → Option Value
  | .int k a, .int k' b => run0 (binOp op 0 (.int k a) (.int k' b))
  | .string a, .string b =>
    match op with
    | .add => if a.size + b.size ≤ 9223372036854775807 then some (.string (a ++ b)) else none
    | .lss => some (.bool (Op.bytesLess a.data.toList b.data.toList))
    | .leq => some (.bool (Op.bytesLess a.data.toList b.data.toList || decide (a = b)))
    | .gtr => some (.bool (!(Op.bytesLess a.data.toList b.data.toList || decide (a = b))))
    | .geq => some (.bool (!Op.bytesLess a.data.toList b.data.toList))
    | _ => none
  | _, _ => none

def un (op : UnOp) : Value → Option Value
  | .int k a => run0 (Op.unary op (.int k a))
  | .bool b => run0 (Op.unary op (.bool b))
  | _ => none

/-- A whole number of another kind. -/
def cvi (k : IntKind) : Value → Option Value
  | .int _ n => some (.int k (k.wrap n))
  | _ => none

/-- A text of a text. -/
def cvs : Value → Option Value
  | .string s => some (.string s)
  | _ => none

def isNat : Value → Option Nat
  | .int _ n => if 0 ≤ n then some n.toNat else none
  | _ => none

/-- One cell. -/
def ldc (s : St) : Value → Option Value
  | .pointer (some ⟨b, i, some j⟩) =>
    match s.get b with
    | some (.row _ rows _) => (rows[i]?).bind fun r => r[j]?
    | _ => none
  | _ => none

/-- `n` cells as one value. -/
def lda (s : St) (n : Nat) : Value → Option Value
  | .pointer (some ⟨b, i, some j⟩) =>
    match s.get b with
    | some (.row _ rows _) => (rows[i]?).bind fun r => if j + n ≤ r.length then some (.agg ⟨(r.drop j).take n⟩) else none
    | _ => none
  | _ => none

/-- Cells stored. -/
def sto (s : St) (p : Value) (vs : List Value) : Option St :=
  match p with
  | .pointer (some ⟨b, i, some j⟩) =>
    match s.get b with
    | some (.row sz rows false) => (rows[i]?).bind fun r =>
      if j + vs.length ≤ r.length then some (s.put b (.row sz (rows.set i (spl r j vs)) false)) else none
    | _ => none
  | _ => none

/-- A value of `n` cells stored. -/
def stv (s : St) (n : Nat) (p x : Value) : Option St :=
  (bx x).bind fun cs => if cs.length = n then sto s p cs else none

/-- A field's address. -/
def fld (off : Nat) : Value → Option Value
  | .pointer (some ⟨b, i, some j⟩) => some (.pointer (some ⟨b, i, some (j + off)⟩))
  | _ => none

/-- An element's address. -/
def idx (s : St) (sz : Nat) : Value → Value → Option Value
  | .slice (some ⟨b, i, some 0⟩) len _, .int _ n =>
    if 0 ≤ n ∧ n < len then
      match s.get b with
      | some (.row sz' _ _) => if sz' = sz then some (.pointer (some ⟨b, i + n.toNat, some 0⟩)) else none
      | _ => none
    else none
  | _, _ => none

/-- An element's address in an array. -/
def idxA (n sz : Nat) : Value → Value → Option Value
  | .pointer (some ⟨b, i, some j⟩), .int _ k => if 0 ≤ k ∧ k < n then some (.pointer (some ⟨b, i, some (j + k.toNat * sz)⟩)) else none
  | _, _ => none

/-- A byte of a text. -/
def idxS : Value → Value → Option Value
  | .string s, .int _ n => if 0 ≤ n then (s.data.toList[n.toNat]?).map fun b => .int .u8 b.toNat else none
  | _, _ => none

/-- A part of an aggregate. -/
def prt (off n : Nat) (agg : Bool) : Value → Option Value
  | .agg ⟨l⟩ => if agg then (if off + n ≤ l.length then some (.agg ⟨(l.drop off).take n⟩) else none) else l[off]?
  | _ => none

/-- An aggregate out of parts. -/
def bld : List Value → List (Nat × Nat × Value) → Option Value
  | acc, [] => some (.agg ⟨acc⟩)
  | acc, (off, n, v) :: r => (bx v).bind fun cs => if cs.length = n ∧ off + n ≤ acc.length then bld (spl acc off cs) r else none

/-- Rows out of parts. -/
def bls (n : Nat) : List (List Value) → List (Nat × Value) → Option (List (List Value))
  | acc, [] => some acc
  | acc, (i, v) :: r => (bx v).bind fun cs => if cs.length = n ∧ i < acc.length then bls n (acc.set i cs) r else none

/-- A slice of bytes made of a constant text: nobody turns it from then on. -/
def cvl (s : St) : Value → Option (Value × St)
  | .slice (some ⟨b, i, some 0⟩) len e => match s.get b with
    | some (.row sz rows false) => if len = 0 then none else some (.slice (some ⟨b, i, some 0⟩) len e, s.put b (.row sz rows true))
    | _ => none
  | _ => none

/-- A new variable of its own. -/
def alc (s : St) (cs : List Value) : Option (Value × St) :=
  some (.pointer (some ⟨s.n, 0, some 0⟩), s.new (.row cs.length [cs] false))

def alv (s : St) (v : Value) : Option (Value × St) := (bx v).bind fun cs => alc s cs

/-- A new slice over rows: `len` of them are its own; the rest is room. -/
def als (s : St) (sz len : Nat) (rows : List (List Value)) : Option (Value × St) :=
  some (.slice (some ⟨s.n, 0, some 0⟩) len (2 * rows.length), s.new (.row sz rows false))

def mks (s : St) (sz bytes : Nat) (zero : List Value) (l c : Value) : Option (Value × St) :=
  match l, c with
  | .int _ l, .int _ c => if 0 ≤ l ∧ l ≤ c ∧ c * bytes ≤ 140737488355328 ∧ c ≤ 9223372036854775807 then als s sz l.toNat (List.replicate c.toNat zero) else none
  | _, _ => none

def optN (o : Option Value) (d : Nat) : Option Nat :=
  match o with
  | some v => isNat v
  | none => some d

/-- A slice of a slice. -/
def slc (s : St) (sz : Nat) (v : Value) (lo hi mx : Option Value) : Option Value :=
  (optN lo 0).bind fun l =>
    match v with
    | .slice (some ⟨b, i, some 0⟩) len e =>
      (optN hi len).bind fun h =>
        match s.get b with
        | some (.row sz' _ _) =>
          if sz' = sz ∧ l ≤ h then
            match mx with
            | none => if e = 1 then (if h ≤ len then some (.slice (some ⟨b, i + l, some 0⟩) (h - l) 1) else none)
                      else (if h ≤ e / 2 then some (.slice (some ⟨b, i + l, some 0⟩) (h - l) (2 * (e / 2 - l))) else none)
            | some m => (isNat m).bind fun m =>
              if h ≤ m ∧ (m ≤ len ∨ e ≠ 1 ∧ m ≤ e / 2) then some (.slice (some ⟨b, i + l, some 0⟩) (h - l) (2 * (m - l))) else none
          else none
        | _ => none
    | .slice none 0 0 => (optN hi 0).bind fun h => match mx with
      | none => if h = 0 ∧ l = 0 then some (.slice none 0 0) else none
      | some _ => none
    | _ => none

/-- A slice of a text. -/
def slS (v : Value) (lo hi : Option Value) : Option Value :=
  match v with
  | .string s => (optN lo 0).bind fun l => (optN hi s.size).bind fun h => if l ≤ h ∧ h ≤ s.size then some (.string (s.extract l h)) else none
  | _ => none

/-- The first `n` rows that a slice or a text holds, as elements of `sz` cells. -/
def rowsOf (s : St) (sz n : Nat) : Value → Option (List (List Value))
  | .slice (some ⟨b, i, some 0⟩) len _ =>
    match s.get b with
    | some (.row sz' rows _) => if sz' = sz ∧ n ≤ len ∧ i + n ≤ rows.length then some ((rows.drop i).take n) else none
    | _ => none
  | .slice none 0 0 => if n = 0 then some [] else none
  | .string t => if sz = 1 ∧ n ≤ t.size then some ((t.data.toList.take n).map fun b => [.int .u8 b.toNat]) else none
  | _ => none

def lenV : Value → Option Nat
  | .slice _ n _ => some n
  | .string s => some s.size
  | _ => none

/-- The length of a text, of a slice, of a map. -/
def lenS : Value → Option Value
  | .string t => some (.int .i64 t.size)
  | _ => none

def lenL : Value → Option Value
  | .slice _ n _ => some (.int .i64 n)
  | _ => none

def lenM (s : St) : Value → Option Value
  | .map none => some (.int .i64 0)
  | .map (some b) => match s.get b with
    | some (.map es _) => some (.int .i64 es.length)
    | _ => none
  | _ => none

/-- append. -/
def app (s : St) (sz bytes : Nat) (v x : Value) : Option (Value × St) :=
  match lenV x with
  | none => none
  | some n =>
    match rowsOf s sz n x with
    | none => none
    | some news =>
      match v with
      | .slice none 0 0 =>
        if n = 0 then some (.slice none 0 0, s) else
        if n * bytes ≤ 140737488355328 ∧ n ≤ 9223372036854775807 then some (.slice (some ⟨s.n, 0, some 0⟩) n 1, s.new (.row sz news false)) else none
      | .slice (some ⟨b, i, some 0⟩) len e =>
        match s.get b with
        | some (.row sz' rows ro) =>
          if sz' = sz ∧ i + len ≤ rows.length then
            if (len + n) * bytes ≤ 140737488355328 ∧ len + n ≤ 9223372036854775807 then
              if e = 1 then
                (if ro then none else if n = 0 then some (.slice (some ⟨b, i, some 0⟩) len 1, s)
                 else if i = 0 then some (.slice (some ⟨s.n, 0, some 0⟩) (len + n) 1, (s.del b).new (.row sz (rows.take len ++ news) false)) else none)
              else if len + n ≤ e / 2 then
                (if ro then none else some (.slice (some ⟨b, i, some 0⟩) (len + n) e, s.put b (.row sz (rows.take (i + len) ++ news ++ rows.drop (i + len + n)) false)))
              else some (.slice (some ⟨s.n, 0, some 0⟩) (len + n) 1, s.new (.row sz ((rows.drop i).take len ++ news) false))
            else none
          else none
        | _ => none
      | _ => none

/-- copy. -/
def cpy (s : St) (sz : Nat) (d x : Value) : Option (Value × St) :=
  match lenV d, lenV x with
  | some dn, some xn =>
    (rowsOf s sz (min xn dn) x).bind fun news =>
      match d with
      | .slice (some ⟨b, i, some 0⟩) _ _ =>
        match s.get b with
        | some (.row sz' rows false) =>
          if sz' = sz ∧ i + min xn dn ≤ rows.length then
            if min xn dn = 0 then some (.int .i64 0, s) else some (.int .i64 (min xn dn : Nat), s.put b (.row sz (rows.take i ++ news ++ rows.drop (i + min xn dn)) false))
          else none
        | _ => none
      | .slice none 0 0 => some (.int .i64 0, s)
      | _ => none
  | _, _ => none

/-- A text of bytes. -/
def bytesOf : List (List Value) → Option (List UInt8)
  | [] => some []
  | [.int .u8 n] :: r => (bytesOf r).map (UInt8.ofNat n.toNat :: ·)
  | _ :: _ => none

def b2s (s : St) (v : Value) : Option Value :=
  (lenV v).bind fun n => match v with
    | .slice _ _ _ => (rowsOf s 1 n v).bind fun rows => (bytesOf rows).map fun l => .string ⟨⟨l⟩⟩
    | _ => none

def pik : Value → Value → Value → Option Value
  | .bool true, a, _ => some a
  | .bool false, _, b => some b
  | _, _, _ => none

def nck : Value → Option Value
  | .pointer (some a) => some (.pointer (some a))
  | .func (.func f) a b => some (.func (.func f) a b)
  | _ => none

def xtr (i : Nat) : Value → Option Value
  | .tuple ⟨l⟩ => l[i]?
  | _ => none

def mn2 : Value → Value → Option Value
  | .int k a, .int _ b => some (.int k (if b < a then b else a))
  | _, _ => none

def mx2 : Value → Value → Option Value
  | .int k a, .int _ b => some (.int k (if b > a then b else a))
  | _, _ => none

/-- A cell, some cells of the call's own variable; cells stored into it. -/
def lcl (cs : List Value) (j : Nat) : Option Value := cs[j]?
def lal (cs : List Value) (j n : Nat) : Option Value := if j + n ≤ cs.length then some (.agg ⟨(cs.drop j).take n⟩) else none
def stl (cs : List Value) (j n : Nat) (v : Value) : Option (List Value) :=
  (bx v).bind fun vs => if vs.length = n ∧ j + n ≤ cs.length then some (spl cs j vs) else none

/-! ### Maps with keys without references -/

/-- May it be a key of that shape? -/
def keyS (n : Nat) (agg : Bool) (k : Value) : Bool :=
  plainV k && (match agg, k with
    | true, .agg ⟨l⟩ => decide (l.length = n)
    | true, _ => false
    | false, k => oneC k)

def findM (ks : List Nat) (agg : Bool) : List (Value × Value) → Value → Option (Option Nat)
  | [], _ => some none
  | (k, _) :: r, x => (eqT ks agg x k).bind fun e => if e then some (some 0) else (findM ks agg r x).map fun o => o.map (· + 1)

def mkm (s : St) : Option (Value × St) := some (.map (some s.n), s.new (.map [] false))

def lkp (s : St) (ks : List Nat) (agg : Bool) (zero : Value) (ok : Bool) (m k : Value) : Option Value :=
  if keyS ks.length agg k then
    match m with
    | .map none => some (if ok then .tuple ⟨[zero, .bool false]⟩ else zero)
    | .map (some b) =>
      match s.get b with
      | some (.map es _) => (findM ks agg es k).bind fun o => match o with
        | some i => (es[i]?).map fun e => if ok then .tuple ⟨[e.2, .bool true]⟩ else e.2
        | none => some (if ok then .tuple ⟨[zero, .bool false]⟩ else zero)
      | _ => none
    | _ => none
  else none

def upm (s : St) (ks : List Nat) (agg : Bool) (m k v : Value) : Option St :=
  if keyS ks.length agg k then
    match m with
    | .map (some b) =>
      match s.get b with
      | some (.map es false) => (findM ks agg es k).bind fun o => match o with
        | some i => some (s.put b (.map (es.set i (k, v)) false))
        | none => some (s.put b (.map (es ++ [(k, v)]) false))
      | _ => none
    | _ => none
  else none

end Go.Sim
