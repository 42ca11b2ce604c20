/-
  How the abstract heap stands to the model's world, and what keeps it so.
-/
import Derived.Test.YtkkgegocliobpaaSimB
import Derived.RowKit3
import Derived.Below
namespace Go.Sim
open Go.RowKit (Below)

structure Loc where
  blk : Nat
  off : Nat
  sz : Nat
  cap : Nat

abbrev Phi := Nat → Option Loc

def Phi.le (φ φ' : Phi) : Prop := ∀ b l, φ b = some l → φ' b = some l

theorem Phi.le.refl (φ : Phi) : φ.le φ := fun _ _ h => h
theorem Phi.le.trans {a b c : Phi} (h : a.le b) (k : b.le c) : a.le c := fun x l e => k x l (h x l e)

mutual
inductive VRel (φ : Phi) : Value → Value → Prop
  | bool (b : Bool) : VRel φ (.bool b) (.bool b)
  | int (k : IntKind) (n : Int) : VRel φ (.int k n) (.int k n)
  | str (s : ByteArray) : VRel φ (.string s) (.string s)
  | pnil : VRel φ (.pointer none) (.pointer none)
  | ptr {b i j : Nat} {l : Loc} (h : φ b = some l) : VRel φ (.pointer (some ⟨b, i, some j⟩)) (.pointer (some ⟨l.blk, l.off + i * l.sz + j, none⟩))
  | snil : VRel φ (.slice none 0 0) (.slice none 0 0)
  | slice {b i len e c : Nat} {a : Addr} {l : Loc} (h : φ b = some l) (h1 : len ≤ c) (h2 : i + c ≤ l.cap)
      (h3 : c ≠ 0 → a = ⟨l.blk, l.off + i * l.sz, none⟩) (h4 : (e = 1 ∧ i + c = l.cap) ∨ e = 2 * c) :
      VRel φ (.slice (some ⟨b, i, some 0⟩) len e) (.slice (some a) len c)
  | mnil : VRel φ (.map none) (.map none)
  | map {b : Nat} {l : Loc} (h : φ b = some l) : VRel φ (.map (some b)) (.map (some l.blk))
  | nilF : VRel φ .nilFunc .nilFunc
  | func (fn : Fn) {a a' c c' : List Value} (h1 : VsRel φ a a') (h2 : VsRel φ c c') : VRel φ (.func fn ⟨a⟩ ⟨c⟩) (.func fn ⟨a'⟩ ⟨c'⟩)
  | nilI : VRel φ .nilIface .nilIface
  | iface (t : TypeId) {v v' : Value} (h : VRel φ v v') : VRel φ (.iface t v) (.iface t v')
  | agg {l l' : List Value} (h : VsRel φ l l') (h1 : oneCs l = true) : VRel φ (.agg ⟨l⟩) (.agg ⟨l'⟩)
  | tuple {l l' : List Value} (h : VsRel φ l l') : VRel φ (.tuple ⟨l⟩) (.tuple ⟨l'⟩)
inductive VsRel (φ : Phi) : List Value → List Value → Prop
  | nil : VsRel φ [] []
  | cons {v v' : Value} {l l' : List Value} (h : VRel φ v v') (t : VsRel φ l l') : VsRel φ (v :: l) (v' :: l')
end

mutual
theorem VRel.mono {φ φ' : Phi} (hle : φ.le φ') : ∀ {v v' : Value}, VRel φ v v' → VRel φ' v v'
  | _, _, .bool b => .bool b
  | _, _, .int k n => .int k n
  | _, _, .str s => .str s
  | _, _, .pnil => .pnil
  | _, _, .ptr h => .ptr (hle _ _ h)
  | _, _, .snil => .snil
  | _, _, .slice h h1 h2 h3 h4 => .slice (hle _ _ h) h1 h2 h3 h4
  | _, _, .mnil => .mnil
  | _, _, .map h => .map (hle _ _ h)
  | _, _, .nilF => .nilF
  | _, _, .func fn h1 h2 => .func fn (VsRel.mono hle h1) (VsRel.mono hle h2)
  | _, _, .nilI => .nilI
  | _, _, .iface t h => .iface t (VRel.mono hle h)
  | _, _, .agg h h1 => .agg (VsRel.mono hle h) h1
  | _, _, .tuple h => .tuple (VsRel.mono hle h)
theorem VsRel.mono {φ φ' : Phi} (hle : φ.le φ') : ∀ {l l' : List Value}, VsRel φ l l' → VsRel φ' l l'
  | _, _, .nil => .nil
  | _, _, .cons h t => .cons (VRel.mono hle h) (VsRel.mono hle t)
end

mutual
theorem VRel.of_plain (φ : Phi) : ∀ {v : Value}, plainV v = true → VRel φ v v
  | .bool b, _ => .bool b
  | .int k n, _ => .int k n
  | .string s, _ => .str s
  | .pointer none, _ => .pnil
  | .pointer (some _), h => by simp [plainV] at h
  | .slice none 0 0, _ => .snil
  | .slice none 0 (n + 1), h => by simp [plainV] at h
  | .slice none (n + 1) c, h => by simp [plainV] at h
  | .slice (some _) _ _, h => by simp [plainV] at h
  | .map none, _ => .mnil
  | .map (some _), h => by simp [plainV] at h
  | .nilFunc, _ => .nilF
  | .func fn ⟨a⟩ ⟨c⟩, h => by
    simp only [plainV, Bool.and_eq_true] at h
    exact .func fn (VsRel.of_plain φ h.1) (VsRel.of_plain φ h.2)
  | .nilIface, _ => .nilI
  | .iface t v, h => .iface t (VRel.of_plain φ (by simpa only [plainV] using h))
  | .agg ⟨l⟩, h => by
    simp only [plainV, Bool.and_eq_true] at h
    exact .agg (VsRel.of_plain φ h.1) h.2
  | .tuple ⟨l⟩, h => .tuple (VsRel.of_plain φ (by simpa only [plainV] using h))
  | .float _ _, h => by simp [plainV] at h
  | .complex _ _ _, h => by simp [plainV] at h
  | .chan _, h => by simp [plainV] at h
theorem VsRel.of_plain (φ : Phi) : ∀ {l : List Value}, plainVs l = true → VsRel φ l l
  | [], _ => .nil
  | v :: l, h => by
    simp only [plainVs, Bool.and_eq_true] at h
    exact .cons (VRel.of_plain φ h.1) (VsRel.of_plain φ h.2)
end

mutual
/-- What is plain stands for itself alone. -/
theorem VRel.plain_eq {φ : Phi} : ∀ {v v' : Value}, VRel φ v v' → plainV v = true → v' = v
  | _, _, .bool b, _ => rfl
  | _, _, .int k n, _ => rfl
  | _, _, .str s, _ => rfl
  | _, _, .pnil, _ => rfl
  | _, _, .ptr h, hp => by simp [plainV] at hp
  | _, _, .snil, _ => rfl
  | _, _, .slice h h1 h2 h3 h4, hp => by simp [plainV] at hp
  | _, _, .mnil, _ => rfl
  | _, _, .map h, hp => by simp [plainV] at hp
  | _, _, .nilF, _ => rfl
  | _, _, .func fn h1 h2, hp => by
    simp only [plainV, Bool.and_eq_true] at hp
    rw [VsRel.plain_eq h1 hp.1, VsRel.plain_eq h2 hp.2]
  | _, _, .nilI, _ => rfl
  | _, _, .iface t h, hp => by
    simp only [plainV] at hp
    rw [VRel.plain_eq h hp]
  | _, _, .agg h _, hp => by
    simp only [plainV, Bool.and_eq_true] at hp
    rw [VsRel.plain_eq h hp.1]
  | _, _, .tuple h, hp => by
    simp only [plainV] at hp
    rw [VsRel.plain_eq h hp]
theorem VsRel.plain_eq {φ : Phi} : ∀ {l l' : List Value}, VsRel φ l l' → plainVs l = true → l' = l
  | _, _, .nil, _ => rfl
  | _, _, .cons h t, hp => by
    simp only [plainVs, Bool.and_eq_true] at hp
    rw [VRel.plain_eq h hp.1, VsRel.plain_eq t hp.2]
end

/-! ### Rows of values -/

theorem VsRel.length {φ : Phi} : ∀ {l l' : List Value}, VsRel φ l l' → l.length = l'.length
  | _, _, .nil => rfl
  | _, _, .cons _ t => by simp [VsRel.length t]

theorem VsRel.get {φ : Phi} : ∀ {l l' : List Value}, VsRel φ l l' → ∀ {i : Nat} {v : Value}, l[i]? = some v → ∃ v', l'[i]? = some v' ∧ VRel φ v v'
  | _, _, .nil, i, v, h => by simp at h
  | _, _, .cons h t, 0, v, e => ⟨_, rfl, by simp at e; exact e ▸ h⟩
  | _, _, .cons h t, i + 1, v, e => by
    obtain ⟨v', h1, h2⟩ := VsRel.get t (i := i) (v := v) (by simpa using e)
    exact ⟨v', by simpa using h1, h2⟩

theorem VsRel.of_get {φ : Phi} : ∀ {l l' : List Value}, l.length = l'.length → (∀ (i : Nat) v, l[i]? = some v → ∃ v', l'[i]? = some v' ∧ VRel φ v v') → VsRel φ l l'
  | [], [], _, _ => .nil
  | [], _ :: _, h, _ => by simp at h
  | _ :: _, [], h, _ => by simp at h
  | v :: l, v' :: l', h, hg => by
    refine .cons ?_ (VsRel.of_get (by simpa using h) fun i u hu => by simpa using hg (i + 1) u (by simpa using hu))
    obtain ⟨u, h1, h2⟩ := hg 0 v rfl
    simp at h1
    exact h1 ▸ h2

theorem VsRel.append {φ : Phi} : ∀ {a a' b b' : List Value}, VsRel φ a a' → VsRel φ b b' → VsRel φ (a ++ b) (a' ++ b')
  | _, _, _, _, .nil, h => h
  | _, _, _, _, .cons h t, h' => .cons h (VsRel.append t h')

theorem VsRel.drop {φ : Phi} : ∀ {a a' : List Value} (n : Nat), VsRel φ a a' → VsRel φ (a.drop n) (a'.drop n)
  | _, _, 0, h => by simpa using h
  | _, _, n + 1, .nil => by simpa using VsRel.nil
  | _, _, n + 1, .cons h t => by simpa using VsRel.drop n t

theorem VsRel.take {φ : Phi} : ∀ {a a' : List Value} (n : Nat), VsRel φ a a' → VsRel φ (a.take n) (a'.take n)
  | _, _, 0, h => by simpa using VsRel.nil
  | _, _, n + 1, .nil => by simpa using VsRel.nil
  | _, _, n + 1, .cons h t => by simpa using VsRel.cons h (VsRel.take n t)

theorem VsRel.spl {φ : Phi} : ∀ {l l' : List Value} (j : Nat) {vs vs' : List Value}, VsRel φ l l' → VsRel φ vs vs' → VsRel φ (spl l j vs) (Sim.spl l' j vs')
  | _, _, 0, _, _, h, .nil => by cases h <;> simpa [Sim.spl] using (by first | exact .nil | exact .cons ‹_› ‹_›)
  | _, _, 0, _, _, .nil, .cons h t => by simpa [Sim.spl] using VsRel.nil
  | _, _, 0, _, _, .cons h t, .cons h' t' => by simpa [Sim.spl] using VsRel.cons h' (VsRel.spl 0 t t')
  | _, _, j + 1, _, _, .nil, h => by simpa [Sim.spl] using VsRel.nil
  | _, _, j + 1, _, _, .cons h t, h' => by simpa [Sim.spl] using VsRel.cons h (VsRel.spl j t h')

theorem spl_length : ∀ (l : List Value) (j : Nat) (vs : List Value), (spl l j vs).length = l.length
  | l, 0, [] => by cases l <;> simp [spl]
  | [], 0, _ :: _ => by simp [spl]
  | [], _ + 1, _ => by simp [spl]
  | _ :: l, 0, _ :: vs => by simp [spl, spl_length l 0 vs]
  | _ :: l, j + 1, vs => by simp [spl, spl_length l j vs]

theorem spl_get : ∀ (l : List Value) (j : Nat) (vs : List Value) (i : Nat), j + vs.length ≤ l.length →
    (spl l j vs)[i]? = if j ≤ i ∧ i < j + vs.length then vs[i - j]? else l[i]?
  | l, 0, [], i, _ => by cases l <;> simp [spl]
  | [], 0, _ :: _, i, h => by simp at h
  | [], j + 1, vs, i, h => by simp at h
  | x :: l, 0, v :: vs, 0, _ => by simp [spl]
  | x :: l, 0, v :: vs, i + 1, h => by
    have := spl_get l 0 vs i (by simpa using h)
    simp only [spl, List.getElem?_cons_succ, this, Nat.zero_add, List.length_cons, Nat.zero_le, true_and, Nat.sub_zero, Nat.add_lt_add_iff_right]
  | x :: l, j + 1, vs, 0, _ => by simp [spl]
  | x :: l, j + 1, vs, i + 1, h => by
    have := spl_get l j vs i (by simp at h; omega)
    simp only [spl, List.getElem?_cons_succ, this]
    have e : (j + 1 ≤ i + 1 ∧ i + 1 < j + 1 + vs.length) ↔ (j ≤ i ∧ i < j + vs.length) := by omega
    simp only [e, Nat.add_sub_add_right]

theorem VRel.cellsL {φ : Phi} {v v' : Value} (h : VRel φ v v') : VsRel φ (cellsL v) (Sim.cellsL v') := by
  cases h with
  | agg h _ => exact h
  | bool b => exact .cons (.bool b) .nil
  | int k n => exact .cons (.int k n) .nil
  | str s => exact .cons (.str s) .nil
  | pnil => exact .cons .pnil .nil
  | ptr h => exact .cons (.ptr h) .nil
  | snil => exact .cons .snil .nil
  | slice h h1 h2 h3 h4 => exact .cons (.slice h h1 h2 h3 h4) .nil
  | mnil => exact .cons .mnil .nil
  | map h => exact .cons (.map h) .nil
  | nilF => exact .cons .nilF .nil
  | func fn h1 h2 => exact .cons (.func fn h1 h2) .nil
  | nilI => exact .cons .nilI .nil
  | iface t h => exact .cons (.iface t h) .nil
  | tuple h => exact .cons (.tuple h) .nil

theorem oneCs_get : ∀ {l : List Value}, oneCs l = true → ∀ {i : Nat} {v : Value}, l[i]? = some v → oneC v = true
  | [], _, i, v, h => by simp at h
  | x :: l, h, 0, v, e => by simp only [oneCs, Bool.and_eq_true] at h; simp at e; exact e ▸ h.1
  | x :: l, h, i + 1, v, e => by simp only [oneCs, Bool.and_eq_true] at h; exact oneCs_get h.2 (i := i) (by simpa using e)

theorem oneCs_of : ∀ {l : List Value}, (∀ (i : Nat) v, l[i]? = some v → oneC v = true) → oneCs l = true
  | [], _ => rfl
  | x :: l, h => by
    simp only [oneCs, Bool.and_eq_true]
    exact ⟨h 0 x rfl, oneCs_of fun i v hv => h (i + 1) v (by simpa using hv)⟩

theorem oneCs_take {l : List Value} (n : Nat) (h : oneCs l = true) : oneCs (l.take n) = true :=
  oneCs_of fun i v hv => oneCs_get h (i := i) (by rw [List.getElem?_take] at hv; split at hv <;> simp_all)

theorem oneCs_drop {l : List Value} (n : Nat) (h : oneCs l = true) : oneCs (l.drop n) = true :=
  oneCs_of fun i v hv => oneCs_get h (i := n + i) (by simpa using hv)

theorem oneCs_spl {l vs : List Value} {j : Nat} (h : oneCs l = true) (h' : oneCs vs = true) (hj : j + vs.length ≤ l.length) : oneCs (Sim.spl l j vs) = true :=
  oneCs_of fun i v hv => by
    rw [spl_get l j vs i hj] at hv
    split at hv
    · exact oneCs_get h' hv
    · exact oneCs_get h hv

theorem VRel.oneC {φ : Phi} {v v' : Value} (h : VRel φ v v') : Sim.oneC v' = Sim.oneC v := by
  cases h <;> rfl

theorem VsRel.oneCs {φ : Phi} : ∀ {l l' : List Value}, VsRel φ l l' → Sim.oneCs l' = Sim.oneCs l
  | _, _, .nil => rfl
  | _, _, .cons h t => by simp only [Sim.oneCs, h.oneC, VsRel.oneCs t]

/-- The cells that a variable takes: all of one cell each. -/
theorem bx_rel {φ : Phi} {v v' : Value} {cs : List Value} (h : VRel φ v v') (hb : bx v = some cs) : VsRel φ cs (Sim.cellsL v') ∧ Sim.oneCs cs = true ∧ cs = Sim.cellsL v := by
  have hc := h.cellsL
  cases h <;> simp only [bx, Option.some.injEq, reduceCtorEq] at hb <;> subst hb <;> refine ⟨hc, ?_, rfl⟩ <;> first | rfl | assumption

theorem cells_toList (v : Value) : v.cells.toList = cellsL v := by
  cases v <;> simp [Value.cells, cellsL]

theorem VsRel.zero {φ : Phi} {z : Value} (h : plainV z = true) : VsRel φ (Sim.cellsL z) (Sim.cellsL z) := (VRel.of_plain φ h).cellsL

/-! ### The heap -/

def BRel (φ : Phi) (l : Loc) (k : Blk) (w : World) : Prop :=
  match k with
  | .row sz rows ro => l.sz = sz ∧ rows.length ≤ l.cap ∧ ∃ cs e fz, w.heap[l.blk]? = some (.cells cs e fz) ∧ l.off + l.cap * sz ≤ cs.size ∧
      (∀ (i : Nat) r, rows[i]? = some r → r.length = sz ∧ oneCs r = true ∧ ∀ (j : Nat) v, r[j]? = some v → ∃ u, cs[l.off + i * sz + j]? = some u ∧ VRel φ v u) ∧ (ro = false → fz = (0, 0))
  | .map es _ => ∃ es' clk, w.heap[l.blk]? = some (.map es' clk) ∧ es.length = es'.size ∧ ∀ (i : Nat) k v, es[i]? = some (k, v) → plainV k = true ∧ ∃ e : MapEntry, es'[i]? = some e ∧ e.key = k ∧ VRel φ v e.val

structure Rel (φ : Phi) (s : St) (w : World) : Prop where
  fresh : ∀ b l, φ b = some l → b < s.n
  blk : ∀ b k, s.get b = some k → ∃ l, φ b = some l ∧ BRel φ l k w
  inj : ∀ b c k k' l l', s.get b = some k → s.get c = some k' → b ≠ c → k.ro = false → φ b = some l → φ c = some l' → l.blk ≠ l'.blk

theorem BRel.lt {φ : Phi} {l : Loc} {k : Blk} {w : World} (h : BRel φ l k w) : l.blk < w.heap.size := by
  cases k with
  | row sz rows ro =>
    obtain ⟨_, _, cs, e, fz, hh, _⟩ := h
    rcases Nat.lt_or_ge l.blk w.heap.size with h | h
    · exact h
    · simp [Array.getElem?_eq_none h] at hh
  | map es ro =>
    obtain ⟨es', clk, hh, _⟩ := h
    rcases Nat.lt_or_ge l.blk w.heap.size with h | h
    · exact h
    · simp [Array.getElem?_eq_none h] at hh

theorem BRel.of_same {φ φ' : Phi} {l : Loc} {k : Blk} {w w' : World} (hle : φ.le φ') (h : BRel φ l k w) (hw : w'.heap[l.blk]? = w.heap[l.blk]?) : BRel φ' l k w' := by
  cases k with
  | row sz rows ro =>
    obtain ⟨h1, h2, cs, e, fz, hh, h3, h4, h5⟩ := h
    refine ⟨h1, h2, cs, e, fz, hw.trans hh, h3, fun i r hr => ⟨(h4 i r hr).1, (h4 i r hr).2.1, fun j v hv => ?_⟩, h5⟩
    obtain ⟨u, hu, hv⟩ := (h4 i r hr).2.2 j v hv
    exact ⟨u, hu, hv.mono hle⟩
  | map es ro =>
    obtain ⟨es', clk, hh, h2, h3⟩ := h
    refine ⟨es', clk, hw.trans hh, h2, fun i k v hv => ?_⟩
    obtain ⟨hp, e, he, hk, hv⟩ := h3 i k v hv
    exact ⟨hp, e, he, hk, hv.mono hle⟩

/-! ### Lookups in the abstract heap -/

theorem getH_put : ∀ (h : List (Nat × Blk)) (b c : Nat) (x : Blk), getH (putH h b x) c = if c = b then (getH h b).map (fun _ => x) else getH h c
  | [], b, c, x => by simp [putH, getH]
  | (i, k) :: r, b, c, x => by
    have ih := getH_put r b c x
    simp only [putH]
    by_cases hb : b = i
    · subst hb
      by_cases hc : c = b <;> simp [getH, hc]
    · by_cases hc : c = i
      · subst hc
        simp [getH, hb, Ne.symm hb]
      · by_cases hcb : c = b
        · subst hcb; simp [getH, hb, ih]
        · simp [getH, hb, hc, hcb, ih]

theorem getH_del : ∀ (h : List (Nat × Blk)) (b c : Nat), getH (delH h b) c = if c = b then none else getH h c
  | [], b, c => by simp [delH, getH]
  | (i, k) :: r, b, c => by
    have ih := getH_del r b c
    simp only [delH]
    by_cases hb : b = i
    · subst hb
      by_cases hc : c = b
      · subst hc; simpa [getH] using ih
      · simp [getH, hc, ih]
    · by_cases hc : c = i
      · subst hc
        simp [getH, hb, Ne.symm hb]
      · simp [getH, hb, hc, ih]

theorem St.get_put (s : St) (b c : Nat) (x : Blk) : (s.put b x).get c = if c = b then (s.get b).map (fun _ => x) else s.get c := getH_put s.h b c x
theorem St.get_del (s : St) (b c : Nat) : (s.del b).get c = if c = b then none else s.get c := getH_del s.h b c
theorem St.get_new (s : St) (c : Nat) (x : Blk) : (s.new x).get c = if c = s.n then some x else s.get c := by
  simp only [St.get, St.new, getH]
@[simp] theorem St.n_put (s : St) (b : Nat) (x : Blk) : (s.put b x).n = s.n := rfl
@[simp] theorem St.n_del (s : St) (b : Nat) : (s.del b).n = s.n := rfl
@[simp] theorem St.n_new (s : St) (x : Blk) : (s.new x).n = s.n + 1 := rfl

/-! ### A step -/

/-- What is frozen of what was there is what was. -/
def Froz (w w' : World) : Prop := ∀ a, a.block < w.heap.size → w'.frozen? a = w.frozen? a

/-- What of the world has turned: of what was there, nothing but what the heap's own rows hold. -/
structure Frm (φ : Phi) (s : St) (w w' : World) : Prop where
  os : w'.os = w.os
  tape : w'.tape = w.tape
  output : w'.output = w.output
  size : w.heap.size ≤ w'.heap.size
  old : ∀ c, c < w.heap.size → (∀ b k l, s.get b = some k → k.ro = false → φ b = some l → l.blk ≠ c) → w'.heap[c]? = w.heap[c]?

structure Step (φ : Phi) (s : St) (w : World) (φ' : Phi) (s' : St) (w' : World) : Prop where
  rel : Rel φ' s' w'
  ext : φ.le φ'
  frm : Frm φ s w w'
  own : ∀ b k l, s'.get b = some k → φ' b = some l → w.heap.size ≤ l.blk ∨ ∃ b0 k0 l0, s.get b0 = some k0 ∧ (k.ro = false → k0.ro = false) ∧ φ b0 = some l0 ∧ l0.blk = l.blk

theorem Step.refl {φ : Phi} {s : St} {w : World} (h : Rel φ s w) : Step φ s w φ s w :=
  ⟨h, .refl _, ⟨rfl, rfl, rfl, Nat.le_refl _, fun _ _ _ => rfl⟩, fun b k l h1 h3 => .inr ⟨b, k, l, h1, id, h3, rfl⟩⟩

theorem Step.trans {φ φ' φ'' : Phi} {s s' s'' : St} {w w' w'' : World} (h : Step φ s w φ' s' w') (k : Step φ' s' w' φ'' s'' w'') : Step φ s w φ'' s'' w'' := by
  refine ⟨k.rel, h.ext.trans k.ext, ⟨k.frm.os.trans h.frm.os, k.frm.tape.trans h.frm.tape, k.frm.output.trans h.frm.output, Nat.le_trans h.frm.size k.frm.size, fun c hc hn => ?_⟩, fun b x l h1 h3 => ?_⟩
  · rw [k.frm.old c (Nat.lt_of_lt_of_le hc h.frm.size) fun b x l h1 h2 h3 e => ?_, h.frm.old c hc hn]
    rcases h.own b x l h1 h3 with h4 | ⟨b0, k0, l0, g1, g2, g3, g4⟩
    · omega
    · exact hn b0 k0 l0 g1 (g2 h2) g3 (g4.trans e)
  · rcases k.own b x l h1 h3 with h4 | ⟨b0, k0, l0, g1, g2, g3, g4⟩
    · exact .inl (Nat.le_trans h.frm.size h4)
    · rcases h.own b0 k0 l0 g1 g3 with h5 | ⟨b1, k1, l1, f1, f2, f3, f4⟩
      · exact .inl (g4 ▸ h5)
      · exact .inr ⟨b1, k1, l1, f1, fun hr => f2 (g2 hr), f3, f4.trans g4⟩

/-- Nothing that was there has turned. -/
theorem Rel.of_below {φ : Phi} {s : St} {w w' : World} (h : Rel φ s w) (hb : Below w.heap.size w w') : Rel φ s w' := by
  refine ⟨h.fresh, fun b k hk => ?_, h.inj⟩
  obtain ⟨l, hl, hr⟩ := h.blk b k hk
  exact ⟨l, hl, hr.of_same (.refl _) (hb.block _ hr.lt)⟩

theorem Step.of_below {φ : Phi} {s : St} {w w' : World} (h : Rel φ s w) (hb : Below w.heap.size w w') (hz : Froz w w') : Step φ s w φ s w' :=
  ⟨h.of_below hb, .refl _, ⟨hb.os, hb.tape, hb.output, hb.size, fun c hc _ => hb.block c hc⟩, fun b k l h1 h3 => .inr ⟨b, k, l, h1, id, h3, rfl⟩⟩

theorem Froz.of_below {w w' : World} (hb : Below w.heap.size w w') : Froz w w' := fun a ha => by
  simp only [World.frozen?, hb.block _ ha]

theorem Below.size_trans {w w' w'' : World} (h : Below w.heap.size w w') (k : Below w'.heap.size w' w'') : Below w.heap.size w w'' := h.trans (k.mono h.size)

end Go.Sim
