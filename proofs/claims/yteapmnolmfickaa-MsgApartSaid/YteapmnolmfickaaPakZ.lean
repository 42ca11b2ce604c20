/-
  A reader: a row of two cells, a slice of bytes and a place; its byte, its number, its whole number.
-/
import Derived.Test.YteapmnolmfickaaPakM
import Derived.KernelRfl
set_option linter.unusedSimpArgs false
set_option linter.unusedVariables false
set_option maxRecDepth 100000
set_option maxHeartbeats 4000000
namespace Go.Proofs.Yteapmnolmfickaa
open Go.Sim Go.Sim.Bt
attribute [local congr] bdc cndc itec gdc gdSc gdUc
inductive RdR (α : Type) where
  | ok (a : α) (p : Nat)
  | bad (e : Int) (p : Nat)
def RdR.at {α : Type} : RdR α → Nat
  | .ok _ p => p
  | .bad _ p => p
def byteP (bs : List Int) (c : Nat → Bool) (p : Nat) : RdR Nat := match bs[p]? with
  | none => .bad 32 p
  | some y => if c y.toNat = true then .ok y.toNat (p + 1) else .bad 31 p
def maxU : Nat := 18446744073709551615
def condN (most i x y : Nat) : Bool := decide (¬ (0 < i ∧ y = 0) ∧ ¬ (i = 9 ∧ y ≠ 1) ∧ (most = maxU ∨ x + y % 128 * 128 ^ i + (if 128 ≤ y then 128 ^ (i + 1) else 0) ≤ most))
def numL (bs : List Int) (most : Nat) : Nat → Nat → Nat → Nat → RdR Nat
  | 0, _, _, p => .bad 0 p
  | d + 1, i, x, p => match byteP bs (condN most i x) p with
    | .bad e q => .bad e q
    | .ok y q => if y < 128 then .ok (x + y % 128 * 128 ^ i) q else numL bs most d (i + 1) (x + y % 128 * 128 ^ i) q
def numP (bs : List Int) (most p : Nat) : RdR Nat := numL bs most 10 0 0 p
def unzz (x : Nat) : Int := if x % 2 = 1 then -((x / 2 : Nat) : Int) - 1 else ((x / 2 : Nat) : Int)
def intP (bs : List Int) (p : Nat) : RdR Int := match numP bs maxU p with
  | .bad e q => .bad e q
  | .ok x q => .ok (unzz x) q
def rpt (b : Nat) : Value := .pointer (some ⟨b, 0, some 0⟩)
def pv (e : Int) : Value := .iface 135 (.agg ⟨[.int .i64 e]⟩)
structure RdAt (n1 b : Nat) (bv : Value) (bs : List Int) (p : Nat) (s : St) : Prop where
  fr : Fresh s
  row : s.get b = some (.row 2 [[bv, .int .i64 (p : Int)]] false)
  byt : Pers n1 s fun s => Byt s bv (br bs)
  lt : n1 ≤ b
  le : p ≤ bs.length
  sz : bs.length ≤ 1000000000
  ok : okY bs
structure RdS (b : Nat) (s s' : St) : Prop where
  n : s.n ≤ s'.n
  keep : ∀ x, x < s.n → x ≠ b → s'.get x = s.get x
theorem RdS.refl (b : Nat) (s : St) : RdS b s s := ⟨Nat.le_refl _, fun _ _ _ => rfl⟩
theorem RdS.trans {b : Nat} {s s1 s2 : St} (h : RdS b s s1) (k : RdS b s1 s2) : RdS b s s2 :=
  ⟨Nat.le_trans h.n k.n, fun x hx hb => (k.keep x (Nat.lt_of_lt_of_le hx h.n) hb).trans (h.keep x hx hb)⟩
theorem RdAt.n {n1 b p : Nat} {bv : Value} {bs : List Int} {s : St} (h : RdAt n1 b bv bs p s) : b < s.n := h.fr.lt h.row
theorem RdAt.put {n1 b p : Nat} {bv : Value} {bs : List Int} {s : St} (h : RdAt n1 b bv bs p s) {q : Nat} (hq : q ≤ bs.length) :
    RdAt n1 b bv bs q (s.put b (.row 2 [[bv, .int .i64 (q : Int)]] false)) ∧ RdS b s (s.put b (.row 2 [[bv, .int .i64 (q : Int)]] false)) :=
  ⟨⟨h.fr.put, get_put_same h.row, h.byt.to fun x hx => get_put_ne (by have := h.lt; omega), h.lt, hq, h.sz, h.ok⟩, ⟨Nat.le_refl _, fun x _ hx => get_put_ne hx⟩⟩
section
variable {n1 b p : Nat} {bv : Value} {bs : List Int} {s : St}
end
end Go.Proofs.Yteapmnolmfickaa
/-
  The program's reader: a number, a whole number.
-/
set_option linter.unusedSimpArgs false
set_option linter.unusedVariables false
set_option maxRecDepth 100000
set_option maxHeartbeats 4000000
namespace Go.Proofs.Yteapmnolmfickaa
open Go.Sim Go.Sim.Bt
attribute [local congr] bdc cndc itec gdc gdSc gdUc
theorem okY.at {bs : List Int} (h : okY bs) {p : Nat} {y : Int} (hp : bs[p]? = some y) : ∃ z : Nat, y = z ∧ z < 256 := by
  have := h y (List.mem_of_getElem? hp)
  exact ⟨y.toNat, by omega, by omega⟩
theorem byteP_some {bs : List Int} {c : Nat → Bool} {p y : Nat} (h : bs[p]? = some (y : Int)) : byteP bs c p = if c y = true then .ok y (p + 1) else .bad 31 p := by unfold byteP; rw [h]; rfl
section
variable {n1 b p : Nat} {bv : Value} {bs : List Int} {s : St}
end
end Go.Proofs.Yteapmnolmfickaa
/-
  The program's reader: a vector, a key, a field.
-/
set_option linter.unusedSimpArgs false
set_option linter.unusedVariables false
set_option maxRecDepth 100000
set_option maxHeartbeats 4000000
namespace Go.Proofs.Yteapmnolmfickaa
open Go.Sim Go.Sim.Bt
attribute [local congr] bdc cndc itec gdc gdSc gdUc
def vecL (bs : List Int) : Nat → Nat → Nat → Nat → RdR Nat
  | 0, _, v, p => .ok v p
  | d + 1, m, v, p => if m = 0 then .ok v p else match byteP bs (fun y => decide (y % 2 ^ (8 - m) = 0)) p with
    | .bad e q => .bad e q
    | .ok y q => vecL bs d (m - 8) (v * 2 ^ (8 - (8 - m)) + y / 2 ^ (8 - m)) q
def vecP (bs : List Int) (p : Nat) : RdR (Nat × Nat) := match byteP bs (fun y => decide (y ≤ 32)) p with
  | .bad e q => .bad e q
  | .ok n q => match vecL bs 5 n 0 q with
    | .bad e q => .bad e q
    | .ok v q => .ok (n, v) q
def keyL (bs : List Int) : Nat → Nat → Nat → RdR Nat
  | 0, x, p => .ok x p
  | d + 1, x, p => match byteP bs (fun _ => true) p with
    | .bad e q => .bad e q
    | .ok y q => keyL bs d (x * 256 + y) q
def keyP (bs : List Int) (p : Nat) : RdR (Nat × Nat) := match byteP bs (fun y => decide (1 ≤ y ∧ y ≤ 3)) p with
  | .bad e q => .bad e q
  | .ok r q => if r = 2 then (match keyL bs 8 0 q with
    | .bad e q => .bad e q
    | .ok v q => .ok (r, v) q) else .ok (r, 0) q
section
variable {n1 b p : Nat} {bv : Value} {bs : List Int} {s : St}
def z2 : List Value := [.int .i64 0, .int .u64 0]
end
end Go.Proofs.Yteapmnolmfickaa
/-
  The program's reader: a field.
-/
set_option linter.unusedSimpArgs false
set_option linter.unusedVariables false
set_option maxRecDepth 100000
set_option maxHeartbeats 4000000
namespace Go.Proofs.Yteapmnolmfickaa
open Go.Sim Go.Sim.Bt
attribute [local congr] bdc cndc itec gdc gdSc gdUc
def fd0 (k : Int) : Fd := ⟨k, 0, 0, false, nilB, 0, 0, 0, 0, 0, 0, 0, 0, 0⟩
def bytesL (bs : List Int) : Nat → List Int → Nat → RdR (List Int)
  | 0, l, p => .ok l p
  | n + 1, l, p => match byteP bs (fun _ => true) p with
    | .bad e q => .bad e q
    | .ok y q => bytesL bs n (l ++ [(y : Int)]) q
def fieldP (bs : List Int) (k : Int) (p : Nat) : RdR FB :=
  if k = 1 then (match numP bs maxU p with | .bad e q => .bad e q | .ok x q => .ok ({ fd0 k with n := x }, []) q)
  else if k = 2 then (match intP bs p with | .bad e q => .bad e q | .ok x q => .ok ({ fd0 k with i := x }, []) q)
  else if k = 3 then (match byteP bs (fun y => decide (y ≤ 1)) p with | .bad e q => .bad e q | .ok y q => .ok ({ fd0 k with t := decide (y = 1) }, []) q)
  else if k = 4 then (match numP bs 65536 p with | .bad e q => .bad e q | .ok n q => (match bytesL bs n [] q with | .bad e q => .bad e q | .ok l q => .ok (fd0 k, l) q))
  else if k = 5 then (match vecP bs p with | .bad e q => .bad e q | .ok v q => .ok ({ fd0 k with vl := v.1, vb := v.2 }, []) q)
  else if k = 6 then (match keyP bs p with | .bad e q => .bad e q | .ok v q => .ok ({ fd0 k with kr := v.1, kn := v.2 }, []) q)
  else if k = 7 then (match intP bs p with
    | .bad e q => .bad e q
    | .ok i q => (match keyP bs q with
      | .bad e q => .bad e q
      | .ok u q => (match vecP bs q with
        | .bad e q => .bad e q
        | .ok v q => .ok ({ fd0 k with id := i, rr := u.1, rn := u.2, rl := v.1, rb := v.2 }, []) q)))
  else .ok (fd0 k, []) p
section
variable {n1 b p : Nat} {bv : Value} {bs : List Int} {s : St}
end
end Go.Proofs.Yteapmnolmfickaa
/-
  The fields with which bytes begin, as the program reads them.
-/
set_option linter.unusedSimpArgs false
set_option linter.unusedVariables false
set_option maxRecDepth 100000
set_option maxHeartbeats 4000000
namespace Go.Proofs.Yteapmnolmfickaa
open Go.Sim Go.Sim.Bt
attribute [local congr] bdc cndc itec gdc gdSc gdUc
def clr (p : FB) : FB := ({ p.1 with b := nilB }, p.2)
def firstL (bs : List Int) : List Int → Nat → List FB → RdR (List FB)
  | [], p, gs => .ok gs p
  | k :: ks, p, gs => match fieldP bs k p with
    | .bad e q => .bad e q
    | .ok a q => firstL bs ks q (gs ++ [a])
end Go.Proofs.Yteapmnolmfickaa
/-
  The fields with which bytes begin: the program's First.
-/
set_option linter.unusedSimpArgs false
set_option linter.unusedVariables false
set_option maxRecDepth 100000
set_option maxHeartbeats 4000000
namespace Go.Proofs.Yteapmnolmfickaa
open Go.Sim Go.Sim.Bt
attribute [local congr] bdc cndc itec gdc gdSc gdUc
def kr (ks : List Int) : List (List Value) := ks.map fun k => [.int .i64 k]
def KL (n : Nat) (s : St) (v : Value) (ks : List Int) : Prop := Pers n s fun s => IsR s 1 v (kr ks)
theorem KL.len {n : Nat} {s : St} {v : Value} {ks : List Int} (h : KL n s v ks) : lenL v = some (.int .i64 ks.length) := by
  have := (Pers.here h).len
  simpa [kr] using this
theorem KL.at {n : Nat} {s : St} {v : Value} {ks : List Int} (h : KL n s v ks) {j : Nat} {k : Int} (hj : ks[j]? = some k) : ∃ q, idx s 1 v (.int .i64 (j : Int)) = some q ∧ ldc s q = some (.int .i64 k) := by
  obtain ⟨b, all, ro, h1, h2, h3⟩ := (Pers.here h).at (j := j) (r := [.int .i64 k]) (by simp [kr, hj])
  exact ⟨_, h1, by rw [ldc_row h2, h3]; rfl⟩
def cpt (b : Nat) : Value := .pointer (some ⟨b, 0, some 0⟩)
structure FsAt (N n1 : Nat) (s0 : St) (bv : Value) (bs : List Int) (fs : List FB) (p : Nat) (s : St) : Prop where
  rd : RdAt n1 (N + 3) bv bs p s
  lst : ∃ lv, s.get N = some (.row 1 [[lv]] false) ∧ Ful (N + 5) s 14 lv (fs.map fun p => p.1.cs)
  r1 : s.get (N + 1) = some (.row 1 [[.int .i64 0]] false)
  r2 : s.get (N + 2) = some (.row 1 [[.int .i64 0]] false)
  box : s.get (N + 4) = some (.row 1 [[rpt (N + 3)]] false)
  byt : ∀ p ∈ fs, FdA p.1 ∧ Ful (N + 5) s 1 p.1.b (br p.2)
  le : N + 5 ≤ s.n
  old : ∀ x, x < N → s.get x = s0.get x
end Go.Proofs.Yteapmnolmfickaa
/-
  The fields with which bytes begin: First, joined; the fields that bytes are.
-/
set_option linter.unusedSimpArgs false
set_option linter.unusedVariables false
set_option maxRecDepth 100000
set_option maxHeartbeats 4000000
namespace Go.Proofs.Yteapmnolmfickaa
open Go.Sim Go.Sim.Bt
attribute [local congr] bdc cndc itec gdc gdSc gdUc
theorem Ful.byt {n0 : Nat} {s : St} {v : Value} {l : List Int} (h : Ful n0 s 1 v (br l)) : Byt s v (br l) := by
  have h1 := h.lenV
  have h2 := h.rowsOf
  refine ⟨?_, h1, h2, ⟨_, bytesOf_br l⟩⟩
  rcases h with ⟨rfl, _⟩ | ⟨b, e, _, rfl, _⟩
  · exact ⟨_, _, _, rfl⟩
  · exact ⟨_, _, _, rfl⟩
theorem caught (s : St) (N : Nat) (e : Int) {bv : Value} {p : Nat} {lv v1 v2 : Value} (h0 : s.get N = some (.row 1 [[lv]] false)) (h1 : s.get (N + 1) = some (.row 1 [[v1]] false)) (h2 : s.get (N + 2) = some (.row 1 [[v2]] false)) (h3 : s.get (N + 3) = some (.row 2 [[bv, .int .i64 (p : Int)]] false)) (h4 : s.get (N + 4) = some (.row 1 [[rpt (N + 3)]] false)) :
    ∃ s', pack_FirstC.c std (cpt (N + 4)) (cpt N) (cpt (N + 1)) (cpt (N + 2)) (pv e) s = some s' ∧ s'.n = s.n ∧ (Fresh s → Fresh s') ∧ (∀ x, x < N → s'.get x = s.get x) ∧ ldc s' (cpt N) = some nilB ∧ ldc s' (cpt (N + 1)) = some (.int .i64 (p : Int)) ∧ ldc s' (cpt (N + 2)) = some (.int .i64 e) := by
  have e1 : eqI false (pv e) .nilIface = some (.bool false) := rfl
  have e2 : tas Try.prog 135 true (.agg #[.int .i64 0]) (pv e) = some (.tuple ⟨[.agg ⟨[.int .i64 e]⟩, .bool true]⟩) := by kernel_rfl
  have e3 : xtr 0 (.tuple ⟨[.agg ⟨[.int .i64 e]⟩, .bool true]⟩) = some (.agg ⟨[.int .i64 e]⟩) := rfl
  have e4 : xtr 1 (.tuple ⟨[.agg ⟨[.int .i64 e]⟩, .bool true]⟩) = some (.bool true) := rfl
  have e5 : bx (.agg #[.int .i64 0]) = some [.int .i64 0] := rfl
  have e6 : stl [.int .i64 0] 0 1 (.agg ⟨[.int .i64 e]⟩) = some [.int .i64 e] := rfl
  have e7 : un .not (.bool true) = some (.bool false) := rfl
  have e8 : ldc s (cpt (N + 4)) = some (rpt (N + 3)) := by rw [cpt, ldc_row h4]; rfl
  have e9 : nck (rpt (N + 3)) = some (rpt (N + 3)) := rfl
  have e10 : fld 0 (rpt (N + 3)) = some (rpt (N + 3)) := rfl
  have e11 : fld 1 (rpt (N + 3)) = some (.pointer (some ⟨N + 3, 0, some 1⟩)) := rfl
  have e12 : ldc s (.pointer (some ⟨N + 3, 0, some 1⟩)) = some (.int .i64 (p : Int)) := by rw [ldc_row h3]; rfl
  have e13 : lcl [.int .i64 e] 0 = some (.int .i64 e) := rfl
  have w1 : stv s 1 (cpt N) (.slice none 0 0) = some (s.put N (.row 1 [[nilB]] false)) := by rw [cpt, stv_row h0]; rfl
  have a0 : (s.put N (.row 1 [[nilB]] false)).get N = some (.row 1 [[nilB]] false) := get_put_same h0
  have a1 : (s.put N (.row 1 [[nilB]] false)).get (N + 1) = some (.row 1 [[v1]] false) := by rw [get_put_ne (by omega)]; exact h1
  have a2 : (s.put N (.row 1 [[nilB]] false)).get (N + 2) = some (.row 1 [[v2]] false) := by rw [get_put_ne (by omega)]; exact h2
  have f1 : Fresh s → Fresh (s.put N (.row 1 [[nilB]] false)) := fun f => f.put
  have o1 : ∀ x, x < N → (s.put N (.row 1 [[nilB]] false)).get x = s.get x := fun x hx => get_put_ne (by omega)
  have n1 : (s.put N (.row 1 [[nilB]] false)).n = s.n := rfl
  generalize s.put N (.row 1 [[nilB]] false) = s1 at *
  have w2 : stv s1 1 (cpt (N + 1)) (.int .i64 (p : Int)) = some (s1.put (N + 1) (.row 1 [[.int .i64 (p : Int)]] false)) := by rw [cpt, stv_row a1]; rfl
  have b0 : (s1.put (N + 1) (.row 1 [[.int .i64 (p : Int)]] false)).get N = some (.row 1 [[nilB]] false) := by rw [get_put_ne (by omega)]; exact a0
  have b1 : (s1.put (N + 1) (.row 1 [[.int .i64 (p : Int)]] false)).get (N + 1) = some (.row 1 [[.int .i64 (p : Int)]] false) := get_put_same a1
  have b2 : (s1.put (N + 1) (.row 1 [[.int .i64 (p : Int)]] false)).get (N + 2) = some (.row 1 [[v2]] false) := by rw [get_put_ne (by omega)]; exact a2
  have f2 : Fresh s1 → Fresh (s1.put (N + 1) (.row 1 [[.int .i64 (p : Int)]] false)) := fun f => f.put
  have o2 : ∀ x, x < N → (s1.put (N + 1) (.row 1 [[.int .i64 (p : Int)]] false)).get x = s1.get x := fun x hx => get_put_ne (by omega)
  have n2 : (s1.put (N + 1) (.row 1 [[.int .i64 (p : Int)]] false)).n = s1.n := rfl
  generalize s1.put (N + 1) (.row 1 [[.int .i64 (p : Int)]] false) = s2 at *
  have w3 : stv s2 1 (cpt (N + 2)) (.int .i64 e) = some (s2.put (N + 2) (.row 1 [[.int .i64 e]] false)) := by rw [cpt, stv_row b2]; rfl
  refine ⟨s2.put (N + 2) (.row 1 [[.int .i64 e]] false), ?_, by rw [put_n, n2, n1], fun f => (f2 (f1 f)).put, fun x hx => by rw [get_put_ne (by omega), o2 x hx, o1 x hx], ?_, ?_, ?_⟩
  · unfold pack_FirstC.c
    simp only [std_bd, std_cnd, e1, e2, e3, e4, e5, e6, e7, e8, e9, e10, e11, e12, e13, w1, w2, w3, bds, cnd, if_true, List.getD_cons_zero, List.getD_cons_succ, cellsA]
  · rw [cpt, ldc_row (by rw [get_put_ne (by omega)]; exact b0)]; rfl
  · rw [cpt, ldc_row (by rw [get_put_ne (by omega)]; exact b1)]; rfl
  · rw [cpt, ldc_row (get_put_same b2)]; rfl
theorem idle (s : St) (y1 y2 y3 y4 : Value) : pack_FirstC.c std y4 y1 y2 y3 .nilIface s = some s := by
  have e1 : eqI false .nilIface .nilIface = some (.bool true) := rfl
  unfold pack_FirstC.c
  simp only [std_bd, std_cnd, e1, bds, cnd]
end Go.Proofs.Yteapmnolmfickaa
/-
  The reference's reader: a byte, a number, a whole number, a key.
-/
set_option linter.unusedSimpArgs false
set_option linter.unusedVariables false
set_option maxRecDepth 100000
set_option maxHeartbeats 4000000
namespace Go.Proofs.Yteapmnolmfickaa
open Go.Sim Go.Sim.Bt
attribute [local congr] bdc cndc itec gdc gdSc gdUc
structure RrAt (n1 b : Nat) (bv : Value) (bs : List Int) (p : Nat) (e : Int) (s : St) : Prop where
  fr : Fresh s
  row : s.get b = some (.row 3 [[bv, .int .i64 (p : Int), .int .i64 e]] false)
  byt : Pers n1 s fun s => Byt s bv (br bs)
  lt : n1 ≤ b
  le : p ≤ bs.length
  sz : bs.length ≤ 1000000000
  ok : okY bs
theorem RrAt.n {n1 b p : Nat} {bv : Value} {bs : List Int} {e : Int} {s : St} (h : RrAt n1 b bv bs p e s) : b < s.n := h.fr.lt h.row
theorem RrAt.put {n1 b p : Nat} {bv : Value} {bs : List Int} {e : Int} {s : St} (h : RrAt n1 b bv bs p e s) {q : Nat} (hq : q ≤ bs.length) (e' : Int) :
    RrAt n1 b bv bs q e' (s.put b (.row 3 [[bv, .int .i64 (q : Int), .int .i64 e']] false)) ∧ RdS b s (s.put b (.row 3 [[bv, .int .i64 (q : Int), .int .i64 e']] false)) :=
  ⟨⟨h.fr.put, get_put_same h.row, h.byt.to fun x hx => get_put_ne (by have := h.lt; omega), h.lt, hq, h.sz, h.ok⟩, ⟨Nat.le_refl _, fun x _ hx => get_put_ne hx⟩⟩
section
variable {n1 b p : Nat} {bv : Value} {bs : List Int} {s : St}
end
end Go.Proofs.Yteapmnolmfickaa
/-
  The reference's reader: a number, a whole number, a key.
-/
set_option linter.unusedSimpArgs false
set_option linter.unusedVariables false
set_option maxRecDepth 100000
set_option maxHeartbeats 4000000
namespace Go.Proofs.Yteapmnolmfickaa
open Go.Sim Go.Sim.Bt
attribute [local congr] bdc cndc itec gdc gdSc gdUc
section
variable {n1 b p : Nat} {bv : Value} {bs : List Int} {s : St}
end
end Go.Proofs.Yteapmnolmfickaa
/-
  The reference's reader: a key, a vector.
-/
set_option linter.unusedSimpArgs false
set_option linter.unusedVariables false
set_option maxRecDepth 100000
set_option maxHeartbeats 4000000
namespace Go.Proofs.Yteapmnolmfickaa
open Go.Sim Go.Sim.Bt
attribute [local congr] bdc cndc itec gdc gdSc gdUc
section
variable {n1 b p : Nat} {bv : Value} {bs : List Int} {s : St}
structure RvAt (n1 n0 b : Nat) (bv : Value) (bs : List Int) (p : Nat) (s0 : St) (w : Value) (l : List Nat) (s : St) : Prop where
  rd : RrAt n1 b bv bs p 0 s
  st : RdS b s0 s
  ful : Ful n0 s 1 w (rowsI l)
  lt : b < n0
  le : n0 = s0.n
  bit : ∀ d ∈ l, d < 2
end
end Go.Proofs.Yteapmnolmfickaa
/-
  The reference's reader: a vector, a field.
-/
set_option linter.unusedSimpArgs false
set_option linter.unusedVariables false
set_option maxRecDepth 100000
set_option maxHeartbeats 4000000
namespace Go.Proofs.Yteapmnolmfickaa
open Go.Sim Go.Sim.Bt
attribute [local congr] bdc cndc itec gdc gdSc gdUc
section
variable {n1 b p : Nat} {bv : Value} {bs : List Int} {s : St}
end
end Go.Proofs.Yteapmnolmfickaa
/-
  The reference's reader: a vector, a field, joined.
-/
set_option linter.unusedSimpArgs false
set_option linter.unusedVariables false
set_option maxRecDepth 100000
set_option maxHeartbeats 4000000
namespace Go.Proofs.Yteapmnolmfickaa
open Go.Sim Go.Sim.Bt
attribute [local congr] bdc cndc itec gdc gdSc gdUc
section
variable {n1 b p : Nat} {bv : Value} {bs : List Int} {s : St}
end
end Go.Proofs.Yteapmnolmfickaa
/-
  The reference's First; the fields that bytes are; two rows of fields that are the same.
-/
set_option linter.unusedSimpArgs false
set_option linter.unusedVariables false
set_option maxRecDepth 100000
set_option maxHeartbeats 4000000
namespace Go.Proofs.Yteapmnolmfickaa
open Go.Sim Go.Sim.Bt
attribute [local congr] bdc cndc itec gdc gdSc gdUc
structure RsAt (N n1 : Nat) (s0 : St) (bv lv : Value) (bs : List Int) (fs : List FB) (p : Nat) (s : St) : Prop where
  rd : RrAt n1 N bv bs p 0 s
  lst : Ful (N + 1) s 14 lv (fs.map fun p => p.1.cs)
  byt : ∀ p ∈ fs, FdA p.1 ∧ Ful (N + 1) s 1 p.1.b (br p.2)
  le : N + 1 ≤ s.n
  old : ∀ x, x < N → s.get x = s0.get x
end Go.Proofs.Yteapmnolmfickaa
