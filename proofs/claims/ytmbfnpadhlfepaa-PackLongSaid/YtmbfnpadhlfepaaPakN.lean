/-
  A reader: a row of two cells, a slice of bytes and a place; its byte, its number, its whole number.
-/
import Derived.Test.YtmbfnpadhlfepaaPakM
set_option linter.unusedSimpArgs false
set_option linter.unusedVariables false
set_option maxRecDepth 100000
set_option maxHeartbeats 4000000
namespace Go.Proofs.Ytmbfnpadhlfepaa
open Go.Sim Go.Sim.Bt
attribute [local congr] bdc cndc itec gdc gdSc gdUc

/-! ### Reading, plainly -/

inductive RdR (α : Type) where
  | ok (a : α) (p : Nat)
  | bad (e : Int) (p : Nat)
def RdR.at {α : Type} : RdR α → Nat
  | .ok _ p => p
  | .bad _ p => p
def byteP (bs : List Int) (c : Nat → Bool) (p : Nat) : RdR Nat := match bs[p]? with
  | none => .bad 32 p
  | some y => if c y.toNat = true then .ok y.toNat (p + 1) else .bad 31 p
def maxU : Nat := 18446744073709551615
/-- May a number go on with this byte? -/
def condN (most i x y : Nat) : Bool := decide (¬ (0 < i ∧ y = 0) ∧ ¬ (i = 9 ∧ y ≠ 1) ∧ (most = maxU ∨ x + y % 128 * 128 ^ i + (if 128 ≤ y then 128 ^ (i + 1) else 0) ≤ most))
def numL (bs : List Int) (most : Nat) : Nat → Nat → Nat → Nat → RdR Nat
  | 0, _, _, p => .bad 0 p
  | d + 1, i, x, p => match byteP bs (condN most i x) p with
    | .bad e q => .bad e q
    | .ok y q => if y < 128 then .ok (x + y % 128 * 128 ^ i) q else numL bs most d (i + 1) (x + y % 128 * 128 ^ i) q
def numP (bs : List Int) (most p : Nat) : RdR Nat := numL bs most 10 0 0 p
def unzz (x : Nat) : Int := if x % 2 = 1 then -((x / 2 : Nat) : Int) - 1 else ((x / 2 : Nat) : Int)
def intP (bs : List Int) (p : Nat) : RdR Int := match numP bs maxU p with
  | .bad e q => .bad e q
  | .ok x q => .ok (unzz x) q
theorem numL_lt {bs : List Int} {most : Nat} : ∀ {d i x p a q : Nat}, i + d = 10 → x < 128 ^ i → numL bs most d i x p = .ok a q → a < 2 ^ 64
  | 0, i, x, p, a, q, hi, hx, h => by simp [numL] at h
  | d + 1, i, x, p, a, q, hi, hx, h => by
    unfold numL at h
    split at h
    · cases h
    · rename_i y q' hy
      have hc : condN most i x y = true := by
        unfold byteP at hy
        split at hy
        · cases hy
        · split at hy
          · rename_i hc
            cases hy; exact hc
          · cases hy
      unfold condN at hc
      have hc := of_decide_eq_true hc
      have hb : x + y % 128 * 128 ^ i < 128 ^ (i + 1) := by
        have : y % 128 * 128 ^ i ≤ 127 * 128 ^ i := Nat.mul_le_mul_right _ (by omega)
        rw [Nat.pow_succ]; omega
      split at h
      · cases h
        by_cases h9 : i = 9
        · subst h9
          have h1 : y = 1 := by
            have := hc.2.1
            simp only [true_and] at this
            exact Decidable.of_not_not this
          subst h1
          simp only [Nat.reducePow, Nat.reduceMod] at hx ⊢
          omega
        · have : 128 ^ (i + 1) ≤ 128 ^ 9 := Nat.pow_le_pow_right (by omega) (by omega)
          have e : 128 ^ 9 ≤ 2 ^ 64 := by decide
          omega
      · exact numL_lt (by omega) hb h

/-! ### The program's reader -/

def rpt (b : Nat) : Value := .pointer (some ⟨b, 0, some 0⟩)
def pv (e : Int) : Value := .iface 82 (.agg ⟨[.int .i64 e]⟩)
structure RdAt (n1 b : Nat) (bv : Value) (bs : List Int) (p : Nat) (s : St) : Prop where
  fr : Fresh s
  row : s.get b = some (.row 2 [[bv, .int .i64 (p : Int)]] false)
  byt : Pers n1 s fun s => Byt s bv (br bs)
  lt : n1 ≤ b
  le : p ≤ bs.length
  sz : bs.length ≤ 1000000000
  ok : okY bs
structure RdS (b : Nat) (s s' : St) : Prop where
  n : s.n ≤ s'.n
  keep : ∀ x, x < s.n → x ≠ b → s'.get x = s.get x
theorem RdS.refl (b : Nat) (s : St) : RdS b s s := ⟨Nat.le_refl _, fun _ _ _ => rfl⟩
theorem RdS.trans {b : Nat} {s s1 s2 : St} (h : RdS b s s1) (k : RdS b s1 s2) : RdS b s s2 :=
  ⟨Nat.le_trans h.n k.n, fun x hx hb => (k.keep x (Nat.lt_of_lt_of_le hx h.n) hb).trans (h.keep x hx hb)⟩
theorem RdAt.n {n1 b p : Nat} {bv : Value} {bs : List Int} {s : St} (h : RdAt n1 b bv bs p s) : b < s.n := h.fr.lt h.row
/-- The reader is put on. -/
theorem RdAt.put {n1 b p : Nat} {bv : Value} {bs : List Int} {s : St} (h : RdAt n1 b bv bs p s) {q : Nat} (hq : q ≤ bs.length) :
    RdAt n1 b bv bs q (s.put b (.row 2 [[bv, .int .i64 (q : Int)]] false)) ∧ RdS b s (s.put b (.row 2 [[bv, .int .i64 (q : Int)]] false)) :=
  ⟨⟨h.fr.put, get_put_same h.row, h.byt.to fun x hx => get_put_ne (by have := h.lt; omega), h.lt, hq, h.sz, h.ok⟩, ⟨Nat.le_refl _, fun x _ hx => get_put_ne hx⟩⟩
theorem byt_at {s : St} {v : Value} {bs : List Int} (h : Byt s v (br bs)) {p : Nat} {y : Int} (hp : bs[p]? = some y) (hl : bs.length ≤ 1000000000) : ∃ q, idx s 1 v (.int .i64 (p : Int)) = some q ∧ ldc s q = some (.int .u8 y) := by
  have hlt : p < bs.length := (List.getElem?_eq_some_iff.1 hp).1
  obtain ⟨a, n, c, rfl⟩ := h.sl
  have hr := h.rows
  have hn := h.len
  simp only [lenV, Option.some.injEq, br_length] at hn
  subst hn
  rw [br_length] at hr
  unfold rowsOf at hr
  split at hr
  · rename_i b i len e heq
    injection heq with h1 h2 h3
    subst h1 h2 h3
    split at hr
    · rename_i sz' rows ro hg
      split at hr
      · rename_i hc
        have hs := hc.1
        subst hs
        simp only [Option.some.injEq] at hr
        have hx : rows[i + p]? = some [.int .u8 y] := by
          have : ((rows.drop i).take bs.length)[p]? = some [.int .u8 y] := by rw [hr]; simp [br, hp, u8]
          rw [List.getElem?_take, if_pos hlt, List.getElem?_drop] at this
          exact this
        have hi := idx_row (k := .i64) (i := i) (n := (p : Int)) (len := bs.length) (e := c) hg (by omega) (by omega)
        rw [Int.toNat_natCast] at hi
        exact ⟨_, hi, by rw [ldc_row hg, hx]; rfl⟩
      · cases hr
    · cases hr
  · split at hr
    · omega
    · cases hr
  · rename_i heq; cases heq
  · cases hr

section
variable {n1 b p : Nat} {bv : Value} {bs : List Int} {s : St}
theorem peek_ok (h : RdAt n1 b bv bs p s) {y : Int} (hp : bs[p]? = some y) : pack_left_peek.q (rpt b) s = some (true, .int .u8 y, s) := by
  have hlt : p < bs.length := (List.getElem?_eq_some_iff.1 hp).1
  have hl := h.byt.here.lenL
  rw [br_length] at hl
  obtain ⟨q, q1, q2⟩ := byt_at h.byt.here hp h.sz
  have k : ¬ ((bs.length : Int) ≤ (p : Int)) := by omega
  simp only [pack_left_peek.q, pack_left_peek.t, rpt, sy, reduceIte, Nat.reduceAdd, Nat.reduceLeDiff, Nat.reduceLT, Nat.reduceEqDiff, Int.reduceEq, Int.reduceLT, Int.reduceLE, Int.reduceNe, ly, ldc_row h.row, hl, k, q1, q2]
theorem peek_no (h : RdAt n1 b bv bs p s) (hp : bs[p]? = none) : pack_left_peek.q (rpt b) s = some (false, pv 32, s) := by
  have hlt : bs.length ≤ p := by simpa using hp
  have hl := h.byt.here.lenL
  rw [br_length] at hl
  have k : (bs.length : Int) ≤ (p : Int) := by omega
  simp only [pack_left_peek.q, pack_left_peek.t, rpt, sy, reduceIte, Nat.reduceAdd, Nat.reduceLeDiff, Nat.reduceLT, Nat.reduceEqDiff, Int.reduceEq, Int.reduceLT, Int.reduceLE, Int.reduceNe, ly, ldc_row h.row, hl, k, panV, pv]
theorem next_bad (h : RdAt n1 b bv bs p s) : pack_left_next.q (rpt b) (.bool false) s = some (false, pv 31, s) := by
  simp only [pack_left_next.q, pack_left_next.t, rpt, sy, reduceIte, Nat.reduceAdd, Nat.reduceLeDiff, Nat.reduceLT, Nat.reduceEqDiff, Int.reduceEq, Int.reduceLT, Int.reduceLE, Int.reduceNe, ly, panV, pv]
theorem next_no (h : RdAt n1 b bv bs p s) (hp : bs[p]? = none) : pack_left_next.q (rpt b) (.bool true) s = some (false, pv 32, s) := by
  have k := peek_no h hp
  unfold rpt at k
  simp only [pack_left_next.q, pack_left_next.t, rpt, sy, reduceIte, Nat.reduceAdd, Nat.reduceLeDiff, Nat.reduceLT, Nat.reduceEqDiff, Int.reduceEq, Int.reduceLT, Int.reduceLE, Int.reduceNe, ly, k]
theorem next_ok (h : RdAt n1 b bv bs p s) {y : Int} (hp : bs[p]? = some y) : ∃ s', pack_left_next.q (rpt b) (.bool true) s = some (true, .int .u8 y, s') ∧ RdAt n1 b bv bs (p + 1) s' ∧ RdS b s s' := by
  have hlt : p < bs.length := (List.getElem?_eq_some_iff.1 hp).1
  have hsz := h.sz
  have k := peek_ok h hp
  unfold rpt at k
  have e : IntKind.i64.wrap ((p : Int) + 1) = ((p + 1 : Nat) : Int) := by rw [wrap64 (by omega) (by omega)]; omega
  refine ⟨_, ?_, h.put (by omega)⟩
  simp only [pack_left_next.q, pack_left_next.t, rpt, sy, reduceIte, Nat.reduceAdd, Nat.reduceLeDiff, Nat.reduceLT, Nat.reduceEqDiff, Int.reduceEq, Int.reduceLT, Int.reduceLE, Int.reduceNe, ly, k, ldc_row h.row, stv_row h.row, e]

/-- What a reading answers. -/
def RdIs (n1 b : Nat) (bv : Value) (bs : List Int) (s : St) {α : Type} (f : α → Value) (r : Option (Bool × Value × St)) : RdR α → Prop
  | .ok a q => ∃ s', r = some (true, f a, s') ∧ RdAt n1 b bv bs q s' ∧ RdS b s s'
  | .bad e q => ∃ s', r = some (false, pv e, s') ∧ RdAt n1 b bv bs q s' ∧ RdS b s s'

theorem and_u8 {a b : Nat} (ha : a < 256) (hb : b < 256) : bin .and (.int .u8 (a : Int)) (.int .u8 (b : Int)) = some (.int .u8 ((a &&& b : Nat) : Int)) := by
  rw [bin_and]
  change some (Value.int .u8 (IntKind.u8.wrap ((BitVec.ofInt 8 (a : Int) &&& BitVec.ofInt 8 (b : Int) : BitVec 8).toNat : Int))) = _
  rw [BitVec.ofInt_natCast, BitVec.ofInt_natCast, BitVec.toNat_and, BitVec.toNat_ofNat, BitVec.toNat_ofNat, Nat.mod_eq_of_lt ha, Nat.mod_eq_of_lt hb]
  have : a &&& b < 2 ^ 8 := Nat.and_lt_two_pow _ hb
  simp [IntKind.wrap, IntKind.signed, IntKind.bits]; omega
theorem and127 {y : Nat} (h : y < 256) : bin .and (.int .u8 (y : Int)) (.int .u8 127) = some (.int .u8 ((y % 128 : Nat) : Int)) := by
  rw [show (127 : Int) = ((127 : Nat) : Int) from rfl, and_u8 h (by omega), show y &&& 127 = y % 128 from Nat.and_two_pow_sub_one_eq_mod y 7]
theorem cvu {k : IntKind} {x : Nat} (h : x < 2 ^ 64) : cvi .u64 (.int k (x : Int)) = some (.int .u64 (x : Int)) := by
  rw [cvi_int, wrapu64 (by omega) (by omega)]
theorem fits_max (x sh y : Value) (s : St) : pack_fits.r x sh y (.int .u64 18446744073709551615) s = some (.bool true) := by
  simp only [pack_fits.r, pack_fits.t, sy, reduceIte, Nat.reduceAdd, Nat.reduceLeDiff, Nat.reduceLT, Nat.reduceEqDiff, Int.reduceEq, Int.reduceLT, Int.reduceLE, Int.reduceNe, ly]
theorem fits_r {i x y most : Nat} (hi : i ≤ 2) (hx : x < 128 ^ i) (hy : y < 256) (hm : most ≤ 65536) (s : St) :
    pack_fits.r (.int .u64 (x : Int)) (.int .i64 ((7 * i : Nat) : Int)) (.int .u8 (y : Int)) (.int .u64 (most : Int)) s = some (.bool (decide (x + y % 128 * 128 ^ i + (if 128 ≤ y then 128 ^ (i + 1) else 0) ≤ most))) := by
  have k1 : ¬ ((most : Int) = 18446744073709551615) := by omega
  have k2 : ¬ ((28 : Int) < ((7 * i : Nat) : Int)) := by omega
  have a1 := and127 hy
  have a2 : IntKind.u64.wrap ((y % 128 : Nat) : Int) = ((y % 128 : Nat) : Int) := wrapu64 (by omega) (by omega)
  have a3 : IntKind.u64.wrap ((7 * i : Nat) : Int) = ((7 * i : Nat) : Int) := wrapu64 (by omega) (by omega)
  have p1 : 128 ^ i = 2 ^ (7 * i) := by rw [Nat.pow_mul]
  have p2 : 128 ^ i ≤ 16384 := Nat.le_trans (Nat.pow_le_pow_right (by omega) hi) (by decide)
  have hb : y % 128 * 128 ^ i ≤ 127 * 16384 := Nat.mul_le_mul (by omega) p2
  have a4 : bin .shl (.int .u64 ((y % 128 : Nat) : Int)) (.int .u64 ((7 * i : Nat) : Int)) = some (.int .u64 ((y % 128 * 128 ^ i : Nat) : Int)) := by
    rw [shl_u64 (by omega) (by rw [← p1]; omega), p1]
  have a5 : IntKind.u64.wrap ((x : Int) + ((y % 128 * 128 ^ i : Nat) : Int)) = ((x + y % 128 * 128 ^ i : Nat) : Int) := by
    rw [wrapu64 (by omega) (by omega)]; omega
  have k3 : ((128 : Int) ≤ (y : Int)) = (128 ≤ y) := propext (by omega)
  by_cases h : 128 ≤ y
  · have a6 : IntKind.i64.wrap (((7 * i : Nat) : Int) + 7) = ((7 * (i + 1) : Nat) : Int) := by rw [wrap64 (by omega) (by omega)]; omega
    have a7 : IntKind.u64.wrap ((7 * (i + 1) : Nat) : Int) = ((7 * (i + 1) : Nat) : Int) := wrapu64 (by omega) (by omega)
    have p3 : 128 ^ (i + 1) = 2 ^ (7 * (i + 1)) := by rw [Nat.pow_mul]
    have p4 : 128 ^ (i + 1) ≤ 2097152 := Nat.le_trans (Nat.pow_le_pow_right (by omega) (show i + 1 ≤ 3 by omega)) (by decide)
    have a8 : bin .shl (.int .u64 1) (.int .u64 ((7 * (i + 1) : Nat) : Int)) = some (.int .u64 ((128 ^ (i + 1) : Nat) : Int)) := by
      have := shl_u64 (a := 1) (k := 7 * (i + 1)) (k' := .u64) (by omega) (by rw [← p3]; omega)
      rw [Nat.one_mul, ← p3] at this
      exact this
    have a9 : IntKind.u64.wrap (((x + y % 128 * 128 ^ i : Nat) : Int) + ((128 ^ (i + 1) : Nat) : Int)) = ((x + y % 128 * 128 ^ i + 128 ^ (i + 1) : Nat) : Int) := by
      rw [wrapu64 (by omega) (by omega)]; omega
    have k4 : (((x + y % 128 * 128 ^ i + 128 ^ (i + 1) : Nat) : Int) ≤ (most : Int)) = (x + y % 128 * 128 ^ i + 128 ^ (i + 1) ≤ most) := propext (by omega)
    simp only [pack_fits.r, pack_fits.t, sy, reduceIte, Nat.reduceAdd, Nat.reduceLeDiff, Nat.reduceLT, Nat.reduceEqDiff, Int.reduceEq, Int.reduceLT, Int.reduceLE, Int.reduceNe, ly, k1, k2, a1, a2, a3, a4, a5, k3, h, a6, a7, a8, a9, k4]
  · have k4 : (((x + y % 128 * 128 ^ i : Nat) : Int) ≤ (most : Int)) = (x + y % 128 * 128 ^ i ≤ most) := propext (by omega)
    simp only [pack_fits.r, pack_fits.t, sy, reduceIte, Nat.reduceAdd, Nat.reduceLeDiff, Nat.reduceLT, Nat.reduceEqDiff, Int.reduceEq, Int.reduceLT, Int.reduceLE, Int.reduceNe, ly, k1, k2, a1, a2, a3, a4, a5, k3, h, k4]
end
end Go.Proofs.Ytmbfnpadhlfepaa
