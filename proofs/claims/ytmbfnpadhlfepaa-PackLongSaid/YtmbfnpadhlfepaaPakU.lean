/-
  The reference's reader: a byte, a number, a whole number, a key.
-/
import Derived.Test.YtmbfnpadhlfepaaPakT
set_option linter.unusedSimpArgs false
set_option linter.unusedVariables false
set_option maxRecDepth 100000
set_option maxHeartbeats 4000000
namespace Go.Proofs.Ytmbfnpadhlfepaa
open Go.Sim Go.Sim.Bt
attribute [local congr] bdc cndc itec gdc gdSc gdUc

structure RrAt (n1 b : Nat) (bv : Value) (bs : List Int) (p : Nat) (e : Int) (s : St) : Prop where
  fr : Fresh s
  row : s.get b = some (.row 3 [[bv, .int .i64 (p : Int), .int .i64 e]] false)
  byt : Pers n1 s fun s => Byt s bv (br bs)
  lt : n1 ≤ b
  le : p ≤ bs.length
  sz : bs.length ≤ 1000000000
  ok : okY bs
theorem RrAt.n {n1 b p : Nat} {bv : Value} {bs : List Int} {e : Int} {s : St} (h : RrAt n1 b bv bs p e s) : b < s.n := h.fr.lt h.row
theorem RrAt.put {n1 b p : Nat} {bv : Value} {bs : List Int} {e : Int} {s : St} (h : RrAt n1 b bv bs p e s) {q : Nat} (hq : q ≤ bs.length) (e' : Int) :
    RrAt n1 b bv bs q e' (s.put b (.row 3 [[bv, .int .i64 (q : Int), .int .i64 e']] false)) ∧ RdS b s (s.put b (.row 3 [[bv, .int .i64 (q : Int), .int .i64 e']] false)) :=
  ⟨⟨h.fr.put, get_put_same h.row, h.byt.to fun x hx => get_put_ne (by have := h.lt; omega), h.lt, hq, h.sz, h.ok⟩, ⟨Nat.le_refl _, fun x _ hx => get_put_ne hx⟩⟩
theorem RrAt.app {n1 b p : Nat} {bv : Value} {bs : List Int} {e : Int} {s : St} {n0 : Nat} (h : RrAt n1 b bv bs p e s) (hb : b < n0) {s' : St} (m : More ⟨s.h, n0⟩ s') (f : Fresh s') : RrAt n1 b bv bs p e s' :=
  ⟨f, (m.old b hb).trans h.row, h.byt.to fun x hx => m.old x (by have := h.lt; simp only; omega), h.lt, h.le, h.sz, h.ok⟩

section
variable {n1 b p : Nat} {bv : Value} {bs : List Int} {s : St}
def T2b (y : Int) (o : Bool) : Value := .tuple ⟨[.int .u8 y, .bool o]⟩
theorem rnext_e {e : Int} (he : e ≠ 0) (h : RrAt n1 b bv bs p e s) : leapfrogref03x_Reader_next.v (rpt b) s = some (T2b 0 false, s) := by
  have he' : (e = 0) = False := eq_false he
  have hne : (e ≠ 0) = True := eq_true he
  simp only [leapfrogref03x_Reader_next.v, leapfrogref03x_Reader_next.t, rpt, sy, reduceIte, Nat.reduceAdd, Nat.reduceLeDiff, Nat.reduceLT, Nat.reduceEqDiff, Int.reduceEq, Int.reduceLT, Int.reduceLE, Int.reduceNe, ly, ldc_row h.row, he', hne, T2b]
theorem rnext_no (h : RrAt n1 b bv bs p 0 s) (hp : bs[p]? = none) : ∃ s', leapfrogref03x_Reader_next.v (rpt b) s = some (T2b 0 false, s') ∧ RrAt n1 b bv bs p 32 s' ∧ RdS b s s' := by
  have hlt : bs.length ≤ p := by simpa using hp
  have hl := h.byt.here.lenL
  rw [br_length] at hl
  have k : (bs.length : Int) ≤ (p : Int) := by omega
  refine ⟨_, ?_, h.put h.le 32⟩
  simp only [leapfrogref03x_Reader_next.v, leapfrogref03x_Reader_next.t, rpt, sy, reduceIte, Nat.reduceAdd, Nat.reduceLeDiff, Nat.reduceLT, Nat.reduceEqDiff, Int.reduceEq, Int.reduceLT, Int.reduceLE, Int.reduceNe, ly, ldc_row h.row, stv_row h.row, hl, k, T2b]
theorem rnext_ok (h : RrAt n1 b bv bs p 0 s) {y : Int} (hp : bs[p]? = some y) : leapfrogref03x_Reader_next.v (rpt b) s = some (T2b y true, s) := by
  have hlt : p < bs.length := (List.getElem?_eq_some_iff.1 hp).1
  have hl := h.byt.here.lenL
  rw [br_length] at hl
  obtain ⟨q, q1, q2⟩ := byt_at h.byt.here hp h.sz
  have k : ¬ ((bs.length : Int) ≤ (p : Int)) := by omega
  simp only [leapfrogref03x_Reader_next.v, leapfrogref03x_Reader_next.t, rpt, sy, reduceIte, Nat.reduceAdd, Nat.reduceLeDiff, Nat.reduceLT, Nat.reduceEqDiff, Int.reduceEq, Int.reduceLT, Int.reduceLE, Int.reduceNe, ly, ldc_row h.row, hl, k, q1, q2, T2b]
/-- What a reading of the reference answers. -/
def RrIs (n1 b : Nat) (bv : Value) (bs : List Int) (s : St) {α : Type} (f : α → Value) (r : Option (Value × St)) : RdR α → Prop
  | .ok a q => ∃ s', r = some (f a, s') ∧ RrAt n1 b bv bs q 0 s' ∧ RdS b s s'
  | .bad e q => ∃ a s', r = some (f a, s') ∧ RrAt n1 b bv bs q e s' ∧ RdS b s s' ∧ e ≠ 0
theorem rbyte_e {e : Int} {x y : Value} (he : e ≠ 0) (h : RrAt n1 b bv bs p e s) : leapfrogref03x_Reader_byte.v (rpt b) x y s = some (.int .u8 0, s) := by
  have k := rnext_e he h
  simp only [leapfrogref03x_Reader_byte.v, leapfrogref03x_Reader_byte.t, sy, reduceIte, Nat.reduceAdd, Nat.reduceLeDiff, Nat.reduceLT, Nat.reduceEqDiff, Int.reduceEq, Int.reduceLT, Int.reduceLE, Int.reduceNe, ly, k, T2b]
theorem rbyte_v (lo hi : Nat) (h : RrAt n1 b bv bs p 0 s) : match byteP bs (fun y => decide (lo ≤ y ∧ y ≤ hi)) p with
    | .ok y q => ∃ s', leapfrogref03x_Reader_byte.v (rpt b) (.int .u8 (lo : Int)) (.int .u8 (hi : Int)) s = some (.int .u8 (y : Int), s') ∧ y < 256 ∧ RrAt n1 b bv bs q 0 s' ∧ RdS b s s'
    | .bad e q => ∃ s', leapfrogref03x_Reader_byte.v (rpt b) (.int .u8 (lo : Int)) (.int .u8 (hi : Int)) s = some (.int .u8 0, s') ∧ RrAt n1 b bv bs q e s' ∧ RdS b s s' ∧ e ≠ 0 := by
  cases hp : bs[p]? with
  | none =>
    rw [byteP_none hp]
    obtain ⟨s', k, h1, h2⟩ := rnext_no h hp
    refine ⟨s', ?_, h1, h2, by omega⟩
    simp only [leapfrogref03x_Reader_byte.v, leapfrogref03x_Reader_byte.t, sy, reduceIte, Nat.reduceAdd, Nat.reduceLeDiff, Nat.reduceLT, Nat.reduceEqDiff, Int.reduceEq, Int.reduceLT, Int.reduceLE, Int.reduceNe, ly, k, T2b]
  | some y' =>
    obtain ⟨y, rfl, hy⟩ := h.ok.at hp
    have hlt : p < bs.length := (List.getElem?_eq_some_iff.1 hp).1
    have hsz := h.sz
    rw [byteP_some hp]
    have k := rnext_ok h hp
    unfold rpt at k ⊢
    have k1 : ((y : Int) < (lo : Int)) = (y < lo) := propext (by omega)
    have k2 : ((hi : Int) < (y : Int)) = (hi < y) := propext (by omega)
    have e1 : IntKind.i64.wrap ((p : Int) + 1) = ((p + 1 : Nat) : Int) := by rw [wrap64 (by omega) (by omega)]; omega
    by_cases hc : lo ≤ y ∧ y ≤ hi
    · rw [if_pos (decide_eq_true hc)]
      have c1 : (y < lo) = False := eq_false (by omega)
      have c2 : (hi < y) = False := eq_false (by omega)
      refine ⟨_, ?_, hy, h.put (by omega) 0⟩
      simp only [leapfrogref03x_Reader_byte.v, leapfrogref03x_Reader_byte.t, sy, reduceIte, Nat.reduceAdd, Nat.reduceLeDiff, Nat.reduceLT, Nat.reduceEqDiff, Int.reduceEq, Int.reduceLT, Int.reduceLE, Int.reduceNe, ly, k, T2b, k1, k2, c1, c2, ldc_row h.row, stv_row h.row, e1]
    · rw [if_neg (by rw [decide_eq_false hc]; simp)]
      have hput := h.put h.le 31
      refine ⟨_, ?_, hput.1, hput.2, by omega⟩
      rcases Classical.propComplete (y < lo) with c1 | c1
      · simp only [leapfrogref03x_Reader_byte.v, leapfrogref03x_Reader_byte.t, sy, reduceIte, Nat.reduceAdd, Nat.reduceLeDiff, Nat.reduceLT, Nat.reduceEqDiff, Int.reduceEq, Int.reduceLT, Int.reduceLE, Int.reduceNe, ly, k, T2b, k1, c1, ldc_row h.row, stv_row h.row]
      · have c2 : (hi < y) = True := eq_true (by have := of_eq_false c1; omega)
        simp only [leapfrogref03x_Reader_byte.v, leapfrogref03x_Reader_byte.t, sy, reduceIte, Nat.reduceAdd, Nat.reduceLeDiff, Nat.reduceLT, Nat.reduceEqDiff, Int.reduceEq, Int.reduceLT, Int.reduceLE, Int.reduceNe, ly, k, T2b, k1, k2, c1, c2, ldc_row h.row, stv_row h.row]

theorem within_max (x sc y : Value) (s : St) : leapfrogref03x_within.r x sc y (.int .u64 18446744073709551615) s = some (.bool true) := by
  simp only [leapfrogref03x_within.r, leapfrogref03x_within.t, sy, reduceIte, Nat.reduceAdd, Nat.reduceLeDiff, Nat.reduceLT, Nat.reduceEqDiff, Int.reduceEq, Int.reduceLT, Int.reduceLE, Int.reduceNe, ly]
theorem within_r {i x y most : Nat} (hi : i ≤ 2) (hx : x < 128 ^ i) (hy : y < 256) (hm : most = 65536) (s : St) :
    leapfrogref03x_within.r (.int .u64 (x : Int)) (.int .u64 ((128 ^ i : Nat) : Int)) (.int .u8 (y : Int)) (.int .u64 (most : Int)) s = some (.bool (decide (x + y % 128 * 128 ^ i + (if 128 ≤ y then 128 ^ (i + 1) else 0) ≤ most))) := by
  have k1 : ¬ ((most : Int) = 18446744073709551615) := by omega
  have p2 : 128 ^ i ≤ 16384 := Nat.le_trans (Nat.pow_le_pow_right (by omega) hi) (by decide)
  have hb : y % 128 * 128 ^ i ≤ 127 * 16384 := Nat.mul_le_mul (by omega) p2
  have k3 : ((y : Int) < 128) = (y < 128) := propext (by omega)
  have p3 : 128 ^ (i + 1) = 128 ^ i * 128 := Nat.pow_succ ..
  by_cases h : y < 128
  · rw [if_neg (by omega), Nat.add_zero, Nat.mod_eq_of_lt h]
    rw [Nat.mod_eq_of_lt h] at hb
    have a0 : (((128 ^ i : Nat) : Int) ≤ (most : Int)) := by omega
    have a2 : IntKind.u64.wrap (y : Int) = (y : Int) := wrapu64 (by omega) (by omega)
    have a3 : bin .mul (.int .u64 (y : Int)) (.int .u64 ((128 ^ i : Nat) : Int)) = some (.int .u64 ((y * 128 ^ i : Nat) : Int)) := by
      rw [mul_u64, Nat.mod_eq_of_lt (by omega)]
    have a4 : bin .add (.int .u64 (x : Int)) (.int .u64 ((y * 128 ^ i : Nat) : Int)) = some (.int .u64 ((x + y * 128 ^ i : Nat) : Int)) := by
      rw [add_u64, Nat.mod_eq_of_lt (by omega)]
    have k4 : (((x + y * 128 ^ i : Nat) : Int) ≤ (most : Int)) = (x + y * 128 ^ i ≤ most) := propext (by omega)
    generalize ((128 ^ i : Nat) : Int) = P at *
    generalize ((y * 128 ^ i : Nat) : Int) = Q at *
    generalize ((x + y * 128 ^ i : Nat) : Int) = R at *
    simp only [leapfrogref03x_within.r, leapfrogref03x_within.t, std_bd, std_cnd, std_gd, neb1, eqb1, bin_lss, bin_leq, cndt, cndf, cndd, decide_true, decide_false, decide_eq_true_eq, if_true, if_false, bds, gdtt, pikt, cvi_int, k1, k3, h, a0, a2, a3, a4, k4]
  · rw [if_pos (by omega), p3]
    have e1 : bin .mul (.int .u64 ((128 ^ i : Nat) : Int)) (.int .u64 128) = some (.int .u64 ((128 ^ i * 128 : Nat) : Int)) := by
      have := mul_u64 (a := 128 ^ i) (b := 128)
      rw [Nat.mod_eq_of_lt (by omega)] at this
      exact this
    have e2 : bin .sub (.int .u8 (y : Int)) (.int .u8 128) = some (.int .u8 ((y % 128 : Nat) : Int)) := by
      rw [bin_sub, wrapu8 (by omega) (by omega), show (y : Int) - 128 = ((y % 128 : Nat) : Int) by omega]
    have a2 : IntKind.u64.wrap ((y % 128 : Nat) : Int) = ((y % 128 : Nat) : Int) := wrapu64 (by omega) (by omega)
    have a3 : bin .mul (.int .u64 ((y % 128 : Nat) : Int)) (.int .u64 ((128 ^ i : Nat) : Int)) = some (.int .u64 ((y % 128 * 128 ^ i : Nat) : Int)) := by
      rw [mul_u64, Nat.mod_eq_of_lt (by omega)]
    have a4 : bin .add (.int .u64 (x : Int)) (.int .u64 ((y % 128 * 128 ^ i : Nat) : Int)) = some (.int .u64 ((x + y % 128 * 128 ^ i : Nat) : Int)) := by
      rw [add_u64, Nat.mod_eq_of_lt (by omega)]
    have a5 : bin .add (.int .u64 ((x + y % 128 * 128 ^ i : Nat) : Int)) (.int .u64 ((128 ^ i * 128 : Nat) : Int)) = some (.int .u64 ((x + y % 128 * 128 ^ i + 128 ^ i * 128 : Nat) : Int)) := by
      rw [add_u64, Nat.mod_eq_of_lt (by omega)]
    have k4 : (((x + y % 128 * 128 ^ i + 128 ^ i * 128 : Nat) : Int) ≤ (most : Int)) = (x + y % 128 * 128 ^ i + 128 ^ i * 128 ≤ most) := propext (by omega)
    have k5 : (((128 ^ i * 128 : Nat) : Int) ≤ (most : Int)) = (128 ^ i * 128 ≤ most) := propext (by omega)
    have k6 : (x + y % 128 * 128 ^ i + 128 ^ i * 128 ≤ most) → 128 ^ i * 128 ≤ most := by omega
    generalize 128 ^ i * 128 = S at *
    generalize y % 128 * 128 ^ i = Q at *
    generalize 128 ^ i = P at *
    generalize y % 128 = Y at *
    rcases Classical.propComplete (S ≤ most) with c | c
    · simp only [leapfrogref03x_within.r, leapfrogref03x_within.t, std_bd, std_cnd, std_gd, neb1, eqb1, bin_lss, bin_leq, cndt, cndf, cndd, decide_true, decide_false, decide_eq_true_eq, if_true, if_false, bds, gdtt, pikt, cvi_int, k1, k3, h, e1, e2, a2, a3, a4, a5, k4, k5, c]
    · have c2 : (x + Q + S ≤ most) = False := eq_false fun e => of_eq_false c (k6 e)
      simp only [leapfrogref03x_within.r, leapfrogref03x_within.t, std_bd, std_cnd, std_gd, neb1, eqb1, bin_lss, bin_leq, cndt, cndf, cndd, decide_true, decide_false, decide_eq_true_eq, if_true, if_false, bds, gdtf, gdft, gdun, pikf, cvi_int, k1, k3, h, e1, k5, c, c2]
end
end Go.Proofs.Ytmbfnpadhlfepaa
