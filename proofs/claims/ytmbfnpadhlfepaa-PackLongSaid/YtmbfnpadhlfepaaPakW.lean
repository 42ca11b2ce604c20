/-
  The reference's reader: a key, a vector.
-/
import Derived.Test.YtmbfnpadhlfepaaPakV
set_option linter.unusedSimpArgs false
set_option linter.unusedVariables false
set_option maxRecDepth 100000
set_option maxHeartbeats 4000000
namespace Go.Proofs.Ytmbfnpadhlfepaa
open Go.Sim Go.Sim.Bt
attribute [local congr] bdc cndc itec gdc gdSc gdUc

def fK (a : Nat × Nat) : Value := .agg ⟨[.int .i64 (a.1 : Int), .int .u64 (a.2 : Int)]⟩
theorem byteP_all {bs : List Int} (hb : okY bs) (p : Nat) : byteP bs (fun y => decide (0 ≤ y ∧ y ≤ 255)) p = byteP bs (fun _ => true) p := by
  cases hp : bs[p]? with
  | none => rw [byteP_none hp, byteP_none hp]
  | some y' =>
    obtain ⟨y, rfl, hy⟩ := hb.at hp
    rw [byteP_some hp, byteP_some hp, if_pos (decide_eq_true ⟨Nat.zero_le _, by omega⟩), if_pos rfl]
section
variable {n1 b p : Nat} {bv : Value} {bs : List Int} {s : St}
/-- The rest of a key behind a fault: nothing moves. -/
theorem rkeyloop_e {n : Int} {c0 : List Value} {e : Int} (he : e ≠ 0) (h : RrAt n1 b bv bs p e s) : ∀ (d j v : Nat), j + d = 8 → ∃ a : Nat, ∀ f, iter (leapfrogref03x_Reader_key.l4 std) (f + d + 1) [rpt b, .int .i64 (j : Int), .agg ⟨c0⟩, .agg ⟨[.int .i64 n, .int .u64 (v : Int)]⟩] s = some (0, [.agg ⟨c0⟩, .agg ⟨[.int .i64 n, .int .u64 (a : Int)]⟩], s)
  | 0, j, v, hj => by
    refine ⟨v, fun f => ?_⟩
    have k : bin .lss (.int .i64 (j : Int)) (.int .i64 8) = some (.bool false) := by rw [bin_lss, decide_eq_false (by omega)]
    rw [iter_succ]
    unfold leapfrogref03x_Reader_key.l4
    simp only [std_bd, std_cnd, List.getD_cons_zero, List.getD_cons_succ, k, bds, cnd, cellsA]
  | d + 1, j, v, hj => by
    obtain ⟨a, ih⟩ := rkeyloop_e (n := n) (c0 := c0) he h d (j + 1) ((((v * 256) % 2 ^ 64) + 0) % 2 ^ 64) (by omega)
    refine ⟨a, fun f => ?_⟩
    have k : bin .lss (.int .i64 (j : Int)) (.int .i64 8) = some (.bool true) := by rw [bin_lss, decide_eq_true (by omega)]
    have e1 : lcl [.int .i64 n, .int .u64 (v : Int)] 1 = some (.int .u64 (v : Int)) := rfl
    have e2 : bin .mul (.int .u64 (v : Int)) (.int .u64 256) = some (.int .u64 ((v * 256 % 2 ^ 64 : Nat) : Int)) := mul_u64
    have e3 := rbyte_e (x := .int .u8 0) (y := .int .u8 255) he h
    have e4 : cvi .u64 (.int .u8 0) = some (.int .u64 0) := rfl
    have e5 : bin .add (.int .u64 ((v * 256 % 2 ^ 64 : Nat) : Int)) (.int .u64 0) = some (.int .u64 ((((v * 256) % 2 ^ 64 + 0) % 2 ^ 64 : Nat) : Int)) := add_u64 (b := 0)
    have e6 : ∀ x, stl [.int .i64 n, .int .u64 (v : Int)] 1 1 (.int .u64 x) = some [.int .i64 n, .int .u64 x] := fun _ => rfl
    have e7 : bin .add (.int .i64 (j : Int)) (.int .i64 1) = some (.int .i64 ((j + 1 : Nat) : Int)) := by
      rw [bin_add, wrap64 (by omega) (by omega)]; rfl
    have ih := ih f
    rw [show f + (d + 1) + 1 = (f + d + 1) + 1 by omega, iter_succ]
    revert ih
    generalize iter (leapfrogref03x_Reader_key.l4 std) (f + d + 1) = R
    generalize (((v * 256) % 2 ^ 64 + 0) % 2 ^ 64 : Nat) = V at *
    generalize (v * 256 % 2 ^ 64 : Nat) = W at *
    intro ih
    unfold leapfrogref03x_Reader_key.l4
    simp only [std_bd, std_cnd, List.getD_cons_zero, List.getD_cons_succ, k, cellsA, e1, e2, e3, e4, e5, e6, e7, bds, cnd]
    exact ih
def RVLIs (n1 b : Nat) (bv : Value) (bs : List Int) (s : St) (z : Value) (f : Nat → Value) (r : Nat → Option Cut) : RdR Nat → Prop
  | .ok a q => ∃ s', (∀ e, r e = some (0, [z, f a], s')) ∧ RrAt n1 b bv bs q 0 s' ∧ RdS b s s'
  | .bad er q => ∃ a s', (∀ e, r e = some (0, [z, f a], s')) ∧ RrAt n1 b bv bs q er s' ∧ RdS b s s' ∧ er ≠ 0
theorem rkeyloop_v {n : Int} {c0 : List Value} : ∀ (d j v : Nat) {p : Nat} {s : St}, j + d = 8 → v < 256 ^ j → RrAt n1 b bv bs p 0 s →
    RVLIs n1 b bv bs s (.agg ⟨c0⟩) (fun a => .agg ⟨[.int .i64 n, .int .u64 (a : Int)]⟩) (fun e => iter (leapfrogref03x_Reader_key.l4 std) (e + d + 1) [rpt b, .int .i64 (j : Int), .agg ⟨c0⟩, .agg ⟨[.int .i64 n, .int .u64 (v : Int)]⟩] s) (keyL bs d v p)
  | 0, j, v, p, s, hj, hv, h => by
    unfold keyL
    refine ⟨s, fun e => ?_, h, .refl _ _⟩
    have k : bin .lss (.int .i64 (j : Int)) (.int .i64 8) = some (.bool false) := by rw [bin_lss, decide_eq_false (by omega)]
    dsimp only
    rw [iter_succ]
    unfold leapfrogref03x_Reader_key.l4
    simp only [std_bd, std_cnd, List.getD_cons_zero, List.getD_cons_succ, k, bds, cnd, cellsA]
  | d + 1, j, v, p, s, hj, hv, h => by
    unfold keyL
    have k : bin .lss (.int .i64 (j : Int)) (.int .i64 8) = some (.bool true) := by rw [bin_lss, decide_eq_true (by omega)]
    have hv2 : v * 256 + 256 ≤ 2 ^ 64 := by
      have h1 : 256 ^ j * 256 ≤ 256 ^ 8 := by rw [← Nat.pow_succ]; exact Nat.pow_le_pow_right (by omega) (by omega)
      have h2 := Nat.mul_le_mul_right 256 (Nat.succ_le_of_lt hv)
      have e : 256 ^ 8 = 2 ^ 64 := by decide
      rw [Nat.succ_mul] at h2
      omega
    have e1 : lcl [.int .i64 n, .int .u64 (v : Int)] 1 = some (.int .u64 (v : Int)) := rfl
    have e2 : bin .mul (.int .u64 (v : Int)) (.int .u64 256) = some (.int .u64 ((v * 256 : Nat) : Int)) := by
      have := mul_u64 (a := v) (b := 256)
      rw [Nat.mod_eq_of_lt (by omega)] at this
      exact this
    have e6 : ∀ x, stl [.int .i64 n, .int .u64 (v : Int)] 1 1 (.int .u64 x) = some [.int .i64 n, .int .u64 x] := fun _ => rfl
    have e7 : bin .add (.int .i64 (j : Int)) (.int .i64 1) = some (.int .i64 ((j + 1 : Nat) : Int)) := by
      rw [bin_add, wrap64 (by omega) (by omega)]; rfl
    have hq := rbyte_v 0 255 h
    rw [byteP_all h.ok] at hq
    cases hb : byteP bs (fun _ => true) p with
    | bad er q =>
      rw [hb] at hq
      obtain ⟨s', nx, k1, k2, k3⟩ := hq
      have nx : leapfrogref03x_Reader_byte.v (rpt b) (.int .u8 0) (.int .u8 255) s = some (.int .u8 0, s') := nx
      have e4 : cvi .u64 (.int .u8 0) = some (.int .u64 0) := rfl
      have e5 : bin .add (.int .u64 ((v * 256 : Nat) : Int)) (.int .u64 0) = some (.int .u64 ((v * 256 : Nat) : Int)) := by
        have := add_u64 (a := v * 256) (b := 0)
        rw [Nat.add_zero, Nat.mod_eq_of_lt (by omega)] at this
        exact this
      obtain ⟨a, ih⟩ := rkeyloop_e (n := n) (c0 := c0) k3 k1 d (j + 1) (v * 256) (by omega)
      refine ⟨a, s', fun e => ?_, k1, k2, k3⟩
      have ih := ih e
      dsimp only
      rw [show e + (d + 1) + 1 = (e + d + 1) + 1 by omega, iter_succ]
      revert ih
      generalize iter (leapfrogref03x_Reader_key.l4 std) (e + d + 1) = R
      intro ih
      unfold leapfrogref03x_Reader_key.l4
      simp only [std_bd, std_cnd, List.getD_cons_zero, List.getD_cons_succ, k, cellsA, e1, e2, nx, e4, e5, e6, e7, bds, cnd]
      exact ih
    | ok y q =>
      rw [hb] at hq
      obtain ⟨s1, nx, hy, k1, k2⟩ := hq
      have nx : leapfrogref03x_Reader_byte.v (rpt b) (.int .u8 0) (.int .u8 255) s = some (.int .u8 (y : Int), s1) := nx
      have e3 : cvi .u64 (.int .u8 (y : Int)) = some (.int .u64 (y : Int)) := cvu (by omega)
      have e4 : bin .add (.int .u64 ((v * 256 : Nat) : Int)) (.int .u64 (y : Int)) = some (.int .u64 ((v * 256 + y : Nat) : Int)) := by
        rw [add_u64, Nat.mod_eq_of_lt (by omega)]
      have ih := rkeyloop_v (n := n) (c0 := c0) d (j + 1) (v * 256 + y) (by omega) (by rw [Nat.pow_succ]; omega) k1
      simp only []
      have step : ∀ e, iter (leapfrogref03x_Reader_key.l4 std) (e + (d + 1) + 1) [rpt b, .int .i64 (j : Int), .agg ⟨c0⟩, .agg ⟨[.int .i64 n, .int .u64 (v : Int)]⟩] s = iter (leapfrogref03x_Reader_key.l4 std) (e + d + 1) [rpt b, .int .i64 ((j + 1 : Nat) : Int), .agg ⟨c0⟩, .agg ⟨[.int .i64 n, .int .u64 ((v * 256 + y : Nat) : Int)]⟩] s1 := fun e => by
        rw [show e + (d + 1) + 1 = (e + d + 1) + 1 by omega, iter_succ]
        generalize iter (leapfrogref03x_Reader_key.l4 std) (e + d + 1) = R
        unfold leapfrogref03x_Reader_key.l4
        simp only [std_bd, std_cnd, List.getD_cons_zero, List.getD_cons_succ, k, cellsA, e1, e2, nx, e3, e4, e6, e7, bds, cnd]
      revert ih
      cases keyL bs d (v * 256 + y) q with
      | ok a q =>
        rintro ⟨s', g1, g2, g3⟩
        exact ⟨s', fun e => (step e).trans (g1 e), g2, k2.trans g3⟩
      | bad er q =>
        rintro ⟨a, s', g1, g2, g3, g4⟩
        exact ⟨a, s', fun e => (step e).trans (g1 e), g2, k2.trans g3, g4⟩
theorem rkey_fin {r : Nat} (hr : r < 256) {a0 : Value} {s s1 : St} (h2 : r ≠ 2) (k : leapfrogref03x_Reader_byte.v a0 (.int .u8 1) (.int .u8 3) s = some (.int .u8 (r : Int), s1)) : leapfrogref03x_Reader_key.v a0 s = some (fK (r, 0), s1) := by
  have cv : IntKind.i64.wrap (r : Int) = (r : Int) := wrap64 (by omega) (by omega)
  have hz : bx (.agg #[.int .i64 0, .int .u64 0]) = some z2 := rfl
  have y2 : ((r : Int) = 2) = False := eq_false (by omega)
  have zz : z2 = [.int .i64 0, .int .u64 0] := rfl
  simp only [leapfrogref03x_Reader_key.v, leapfrogref03x_Reader_key.t, hz, zz, k, sy, reduceIte, Nat.reduceAdd, Nat.reduceLeDiff, Nat.reduceLT, Nat.reduceEqDiff, Int.reduceEq, Int.reduceLT, Int.reduceLE, Int.reduceNe, ly, cv, y2]
  rfl
theorem rkey_e {e : Int} (he : e ≠ 0) (h : RrAt n1 b bv bs p e s) : leapfrogref03x_Reader_key.v (rpt b) s = some (fK (0, 0), s) :=
  rkey_fin (by omega) (by omega) (rbyte_e he h)
theorem rkey_rd (h : RrAt n1 b bv bs p 0 s) : RrIs n1 b bv bs s fK (leapfrogref03x_Reader_key.v (rpt b) s) (keyP bs p) := by
  unfold keyP
  have hq := rbyte_v 1 3 h
  revert hq
  cases byteP bs (fun y => decide (1 ≤ y ∧ y ≤ 3)) p with
  | bad er q =>
    rintro ⟨s', nx, k1, k2, k3⟩
    exact ⟨(0, 0), s', rkey_fin (by omega) (by omega) nx, k1, k2, k3⟩
  | ok y q =>
    rintro ⟨s1, nx, hy, k1, k2⟩
    simp only []
    by_cases h2 : y = 2
    · subst h2
      rw [if_pos rfl]
      have nx : leapfrogref03x_Reader_byte.v (rpt b) (.int .u8 1) (.int .u8 3) s = some (.int .u8 2, s1) := nx
      have hk := rkeyloop_v (n := 2) (c0 := z2) 8 0 0 (by omega) (by decide) k1
      have hz : bx (.agg #[.int .i64 0, .int .u64 0]) = some z2 := rfl
      have zz : z2 = [.int .i64 0, .int .u64 0] := rfl
      have cv : IntKind.i64.wrap 2 = 2 := rfl
      revert hk
      cases keyL bs 8 0 q with
      | ok a q =>
        rintro ⟨s', g1, g2, g3⟩
        refine ⟨s', ?_, g2, k2.trans g3⟩
        have g := g1 (BIG - 9)
        dsimp only at g
        rw [show BIG - 9 + 8 + 1 = BIG from rfl] at g
        have g : iter (leapfrogref03x_Reader_key.l4 std) BIG [rpt b, .int .i64 0, .agg ⟨[.int .i64 0, .int .u64 0]⟩, .agg ⟨[.int .i64 2, .int .u64 0]⟩] s1 = _ := g
        simp only [leapfrogref03x_Reader_key.v, leapfrogref03x_Reader_key.t, hz, zz, nx, sy, reduceIte, Nat.reduceAdd, Nat.reduceLeDiff, Nat.reduceLT, Nat.reduceEqDiff, Int.reduceEq, Int.reduceLT, Int.reduceLE, Int.reduceNe, ly, cv, g]
        rfl
      | bad er q =>
        rintro ⟨a, s', g1, g2, g3, g4⟩
        refine ⟨(2, a), s', ?_, g2, k2.trans g3, g4⟩
        have g := g1 (BIG - 9)
        dsimp only at g
        rw [show BIG - 9 + 8 + 1 = BIG from rfl] at g
        have g : iter (leapfrogref03x_Reader_key.l4 std) BIG [rpt b, .int .i64 0, .agg ⟨[.int .i64 0, .int .u64 0]⟩, .agg ⟨[.int .i64 2, .int .u64 0]⟩] s1 = _ := g
        simp only [leapfrogref03x_Reader_key.v, leapfrogref03x_Reader_key.t, hz, zz, nx, sy, reduceIte, Nat.reduceAdd, Nat.reduceLeDiff, Nat.reduceLT, Nat.reduceEqDiff, Int.reduceEq, Int.reduceLT, Int.reduceLE, Int.reduceNe, ly, cv, g]
        rfl
    · rw [if_neg h2]
      exact ⟨s1, rkey_fin hy h2 nx, k1, k2⟩

/-! ### A vector -/

theorem ofBits_snoc (l : List Nat) (d : Nat) : ofBits (l ++ [d]) = ofBits l * 2 + d := by simp [ofBits, List.foldl_append]
theorem rowsI_snoc (l : List Nat) (d : Nat) : rowsI (l ++ [d]) = rowsI l ++ [[.int .i64 (d : Int)]] := by simp [rowsI]
/-- What the bits of a vector have in memory. -/
structure RvAt (n1 n0 b : Nat) (bv : Value) (bs : List Int) (p : Nat) (s0 : St) (w : Value) (l : List Nat) (s : St) : Prop where
  rd : RrAt n1 b bv bs p 0 s
  st : RdS b s0 s
  ful : Ful n0 s 1 w (rowsI l)
  lt : b < n0
  le : n0 = s0.n
  bit : ∀ d ∈ l, d < 2
theorem rbitloop {n0 n i t y v : Nat} {s0 : St} {a3 b7 b8 b9 b10 b11 b12 b13 cc : Value} {c : List Value} (hy : y < 256) (ht : t ≤ 32) (ht0 : 0 < t) : ∀ (d k : Nat) {w : Value} {l : List Nat} {s : St}, k + d = min 8 t → l.length ≤ 32 - d → ofBits l = v * 2 ^ k + y / 2 ^ (8 - k) → RvAt n1 n0 b bv bs p s0 w l s →
    ∃ w' l' z1 z2 z3 s', (∀ e, iter (leapfrogref03x_Reader_vector.l15 std) (e + d + 1) [rpt b, a3, w, .int .i64 (i : Int), .int .u8 (y : Int), .int .i64 (t : Int), .int .i64 (k : Int), b7, b8, b9, b10, b11, b12, b13, .agg ⟨c⟩] s = some (0, [rpt b, a3, w', .int .i64 (i : Int), b7, b8, b9, b10, b11, b12, b13, z1, z2, z3, .agg ⟨c⟩], s')) ∧
      RvAt n1 n0 b bv bs p s0 w' l' s' ∧ l'.length = l.length + d ∧ ofBits l' = v * 2 ^ (min 8 t) + y / 2 ^ (8 - min 8 t)
  | 0, k, w, l, s, hk, hl, ho, h => by
    have : k = min 8 t := by omega
    subst this
    have k1 : ((8 : Int) ≤ (t : Int)) = (8 ≤ t) := propext (by omega)
    by_cases h8 : 8 ≤ t
    · have e1 : bin .lss (.int .i64 ((min 8 t : Nat) : Int)) (.int .i64 8) = some (.bool false) := by rw [bin_lss, decide_eq_false (by omega)]
      refine ⟨w, l, undef, undef, undef, s, fun e => ?_, h, rfl, ho⟩
      rw [iter_succ]
      unfold leapfrogref03x_Reader_vector.l15
      simp only [std_bd, std_cnd, std_gd, List.getD_cons_zero, List.getD_cons_succ, e1, gdft, gdtf, pikf, bds, cndf, cellsA]
    · have e1 : bin .lss (.int .i64 ((min 8 t : Nat) : Int)) (.int .i64 8) = some (.bool true) := by rw [bin_lss, decide_eq_true (by omega)]
      have e2 : bin .lss (.int .i64 ((min 8 t : Nat) : Int)) (.int .i64 (t : Int)) = some (.bool false) := by rw [bin_lss, decide_eq_false (by omega)]
      refine ⟨w, l, .int .i64 ((min 8 t : Nat) : Int), .int .i64 (t : Int), .bool false, s, fun e => ?_, h, rfl, ho⟩
      rw [iter_succ]
      unfold leapfrogref03x_Reader_vector.l15
      simp only [std_bd, std_cnd, std_gd, List.getD_cons_zero, List.getD_cons_succ, e1, e2, gdtt, pikt, bds, cndf, cellsA]
  | d + 1, k, w, l, s, hk, hl, ho, h => by
    have e1 : bin .lss (.int .i64 (k : Int)) (.int .i64 8) = some (.bool true) := by rw [bin_lss, decide_eq_true (by omega)]
    have e2 : bin .lss (.int .i64 (k : Int)) (.int .i64 (t : Int)) = some (.bool true) := by rw [bin_lss, decide_eq_true (by omega)]
    have e3 : bin .sub (.int .i64 7) (.int .i64 (k : Int)) = some (.int .i64 ((7 - k : Nat) : Int)) := by
      rw [bin_sub, wrap64 (by omega) (by omega), show (7 : Int) - (k : Int) = ((7 - k : Nat) : Int) by omega]
    have e4 := power_r (7 - k) s (by omega)
    have pk : 2 ^ (7 - k) ≤ 128 := Nat.le_trans (Nat.pow_le_pow_right (by omega) (show 7 - k ≤ 7 by omega)) (by decide)
    have p0 := Nat.two_pow_pos (7 - k)
    have e5 : cvi .u8 (.int .u64 ((2 ^ (7 - k) : Nat) : Int)) = some (.int .u8 ((2 ^ (7 - k) : Nat) : Int)) := by rw [cvi_int, wrapu8 (by omega) (by omega)]
    have hdiv : y / 2 ^ (7 - k) ≤ y := Nat.div_le_self _ _
    have hq0 : (0 : Int) ≤ ((y / 2 ^ (7 - k) : Nat) : Int) := Int.natCast_nonneg _
    have e6 : bin .quo (.int .u8 (y : Int)) (.int .u8 ((2 ^ (7 - k) : Nat) : Int)) = some (.int .u8 ((y / 2 ^ (7 - k) : Nat) : Int)) := by
      rw [bin_quo (by omega), show ((y : Int)).tdiv ((2 ^ (7 - k) : Nat) : Int) = ((y / 2 ^ (7 - k) : Nat) : Int) from rfl, wrapu8 (by omega) (by omega)]
    have e7 : cvi .i64 (.int .u8 ((y / 2 ^ (7 - k) : Nat) : Int)) = some (.int .i64 ((y / 2 ^ (7 - k) : Nat) : Int)) := by rw [cvi_int, wrap64 (by omega) (by omega)]
    have e8 : bin .rem (.int .i64 ((y / 2 ^ (7 - k) : Nat) : Int)) (.int .i64 2) = some (.int .i64 ((y / 2 ^ (7 - k) % 2 : Nat) : Int)) := by
      rw [bin_rem (by omega), Int.tmod_eq_emod_of_nonneg (by omega)]; rfl
    have e9 : bin .add (.int .i64 (k : Int)) (.int .i64 1) = some (.int .i64 ((k + 1 : Nat) : Int)) := by
      rw [bin_add, wrap64 (by omega) (by omega)]; rfl
    have hlen : (rowsI l).length = l.length := rowsI_length l
    have hh := h.st.n
    have mo : More ⟨s.h, n0⟩ s := ⟨by have := h.le; simp only; omega, fun _ _ => rfl, fun _ => h.rd.fr⟩
    obtain ⟨w', s1, a1, a2, a3', a4, _⟩ := push (s0 := ⟨s.h, n0⟩) h.rd.fr h.ful mo (by_ := 8) [.int .i64 ((y / 2 ^ (7 - k) % 2 : Nat) : Int)] (by omega) (by omega)
    have h1 : RvAt n1 n0 b bv bs p s0 w' (l ++ [y / 2 ^ (7 - k) % 2]) s1 := by
      have hle := h.le
      refine ⟨h.rd.app h.lt a2 a4, ⟨by have := a2.n; simp only at this; omega, fun x hx hne => (a2.old x (by simp only; omega)).trans (h.st.keep x hx hne)⟩, by rw [rowsI_snoc]; exact a3', h.lt, h.le, fun d hd => ?_⟩
      · rcases List.mem_append.1 hd with hd | hd
        · exact h.bit d hd
        · cases List.mem_singleton.1 hd; exact Nat.mod_lt _ (by omega)
    have ho1 : ofBits (l ++ [y / 2 ^ (7 - k) % 2]) = v * 2 ^ (k + 1) + y / 2 ^ (8 - (k + 1)) := by
      rw [ofBits_snoc, ho, show 8 - k = (7 - k) + 1 by omega, show 8 - (k + 1) = 7 - k by omega, Nat.pow_succ, ← Nat.div_div_eq_div_mul, Nat.pow_succ, ← Nat.mul_assoc]
      omega
    obtain ⟨w2, l2, z1, z2, z3, s2, g1, g2, g3, g4⟩ := rbitloop (v := v) (i := i) (a3 := a3) (b7 := b7) (b8 := b8) (b9 := b9) (b10 := b10) (b11 := b11) (b12 := b12) (b13 := b13) (c := c) (cc := cc) (n := n) hy ht ht0 d (k + 1) (by omega) (by simp; omega) ho1 h1
    refine ⟨w2, l2, z1, z2, z3, s2, fun e => ?_, g2, by rw [g3]; simp; omega, g4⟩
    have g := g1 e
    have als1 : ((bls 1 (List.replicate 1 [.int .i64 0]) [(0, .int .i64 ((y / 2 ^ (7 - k) % 2 : Nat) : Int))]).bind fun rows => als s 1 1 rows) = some (.slice (some ⟨s.n, 0, some 0⟩) 1 2, s.new (.row 1 [[.int .i64 ((y / 2 ^ (7 - k) % 2 : Nat) : Int)]] false)) := rfl
    rw [show e + (d + 1) + 1 = (e + d + 1) + 1 by omega, iter_succ]
    revert g
    generalize iter (leapfrogref03x_Reader_vector.l15 std) (e + d + 1) = R
    generalize ((y / 2 ^ (7 - k) % 2 : Nat) : Int) = D at *
    generalize ((y / 2 ^ (7 - k) : Nat) : Int) = Q at *
    generalize ((2 ^ (7 - k) : Nat) : Int) = P at *
    intro g
    unfold leapfrogref03x_Reader_vector.l15
    simp only [std_bd, std_cnd, std_gd, List.getD_cons_zero, List.getD_cons_succ, e1, e2, e3, e4, e5, e6, e7, e8, e9, als1, a1, gdtt, pikt, bds, cndt, cellsA]
    exact g
end
end Go.Proofs.Ytmbfnpadhlfepaa
