/-
  The program's reader: a vector, a key, a field.
-/
import Derived.Test.YtmbfnpadhlfepaaPakO
set_option linter.unusedSimpArgs false
set_option linter.unusedVariables false
set_option maxRecDepth 100000
set_option maxHeartbeats 4000000
namespace Go.Proofs.Ytmbfnpadhlfepaa
open Go.Sim Go.Sim.Bt
attribute [local congr] bdc cndc itec gdc gdSc gdUc

def vecL (bs : List Int) : Nat → Nat → Nat → Nat → RdR Nat
  | 0, _, v, p => .ok v p
  | d + 1, m, v, p => if m = 0 then .ok v p else match byteP bs (fun y => decide (y % 2 ^ (8 - m) = 0)) p with
    | .bad e q => .bad e q
    | .ok y q => vecL bs d (m - 8) (v * 2 ^ (8 - (8 - m)) + y / 2 ^ (8 - m)) q
def vecP (bs : List Int) (p : Nat) : RdR (Nat × Nat) := match byteP bs (fun y => decide (y ≤ 32)) p with
  | .bad e q => .bad e q
  | .ok n q => match vecL bs 5 n 0 q with
    | .bad e q => .bad e q
    | .ok v q => .ok (n, v) q
def keyL (bs : List Int) : Nat → Nat → Nat → RdR Nat
  | 0, x, p => .ok x p
  | d + 1, x, p => match byteP bs (fun _ => true) p with
    | .bad e q => .bad e q
    | .ok y q => keyL bs d (x * 256 + y) q
def keyP (bs : List Int) (p : Nat) : RdR (Nat × Nat) := match byteP bs (fun y => decide (1 ≤ y ∧ y ≤ 3)) p with
  | .bad e q => .bad e q
  | .ok r q => if r = 2 then (match keyL bs 8 0 q with
    | .bad e q => .bad e q
    | .ok v q => .ok (r, v) q) else .ok (r, 0) q
theorem byteP_ok {bs : List Int} {c : Nat → Bool} {p y q : Nat} (h : byteP bs c p = .ok y q) : c y = true ∧ q = p + 1 ∧ ∃ z : Int, bs[p]? = some z ∧ y = z.toNat := by
  unfold byteP at h
  split at h
  · cases h
  · rename_i z hz
    split at h
    · rename_i hc; cases h; exact ⟨hc, rfl, z, hz, rfl⟩
    · cases h

section
variable {n1 b p : Nat} {bv : Value} {bs : List Int} {s : St}
/-- A byte peeked at and taken, if it may be. -/
theorem byte_q (c : Nat → Bool) (h : RdAt n1 b bv bs p s) : match byteP bs c p with
    | .bad e q => ∃ s', RdAt n1 b bv bs q s' ∧ RdS b s s' ∧ ((pack_left_peek.q (rpt b) s = some (false, pv e, s) ∧ s' = s) ∨ ∃ y : Nat, y < 256 ∧ c y = false ∧ pack_left_peek.q (rpt b) s = some (true, .int .u8 (y : Int), s) ∧ e = 31 ∧ pack_left_next.q (rpt b) (.bool false) s = some (false, pv e, s'))
    | .ok y q => ∃ s', y < 256 ∧ c y = true ∧ RdAt n1 b bv bs q s' ∧ RdS b s s' ∧ pack_left_peek.q (rpt b) s = some (true, .int .u8 (y : Int), s) ∧ pack_left_next.q (rpt b) (.bool true) s = some (true, .int .u8 (y : Int), s') := by
  cases hp : bs[p]? with
  | none =>
    rw [byteP_none hp]
    exact ⟨s, h, .refl _ _, .inl ⟨peek_no h hp, rfl⟩⟩
  | some y' =>
    obtain ⟨y, rfl, hy⟩ := h.ok.at hp
    rw [byteP_some hp]
    by_cases hc : c y = true
    · rw [if_pos hc]
      obtain ⟨s', k1, k2, k3⟩ := next_ok h hp
      exact ⟨s', hy, hc, k2, k3, peek_ok h hp, k1⟩
    · rw [if_neg hc]
      exact ⟨s, h, .refl _ _, .inr ⟨y, hy, by simpa using hc, peek_ok h hp, rfl, next_bad h⟩⟩
/-- A byte taken, whichever. -/
theorem any_q (h : RdAt n1 b bv bs p s) : match byteP bs (fun _ => true) p with
    | .bad e q => ∃ s', RdAt n1 b bv bs q s' ∧ RdS b s s' ∧ pack_left_next.q (rpt b) (.bool true) s = some (false, pv e, s')
    | .ok y q => ∃ s', y < 256 ∧ RdAt n1 b bv bs q s' ∧ RdS b s s' ∧ pack_left_next.q (rpt b) (.bool true) s = some (true, .int .u8 (y : Int), s') := by
  cases hp : bs[p]? with
  | none =>
    rw [byteP_none hp]
    exact ⟨s, h, .refl _ _, next_no h hp⟩
  | some y' =>
    obtain ⟨y, rfl, hy⟩ := h.ok.at hp
    rw [byteP_some hp, if_pos rfl]
    obtain ⟨s', k1, k2, k3⟩ := next_ok h hp
    exact ⟨s', hy, k2, k3, k1⟩

/-- What the loops of a vector and of a key answer. -/
def VLIs (n1 b : Nat) (bv : Value) (bs : List Int) (s : St) (z : Value) (f : Nat → Value) (r : Nat → Option Cut) : RdR Nat → Prop
  | .ok a q => ∃ s', (∀ e, r e = some (0, [z, f a], s')) ∧ RdAt n1 b bv bs q s' ∧ RdS b s s'
  | .bad er q => ∃ s', (∀ e, r e = some (1, [pv er], s')) ∧ RdAt n1 b bv bs q s' ∧ RdS b s s'
theorem vecloop_q {n : Int} {c0 : List Value} : ∀ (d : Nat) (m : Int) (t v : Nat) {p : Nat} {s : St}, m ≤ 8 * (d : Int) → -8 < m → m ≤ 32 → t + m.toNat ≤ 32 → v < 2 ^ t → RdAt n1 b bv bs p s →
    VLIs n1 b bv bs s (.agg ⟨c0⟩) (fun a => .agg ⟨[.int .i64 n, .int .u64 (a : Int)]⟩) (fun e => iter (pack_reader_vector.l5 std) (e + d + 1) [rpt b, .int .i64 m, .agg ⟨c0⟩, .agg ⟨[.int .i64 n, .int .u64 (v : Int)]⟩] s) (vecL bs d m.toNat v p)
  | 0, m, t, v, p, s, hd, hm, hm2, ht, hv, h => by
    unfold vecL
    refine ⟨s, fun e => ?_, h, .refl _ _⟩
    dsimp only
    have k : bin .gtr (.int .i64 m) (.int .i64 0) = some (.bool false) := by rw [bin_gtr, decide_eq_false (by omega)]
    rw [iter_succ]
    unfold pack_reader_vector.l5
    simp only [std_bd, std_cnd, List.getD_cons_zero, List.getD_cons_succ, k, bds, cnd, cellsA]
  | d + 1, m, t, v, p, s, hd, hm, hm2, ht, hv, h => by
    unfold vecL
    by_cases h0 : m.toNat = 0
    · rw [if_pos h0]
      refine ⟨s, fun e => ?_, h, .refl _ _⟩
      dsimp only
      have k : bin .gtr (.int .i64 m) (.int .i64 0) = some (.bool false) := by rw [bin_gtr, decide_eq_false (by omega)]
      rw [iter_succ]
      unfold pack_reader_vector.l5
      simp only [std_bd, std_cnd, List.getD_cons_zero, List.getD_cons_succ, k, bds, cnd, cellsA]
    · rw [if_neg h0]
      obtain ⟨o, ho⟩ : ∃ o, o = 8 - m.toNat := ⟨_, rfl⟩
      have ho7 : o ≤ 7 := by omega
      rw [← ho]
      have k : bin .gtr (.int .i64 m) (.int .i64 0) = some (.bool true) := by rw [bin_gtr, decide_eq_true (by omega)]
      have e1 : bin .sub (.int .i64 8) (.int .i64 m) = some (.int .i64 (8 - m)) := by rw [bin_sub, wrap64 (by omega) (by omega)]
      have e2 : mx2 (.int .i64 (8 - m)) (.int .i64 0) = some (.int .i64 (o : Int)) := by
        rw [mx2_int, show (if (0 : Int) > 8 - m then 0 else 8 - m) = (o : Int) by split <;> omega]
      have e3 : cvi .u64 (.int .i64 (o : Int)) = some (.int .u64 (o : Int)) := cvu (by omega)
      have ho' : o = 0 ∨ o = 1 ∨ o = 2 ∨ o = 3 ∨ o = 4 ∨ o = 5 ∨ o = 6 ∨ o = 7 := by omega
      have e4 : ((bin .shl (.int .u8 1) (.int .u64 (o : Int))).bind fun x => bin .sub x (.int .u8 1)) = some (.int .u8 ((2 ^ o - 1 : Nat) : Int)) := by
        rcases ho' with rfl | rfl | rfl | rfl | rfl | rfl | rfl | rfl <;> rfl
      have p256 : 2 ^ o ≤ 128 := Nat.le_trans (Nat.pow_le_pow_right (by omega) ho7) (by decide)
      have e5 : ∀ y : Nat, y < 256 → bin .and (.int .u8 (y : Int)) (.int .u8 ((2 ^ o - 1 : Nat) : Int)) = some (.int .u8 ((y % 2 ^ o : Nat) : Int)) := fun y hy => by
        rw [and_u8 hy (by omega), Nat.and_two_pow_sub_one_eq_mod]
      have e6 : ∀ y : Nat, eqb [1] false false (.int .u8 ((y % 2 ^ o : Nat) : Int)) (.int .u8 0) = some (.bool (decide (y % 2 ^ o = 0))) := fun y => by
        rw [eqb1]
        have : (((y % 2 ^ o : Nat) : Int) = 0) = (y % 2 ^ o = 0) := propext (by omega)
        simp only [this]
      have nk : nck (rpt b) = some (rpt b) := rfl
      have fl : fld 0 (rpt b) = some (rpt b) := rfl
      have e4' : ∀ (x : Value), bin .shl (.int .u8 1) (.int .u64 (o : Int)) = some x → bin .sub x (.int .u8 1) = some (.int .u8 ((2 ^ o - 1 : Nat) : Int)) := fun x hx => by
        rw [hx] at e4; exact e4
      obtain ⟨xs, hxs⟩ : ∃ x, bin .shl (.int .u8 1) (.int .u64 (o : Int)) = some x := by
        rcases ho' with rfl | rfl | rfl | rfl | rfl | rfl | rfl | rfl <;> exact ⟨_, rfl⟩
      have e4b := e4' xs hxs
      have hq := byte_q (fun y => decide (y % 2 ^ o = 0)) h
      cases hb : byteP bs (fun y => decide (y % 2 ^ o = 0)) p with
      | bad er q =>
        rw [hb] at hq
        obtain ⟨s', k1, k2, hq⟩ := hq
        refine ⟨s', fun e => ?_, k1, k2⟩
        dsimp only
        rw [show e + (d + 1) + 1 = (e + d + 1) + 1 by omega, iter_succ]
        unfold pack_reader_vector.l5
        rcases hq with ⟨hq, rfl⟩ | ⟨y, hy, hc, pk, _, nx⟩
        · simp only [std_bd, std_cnd, List.getD_cons_zero, List.getD_cons_succ, k, nk, fl, hq, bds, cnd]
        · have e6' := e6 y
          rw [hc] at e6'
          simp only [std_bd, std_cnd, List.getD_cons_zero, List.getD_cons_succ, k, nk, fl, pk, e1, e2, e3, hxs, e4b, e5 y hy, e6', nx, bds, cnd]
      | ok y q =>
        rw [hb] at hq
        obtain ⟨s1, hy, hc, k1, k2, pk, nx⟩ := hq
        have e6' := e6 y
        rw [hc] at e6'
        have e7 : bin .sub (.int .u64 8) (.int .u64 (o : Int)) = some (.int .u64 ((8 - o : Nat) : Int)) := by
          rw [bin_sub, wrapu64 (by omega) (by omega), show (8 : Int) - (o : Int) = ((8 - o : Nat) : Int) by omega]
        have pm : 2 ^ t * 2 ^ (8 - o) ≤ 2 ^ 32 := by rw [← Nat.pow_add]; exact Nat.pow_le_pow_right (by omega) (by omega)
        have hv2 : v * 2 ^ (8 - o) + 2 ^ (8 - o) ≤ 2 ^ t * 2 ^ (8 - o) := by
          have := Nat.mul_le_mul_right (2 ^ (8 - o)) (Nat.succ_le_of_lt hv)
          rw [Nat.succ_mul] at this
          exact this
        have r0 := Nat.two_pow_pos (8 - o)
        have hyo : y / 2 ^ o < 2 ^ (8 - o) := by
          apply Nat.div_lt_of_lt_mul
          rw [← Nat.pow_add, show o + (8 - o) = 8 by omega]; exact hy
        have e8 : bin .shl (.int .u64 (v : Int)) (.int .u64 ((8 - o : Nat) : Int)) = some (.int .u64 ((v * 2 ^ (8 - o) : Nat) : Int)) := shl_u64 (by omega) (by omega)
        have e9 : bin .shr (.int .u8 (y : Int)) (.int .u64 (o : Int)) = some (.int .u8 ((y / 2 ^ o : Nat) : Int)) := by
          rw [bin_shr (Int.natCast_nonneg o), show min (o : Int).toNat IntKind.u8.bits = o by simp [IntKind.bits]; omega, show (2 : Int) ^ o = ((2 ^ o : Nat) : Int) by simp, Int.fdiv_eq_ediv_of_nonneg _ (Int.natCast_nonneg _)]
          rfl
        have e10 : cvi .u64 (.int .u8 ((y / 2 ^ o : Nat) : Int)) = some (.int .u64 ((y / 2 ^ o : Nat) : Int)) := cvu (by omega)
        have e11 : bin .or (.int .u64 ((v * 2 ^ (8 - o) : Nat) : Int)) (.int .u64 ((y / 2 ^ o : Nat) : Int)) = some (.int .u64 ((v * 2 ^ (8 - o) + y / 2 ^ o : Nat) : Int)) := by
          rw [or_u64 (by omega) (by omega), Nat.mul_comm v, ← Nat.two_pow_add_eq_or_of_lt hyo]
        have e12 : bin .sub (.int .i64 m) (.int .i64 8) = some (.int .i64 (m - 8)) := by rw [bin_sub, wrap64 (by omega) (by omega)]
        have e13 : lcl [.int .i64 n, .int .u64 (v : Int)] 1 = some (.int .u64 (v : Int)) := rfl
        have e14 : stl [.int .i64 n, .int .u64 (v : Int)] 1 1 (.int .u64 ((v * 2 ^ (8 - o) + y / 2 ^ o : Nat) : Int)) = some [.int .i64 n, .int .u64 ((v * 2 ^ (8 - o) + y / 2 ^ o : Nat) : Int)] := rfl
        have ih := vecloop_q (n := n) (c0 := c0) d (m - 8) (t + (8 - o)) (v * 2 ^ (8 - o) + y / 2 ^ o) (by omega) (by omega) (by omega) (by omega) (by rw [Nat.pow_add]; omega) k1
        rw [show (m - 8).toNat = m.toNat - 8 by omega] at ih
        simp only []
        have step : ∀ e, iter (pack_reader_vector.l5 std) (e + (d + 1) + 1) [rpt b, .int .i64 m, .agg ⟨c0⟩, .agg ⟨[.int .i64 n, .int .u64 (v : Int)]⟩] s = iter (pack_reader_vector.l5 std) (e + d + 1) [rpt b, .int .i64 (m - 8), .agg ⟨c0⟩, .agg ⟨[.int .i64 n, .int .u64 ((v * 2 ^ (8 - o) + y / 2 ^ o : Nat) : Int)]⟩] s1 := fun e => by
          rw [show e + (d + 1) + 1 = (e + d + 1) + 1 by omega, iter_succ]
          generalize iter (pack_reader_vector.l5 std) (e + d + 1) = R
          unfold pack_reader_vector.l5
          simp only [std_bd, std_cnd, List.getD_cons_zero, List.getD_cons_succ, k, nk, fl, pk, e1, e2, e3, hxs, e4b, e5 y hy, e6', nx, e7, e8, e9, e10, e11, e12, e13, e14, cellsA, bds, cnd]
        revert ih
        cases vecL bs d (m.toNat - 8) (v * 2 ^ (8 - o) + y / 2 ^ o) q with
        | ok a q =>
          rintro ⟨s', g1, g2, g3⟩
          exact ⟨s', fun e => (step e).trans (g1 e), g2, k2.trans g3⟩
        | bad er q =>
          rintro ⟨s', g1, g2, g3⟩
          exact ⟨s', fun e => (step e).trans (g1 e), g2, k2.trans g3⟩
def z2 : List Value := [.int .i64 0, .int .u64 0]
theorem vector_q (h : RdAt n1 b bv bs p s) : RdIs n1 b bv bs s (fun a : Nat × Nat => .agg ⟨[.int .i64 (a.1 : Int), .int .u64 (a.2 : Int)]⟩) (pack_reader_vector.q (rpt b) s) (vecP bs p) := by
  unfold vecP
  have nk : nck (rpt b) = some (rpt b) := rfl
  have fl : fld 0 (rpt b) = some (rpt b) := rfl
  have hz : bx (.agg #[.int .i64 0, .int .u64 0]) = some z2 := rfl
  have le32 : ∀ y : Nat, bin .leq (.int .u8 (y : Int)) (.int .u8 32) = some (.bool (decide (y ≤ 32))) := fun y => by
    rw [bin_leq]
    have : ((y : Int) ≤ 32) = (y ≤ 32) := propext (by omega)
    simp only [this]
  have hq := byte_q (fun y => decide (y ≤ 32)) h
  cases hb : byteP bs (fun y => decide (y ≤ 32)) p with
  | bad er q =>
    rw [hb] at hq
    obtain ⟨s', k1, k2, hq⟩ := hq
    refine ⟨s', ?_, k1, k2⟩
    unfold pack_reader_vector.q pack_reader_vector.t
    rcases hq with ⟨hq, rfl⟩ | ⟨y, hy, hc, pk, _, nx⟩
    · simp only [std_bd, std_cnd, hz, nk, fl, hq, bds, cnd]
    · have l := le32 y
      rw [hc] at l
      simp only [std_bd, std_cnd, hz, nk, fl, pk, l, nx, bds, cnd]
  | ok y q =>
    rw [hb] at hq
    obtain ⟨s1, hy, hc, k1, k2, pk, nx⟩ := hq
    have l := le32 y
    rw [hc] at l
    have hy32 : y ≤ 32 := of_decide_eq_true hc
    have cv : cvi .i64 (.int .u8 (y : Int)) = some (.int .i64 (y : Int)) := by rw [cvi_int, wrap64 (by omega) (by omega)]
    have b2 : bld [.int .i64 0, .int .u64 0] [(0, 1, .int .i64 (y : Int))] = some (.agg ⟨[.int .i64 (y : Int), .int .u64 0]⟩) := rfl
    have st : stl z2 0 2 (.agg ⟨[.int .i64 (y : Int), .int .u64 0]⟩) = some [.int .i64 (y : Int), .int .u64 0] := rfl
    have hv := vecloop_q (n := (y : Int)) (c0 := z2) 5 (y : Int) 0 0 (by omega) (by omega) (by omega) (by omega) (by decide) k1
    rw [Int.toNat_natCast] at hv
    simp only []
    revert hv
    cases vecL bs 5 y 0 q with
    | ok a q =>
      rintro ⟨s', g1, g2, g3⟩
      refine ⟨s', ?_, g2, k2.trans g3⟩
      have g := g1 (BIG - 6)
      dsimp only at g
      rw [show BIG - 6 + 5 + 1 = BIG from rfl] at g
      have g : iter (pack_reader_vector.l5 std) BIG [rpt b, .int .i64 (y : Int), .agg ⟨z2⟩, .agg ⟨[.int .i64 (y : Int), .int .u64 0]⟩] s1 = _ := g
      have f1 : lal [.int .i64 (y : Int), .int .u64 (a : Int)] 0 2 = some (.agg ⟨[.int .i64 (y : Int), .int .u64 (a : Int)]⟩) := rfl
      have f2 : stl z2 0 2 (.agg ⟨[.int .i64 (y : Int), .int .u64 (a : Int)]⟩) = some [.int .i64 (y : Int), .int .u64 (a : Int)] := rfl
      unfold pack_reader_vector.q pack_reader_vector.t
      simp only [std_bd, std_cnd, std_it, hz, nk, fl, pk, l, nx, cv, b2, st, g, cellsA, List.getD_cons_zero, List.getD_cons_succ, f1, f2, bds, cnd, if_true]
    | bad er q =>
      rintro ⟨s', g1, g2, g3⟩
      refine ⟨s', ?_, g2, k2.trans g3⟩
      have g := g1 (BIG - 6)
      dsimp only at g
      rw [show BIG - 6 + 5 + 1 = BIG from rfl] at g
      have g : iter (pack_reader_vector.l5 std) BIG [rpt b, .int .i64 (y : Int), .agg ⟨z2⟩, .agg ⟨[.int .i64 (y : Int), .int .u64 0]⟩] s1 = _ := g
      unfold pack_reader_vector.q pack_reader_vector.t
      simp only [std_bd, std_cnd, std_it, hz, nk, fl, pk, l, nx, cv, b2, st, g, bds, cnd, List.getD_cons_zero]
      rfl

theorem keyloop_q {n : Int} {c0 : List Value} : ∀ (d j v : Nat) {p : Nat} {s : St}, j + d = 8 → v < 256 ^ j → RdAt n1 b bv bs p s →
    VLIs n1 b bv bs s (.agg ⟨c0⟩) (fun a => .agg ⟨[.int .i64 n, .int .u64 (a : Int)]⟩) (fun e => iter (pack_reader_key.l6 std) (e + d + 1) [rpt b, .int .i64 (j : Int), .agg ⟨c0⟩, .agg ⟨[.int .i64 n, .int .u64 (v : Int)]⟩] s) (keyL bs d v p)
  | 0, j, v, p, s, hj, hv, h => by
    unfold keyL
    refine ⟨s, fun e => ?_, h, .refl _ _⟩
    dsimp only
    have k : bin .lss (.int .i64 (j : Int)) (.int .i64 8) = some (.bool false) := by rw [bin_lss, decide_eq_false (by omega)]
    rw [iter_succ]
    unfold pack_reader_key.l6
    simp only [std_bd, std_cnd, List.getD_cons_zero, List.getD_cons_succ, k, bds, cnd, cellsA]
  | d + 1, j, v, p, s, hj, hv, h => by
    unfold keyL
    have k : bin .lss (.int .i64 (j : Int)) (.int .i64 8) = some (.bool true) := by rw [bin_lss, decide_eq_true (by omega)]
    have nk : nck (rpt b) = some (rpt b) := rfl
    have fl : fld 0 (rpt b) = some (rpt b) := rfl
    have hv2 : v * 256 + 256 ≤ 2 ^ 64 := by
      have h1 : 256 ^ j * 256 ≤ 256 ^ 8 := by rw [← Nat.pow_succ]; exact Nat.pow_le_pow_right (by omega) (by omega)
      have h2 := Nat.mul_le_mul_right 256 (Nat.succ_le_of_lt hv)
      have e : 256 ^ 8 = 2 ^ 64 := by decide
      rw [Nat.succ_mul] at h2
      omega
    have e1 : lcl [.int .i64 n, .int .u64 (v : Int)] 1 = some (.int .u64 (v : Int)) := rfl
    have e2 : bin .shl (.int .u64 (v : Int)) (.int .u64 8) = some (.int .u64 ((v * 256 : Nat) : Int)) := by
      have := shl_u64 (a := v) (k := 8) (k' := .u64) (by omega) (by rw [show 2 ^ 8 = 256 from rfl]; omega)
      exact this
    have hq := any_q h
    cases hb : byteP bs (fun _ => true) p with
    | bad er q =>
      rw [hb] at hq
      obtain ⟨s', k1, k2, nx⟩ := hq
      refine ⟨s', fun e => ?_, k1, k2⟩
      dsimp only
      rw [show e + (d + 1) + 1 = (e + d + 1) + 1 by omega, iter_succ]
      unfold pack_reader_key.l6
      simp only [std_bd, std_cnd, List.getD_cons_zero, List.getD_cons_succ, k, cellsA, e1, e2, nk, fl, nx, bds, cnd]
    | ok y q =>
      rw [hb] at hq
      obtain ⟨s1, hy, k1, k2, nx⟩ := hq
      have e3 : cvi .u64 (.int .u8 (y : Int)) = some (.int .u64 (y : Int)) := cvu (by omega)
      have e4 : bin .or (.int .u64 ((v * 256 : Nat) : Int)) (.int .u64 (y : Int)) = some (.int .u64 ((v * 256 + y : Nat) : Int)) := by
        rw [or_u64 (by omega) (by omega), Nat.mul_comm v, show 256 * v = 2 ^ 8 * v from rfl, ← Nat.two_pow_add_eq_or_of_lt hy]
      have e5 : stl [.int .i64 n, .int .u64 (v : Int)] 1 1 (.int .u64 ((v * 256 + y : Nat) : Int)) = some [.int .i64 n, .int .u64 ((v * 256 + y : Nat) : Int)] := rfl
      have e6 : bin .add (.int .i64 (j : Int)) (.int .i64 1) = some (.int .i64 ((j + 1 : Nat) : Int)) := by
        rw [bin_add, wrap64 (by omega) (by omega)]; rfl
      have ih := keyloop_q (n := n) (c0 := c0) d (j + 1) (v * 256 + y) (by omega) (by rw [Nat.pow_succ]; omega) k1
      simp only []
      have step : ∀ e, iter (pack_reader_key.l6 std) (e + (d + 1) + 1) [rpt b, .int .i64 (j : Int), .agg ⟨c0⟩, .agg ⟨[.int .i64 n, .int .u64 (v : Int)]⟩] s = iter (pack_reader_key.l6 std) (e + d + 1) [rpt b, .int .i64 ((j + 1 : Nat) : Int), .agg ⟨c0⟩, .agg ⟨[.int .i64 n, .int .u64 ((v * 256 + y : Nat) : Int)]⟩] s1 := fun e => by
        rw [show e + (d + 1) + 1 = (e + d + 1) + 1 by omega, iter_succ]
        generalize iter (pack_reader_key.l6 std) (e + d + 1) = R
        unfold pack_reader_key.l6
        simp only [std_bd, std_cnd, List.getD_cons_zero, List.getD_cons_succ, k, cellsA, e1, e2, nk, fl, nx, e3, e4, e5, e6, bds, cnd]
      revert ih
      cases keyL bs d (v * 256 + y) q with
      | ok a q =>
        rintro ⟨s', g1, g2, g3⟩
        exact ⟨s', fun e => (step e).trans (g1 e), g2, k2.trans g3⟩
      | bad er q =>
        rintro ⟨s', g1, g2, g3⟩
        exact ⟨s', fun e => (step e).trans (g1 e), g2, k2.trans g3⟩
theorem key_q (h : RdAt n1 b bv bs p s) : RdIs n1 b bv bs s (fun a : Nat × Nat => .agg ⟨[.int .i64 (a.1 : Int), .int .u64 (a.2 : Int)]⟩) (pack_reader_key.q (rpt b) s) (keyP bs p) := by
  unfold keyP
  have nk : nck (rpt b) = some (rpt b) := rfl
  have fl : fld 0 (rpt b) = some (rpt b) := rfl
  have hz : bx (.agg #[.int .i64 0, .int .u64 0]) = some z2 := rfl
  have hq := byte_q (fun y => decide (1 ≤ y ∧ y ≤ 3)) h
  have ge1 : ∀ y : Nat, ((1 : Int) ≤ (y : Int)) = (1 ≤ y) := fun y => propext (by omega)
  have le3 : ∀ y : Nat, ((y : Int) ≤ 3) = (y ≤ 3) := fun y => propext (by omega)
  cases hb : byteP bs (fun y => decide (1 ≤ y ∧ y ≤ 3)) p with
  | bad er q =>
    rw [hb] at hq
    obtain ⟨s', k1, k2, hq⟩ := hq
    refine ⟨s', ?_, k1, k2⟩
    rcases hq with ⟨hq, rfl⟩ | ⟨y, hy, hc, pk, _, nx⟩
    · unfold pack_reader_key.q pack_reader_key.t
      simp only [std_bd, std_cnd, hz, nk, fl, hq, bds, cnd]
    · have hc := of_decide_eq_false hc
      rcases Classical.propComplete (1 ≤ y) with c1 | c1
      · have c2 : (y ≤ 3) = False := eq_false fun e => hc ⟨of_eq_true c1, e⟩
        simp only [pack_reader_key.q, pack_reader_key.t, hz, nk, fl, pk, nx, sy, reduceIte, Nat.reduceAdd, Nat.reduceLeDiff, Nat.reduceLT, Nat.reduceEqDiff, Int.reduceEq, Int.reduceLT, Int.reduceLE, Int.reduceNe, ly, ge1, le3, c1, c2]
      · simp only [pack_reader_key.q, pack_reader_key.t, hz, nk, fl, pk, nx, sy, reduceIte, Nat.reduceAdd, Nat.reduceLeDiff, Nat.reduceLT, Nat.reduceEqDiff, Int.reduceEq, Int.reduceLT, Int.reduceLE, Int.reduceNe, ly, ge1, le3, c1]
  | ok y q =>
    rw [hb] at hq
    obtain ⟨s1, hy, hc, k1, k2, pk, nx⟩ := hq
    obtain ⟨c1, c2⟩ := of_decide_eq_true hc
    have cv : IntKind.i64.wrap (y : Int) = (y : Int) := wrap64 (by omega) (by omega)
    by_cases h2 : y = 2
    · subst h2
      have hk := keyloop_q (n := 2) (c0 := z2) 8 0 0 (by omega) (by decide) k1
      simp only [if_true]
      revert hk
      cases keyL bs 8 0 q with
      | ok a q =>
        rintro ⟨s', g1, g2, g3⟩
        refine ⟨s', ?_, g2, k2.trans g3⟩
        have g := g1 (BIG - 9)
        dsimp only at g
        rw [show BIG - 9 + 8 + 1 = BIG from rfl] at g
        have g : iter (pack_reader_key.l6 std) BIG [rpt b, .int .i64 0, .agg ⟨[.int .i64 0, .int .u64 0]⟩, .agg ⟨[.int .i64 2, .int .u64 0]⟩] s1 = _ := g
        have pk : pack_left_peek.q (rpt b) s = some (true, .int .u8 2, s) := pk
        have nx : pack_left_next.q (rpt b) (.bool true) s = some (true, .int .u8 2, s1) := nx
        have cv : IntKind.i64.wrap 2 = 2 := rfl
        have ge1 : (1 : Int) ≤ 2 := by omega
        have le3 : (2 : Int) ≤ 3 := by omega
        have zz : z2 = [.int .i64 0, .int .u64 0] := rfl
        simp only [pack_reader_key.q, pack_reader_key.t, hz, zz, nk, fl, pk, nx, sy, reduceIte, Nat.reduceAdd, Nat.reduceLeDiff, Nat.reduceLT, Nat.reduceEqDiff, Int.reduceEq, Int.reduceLT, Int.reduceLE, Int.reduceNe, ly, ge1, le3, cv, g]
        rfl
      | bad er q =>
        rintro ⟨s', g1, g2, g3⟩
        refine ⟨s', ?_, g2, k2.trans g3⟩
        have g := g1 (BIG - 9)
        dsimp only at g
        rw [show BIG - 9 + 8 + 1 = BIG from rfl] at g
        have g : iter (pack_reader_key.l6 std) BIG [rpt b, .int .i64 0, .agg ⟨[.int .i64 0, .int .u64 0]⟩, .agg ⟨[.int .i64 2, .int .u64 0]⟩] s1 = _ := g
        have pk : pack_left_peek.q (rpt b) s = some (true, .int .u8 2, s) := pk
        have nx : pack_left_next.q (rpt b) (.bool true) s = some (true, .int .u8 2, s1) := nx
        have cv : IntKind.i64.wrap 2 = 2 := rfl
        have ge1 : (1 : Int) ≤ 2 := by omega
        have le3 : (2 : Int) ≤ 3 := by omega
        have zz : z2 = [.int .i64 0, .int .u64 0] := rfl
        simp only [pack_reader_key.q, pack_reader_key.t, hz, zz, nk, fl, pk, nx, sy, reduceIte, Nat.reduceAdd, Nat.reduceLeDiff, Nat.reduceLT, Nat.reduceEqDiff, Int.reduceEq, Int.reduceLT, Int.reduceLE, Int.reduceNe, ly, ge1, le3, cv, g]
    · simp only []
      rw [if_neg h2]
      refine ⟨s1, ?_, k1, k2⟩
      have c1' : (1 ≤ y) = True := eq_true c1
      have c2' : (y ≤ 3) = True := eq_true c2
      have y2 : ((y : Int) = 2) = False := eq_false (by omega)
      have zz : z2 = [.int .i64 0, .int .u64 0] := rfl
      simp only [pack_reader_key.q, pack_reader_key.t, hz, zz, nk, fl, pk, nx, sy, reduceIte, Nat.reduceAdd, Nat.reduceLeDiff, Nat.reduceLT, Nat.reduceEqDiff, Int.reduceEq, Int.reduceLT, Int.reduceLE, Int.reduceNe, ly, ge1, le3, c1', c2', cv, y2]
      rfl
end
end Go.Proofs.Ytmbfnpadhlfepaa
