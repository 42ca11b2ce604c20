/-
  The reference's reader: a vector, a field.
-/
import Derived.Test.YtmbfnpadhlfepaaPakW
set_option linter.unusedSimpArgs false
set_option linter.unusedVariables false
set_option maxRecDepth 100000
set_option maxHeartbeats 4000000
namespace Go.Proofs.Ytmbfnpadhlfepaa
open Go.Sim Go.Sim.Bt
attribute [local congr] bdc cndc itec gdc gdSc gdUc

theorem Ful.isI {n0 : Nat} {s : St} {v : Value} {l : List Nat} (h : Ful n0 s 1 v (rowsI l)) : IsI s v l := by
  rcases h with ⟨rfl, e⟩ | ⟨b, e, _, rfl, hg, _⟩
  · have : l = [] := by cases l with
      | nil => rfl
      | cons a l => simp [rowsI] at e
    exact .inl ⟨rfl, this⟩
  · refine .inr ⟨b, 0, e, _, _, by rw [rowsI_length], hg, fun j d hj => ?_⟩
    rw [Nat.zero_add]; exact rowsI_get hj
section
variable {n1 b p : Nat} {bv : Value} {bs : List Int} {s : St}
def ZV : Value := .agg ⟨z2⟩
def RWIs (n1 n0 b : Nat) (bv : Value) (bs : List Int) (s0 : St) (n : Nat) (r : Nat → Option Cut) : RdR Nat → Prop
  | .ok a q => ∃ w l s', (∀ e, r e = some (0, [w, ZV], s')) ∧ RvAt n1 n0 b bv bs q s0 w l s' ∧ l.length = n ∧ ofBits l = a
  | .bad er q => ∃ s', (∀ e, r e = some (1, [ZV], s')) ∧ RrAt n1 b bv bs q er s' ∧ RdS b s0 s' ∧ er ≠ 0
theorem rvloop {n0 n : Nat} {s0 : St} (hn : n ≤ 32) : ∀ (d i : Nat) {p v : Nat} {w : Value} {l : List Nat} {s : St}, n - i ≤ 8 * d → l.length = min i n → i ≤ 40 → ofBits l = v → RvAt n1 n0 b bv bs p s0 w l s →
    RWIs n1 n0 b bv bs s0 n (fun e => iter (leapfrogref03x_Reader_vector.l4 std) (e + d + 1) [rpt b, .int .i64 (n : Int), w, .int .i64 (i : Int), ZV] s) (vecL bs d (n - i) v p) := by
  intro d
  induction d with
  | zero =>
    intro i p v w l s hd hl hi ho h
    unfold vecL
    have k : bin .lss (.int .i64 (i : Int)) (.int .i64 (n : Int)) = some (.bool false) := by rw [bin_lss, decide_eq_false (by omega)]
    refine ⟨w, l, s, fun e => ?_, h, by omega, ho⟩
    dsimp only
    rw [iter_succ]
    unfold leapfrogref03x_Reader_vector.l4
    simp only [std_bd, std_cnd, List.getD_cons_zero, List.getD_cons_succ, k, bds, cndf, cellsA, ZV]
  | succ d ih =>
    intro i p v w l s hd hl hi ho h
    unfold vecL
    by_cases h0 : n - i = 0
    · rw [if_pos h0]
      have k : bin .lss (.int .i64 (i : Int)) (.int .i64 (n : Int)) = some (.bool false) := by rw [bin_lss, decide_eq_false (by omega)]
      refine ⟨w, l, s, fun e => ?_, h, by omega, ho⟩
      dsimp only
      rw [iter_succ]
      unfold leapfrogref03x_Reader_vector.l4
      simp only [std_bd, std_cnd, List.getD_cons_zero, List.getD_cons_succ, k, bds, cndf, cellsA, ZV]
    · rw [if_neg h0]
      have k : bin .lss (.int .i64 (i : Int)) (.int .i64 (n : Int)) = some (.bool true) := by rw [bin_lss, decide_eq_true (by omega)]
      have ez : bld [.int .i64 0, .int .u64 0] [] = some (.agg ⟨z2⟩) := rfl
      have es : stl z2 0 2 (.agg ⟨z2⟩) = some z2 := rfl
      have nk : nck (rpt b) = some (rpt b) := rfl
      have f1 : fld 1 (rpt b) = some (.pointer (some ⟨b, 0, some 1⟩)) := rfl
      have f2 : fld 2 (rpt b) = some (.pointer (some ⟨b, 0, some 2⟩)) := rfl
      have nt : un .not (.bool true) = some (.bool false) := rfl
      have nf : un .not (.bool false) = some (.bool true) := rfl
      have x0 : ∀ y o, xtr 0 (T2b y o) = some (.int .u8 y) := fun _ _ => rfl
      have x1 : ∀ y o, xtr 1 (T2b y o) = some (.bool o) := fun _ _ => rfl
      obtain ⟨t, ht⟩ : ∃ t, t = n - i := ⟨_, rfl⟩
      have e1 : bin .sub (.int .i64 (n : Int)) (.int .i64 (i : Int)) = some (.int .i64 (t : Int)) := by
        rw [bin_sub, wrap64 (by omega) (by omega), show (n : Int) - (i : Int) = (t : Int) by omega]
      rw [← ht]
      cases hp : bs[p]? with
      | none =>
        rw [byteP_none hp]
        obtain ⟨s', nx, g1, g2⟩ := rnext_no h.rd hp
        refine ⟨s', fun e => ?_, g1, h.st.trans g2, by omega⟩
        dsimp only
        rw [show e + (d + 1) + 1 = (e + d + 1) + 1 by omega, iter_succ]
        unfold leapfrogref03x_Reader_vector.l4 leapfrogref03x_Reader_vector.l4.p1
        simp only [std_bd, std_cnd, std_gd, List.getD_cons_zero, List.getD_cons_succ, k, nx, x0, x1, nf, ez, cellsA, ZV, es, bds, cndt]
      | some y' =>
        obtain ⟨y, rfl, hy⟩ := h.rd.ok.at hp
        rw [byteP_some hp]
        have nx := rnext_ok h.rd hp
        have hlt : p < bs.length := (List.getElem?_eq_some_iff.1 hp).1
        have hsz := h.rd.sz
        obtain ⟨o, hoo⟩ : ∃ o, o = 8 - t := ⟨_, rfl⟩
        rw [← hoo]
        -- the check of what is left over
        obtain ⟨z1, z2', z3, z4, z5, z6, z7, hchk⟩ : ∃ z1 z2' z3 z4 z5 z6 z7 : Value, ∀ {R : Type} (K : Value → Value → Value → Value → Value → Value → Value → Value → Option R),
            ((bin .lss (.int .i64 (t : Int)) (.int .i64 8)).bind fun x77 => (gd x77 true (some (.int .u8 (y : Int)))).bind fun x78 => (gd x77 true (some (.int .i64 (t : Int)))).bind fun x79 => (gd x77 true (bin .sub (.int .i64 8) x79)).bind fun x80 => (gd x77 true (leapfrogref01x_Power.r x80 s)).bind fun x81 => (gd x77 true (cvi .u8 x81)).bind fun x82 => (gd x77 true (bin .rem x78 x82)).bind fun x83 => (gd x77 true (eqb [1] false true x83 (.int .u8 0))).bind fun x84 => (pik x77 x84 (.bool false)).bind fun x85 => K x78 x79 x80 x81 x82 x83 x84 x85)
              = K z1 z2' z3 z4 z5 z6 z7 (.bool (decide (¬ (y % 2 ^ o = 0)))) := by
          by_cases h8 : t < 8
          · have c0 : bin .lss (.int .i64 (t : Int)) (.int .i64 8) = some (.bool true) := by rw [bin_lss, decide_eq_true (by omega)]
            have c1 : bin .sub (.int .i64 8) (.int .i64 (t : Int)) = some (.int .i64 (o : Int)) := by
              rw [bin_sub, wrap64 (by omega) (by omega), show (8 : Int) - (t : Int) = (o : Int) by omega]
            have c2 := power_r o s (by omega)
            have po : 2 ^ o ≤ 128 := Nat.le_trans (Nat.pow_le_pow_right (by omega) (show o ≤ 7 by omega)) (by decide)
            have p0 := Nat.two_pow_pos o
            have c3 : cvi .u8 (.int .u64 ((2 ^ o : Nat) : Int)) = some (.int .u8 ((2 ^ o : Nat) : Int)) := by rw [cvi_int, wrapu8 (by omega) (by omega)]
            have c4 : bin .rem (.int .u8 (y : Int)) (.int .u8 ((2 ^ o : Nat) : Int)) = some (.int .u8 ((y % 2 ^ o : Nat) : Int)) := by
              rw [bin_rem (by omega), Int.tmod_eq_emod_of_nonneg (by omega)]; rfl
            have c5 : eqb [1] false true (.int .u8 ((y % 2 ^ o : Nat) : Int)) (.int .u8 0) = some (.bool (decide (y % 2 ^ o ≠ 0))) := by
              rw [neb1]
              have : (((y % 2 ^ o : Nat) : Int) ≠ 0) = (y % 2 ^ o ≠ 0) := propext (by omega)
              simp only [this]
            refine ⟨.int .u8 (y : Int), .int .i64 (t : Int), .int .i64 (o : Int), .int .u64 ((2 ^ o : Nat) : Int), .int .u8 ((2 ^ o : Nat) : Int), .int .u8 ((y % 2 ^ o : Nat) : Int), .bool (decide (y % 2 ^ o ≠ 0)), fun K => ?_⟩
            rw [c0, bds, gdtt, bds, gdtt, bds, gdtt, c1, bds, gdtt, c2, bds, gdtt, c3, bds, gdtt, c4, bds, gdtt, c5, bds, pikt, bds]
          · have c0 : bin .lss (.int .i64 (t : Int)) (.int .i64 8) = some (.bool false) := by rw [bin_lss, decide_eq_false (by omega)]
            have o0 : o = 0 := by omega
            refine ⟨undef, undef, undef, undef, undef, undef, undef, fun K => ?_⟩
            rw [c0, bds, gdft, bds, gdft, bds, gdft, bds, gdft, bds, gdft, bds, gdft, bds, gdft, bds, pikf, bds, o0, Nat.pow_zero, Nat.mod_one]
            rfl
        by_cases hc : y % 2 ^ o = 0
        · rw [if_pos (decide_eq_true hc)]
          have hput := h.rd.put (q := p + 1) (by omega) 0
          have hbn0 := h.lt
          have h1 : RvAt n1 n0 b bv bs (p + 1) s0 w l (s.put b (.row 3 [[bv, .int .i64 ((p + 1 : Nat) : Int), .int .i64 0]] false)) :=
            ⟨hput.1, h.st.trans hput.2, h.ful.putN hbn0, h.lt, h.le, h.bit⟩
          have w1 : stv s 1 (.pointer (some ⟨b, 0, some 1⟩)) (.int .i64 ((p + 1 : Nat) : Int)) = some (s.put b (.row 3 [[bv, .int .i64 ((p + 1 : Nat) : Int), .int .i64 0]] false)) := by rw [stv_row h.rd.row]; rfl
          have d1 : ldc s (.pointer (some ⟨b, 0, some 1⟩)) = some (.int .i64 (p : Int)) := by rw [ldc_row h.rd.row]; rfl
          have e2 : bin .add (.int .i64 (p : Int)) (.int .i64 1) = some (.int .i64 ((p + 1 : Nat) : Int)) := by
            rw [bin_add, wrap64 (by omega) (by omega)]; rfl
          generalize s.put b (.row 3 [[bv, .int .i64 ((p + 1 : Nat) : Int), .int .i64 0]] false) = s1 at *
          obtain ⟨w', l', z8, z9, z10, s2, g1, g2, g3, g4⟩ := rbitloop (n := n) (i := i) (v := v) (cc := ZV) (c := z2) (a3 := .int .i64 (n : Int)) (b7 := z1) (b8 := z2') (b9 := z3) (b10 := z4) (b11 := z5) (b12 := z6) (b13 := z7) hy (t := t) (by omega) (by omega) (min 8 t) 0 (by omega) (by omega) (by
            rw [ho, Nat.pow_zero, Nat.mul_one, show 8 - 0 = 8 from rfl, Nat.div_eq_of_lt hy, Nat.add_zero]) h1
          have g := g1 (BIG - min 8 t - 1)
          rw [show BIG - min 8 t - 1 + min 8 t + 1 = BIG by unfold BIG; omega] at g
          have g : iter (leapfrogref03x_Reader_vector.l15 std) BIG [rpt b, .int .i64 (n : Int), w, .int .i64 (i : Int), .int .u8 (y : Int), .int .i64 (t : Int), .int .i64 0, z1, z2', z3, z4, z5, z6, z7, .agg ⟨z2⟩] s1 = _ := g
          have e3 : bin .add (.int .i64 (i : Int)) (.int .i64 8) = some (.int .i64 ((i + 8 : Nat) : Int)) := by
            rw [bin_add, wrap64 (by omega) (by omega)]; rfl
          have ih := ih (i + 8) (p := p + 1) (v := v * 2 ^ (8 - o) + y / 2 ^ o) (w := w') (l := l') (s := s2) (by omega) (by omega) (by omega) (by
            rw [g4, show min 8 t = 8 - o by omega, show 8 - (8 - o) = o by omega]) g2
          rw [show n - (i + 8) = t - 8 by omega] at ih
          simp only []
          have step : ∀ e, iter (leapfrogref03x_Reader_vector.l4 std) (e + (d + 1) + 1) [rpt b, .int .i64 (n : Int), w, .int .i64 (i : Int), ZV] s = iter (leapfrogref03x_Reader_vector.l4 std) (e + d + 1) [rpt b, .int .i64 (n : Int), w', .int .i64 ((i + 8 : Nat) : Int), ZV] s2 := fun e => by
            rw [show e + (d + 1) + 1 = (e + d + 1) + 1 by omega, iter_succ]
            generalize iter (leapfrogref03x_Reader_vector.l4 std) (e + d + 1) = R
            unfold leapfrogref03x_Reader_vector.l4 leapfrogref03x_Reader_vector.l4.p1
            simp only [std_bd, std_cnd, std_gd, std_it, List.getD_cons_zero, List.getD_cons_succ, k, nx, x0, x1, nt, e1, hchk, hc, decide_true, decide_false, not_true_eq_false, cndt, cndf, nk, f1, f2, d1, e2, w1, g, e3, cellsA, ZV, bds]
          revert ih
          cases vecL bs d (t - 8) (v * 2 ^ (8 - o) + y / 2 ^ o) (p + 1) with
          | ok a q =>
            rintro ⟨w3, l3, s', k1, k2⟩
            exact ⟨w3, l3, s', fun e => (step e).trans (k1 e), k2⟩
          | bad er q =>
            rintro ⟨s', k1, k2⟩
            exact ⟨s', fun e => (step e).trans (k1 e), k2⟩
        · rw [if_neg (by rw [decide_eq_false hc]; simp)]
          have hput := h.rd.put h.rd.le 31
          have w1 : stv s 1 (.pointer (some ⟨b, 0, some 2⟩)) (.int .i64 31) = some (s.put b (.row 3 [[bv, .int .i64 (p : Int), .int .i64 31]] false)) := by rw [stv_row h.rd.row]; rfl
          refine ⟨_, fun e => ?_, hput.1, h.st.trans hput.2, by omega⟩
          dsimp only
          rw [show e + (d + 1) + 1 = (e + d + 1) + 1 by omega, iter_succ]
          unfold leapfrogref03x_Reader_vector.l4 leapfrogref03x_Reader_vector.l4.p1
          simp only [std_bd, std_cnd, std_gd, List.getD_cons_zero, List.getD_cons_succ, k, nx, x0, x1, nt, e1, hchk, hc, decide_true, not_false_eq_true, cndt, cndf, nk, f2, w1, ez, cellsA, ZV, es, bds]
end
end Go.Proofs.Ytmbfnpadhlfepaa
