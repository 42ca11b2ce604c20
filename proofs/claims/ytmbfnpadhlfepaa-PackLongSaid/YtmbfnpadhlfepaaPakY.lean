/-
  The reference's reader: a vector, a field, joined.
-/
import Derived.Test.YtmbfnpadhlfepaaPakX
set_option linter.unusedSimpArgs false
set_option linter.unusedVariables false
set_option maxRecDepth 100000
set_option maxHeartbeats 4000000
namespace Go.Proofs.Ytmbfnpadhlfepaa
open Go.Sim Go.Sim.Bt
attribute [local congr] bdc cndc itec gdc gdSc gdUc

section
variable {n1 b p : Nat} {bv : Value} {bs : List Int} {s : St}
theorem rvec_zero {a0 : Value} {s s1 : St} (k : leapfrogref03x_Reader_byte.v a0 (.int .u8 0) (.int .u8 32) s = some (.int .u8 0, s1)) : leapfrogref03x_Reader_vector.v a0 s = some (fK (0, 0), s1) := by
  have hl : iter (leapfrogref03x_Reader_vector.l4 std) BIG [a0, .int .i64 0, .slice none 0 0, .int .i64 0, .agg ⟨[.int .i64 0, .int .u64 0]⟩] s1 = some ((0, [.slice none 0 0, .agg ⟨[.int .i64 0, .int .u64 0]⟩], s1) : Cut) := by
    rw [show BIG = 4611686018427387903 + 1 from rfl, iter_succ]
    simp only [leapfrogref03x_Reader_vector.l4, sy, reduceIte, Nat.reduceAdd, Nat.reduceLeDiff, Nat.reduceLT, Nat.reduceEqDiff, Int.reduceEq, Int.reduceLT, Int.reduceLE, Int.reduceNe, ly]
  have ho := of_r (s := s1) (v := .slice none 0 0) (l := []) (.inl ⟨rfl, rfl⟩) (by simp) (by simp)
  have ho : leapfrogref01x_Of.r (.slice none 0 0) s1 = some (.agg ⟨[.int .i64 0, .int .u64 0]⟩) := ho
  have hz : bx (.agg #[.int .i64 0, .int .u64 0]) = some [.int .i64 0, .int .u64 0] := rfl
  have cv : IntKind.i64.wrap 0 = 0 := rfl
  simp only [leapfrogref03x_Reader_vector.v, leapfrogref03x_Reader_vector.t, hz, k, sy, reduceIte, Nat.reduceAdd, Nat.reduceLeDiff, Nat.reduceLT, Nat.reduceEqDiff, Int.reduceEq, Int.reduceLT, Int.reduceLE, Int.reduceNe, ly, cv, hl, ho]
  rfl
theorem rvector_e {e : Int} (he : e ≠ 0) (h : RrAt n1 b bv bs p e s) : leapfrogref03x_Reader_vector.v (rpt b) s = some (fK (0, 0), s) := rvec_zero (rbyte_e he h)
theorem byteP_le {bs : List Int} (p : Nat) : byteP bs (fun y => decide (0 ≤ y ∧ y ≤ 32)) p = byteP bs (fun y => decide (y ≤ 32)) p := by
  have : (fun y : Nat => decide (0 ≤ y ∧ y ≤ 32)) = fun y => decide (y ≤ 32) := by
    funext y; simp
  rw [this]
theorem byteP_1 {bs : List Int} (p : Nat) : byteP bs (fun y => decide (0 ≤ y ∧ y ≤ 1)) p = byteP bs (fun y => decide (y ≤ 1)) p := by
  have : (fun y : Nat => decide (0 ≤ y ∧ y ≤ 1)) = fun y => decide (y ≤ 1) := by
    funext y; simp
  rw [this]
theorem rvector_rd (h : RrAt n1 b bv bs p 0 s) : RrIs n1 b bv bs s fK (leapfrogref03x_Reader_vector.v (rpt b) s) (vecP bs p) := by
  unfold vecP
  have hq := rbyte_v 0 32 h
  rw [byteP_le] at hq
  cases hb : byteP bs (fun y => decide (y ≤ 32)) p with
  | bad er q =>
    rw [hb] at hq
    obtain ⟨s', nx, k1, k2, k3⟩ := hq
    exact ⟨(0, 0), s', rvec_zero nx, k1, k2, k3⟩
  | ok n q =>
    rw [hb] at hq
    obtain ⟨s1, nx, hy, k1, k2⟩ := hq
    have nx : leapfrogref03x_Reader_byte.v (rpt b) (.int .u8 0) (.int .u8 32) s = some (.int .u8 (n : Int), s1) := nx
    have hn : n ≤ 32 := of_decide_eq_true (byteP_ok hb).1
    simp only []
    have hbn := h.n
    have h1 : RvAt n1 s1.n b bv bs q s1 (.slice none 0 0) [] s1 := ⟨k1, .refl _ _, .inl ⟨rfl, rfl⟩, k1.n, rfl, fun d hd => absurd hd List.not_mem_nil⟩
    have hl := rvloop (v := 0) hn 5 0 (by omega) (by simp) (by omega) (rfl : ofBits [] = 0) h1
    rw [Nat.sub_zero] at hl
    have hz : bx (.agg #[.int .i64 0, .int .u64 0]) = some [.int .i64 0, .int .u64 0] := rfl
    have cv : IntKind.i64.wrap (n : Int) = (n : Int) := wrap64 (by omega) (by omega)
    have zz : ZV = .agg ⟨[.int .i64 0, .int .u64 0]⟩ := rfl
    revert hl
    cases vecL bs 5 n 0 q with
    | ok a q =>
      rintro ⟨w, l, s', g1, g2, g3, g4⟩
      refine ⟨s', ?_, g2.rd, k2.trans g2.st⟩
      have g := g1 (BIG - 6)
      dsimp only at g
      rw [show BIG - 6 + 5 + 1 = BIG from rfl] at g
      have g : iter (leapfrogref03x_Reader_vector.l4 std) BIG [rpt b, .int .i64 (n : Int), .slice none 0 0, .int .i64 0, .agg ⟨[.int .i64 0, .int .u64 0]⟩] s1 = some (0, [w, .agg ⟨[.int .i64 0, .int .u64 0]⟩], s') := g
      have ho := of_r g2.ful.isI g2.bit (by omega)
      rw [g3, g4] at ho
      have ho : leapfrogref01x_Of.r w s' = some (.agg ⟨[.int .i64 (n : Int), .int .u64 (a : Int)]⟩) := ho
      simp only [leapfrogref03x_Reader_vector.v, leapfrogref03x_Reader_vector.t, hz, nx, sy, reduceIte, Nat.reduceAdd, Nat.reduceLeDiff, Nat.reduceLT, Nat.reduceEqDiff, Int.reduceEq, Int.reduceLT, Int.reduceLE, Int.reduceNe, ly, cv, g, ho]
      rfl
    | bad er q =>
      rintro ⟨s', g1, g2, g3, g4⟩
      refine ⟨(0, 0), s', ?_, g2, k2.trans g3, g4⟩
      have g := g1 (BIG - 6)
      dsimp only at g
      rw [show BIG - 6 + 5 + 1 = BIG from rfl] at g
      have g : iter (leapfrogref03x_Reader_vector.l4 std) BIG [rpt b, .int .i64 (n : Int), .slice none 0 0, .int .i64 0, .agg ⟨[.int .i64 0, .int .u64 0]⟩] s1 = some (1, [.agg ⟨[.int .i64 0, .int .u64 0]⟩], s') := g
      simp only [leapfrogref03x_Reader_vector.v, leapfrogref03x_Reader_vector.t, hz, nx, sy, reduceIte, Nat.reduceAdd, Nat.reduceLeDiff, Nat.reduceLT, Nat.reduceEqDiff, Int.reduceEq, Int.reduceLT, Int.reduceLE, Int.reduceNe, ly, cv, g]
      rfl

/-- What the reading of a field answers. -/
def RFIs (n1 b : Nat) (bv : Value) (bs : List Int) (s : St) (r : Option (Value × St)) : RdR FB → Prop
  | .ok a q => ∃ w s', r = some (({ a.1 with b := w } : Fd).v, s') ∧ Ful s.n s' 1 w (br a.2) ∧ RrAt n1 b bv bs q 0 s' ∧ RdS b s s'
  | .bad e q => ∃ f s', r = some (Fd.v f, s') ∧ RrAt n1 b bv bs q e s' ∧ RdS b s s' ∧ e ≠ 0
def RBLIs (n1 b : Nat) (bv : Value) (bs : List Int) (s : St) (z : Value) (fd : Fd) (r : Nat → Option Cut) : RdR (List Int) → Prop
  | .ok a q => ∃ w s', (∀ e, r e = some (0, [z, ({ fd with b := w } : Fd).v], s')) ∧ Ful s.n s' 1 w (br a) ∧ RrAt n1 b bv bs q 0 s' ∧ RdS b s s'
  | .bad er q => ∃ w s', (∀ e, r e = some (0, [z, ({ fd with b := w } : Fd).v], s')) ∧ bx w = some [w] ∧ RrAt n1 b bv bs q er s' ∧ RdS b s s' ∧ er ≠ 0
theorem rbytloop {fd : Fd} {c0 : List Value} {n : Nat} (hn : n ≤ 65536) {s0 : St} (hb0 : b < s0.n) : ∀ (d i : Nat) {l : List Int} {p : Nat} {s : St} {w : Value}, i + d = n → l.length = i → RrAt n1 b bv bs p 0 s → RdS b s0 s → Ful s0.n s 1 w (br l) →
    RBLIs n1 b bv bs s0 (.agg ⟨c0⟩) fd (fun e => iter (leapfrogref03x_Reader_field.l12 std) (e + d + 2) [rpt b, .int .u64 (n : Int), .int .u64 (i : Int), .agg ⟨c0⟩, ({ fd with b := w } : Fd).v] s) (bytesL bs d l p)
  | 0, i, l, p, s, w, hi, hl, h, h0, hw => by
    unfold bytesL
    refine ⟨w, s, fun e => ?_, hw, h, h0⟩
    have k : bin .lss (.int .u64 (i : Int)) (.int .u64 (n : Int)) = some (.bool false) := by rw [bin_lss, decide_eq_false (by omega)]
    dsimp only
    rw [iter_succ]
    unfold leapfrogref03x_Reader_field.l12
    simp only [std_bd, std_cnd, std_gd, List.getD_cons_zero, List.getD_cons_succ, k, gdft, pikf, cndf, bds, cellsA, Fd.v]
  | d + 1, i, l, p, s, w, hi, hl, h, h0, hw => by
    unfold bytesL
    have k : bin .lss (.int .u64 (i : Int)) (.int .u64 (n : Int)) = some (.bool true) := by rw [bin_lss, decide_eq_true (by omega)]
    have nk : nck (rpt b) = some (rpt b) := rfl
    have f2 : fld 2 (rpt b) = some (.pointer (some ⟨b, 0, some 2⟩)) := rfl
    have d2 : ldc s (.pointer (some ⟨b, 0, some 2⟩)) = some (.int .i64 0) := by rw [ldc_row h.row]; rfl
    have eq0 : eqb [1] false false (.int .i64 0) (.int .i64 0) = some (.bool true) := rfl
    have e1 : lcl ({ fd with b := w } : Fd).cs 4 = some w := rfl
    have e6 : bin .add (.int .u64 (i : Int)) (.int .u64 1) = some (.int .u64 ((i + 1 : Nat) : Int)) := by
      rw [bin_add, wrapu64 (by omega) (by omega)]; rfl
    have hq := rbyte_v 0 255 h
    rw [byteP_all h.ok] at hq
    -- a byte is appended, whichever
    have key : ∀ (y : Int) {q : Nat} {er : Int} {s1 : St}, leapfrogref03x_Reader_byte.v (rpt b) (.int .u8 0) (.int .u8 255) s = some (.int .u8 y, s1) → RrAt n1 b bv bs q er s1 → RdS b s s1 →
        ∃ w' s2, RrAt n1 b bv bs q er s2 ∧ RdS b s0 s2 ∧ Ful s0.n s2 1 w' (br (l ++ [y])) ∧ ∀ e, iter (leapfrogref03x_Reader_field.l12 std) (e + 1) [rpt b, .int .u64 (n : Int), .int .u64 (i : Int), .agg ⟨c0⟩, ({ fd with b := w } : Fd).v] s = iter (leapfrogref03x_Reader_field.l12 std) e [rpt b, .int .u64 (n : Int), .int .u64 ((i + 1 : Nat) : Int), .agg ⟨c0⟩, ({ fd with b := w' } : Fd).v] s2 := by
      intro y q er s1 nx k1 k2
      have hw1 : Ful s0.n s1 1 w (br l) := hw.rdS (N := 0) h.fr k2 hb0
      have mo : More ⟨s1.h, s0.n⟩ s1 := ⟨(h0.trans k2).n, fun _ _ => rfl, fun _ => k1.fr⟩
      obtain ⟨w', s2, a1, a2, a3, a4, _⟩ := push (s0 := ⟨s1.h, s0.n⟩) k1.fr hw1 mo (by_ := 1) [.int .u8 y] (by rw [br_length]; omega) (by rw [br_length]; omega)
      have e5 : stl ({ fd with b := w } : Fd).cs 4 1 w' = some ({ fd with b := w' } : Fd).cs := by
        rw [stl_eq, a3.isR.bx]; rfl
      refine ⟨w', s2, k1.app hb0 a2 a4, ⟨a2.n, fun x hx hne => (a2.old x hx).trans ((h0.trans k2).keep x hx hne)⟩, by rw [br_append]; exact a3, fun e => ?_⟩
      rw [iter_succ]
      generalize iter (leapfrogref03x_Reader_field.l12 std) e = R
      unfold leapfrogref03x_Reader_field.l12
      simp only [std_bd, std_cnd, std_gd, List.getD_cons_zero, List.getD_cons_succ, k, gdtt, nk, f2, d2, eq0, pikt, cndt, Fd.v, cellsA, e1, nx, bls1, a1, e5, e6, bds]
    cases hb : byteP bs (fun _ => true) p with
    | bad er q =>
      rw [hb] at hq
      obtain ⟨s1, nx, k1, k2, k3⟩ := hq
      obtain ⟨w', s2, r1, r2, r3, r4⟩ := key 0 nx k1 k2
      refine ⟨w', s2, fun e => ?_, r3.isR.bx, r1, r2, k3⟩
      dsimp only
      rw [show e + (d + 1) + 2 = (e + d + 1) + 1 + 1 by omega, r4, iter_succ]
      have d2 : ldc s2 (.pointer (some ⟨b, 0, some 2⟩)) = some (.int .i64 er) := by rw [ldc_row r1.row]; rfl
      have eq0 : eqb [1] false false (.int .i64 er) (.int .i64 0) = some (.bool false) := by rw [eqb1, decide_eq_false k3]
      generalize iter (leapfrogref03x_Reader_field.l12 std) (e + d + 1) = R
      unfold leapfrogref03x_Reader_field.l12
      by_cases hin : i + 1 < n
      · have k : bin .lss (.int .u64 ((i + 1 : Nat) : Int)) (.int .u64 (n : Int)) = some (.bool true) := by rw [bin_lss, decide_eq_true (by omega)]
        simp only [std_bd, std_cnd, std_gd, List.getD_cons_zero, List.getD_cons_succ, k, gdtt, nk, f2, d2, eq0, pikt, cndf, Fd.v, cellsA, bds]
      · have k : bin .lss (.int .u64 ((i + 1 : Nat) : Int)) (.int .u64 (n : Int)) = some (.bool false) := by rw [bin_lss, decide_eq_false (by omega)]
        simp only [std_bd, std_cnd, std_gd, List.getD_cons_zero, List.getD_cons_succ, k, gdft, pikf, cndf, Fd.v, cellsA, bds]
    | ok y q =>
      rw [hb] at hq
      obtain ⟨s1, nx, hy, k1, k2⟩ := hq
      obtain ⟨w', s2, r1, r2, r3, r4⟩ := key (y : Int) nx k1 k2
      have ih := rbytloop (fd := fd) (c0 := c0) hn hb0 d (i + 1) (by omega) (by simp [hl]) r1 r2 r3
      simp only []
      have step : ∀ e, iter (leapfrogref03x_Reader_field.l12 std) (e + (d + 1) + 2) [rpt b, .int .u64 (n : Int), .int .u64 (i : Int), .agg ⟨c0⟩, ({ fd with b := w } : Fd).v] s = iter (leapfrogref03x_Reader_field.l12 std) (e + d + 2) [rpt b, .int .u64 (n : Int), .int .u64 ((i + 1 : Nat) : Int), .agg ⟨c0⟩, ({ fd with b := w' } : Fd).v] s2 := fun e => by
        rw [show e + (d + 1) + 2 = (e + d + 2) + 1 by omega, r4]
      revert ih
      cases bytesL bs d (l ++ [(y : Int)]) q with
      | ok a q =>
        rintro ⟨w, s', g1, g2⟩
        exact ⟨w, s', fun e => (step e).trans (g1 e), g2⟩
      | bad er q =>
        rintro ⟨w, s', g1, g2⟩
        exact ⟨w, s', fun e => (step e).trans (g1 e), g2⟩
theorem rfield_v (h : RrAt n1 b bv bs p 0 s) (k : Int) : RFIs n1 b bv bs s (leapfrogref03x_Reader_field.v (rpt b) (.int .i64 k) s) (fieldP bs k p) := by
  have nilF : ∀ {s' : St}, Ful s.n s' 1 nilB (br []) := .inl ⟨rfl, rfl⟩
  unfold fieldP
  by_cases h1 : k = 1
  · rw [if_pos h1]
    have hq := rnumber_rd (most := maxU) (.inl rfl) h
    rw [show ((maxU : Nat) : Int) = 18446744073709551615 from rfl] at hq
    revert hq
    cases numP bs maxU p with
    | ok x q =>
      rintro ⟨s', g1, g2, g3⟩
      refine ⟨nilB, s', ?_, nilF, g2, g3⟩
      simp only [leapfrogref03x_Reader_field.v, leapfrogref03x_Reader_field.t, sy, reduceIte, Nat.reduceAdd, Nat.reduceLeDiff, Nat.reduceLT, Nat.reduceEqDiff, Int.reduceEq, Int.reduceLT, Int.reduceLE, Int.reduceNe, ly, h1, g1, fU, Fd.v, Fd.cs, fd0, nilB]
    | bad e q =>
      rintro ⟨s', g1, g2, g3⟩
      refine ⟨{ fd0 k with n := 0 }, s', ?_, g2, g3⟩
      simp only [leapfrogref03x_Reader_field.v, leapfrogref03x_Reader_field.t, sy, reduceIte, Nat.reduceAdd, Nat.reduceLeDiff, Nat.reduceLT, Nat.reduceEqDiff, Int.reduceEq, Int.reduceLT, Int.reduceLE, Int.reduceNe, ly, h1, g1, fU, Fd.v, Fd.cs, fd0, nilB]
      rfl
  rw [if_neg h1]
  by_cases h2 : k = 2
  · rw [if_pos h2]
    have hq := rint_v h
    revert hq
    cases intP bs p with
    | ok x q =>
      rintro ⟨s', g1, g2, g3⟩
      refine ⟨nilB, s', ?_, nilF, g2, g3⟩
      simp only [leapfrogref03x_Reader_field.v, leapfrogref03x_Reader_field.t, sy, reduceIte, Nat.reduceAdd, Nat.reduceLeDiff, Nat.reduceLT, Nat.reduceEqDiff, Int.reduceEq, Int.reduceLT, Int.reduceLE, Int.reduceNe, ly, h2, g1, fI, Fd.v, Fd.cs, fd0, nilB]
    | bad e q =>
      rintro ⟨x, s', g1, g2, g3⟩
      refine ⟨{ fd0 k with i := x }, s', ?_, g2, g3⟩
      simp only [leapfrogref03x_Reader_field.v, leapfrogref03x_Reader_field.t, sy, reduceIte, Nat.reduceAdd, Nat.reduceLeDiff, Nat.reduceLT, Nat.reduceEqDiff, Int.reduceEq, Int.reduceLT, Int.reduceLE, Int.reduceNe, ly, h2, g1, fI, Fd.v, Fd.cs, fd0, nilB]
  rw [if_neg h2]
  by_cases h3 : k = 3
  · rw [if_pos h3]
    have hq := rbyte_v 0 1 h
    rw [byteP_1] at hq
    have eq1 : ∀ y : Nat, ((y : Int) = 1) = (y = 1) := fun y => propext (by omega)
    revert hq
    cases byteP bs (fun y => decide (y ≤ 1)) p with
    | ok y q =>
      rintro ⟨s', nx, hy, g2, g3⟩
      have nx : leapfrogref03x_Reader_byte.v (rpt b) (.int .u8 0) (.int .u8 1) s = some (.int .u8 (y : Int), s') := nx
      refine ⟨nilB, s', ?_, nilF, g2, g3⟩
      simp only [leapfrogref03x_Reader_field.v, leapfrogref03x_Reader_field.t, leapfrogref03x_Reader_field.t.p1, sy, reduceIte, Nat.reduceAdd, Nat.reduceLeDiff, Nat.reduceLT, Nat.reduceEqDiff, Int.reduceEq, Int.reduceLT, Int.reduceLE, Int.reduceNe, ly, h3, nx, eq1, Fd.v, Fd.cs, fd0, nilB]
    | bad e q =>
      rintro ⟨s', nx, g2, g3⟩
      have nx : leapfrogref03x_Reader_byte.v (rpt b) (.int .u8 0) (.int .u8 1) s = some (.int .u8 0, s') := nx
      refine ⟨fd0 k, s', ?_, g2, g3⟩
      simp only [leapfrogref03x_Reader_field.v, leapfrogref03x_Reader_field.t, leapfrogref03x_Reader_field.t.p1, sy, reduceIte, Nat.reduceAdd, Nat.reduceLeDiff, Nat.reduceLT, Nat.reduceEqDiff, Int.reduceEq, Int.reduceLT, Int.reduceLE, Int.reduceNe, ly, h3, nx, eq1, Fd.v, Fd.cs, fd0, nilB]
  rw [if_neg h3]
  by_cases h4 : k = 4
  · rw [if_pos h4]
    have hq := rnumber_rd (most := 65536) (.inr rfl) h
    rw [show ((65536 : Nat) : Int) = 65536 from rfl] at hq
    have hle : ∀ n q, numP bs 65536 p = .ok n q → n ≤ 65536 := fun _ _ h => numP_le h
    revert hq hle
    cases numP bs 65536 p with
    | ok n q =>
      rintro ⟨s1, g1, g2, g3⟩ hle
      have hl := rbytloop (fd := fd0 k) (c0 := (fd0 0).cs) (hle n q rfl) g2.n n 0 (w := nilB) (by omega) (rfl : ([] : List Int).length = 0) g2 (.refl _ _) (.inl ⟨rfl, rfl⟩)
      simp only []
      have := hle n _ rfl
      revert hl
      cases bytesL bs n [] q with
      | ok l q =>
        rintro ⟨w, s', i1, i2, i3, i4⟩
        refine ⟨w, s', ?_, i2.le g3.n, i3, g3.trans i4⟩
        have i := i1 (BIG - n - 2)
        dsimp only at i
        rw [show BIG - n - 2 + n + 2 = BIG by unfold BIG; omega] at i
        have i : iter (leapfrogref03x_Reader_field.l12 std) BIG [rpt b, .int .u64 (n : Int), .int .u64 0, .agg ⟨(fd0 0).cs⟩, (fd0 k).v] s1 = _ := i
        simp only [Fd.v, Fd.cs, fd0, nilB, h4] at i
        simp only [leapfrogref03x_Reader_field.v, leapfrogref03x_Reader_field.t, leapfrogref03x_Reader_field.t.p1, sy, reduceIte, Nat.reduceAdd, Nat.reduceLeDiff, Nat.reduceLT, Nat.reduceEqDiff, Int.reduceEq, Int.reduceLT, Int.reduceLE, Int.reduceNe, ly, h4, g1, fU, i, Fd.v, Fd.cs, fd0, nilB]
      | bad e q =>
        rintro ⟨w, s', i1, i2, i3, i4, i5⟩
        refine ⟨{ fd0 k with b := w }, s', ?_, i3, g3.trans i4, i5⟩
        have i := i1 (BIG - n - 2)
        dsimp only at i
        rw [show BIG - n - 2 + n + 2 = BIG by unfold BIG; omega] at i
        have i : iter (leapfrogref03x_Reader_field.l12 std) BIG [rpt b, .int .u64 (n : Int), .int .u64 0, .agg ⟨(fd0 0).cs⟩, (fd0 k).v] s1 = _ := i
        simp only [Fd.v, Fd.cs, fd0, nilB, h4] at i
        simp only [leapfrogref03x_Reader_field.v, leapfrogref03x_Reader_field.t, leapfrogref03x_Reader_field.t.p1, sy, reduceIte, Nat.reduceAdd, Nat.reduceLeDiff, Nat.reduceLT, Nat.reduceEqDiff, Int.reduceEq, Int.reduceLT, Int.reduceLE, Int.reduceNe, ly, h4, g1, fU, i, Fd.v, Fd.cs, fd0, nilB]
    | bad e q =>
      rintro ⟨s', g1, g2, g3, g4⟩ _
      have i : iter (leapfrogref03x_Reader_field.l12 std) BIG [rpt b, .int .u64 0, .int .u64 0, .agg ⟨(fd0 0).cs⟩, (fd0 k).v] s' = some (0, [.agg ⟨(fd0 0).cs⟩, (fd0 k).v], s') := by
        rw [show BIG = 4611686018427387903 + 1 from rfl, iter_succ]
        simp only [leapfrogref03x_Reader_field.l12, sy, reduceIte, Nat.reduceAdd, Nat.reduceLeDiff, Nat.reduceLT, Nat.reduceEqDiff, Int.reduceEq, Int.reduceLT, Int.reduceLE, Int.reduceNe, ly, Int.lt_irrefl, Fd.v]
      simp only [Fd.v, Fd.cs, fd0, nilB, h4] at i
      refine ⟨fd0 k, s', ?_, g2, g3, g4⟩
      simp only [leapfrogref03x_Reader_field.v, leapfrogref03x_Reader_field.t, leapfrogref03x_Reader_field.t.p1, sy, reduceIte, Nat.reduceAdd, Nat.reduceLeDiff, Nat.reduceLT, Nat.reduceEqDiff, Int.reduceEq, Int.reduceLT, Int.reduceLE, Int.reduceNe, ly, h4, g1, fU, Int.natCast_zero, i, Fd.v, Fd.cs, fd0, nilB]
  rw [if_neg h4]
  by_cases h5 : k = 5
  · rw [if_pos h5]
    have hq := rvector_rd h
    revert hq
    cases vecP bs p with
    | ok x q =>
      rintro ⟨s', g1, g2, g3⟩
      refine ⟨nilB, s', ?_, nilF, g2, g3⟩
      simp only [leapfrogref03x_Reader_field.v, leapfrogref03x_Reader_field.t, leapfrogref03x_Reader_field.t.p1, sy, reduceIte, Nat.reduceAdd, Nat.reduceLeDiff, Nat.reduceLT, Nat.reduceEqDiff, Int.reduceEq, Int.reduceLT, Int.reduceLE, Int.reduceNe, ly, h5, g1, fK, Fd.v, Fd.cs, fd0, nilB]
    | bad e q =>
      rintro ⟨x, s', g1, g2, g3⟩
      refine ⟨{ fd0 k with vl := x.1, vb := x.2 }, s', ?_, g2, g3⟩
      simp only [leapfrogref03x_Reader_field.v, leapfrogref03x_Reader_field.t, leapfrogref03x_Reader_field.t.p1, sy, reduceIte, Nat.reduceAdd, Nat.reduceLeDiff, Nat.reduceLT, Nat.reduceEqDiff, Int.reduceEq, Int.reduceLT, Int.reduceLE, Int.reduceNe, ly, h5, g1, fK, Fd.v, Fd.cs, fd0, nilB]
  rw [if_neg h5]
  by_cases h6 : k = 6
  · rw [if_pos h6]
    have hq := rkey_rd h
    revert hq
    cases keyP bs p with
    | ok x q =>
      rintro ⟨s', g1, g2, g3⟩
      refine ⟨nilB, s', ?_, nilF, g2, g3⟩
      simp only [leapfrogref03x_Reader_field.v, leapfrogref03x_Reader_field.t, leapfrogref03x_Reader_field.t.p1, sy, reduceIte, Nat.reduceAdd, Nat.reduceLeDiff, Nat.reduceLT, Nat.reduceEqDiff, Int.reduceEq, Int.reduceLT, Int.reduceLE, Int.reduceNe, ly, h6, g1, fK, Fd.v, Fd.cs, fd0, nilB]
    | bad e q =>
      rintro ⟨x, s', g1, g2, g3⟩
      refine ⟨{ fd0 k with kr := x.1, kn := x.2 }, s', ?_, g2, g3⟩
      simp only [leapfrogref03x_Reader_field.v, leapfrogref03x_Reader_field.t, leapfrogref03x_Reader_field.t.p1, sy, reduceIte, Nat.reduceAdd, Nat.reduceLeDiff, Nat.reduceLT, Nat.reduceEqDiff, Int.reduceEq, Int.reduceLT, Int.reduceLE, Int.reduceNe, ly, h6, g1, fK, Fd.v, Fd.cs, fd0, nilB]
  rw [if_neg h6]
  by_cases h7 : k = 7
  · rw [if_pos h7]
    have hq := rint_v h
    revert hq
    cases intP bs p with
    | ok i q =>
      rintro ⟨s1, g1, g2, g3⟩
      simp only []
      have hq2 := rkey_rd g2
      revert hq2
      cases keyP bs q with
      | ok u q =>
        rintro ⟨s2, i1, i2, i3⟩
        simp only []
        have hq3 := rvector_rd i2
        revert hq3
        cases vecP bs q with
        | ok v q =>
          rintro ⟨s3, j1, j2, j3⟩
          refine ⟨nilB, s3, ?_, nilF, j2, (g3.trans i3).trans j3⟩
          simp only [leapfrogref03x_Reader_field.v, leapfrogref03x_Reader_field.t, leapfrogref03x_Reader_field.t.p1, sy, reduceIte, Nat.reduceAdd, Nat.reduceLeDiff, Nat.reduceLT, Nat.reduceEqDiff, Int.reduceEq, Int.reduceLT, Int.reduceLE, Int.reduceNe, ly, h7, g1, i1, j1, fI, fK, Fd.v, Fd.cs, fd0, nilB]
        | bad e q =>
          rintro ⟨v, s3, j1, j2, j3, j4⟩
          refine ⟨{ fd0 k with id := i, rr := u.1, rn := u.2, rl := v.1, rb := v.2 }, s3, ?_, j2, (g3.trans i3).trans j3, j4⟩
          simp only [leapfrogref03x_Reader_field.v, leapfrogref03x_Reader_field.t, leapfrogref03x_Reader_field.t.p1, sy, reduceIte, Nat.reduceAdd, Nat.reduceLeDiff, Nat.reduceLT, Nat.reduceEqDiff, Int.reduceEq, Int.reduceLT, Int.reduceLE, Int.reduceNe, ly, h7, g1, i1, j1, fI, fK, Fd.v, Fd.cs, fd0, nilB]
      | bad e q =>
        rintro ⟨u, s2, i1, i2, i3, i4⟩
        have j1 := rvector_e i4 i2
        refine ⟨{ fd0 k with id := i, rr := u.1, rn := u.2, rl := ((0 : Nat) : Int), rb := ((0 : Nat) : Int) }, s2, ?_, i2, g3.trans i3, i4⟩
        simp only [leapfrogref03x_Reader_field.v, leapfrogref03x_Reader_field.t, leapfrogref03x_Reader_field.t.p1, sy, reduceIte, Nat.reduceAdd, Nat.reduceLeDiff, Nat.reduceLT, Nat.reduceEqDiff, Int.reduceEq, Int.reduceLT, Int.reduceLE, Int.reduceNe, ly, h7, g1, i1, j1, fI, fK, Fd.v, Fd.cs, fd0, nilB]
    | bad e q =>
      rintro ⟨i, s1, g1, g2, g3, g4⟩
      have i1 := rkey_e g4 g2
      have j1 := rvector_e g4 g2
      refine ⟨{ fd0 k with id := i, rr := ((0 : Nat) : Int), rn := ((0 : Nat) : Int), rl := ((0 : Nat) : Int), rb := ((0 : Nat) : Int) }, s1, ?_, g2, g3, g4⟩
      simp only [leapfrogref03x_Reader_field.v, leapfrogref03x_Reader_field.t, leapfrogref03x_Reader_field.t.p1, sy, reduceIte, Nat.reduceAdd, Nat.reduceLeDiff, Nat.reduceLT, Nat.reduceEqDiff, Int.reduceEq, Int.reduceLT, Int.reduceLE, Int.reduceNe, ly, h7, g1, i1, j1, fI, fK, Fd.v, Fd.cs, fd0, nilB]
  rw [if_neg h7]
  refine ⟨nilB, s, ?_, nilF, h, .refl _ _⟩
  simp only [leapfrogref03x_Reader_field.v, leapfrogref03x_Reader_field.t, leapfrogref03x_Reader_field.t.p1, sy, reduceIte, Nat.reduceAdd, Nat.reduceLeDiff, Nat.reduceLT, Nat.reduceEqDiff, Int.reduceEq, Int.reduceLT, Int.reduceLE, Int.reduceNe, ly, h1, h2, h3, h4, h5, h6, h7, Fd.v, Fd.cs, fd0, nilB]
end
end Go.Proofs.Ytmbfnpadhlfepaa
