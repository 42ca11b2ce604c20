/-
  The program's reader: a field.
-/
import Derived.Test.YtmbfnpadhlfepaaPakP
set_option linter.unusedSimpArgs false
set_option linter.unusedVariables false
set_option maxRecDepth 100000
set_option maxHeartbeats 4000000
namespace Go.Proofs.Ytmbfnpadhlfepaa
open Go.Sim Go.Sim.Bt
attribute [local congr] bdc cndc itec gdc gdSc gdUc

def fd0 (k : Int) : Fd := ⟨k, 0, 0, false, nilB, 0, 0, 0, 0, 0, 0, 0, 0, 0⟩
def bytesL (bs : List Int) : Nat → List Int → Nat → RdR (List Int)
  | 0, l, p => .ok l p
  | n + 1, l, p => match byteP bs (fun _ => true) p with
    | .bad e q => .bad e q
    | .ok y q => bytesL bs n (l ++ [(y : Int)]) q
def fieldP (bs : List Int) (k : Int) (p : Nat) : RdR FB :=
  if k = 1 then (match numP bs maxU p with | .bad e q => .bad e q | .ok x q => .ok ({ fd0 k with n := x }, []) q)
  else if k = 2 then (match intP bs p with | .bad e q => .bad e q | .ok x q => .ok ({ fd0 k with i := x }, []) q)
  else if k = 3 then (match byteP bs (fun y => decide (y ≤ 1)) p with | .bad e q => .bad e q | .ok y q => .ok ({ fd0 k with t := decide (y = 1) }, []) q)
  else if k = 4 then (match numP bs 65536 p with | .bad e q => .bad e q | .ok n q => (match bytesL bs n [] q with | .bad e q => .bad e q | .ok l q => .ok (fd0 k, l) q))
  else if k = 5 then (match vecP bs p with | .bad e q => .bad e q | .ok v q => .ok ({ fd0 k with vl := v.1, vb := v.2 }, []) q)
  else if k = 6 then (match keyP bs p with | .bad e q => .bad e q | .ok v q => .ok ({ fd0 k with kr := v.1, kn := v.2 }, []) q)
  else if k = 7 then (match intP bs p with
    | .bad e q => .bad e q
    | .ok i q => (match keyP bs q with
      | .bad e q => .bad e q
      | .ok u q => (match vecP bs q with
        | .bad e q => .bad e q
        | .ok v q => .ok ({ fd0 k with id := i, rr := u.1, rn := u.2, rl := v.1, rb := v.2 }, []) q)))
  else .ok (fd0 k, []) p
/-- What the reading of a field answers. -/
def FdIs (n1 b : Nat) (bv : Value) (bs : List Int) (s : St) (r : Option (Bool × Value × St)) : RdR FB → Prop
  | .ok a q => ∃ w s', r = some (true, ({ a.1 with b := w } : Fd).v, s') ∧ Ful s.n s' 1 w (br a.2) ∧ RdAt n1 b bv bs q s' ∧ RdS b s s'
  | .bad e q => ∃ s', r = some (false, pv e, s') ∧ RdAt n1 b bv bs q s' ∧ RdS b s s'

theorem numL_le {bs : List Int} {most : Nat} (hm : most ≤ 65536) : ∀ {d i x p a q : Nat}, numL bs most d i x p = .ok a q → a ≤ most
  | 0, i, x, p, a, q, h => by simp [numL] at h
  | d + 1, i, x, p, a, q, h => by
    unfold numL at h
    split at h
    · cases h
    · rename_i y q' hy
      obtain ⟨hc, _⟩ := byteP_ok hy
      have hc := (of_decide_eq_true hc).2.2
      split at h
      · cases h
        rcases hc with e | e
        · unfold maxU at e; omega
        · exact Nat.le_trans (Nat.le_add_right _ _) e
      · exact numL_le hm h
theorem numP_le {bs : List Int} {p n q : Nat} (h : numP bs 65536 p = .ok n q) : n ≤ 65536 := numL_le (Nat.le_refl _) h
section
variable {n1 b p : Nat} {bv : Value} {bs : List Int} {s : St}
def BLIs (n1 b : Nat) (bv : Value) (bs : List Int) (s : St) (z : Value) (fd : Fd) (r : Nat → Option Cut) : RdR (List Int) → Prop
  | .ok a q => ∃ w s', (∀ e, r e = some (0, [z, ({ fd with b := w } : Fd).v], s')) ∧ Ful s.n s' 1 w (br a) ∧ RdAt n1 b bv bs q s' ∧ RdS b s s'
  | .bad er q => ∃ s', (∀ e, r e = some (1, [pv er], s')) ∧ RdAt n1 b bv bs q s' ∧ RdS b s s'
theorem RdAt.app {n0 : Nat} (h : RdAt n1 b bv bs p s) (hb : b < n0) {s' : St} (m : More ⟨s.h, n0⟩ s') (f : Fresh s') : RdAt n1 b bv bs p s' :=
  ⟨f, (m.old b hb).trans h.row, h.byt.to fun x hx => m.old x (by have := h.lt; simp only; omega), h.lt, h.le, h.sz, h.ok⟩
theorem bytloop_q {fd : Fd} {c0 : List Value} {n : Nat} (hn : n ≤ 65536) {s0 : St} (hb0 : b < s0.n) : ∀ (d i : Nat) {l : List Int} {p : Nat} {s : St} {w : Value}, i + d = n → l.length = i → RdAt n1 b bv bs p s → RdS b s0 s → Ful s0.n s 1 w (br l) →
    BLIs n1 b bv bs s0 (.agg ⟨c0⟩) fd (fun e => iter (pack_reader_field.l12 std) (e + d + 1) [rpt b, .int .u64 (n : Int), .int .u64 (i : Int), .agg ⟨c0⟩, ({ fd with b := w } : Fd).v] s) (bytesL bs d l p)
  | 0, i, l, p, s, w, hi, hl, h, h0, hw => by
    unfold bytesL
    refine ⟨w, s, fun e => ?_, hw, h, h0⟩
    have k : bin .lss (.int .u64 (i : Int)) (.int .u64 (n : Int)) = some (.bool false) := by rw [bin_lss, decide_eq_false (by omega)]
    dsimp only
    rw [iter_succ]
    unfold pack_reader_field.l12
    simp only [std_bd, std_cnd, List.getD_cons_zero, List.getD_cons_succ, k, bds, cnd, cellsA, Fd.v]
  | d + 1, i, l, p, s, w, hi, hl, h, h0, hw => by
    unfold bytesL
    have k : bin .lss (.int .u64 (i : Int)) (.int .u64 (n : Int)) = some (.bool true) := by rw [bin_lss, decide_eq_true (by omega)]
    have nk : nck (rpt b) = some (rpt b) := rfl
    have fl : fld 0 (rpt b) = some (rpt b) := rfl
    have e1 : lcl ({ fd with b := w } : Fd).cs 4 = some w := rfl
    have hq := any_q h
    cases hb : byteP bs (fun _ => true) p with
    | bad er q =>
      rw [hb] at hq
      obtain ⟨s', k1, k2, nx⟩ := hq
      refine ⟨s', fun e => ?_, k1, h0.trans k2⟩
      dsimp only
      rw [show e + (d + 1) + 1 = (e + d + 1) + 1 by omega, iter_succ]
      unfold pack_reader_field.l12
      simp only [std_bd, std_cnd, List.getD_cons_zero, List.getD_cons_succ, k, Fd.v, cellsA, e1, nk, fl, nx, bds, cnd]
    | ok y q =>
      rw [hb] at hq
      obtain ⟨s1, hy, k1, k2, nx⟩ := hq
      have hw1 : Ful s0.n s1 1 w (br l) := by
        rcases hw with ⟨e1, e2⟩ | ⟨c, e, g0, g1, g2, g3⟩
        · exact .inl ⟨e1, e2⟩
        · exact .inr ⟨c, e, g0, g1, (k2.keep c (h.fr.lt g2) (by omega)).trans g2, g3⟩
      have mo : More ⟨s1.h, s0.n⟩ s1 := ⟨(h0.trans k2).n, fun _ _ => rfl, fun _ => k1.fr⟩
      obtain ⟨w', s2, a1, a2, a3, a4, _⟩ := push (s0 := ⟨s1.h, s0.n⟩) k1.fr hw1 mo (by_ := 1) [.int .u8 (y : Int)] (by rw [br_length]; omega) (by rw [br_length]; omega)
      have r2 := k1.app hb0 a2 a4
      have s02 : RdS b s0 s2 := ⟨a2.n, fun x hx hne => (a2.old x hx).trans ((h0.trans k2).keep x hx hne)⟩
      have a3' : Ful s0.n s2 1 w' (br (l ++ [(y : Int)])) := by rw [br_append]; exact a3
      have e5 : stl ({ fd with b := w } : Fd).cs 4 1 w' = some ({ fd with b := w' } : Fd).cs := by
        rw [stl_eq, a3.isR.bx]; rfl
      have e6 : bin .add (.int .u64 (i : Int)) (.int .u64 1) = some (.int .u64 ((i + 1 : Nat) : Int)) := by
        rw [bin_add, wrapu64 (by omega) (by omega)]; rfl
      have ih := bytloop_q (fd := fd) (c0 := c0) hn hb0 d (i + 1) (by omega) (by simp [hl]) r2 s02 a3'
      simp only []
      have step : ∀ e, iter (pack_reader_field.l12 std) (e + (d + 1) + 1) [rpt b, .int .u64 (n : Int), .int .u64 (i : Int), .agg ⟨c0⟩, ({ fd with b := w } : Fd).v] s = iter (pack_reader_field.l12 std) (e + d + 1) [rpt b, .int .u64 (n : Int), .int .u64 ((i + 1 : Nat) : Int), .agg ⟨c0⟩, ({ fd with b := w' } : Fd).v] s2 := fun e => by
        rw [show e + (d + 1) + 1 = (e + d + 1) + 1 by omega, iter_succ]
        generalize iter (pack_reader_field.l12 std) (e + d + 1) = R
        unfold pack_reader_field.l12
        simp only [std_bd, std_cnd, List.getD_cons_zero, List.getD_cons_succ, k, Fd.v, cellsA, e1, nk, fl, nx, bls1, a1, e5, e6, bds, cnd]
      revert ih
      cases bytesL bs d (l ++ [(y : Int)]) q with
      | ok a q =>
        rintro ⟨w, s', g1, g2, g3, g4⟩
        exact ⟨w, s', fun e => (step e).trans (g1 e), g2, g3, g4⟩
      | bad er q =>
        rintro ⟨s', g1, g2, g3⟩
        exact ⟨s', fun e => (step e).trans (g1 e), g2, g3⟩
theorem field_q (h : RdAt n1 b bv bs p s) (k : Int) : FdIs n1 b bv bs s (pack_reader_field.q (rpt b) (.int .i64 k) s) (fieldP bs k p) := by
  have nilF : ∀ {s' : St}, Ful s.n s' 1 nilB (br []) := .inl ⟨rfl, rfl⟩
  have nk : nck (rpt b) = some (rpt b) := rfl
  have fl : fld 0 (rpt b) = some (rpt b) := rfl
  unfold fieldP
  by_cases h1 : k = 1
  · rw [if_pos h1]
    have hq := number_q (most := maxU) (.inl rfl) h
    rw [show ((maxU : Nat) : Int) = 18446744073709551615 from rfl] at hq
    revert hq
    cases numP bs maxU p with
    | ok x q =>
      rintro ⟨s', g1, g2, g3⟩
      refine ⟨nilB, s', ?_, nilF, g2, g3⟩
      simp only [pack_reader_field.q, pack_reader_field.t, sy, reduceIte, Nat.reduceAdd, Nat.reduceLeDiff, Nat.reduceLT, Nat.reduceEqDiff, Int.reduceEq, Int.reduceLT, Int.reduceLE, Int.reduceNe, ly, h1, g1, Fd.v, Fd.cs, fd0, nilB]
    | bad e q =>
      rintro ⟨s', g1, g2, g3⟩
      refine ⟨s', ?_, g2, g3⟩
      simp only [pack_reader_field.q, pack_reader_field.t, sy, reduceIte, Nat.reduceAdd, Nat.reduceLeDiff, Nat.reduceLT, Nat.reduceEqDiff, Int.reduceEq, Int.reduceLT, Int.reduceLE, Int.reduceNe, ly, h1, g1]
  rw [if_neg h1]
  by_cases h2 : k = 2
  · rw [if_pos h2]
    have hq := int_q h
    revert hq
    cases intP bs p with
    | ok x q =>
      rintro ⟨s', g1, g2, g3⟩
      refine ⟨nilB, s', ?_, nilF, g2, g3⟩
      simp only [pack_reader_field.q, pack_reader_field.t, sy, reduceIte, Nat.reduceAdd, Nat.reduceLeDiff, Nat.reduceLT, Nat.reduceEqDiff, Int.reduceEq, Int.reduceLT, Int.reduceLE, Int.reduceNe, ly, h2, g1, Fd.v, Fd.cs, fd0, nilB]
    | bad e q =>
      rintro ⟨s', g1, g2, g3⟩
      refine ⟨s', ?_, g2, g3⟩
      simp only [pack_reader_field.q, pack_reader_field.t, sy, reduceIte, Nat.reduceAdd, Nat.reduceLeDiff, Nat.reduceLT, Nat.reduceEqDiff, Int.reduceEq, Int.reduceLT, Int.reduceLE, Int.reduceNe, ly, h2, g1]
  rw [if_neg h2]
  by_cases h3 : k = 3
  · rw [if_pos h3]
    have hq := byte_q (fun y => decide (y ≤ 1)) h
    have le1 : ∀ y : Nat, ((y : Int) ≤ 1) = (y ≤ 1) := fun y => propext (by omega)
    have eq1 : ∀ y : Nat, ((y : Int) = 1) = (y = 1) := fun y => propext (by omega)
    revert hq
    cases byteP bs (fun y => decide (y ≤ 1)) p with
    | ok y q =>
      rintro ⟨s', hy, hc, g2, g3, pk, nx⟩
      have c : (y ≤ 1) = True := eq_true (of_decide_eq_true hc)
      refine ⟨nilB, s', ?_, nilF, g2, g3⟩
      simp only [pack_reader_field.q, pack_reader_field.t, sy, reduceIte, Nat.reduceAdd, Nat.reduceLeDiff, Nat.reduceLT, Nat.reduceEqDiff, Int.reduceEq, Int.reduceLT, Int.reduceLE, Int.reduceNe, ly, h3, nk, fl, pk, le1, c, nx, eq1, Fd.v, Fd.cs, fd0, nilB]
    | bad e q =>
      rintro ⟨s', g2, g3, ⟨pk, rfl⟩ | ⟨y, hy, hc, pk, he, nx⟩⟩
      · refine ⟨s', ?_, g2, g3⟩
        simp only [pack_reader_field.q, pack_reader_field.t, sy, reduceIte, Nat.reduceAdd, Nat.reduceLeDiff, Nat.reduceLT, Nat.reduceEqDiff, Int.reduceEq, Int.reduceLT, Int.reduceLE, Int.reduceNe, ly, h3, nk, fl, pk]
      · have c : (y ≤ 1) = False := eq_false (of_decide_eq_false hc)
        refine ⟨s', ?_, g2, g3⟩
        simp only [pack_reader_field.q, pack_reader_field.t, sy, reduceIte, Nat.reduceAdd, Nat.reduceLeDiff, Nat.reduceLT, Nat.reduceEqDiff, Int.reduceEq, Int.reduceLT, Int.reduceLE, Int.reduceNe, ly, h3, nk, fl, pk, le1, c, nx]
  rw [if_neg h3]
  by_cases h4 : k = 4
  · rw [if_pos h4]
    have hq := number_q (most := 65536) (.inr (Nat.le_refl _)) h
    rw [show ((65536 : Nat) : Int) = 65536 from rfl] at hq
    have hle : ∀ n q, numP bs 65536 p = .ok n q → n ≤ 65536 := fun _ _ h => numP_le h
    revert hq hle
    cases numP bs 65536 p with
    | ok n q =>
      rintro ⟨s1, g1, g2, g3⟩ hle
      have hl := bytloop_q (fd := fd0 k) (c0 := (fd0 0).cs) (hle n q rfl) g2.n n 0 (w := nilB) (by omega) (rfl : ([] : List Int).length = 0) g2 (.refl _ _) (.inl ⟨rfl, rfl⟩)
      simp only []
      revert hl
      cases bytesL bs n [] q with
      | ok l q =>
        rintro ⟨w, s', i1, i2, i3, i4⟩
        refine ⟨w, s', ?_, i2.le g3.n, i3, g3.trans i4⟩
        have i := i1 (BIG - n - 1)
        dsimp only at i
        have := hle n _ rfl
        rw [show BIG - n - 1 + n + 1 = BIG by unfold BIG; omega] at i
        have i : iter (pack_reader_field.l12 std) BIG [rpt b, .int .u64 (n : Int), .int .u64 0, .agg ⟨(fd0 0).cs⟩, (fd0 k).v] s1 = _ := i
        have hbx := i2.isR.bx
        simp only [Fd.v, Fd.cs, fd0, nilB, h4] at i
        simp only [pack_reader_field.q, pack_reader_field.t, pack_reader_field.t.p1, sy, reduceIte, Nat.reduceAdd, Nat.reduceLeDiff, Nat.reduceLT, Nat.reduceEqDiff, Int.reduceEq, Int.reduceLT, Int.reduceLE, Int.reduceNe, ly, h1, h2, h3, h4, g1, i, Fd.v, Fd.cs, fd0, nilB]
      | bad e q =>
        rintro ⟨s', i1, i3, i4⟩
        refine ⟨s', ?_, i3, g3.trans i4⟩
        have i := i1 (BIG - n - 1)
        dsimp only at i
        have := hle n _ rfl
        rw [show BIG - n - 1 + n + 1 = BIG by unfold BIG; omega] at i
        have i : iter (pack_reader_field.l12 std) BIG [rpt b, .int .u64 (n : Int), .int .u64 0, .agg ⟨(fd0 0).cs⟩, (fd0 k).v] s1 = _ := i
        simp only [Fd.v, Fd.cs, fd0, nilB, h4] at i
        simp only [pack_reader_field.q, pack_reader_field.t, pack_reader_field.t.p1, sy, reduceIte, Nat.reduceAdd, Nat.reduceLeDiff, Nat.reduceLT, Nat.reduceEqDiff, Int.reduceEq, Int.reduceLT, Int.reduceLE, Int.reduceNe, ly, h1, h2, h3, h4, g1, i]
    | bad e q =>
      rintro ⟨s', g1, g2, g3⟩ _
      refine ⟨s', ?_, g2, g3⟩
      simp only [pack_reader_field.q, pack_reader_field.t, pack_reader_field.t.p1, sy, reduceIte, Nat.reduceAdd, Nat.reduceLeDiff, Nat.reduceLT, Nat.reduceEqDiff, Int.reduceEq, Int.reduceLT, Int.reduceLE, Int.reduceNe, ly, h4, g1]
  rw [if_neg h4]
  by_cases h5 : k = 5
  · rw [if_pos h5]
    have hq := vector_q h
    revert hq
    cases vecP bs p with
    | ok x q =>
      rintro ⟨s', g1, g2, g3⟩
      refine ⟨nilB, s', ?_, nilF, g2, g3⟩
      simp only [pack_reader_field.q, pack_reader_field.t, pack_reader_field.t.p1, sy, reduceIte, Nat.reduceAdd, Nat.reduceLeDiff, Nat.reduceLT, Nat.reduceEqDiff, Int.reduceEq, Int.reduceLT, Int.reduceLE, Int.reduceNe, ly, h5, g1, Fd.v, Fd.cs, fd0, nilB]
    | bad e q =>
      rintro ⟨s', g1, g2, g3⟩
      refine ⟨s', ?_, g2, g3⟩
      simp only [pack_reader_field.q, pack_reader_field.t, pack_reader_field.t.p1, sy, reduceIte, Nat.reduceAdd, Nat.reduceLeDiff, Nat.reduceLT, Nat.reduceEqDiff, Int.reduceEq, Int.reduceLT, Int.reduceLE, Int.reduceNe, ly, h5, g1]
  rw [if_neg h5]
  by_cases h6 : k = 6
  · rw [if_pos h6]
    have hq := key_q h
    revert hq
    cases keyP bs p with
    | ok x q =>
      rintro ⟨s', g1, g2, g3⟩
      refine ⟨nilB, s', ?_, nilF, g2, g3⟩
      simp only [pack_reader_field.q, pack_reader_field.t, pack_reader_field.t.p1, sy, reduceIte, Nat.reduceAdd, Nat.reduceLeDiff, Nat.reduceLT, Nat.reduceEqDiff, Int.reduceEq, Int.reduceLT, Int.reduceLE, Int.reduceNe, ly, h6, g1, Fd.v, Fd.cs, fd0, nilB]
    | bad e q =>
      rintro ⟨s', g1, g2, g3⟩
      refine ⟨s', ?_, g2, g3⟩
      simp only [pack_reader_field.q, pack_reader_field.t, pack_reader_field.t.p1, sy, reduceIte, Nat.reduceAdd, Nat.reduceLeDiff, Nat.reduceLT, Nat.reduceEqDiff, Int.reduceEq, Int.reduceLT, Int.reduceLE, Int.reduceNe, ly, h6, g1]
  rw [if_neg h6]
  by_cases h7 : k = 7
  · rw [if_pos h7]
    have hq := int_q h
    revert hq
    cases intP bs p with
    | ok i q =>
      rintro ⟨s1, g1, g2, g3⟩
      simp only []
      have hq2 := key_q g2
      revert hq2
      cases keyP bs q with
      | ok u q =>
        rintro ⟨s2, i1, i2, i3⟩
        simp only []
        have hq3 := vector_q i2
        revert hq3
        cases vecP bs q with
        | ok v q =>
          rintro ⟨s3, j1, j2, j3⟩
          refine ⟨nilB, s3, ?_, nilF, j2, (g3.trans i3).trans j3⟩
          simp only [pack_reader_field.q, pack_reader_field.t, pack_reader_field.t.p1, sy, reduceIte, Nat.reduceAdd, Nat.reduceLeDiff, Nat.reduceLT, Nat.reduceEqDiff, Int.reduceEq, Int.reduceLT, Int.reduceLE, Int.reduceNe, ly, h7, g1, i1, j1, Fd.v, Fd.cs, fd0, nilB]
        | bad e q =>
          rintro ⟨s3, j1, j2, j3⟩
          refine ⟨s3, ?_, j2, (g3.trans i3).trans j3⟩
          simp only [pack_reader_field.q, pack_reader_field.t, pack_reader_field.t.p1, sy, reduceIte, Nat.reduceAdd, Nat.reduceLeDiff, Nat.reduceLT, Nat.reduceEqDiff, Int.reduceEq, Int.reduceLT, Int.reduceLE, Int.reduceNe, ly, h7, g1, i1, j1]
      | bad e q =>
        rintro ⟨s2, i1, i2, i3⟩
        refine ⟨s2, ?_, i2, g3.trans i3⟩
        simp only [pack_reader_field.q, pack_reader_field.t, pack_reader_field.t.p1, sy, reduceIte, Nat.reduceAdd, Nat.reduceLeDiff, Nat.reduceLT, Nat.reduceEqDiff, Int.reduceEq, Int.reduceLT, Int.reduceLE, Int.reduceNe, ly, h7, g1, i1]
    | bad e q =>
      rintro ⟨s1, g1, g2, g3⟩
      refine ⟨s1, ?_, g2, g3⟩
      simp only [pack_reader_field.q, pack_reader_field.t, pack_reader_field.t.p1, sy, reduceIte, Nat.reduceAdd, Nat.reduceLeDiff, Nat.reduceLT, Nat.reduceEqDiff, Int.reduceEq, Int.reduceLT, Int.reduceLE, Int.reduceNe, ly, h7, g1]
  rw [if_neg h7]
  refine ⟨nilB, s, ?_, nilF, h, .refl _ _⟩
  simp only [pack_reader_field.q, pack_reader_field.t, pack_reader_field.t.p1, sy, reduceIte, Nat.reduceAdd, Nat.reduceLeDiff, Nat.reduceLT, Nat.reduceEqDiff, Int.reduceEq, Int.reduceLT, Int.reduceLE, Int.reduceNe, ly, h1, h2, h3, h4, h5, h6, h7, Fd.v, Fd.cs, fd0, nilB]
end
end Go.Proofs.Ytmbfnpadhlfepaa
