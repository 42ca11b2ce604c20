/-
  Law 13's list is asked.
-/
import Derived.Test.YteiagjbjokldgaaPesJ
set_option linter.unusedSimpArgs false
set_option linter.unusedVariables false
set_option maxRecDepth 100000
set_option maxHeartbeats 4000000
namespace Go.Proofs.Yteiagjbjokldgaa
open Go.Sim Go.Sim.Bt
attribute [local congr] bdc cndc itec gdc gdSc gdUc

/-- The peer at a place. -/
theorem Lst.at {wl wb : Int} {R A : List Rf} {rv pv : Value} {Xb : Nat} {ps : List (Pr × Nat)} {g : Nat → Option Rc} {s : St} {j : Nat} {t : Rf} (L : Lst wl wb R A rv pv Xb ps g s) (ht : A[j]? = some t) :
    ∃ p b, ps[j]? = some (p, b) ∧ p.me = t ∧ p.ma = false ∧ AtP p s b ∧ Sn wl wb p (g j) ∧ idx s 1 pv (.int .i64 (j : Int)) = some (.pointer (some ⟨blkOf pv, j, some 0⟩)) ∧ ldc s (.pointer (some ⟨blkOf pv, j, some 0⟩)) = some (PP b) ∧ ldc s (PP b) = some (.int .i64 t.id) := by
  have hl : j < A.length := (List.getElem?_eq_some_iff.1 ht).1
  obtain ⟨⟨p, b⟩, hq⟩ := get_some (l := ps) (j := j) (by rw [L.W.l]; exact hl)
  obtain ⟨a1, a2⟩ := L.W.m j _ hq
  rw [ht] at a1
  have me : p.me = t := (Option.some.inj a1).symm
  obtain ⟨_, _, i1, i2, i3⟩ := L.W.p.at2 (pb_get hq)
  have A1 := L.W.w.p j _ hq
  obtain ⟨vv, lv, h1, _⟩ := A1.ex
  refine ⟨p, b, hq, me, a2, A1, L.W.v j _ hq, i1, by rw [ldc_row i2, i3]; rfl, ?_⟩
  rw [ldc_row h1, ← me]; rfl
abbrev Z13 : List Value := [.int .i64 0, .bool false, .int .i64 0, .int .i64 0, .int .u64 0, .int .i64 0, .int .u64 0, .int .i64 0, .int .i64 0, .int .u64 0, .int .i64 0, .int .u64 0, .slice none 0 0]
theorem answer_l {wl wb : Int} {R A : List Rf} {rv pv : Value} {Xb : Nat} {ps : List (Pr × Nat)} {g : Nat → Option Rc} {s : St} {i : Nat} {k : Int} {to : Rf} {ak : AskP} {re : Res} {a : Ans} {x : Option Rc} (L : Lst wl wb R A rv pv Xb ps g s) (hid : A.Pairwise fun a b => a.id ≠ b.id) (hl : A.length ≤ 100000) (ht : A[i]? = some to) (D : Did wl wb A pv ps g s i 1 ak a x) :
    ∃ s' ps', leapfroglaw13x_List_Answer.v (PP Xb) (.agg ⟨stepC k to ak re⟩) s = some (.tuple ⟨[.agg ⟨a.cs⟩, .bool true]⟩, s') ∧ Lst wl wb R A rv pv Xb ps' (upd g i x) s' ∧ StpK [11] s s' := by
  obtain ⟨b, w, s', ps', y1, y2, y3, y4, y5, y6, ks, L'⟩ := L.did D
  obtain ⟨p0, b0, _, _, _, _, _, _, yb, y7⟩ := L.at ht
  rw [y2] at yb
  cases yb
  obtain ⟨l1, q, t1, t2⟩ := y4.at
  have hil : i < A.length := (List.getElem?_eq_some_iff.1 ht).1
  have plen := L.W.p.len
  rw [List.length_map, L.W.l] at plen
  have sp := L.W.p.same
  have it : iter (leapfroglaw13x_List_Answer.l2 std) BIG [PP Xb, .int .i64 ((0 : Nat) : Int), .agg ⟨stepC k to ak re⟩, .agg ⟨Z13⟩] s = some ((1, [.bool true, .agg ⟨a.cs⟩], s') : Cut) := by
    refine iter_rel (fun d xs s2 => ∃ j : Nat, j + d = i ∧ s2 = s ∧ xs = [PP Xb, .int .i64 (j : Int), .agg ⟨stepC k to ak re⟩, .agg ⟨Z13⟩])
      (fun y : Option Cut => y = some ((1, [.bool true, .agg ⟨a.cs⟩], s') : Cut)) ?_ BIG i _ s (by unfold BIG; omega) ⟨0, by omega, rfl, rfl⟩
    rintro d xs s2 rec ⟨j, hj, rfl, rfl⟩ ih
    have e1 : (j : Int) < (A.length : Int) := by omega
    cases d with
    | zero =>
      have hji : j = i := by omega
      subst hji
      simp only [AskP.cs] at y3
      simp only [leapfroglaw13x_List_Answer.l2, leapfroglaw13x_List_Answer.l2.p1, sy, reduceIte, Nat.reduceAdd, Nat.reduceLeDiff, Nat.reduceLT, Nat.reduceEqDiff, Int.reduceEq, Int.reduceLT, Int.reduceLE, Int.reduceNe, ly, ldc_row L.x, plen, e1, y1, y2, y7, y3, ldc_row L'.x, sp, y5, y6, samePj, l1, t1, lda_row t2]
    | succ d =>
      have e5 : IntKind.i64.wrap ((j : Int) + 1) = ((j + 1 : Nat) : Int) := by rw [wrap64 (by omega) (by omega)]; omega
      obtain ⟨t, hjt⟩ := get_some (l := A) (j := j) (by omega)
      obtain ⟨p1, b1, _, _, _, _, _, z1, z2, z3⟩ := L.at hjt
      have ne : t.id ≠ to.id := by
        obtain ⟨j1, j2⟩ := List.getElem?_eq_some_iff.1 hjt
        obtain ⟨i1, i2⟩ := List.getElem?_eq_some_iff.1 ht
        have := List.pairwise_iff_getElem.1 hid j i j1 i1 (by omega)
        rwa [i2, j2] at this
      have fin := ih d _ s2 (by omega) ⟨j + 1, by omega, rfl, rfl⟩
      rw [← fin]
      simp only [leapfroglaw13x_List_Answer.l2, leapfroglaw13x_List_Answer.l2.p1, sy, reduceIte, Nat.reduceAdd, Nat.reduceLeDiff, Nat.reduceLT, Nat.reduceEqDiff, Int.reduceEq, Int.reduceLT, Int.reduceLE, Int.reduceNe, ly, ldc_row L.x, plen, e1, z1, z2, z3, ne, e5]
  rw [show ((0 : Nat) : Int) = 0 from rfl] at it
  refine ⟨s', ps', ?_, L', ks⟩
  simp only [leapfroglaw13x_List_Answer.v, leapfroglaw13x_List_Answer.t, sy, reduceIte, Nat.reduceAdd, Nat.reduceLeDiff, Nat.reduceLT, Nat.reduceEqDiff, Int.reduceEq, Int.reduceLT, Int.reduceLE, Int.reduceNe, ly, it, Nat.one_ne_zero]

/-! ### Do they stand like a row? -/

def wantQ (Q : List Rf) (j : Nat) : Ans := ⟨1, false, if j = 0 then zR else Q.getD (j - 1) zR, Q.getD (j + 1) zR, .slice none 0 0⟩
abbrev noA : Ans := ⟨0, false, zR, zR, .slice none 0 0⟩
theorem want_in {wl wb : Int} {R A Q : List Rf} {rv pv qv : Value} {Xb : Nat} {ps : List (Pr × Nat)} {g : Nat → Option Rc} {s : St} {i : Nat} {t : Rf} (L : Lst wl wb R A rv pv Xb ps g s) (ht : A[i]? = some t) (hq : IsR s 5 qv (Q.map Rf.cs)) (hid : Q.Pairwise fun a b => a.id ≠ b.id) (hl : Q.length ≤ 100000) :
    ∃ a : Ans, iter (leapfroglaw13x_List_Like.l6 std) BIG [PP Xb, qv, .int .i64 (i : Int), .int .i64 ((0 : Nat) : Int), .agg ⟨noA.cs⟩] s = some ((0, [PP Xb, qv, .int .i64 (i : Int), .agg ⟨a.cs⟩], s) : Cut) ∧
      ((a = noA ∧ ∀ y ∈ Q, y.id ≠ t.id) ∨ ∃ j y, Q[j]? = some y ∧ y.id = t.id ∧ a = wantQ Q j) := by
  obtain ⟨p, b, _, _, _, _, _, z1, z2, z3⟩ := L.at ht
  have hlen := hq.len
  rw [List.length_map] at hlen
  refine iter_rel (fun d xs s2 => ∃ (k : Nat) (a : Ans), k + d = Q.length ∧ s2 = s ∧ ((a = noA ∧ ∀ (j : Nat) y, j < k → Q[j]? = some y → y.id ≠ t.id) ∨ ∃ j y, j < k ∧ Q[j]? = some y ∧ y.id = t.id ∧ a = wantQ Q j) ∧ xs = [PP Xb, qv, .int .i64 (i : Int), .int .i64 (k : Int), .agg ⟨a.cs⟩])
    (fun y : Option Cut => ∃ a : Ans, y = some ((0, [PP Xb, qv, .int .i64 (i : Int), .agg ⟨a.cs⟩], s) : Cut) ∧ ((a = noA ∧ ∀ y ∈ Q, y.id ≠ t.id) ∨ ∃ j y, Q[j]? = some y ∧ y.id = t.id ∧ a = wantQ Q j)) ?_ BIG Q.length _ s (by unfold BIG; omega) ⟨0, noA, by omega, rfl, .inl ⟨rfl, fun j y hj => by omega⟩, rfl⟩
  rintro d xs s2 rec ⟨k, a, hk, rfl, hw, rfl⟩ ih
  cases d with
  | zero =>
    have e1 : ¬ ((k : Int) < (Q.length : Int)) := by omega
    refine ⟨a, by simp only [leapfroglaw13x_List_Like.l6, sy, reduceIte, Nat.reduceAdd, Nat.reduceLeDiff, Nat.reduceLT, Nat.reduceEqDiff, Int.reduceEq, Int.reduceLT, Int.reduceLE, Int.reduceNe, ly, hlen, e1], ?_⟩
    rcases hw with ⟨h1, h2⟩ | ⟨j, y, _, h2, h3, h4⟩
    · refine .inl ⟨h1, fun y hy => ?_⟩
      obtain ⟨j, hj⟩ := List.getElem?_of_mem hy
      exact h2 j y (by have := (List.getElem?_eq_some_iff.1 hj).1; omega) hj
    · exact .inr ⟨j, y, h2, h3, h4⟩
  | succ d =>
    have e1 : (k : Int) < (Q.length : Int) := by omega
    have e5 : IntKind.i64.wrap ((k : Int) + 1) = ((k + 1 : Nat) : Int) := by rw [wrap64 (by omega) (by omega)]; omega
    obtain ⟨y, hy⟩ := get_some (l := Q) (j := k) (by omega)
    obtain ⟨all, ro, c2, cz⟩ := hq.both (rf_get hy)
    obtain ⟨c1, c3⟩ := cz _ _ (rf_get hy)
    by_cases q1 : y.id = t.id
    · have hfirst : a = noA := by
        rcases hw with ⟨h1, _⟩ | ⟨j, z, hj, h2, h3, _⟩
        · exact h1
        · obtain ⟨j1, j2⟩ := List.getElem?_eq_some_iff.1 h2
          obtain ⟨k1, k2⟩ := List.getElem?_eq_some_iff.1 hy
          have := List.pairwise_iff_getElem.1 hid j k j1 k1 hj
          rw [j2, k2] at this
          exact absurd (h3.trans q1.symm) this
      subst hfirst
      obtain ⟨x, hx⟩ := ih d [PP Xb, qv, .int .i64 (i : Int), .int .i64 ((k + 1 : Nat) : Int), .agg ⟨(wantQ Q k).cs⟩] s2 (by omega) ⟨k + 1, wantQ Q k, by omega, rfl, .inr ⟨k, y, by omega, hy, q1, rfl⟩, rfl⟩
      refine ⟨x, ?_, hx.2⟩
      rw [← hx.1]
      have q1 := eq_true q1
      by_cases k0 : k = 0
      · subst k0
        have g0 : ¬ (0 : Int) < ((0 : Nat) : Int) := by omega
        have g0' : ¬ (((0 : Nat) : Int) > 0) := g0
        by_cases kn : 0 + 1 < Q.length
        · obtain ⟨z, hz⟩ := get_some (l := Q) (j := 0 + 1) kn
          obtain ⟨d1, d3⟩ := cz _ _ (rf_get hz)
          have e6 : ((0 + 1 : Nat) : Int) < (Q.length : Int) := by omega
          have hw : (wantQ Q 0).cs = (⟨1, false, zR, z, .slice none 0 0⟩ : Ans).cs := by unfold wantQ; rw [if_pos rfl, getD_some hz]
          rw [hw]
          simp only [leapfroglaw13x_List_Like.l6, leapfroglaw13x_List_Like.l6.p1, sy, reduceIte, Nat.reduceAdd, Nat.reduceLeDiff, Nat.reduceLT, Nat.reduceEqDiff, Int.reduceEq, Int.reduceLT, Int.reduceLE, Int.reduceNe, ly, ldc_row L.x, hlen, e1, c1, ldc_row c2, lda_row c2, c3, z1, z2, z3, q1, g0, g0', e5, e6, d1, d3]
        · have e6 : ¬ ((0 + 1 : Nat) : Int) < (Q.length : Int) := by omega
          have hw : (wantQ Q 0).cs = (⟨1, false, zR, zR, .slice none 0 0⟩ : Ans).cs := by unfold wantQ; rw [if_pos rfl, List.getD_eq_getElem?_getD, List.getElem?_eq_none_iff.2 (by omega)]; rfl
          rw [hw]
          simp only [leapfroglaw13x_List_Like.l6, leapfroglaw13x_List_Like.l6.p1, sy, reduceIte, Nat.reduceAdd, Nat.reduceLeDiff, Nat.reduceLT, Nat.reduceEqDiff, Int.reduceEq, Int.reduceLT, Int.reduceLE, Int.reduceNe, ly, ldc_row L.x, hlen, e1, c1, ldc_row c2, lda_row c2, c3, z1, z2, z3, q1, g0, g0', e5, e6]
      · have g0 : (0 : Int) < (k : Int) := by omega
        have g0' : (k : Int) > 0 := g0
        have e7 : IntKind.i64.wrap ((k : Int) - 1) = ((k - 1 : Nat) : Int) := by rw [wrap64 (by omega) (by omega)]; omega
        obtain ⟨u, hu⟩ := get_some (l := Q) (j := k - 1) (by omega)
        obtain ⟨u1, u3⟩ := cz _ _ (rf_get hu)
        by_cases kn : k + 1 < Q.length
        · obtain ⟨z, hz⟩ := get_some (l := Q) (j := k + 1) kn
          obtain ⟨d1, d3⟩ := cz _ _ (rf_get hz)
          have e6 : ((k + 1 : Nat) : Int) < (Q.length : Int) := by omega
          have hw : (wantQ Q k).cs = (⟨1, false, u, z, .slice none 0 0⟩ : Ans).cs := by unfold wantQ; rw [if_neg k0, getD_some hz, getD_some hu]
          rw [hw]
          simp only [leapfroglaw13x_List_Like.l6, leapfroglaw13x_List_Like.l6.p1, sy, reduceIte, Nat.reduceAdd, Nat.reduceLeDiff, Nat.reduceLT, Nat.reduceEqDiff, Int.reduceEq, Int.reduceLT, Int.reduceLE, Int.reduceNe, ly, ldc_row L.x, hlen, e1, c1, ldc_row c2, lda_row c2, c3, z1, z2, z3, q1, g0, g0', e7, u1, u3, e5, e6, d1, d3]
        · have e6 : ¬ ((k + 1 : Nat) : Int) < (Q.length : Int) := by omega
          have hw : (wantQ Q k).cs = (⟨1, false, u, zR, .slice none 0 0⟩ : Ans).cs := by unfold wantQ; rw [if_neg k0, getD_some hu, List.getD_eq_getElem?_getD, List.getElem?_eq_none_iff.2 (by omega)]; rfl
          rw [hw]
          simp only [leapfroglaw13x_List_Like.l6, leapfroglaw13x_List_Like.l6.p1, sy, reduceIte, Nat.reduceAdd, Nat.reduceLeDiff, Nat.reduceLT, Nat.reduceEqDiff, Int.reduceEq, Int.reduceLT, Int.reduceLE, Int.reduceNe, ly, ldc_row L.x, hlen, e1, c1, ldc_row c2, lda_row c2, c3, z1, z2, z3, q1, g0, g0', e7, u1, u3, e5, e6]
    · obtain ⟨x, hx⟩ := ih d [PP Xb, qv, .int .i64 (i : Int), .int .i64 ((k + 1 : Nat) : Int), .agg ⟨a.cs⟩] s2 (by omega) ⟨k + 1, a, by omega, rfl, by
        rcases hw with ⟨h1, h2⟩ | ⟨j, z, hj, h2, h3, h4⟩
        · exact .inl ⟨h1, fun j z hj hz => by
            by_cases e : j = k
            · subst e; rw [hy] at hz; cases hz; exact q1
            · exact h2 j z (by omega) hz⟩
        · exact .inr ⟨j, z, by omega, h2, h3, h4⟩, rfl⟩
      refine ⟨x, ?_, hx.2⟩
      rw [← hx.1]
      simp only [leapfroglaw13x_List_Like.l6, leapfroglaw13x_List_Like.l6.p1, sy, reduceIte, Nat.reduceAdd, Nat.reduceLeDiff, Nat.reduceLT, Nat.reduceEqDiff, Int.reduceEq, Int.reduceLT, Int.reduceLE, Int.reduceNe, ly, ldc_row L.x, hlen, e1, c1, ldc_row c2, lda_row c2, c3, z1, z2, z3, q1, e5]
theorem sameAns_r (a : Ans) (hv : a.v = .slice none 0 0) (s : St) : leapfrogref09x_SameAnswer.r (.agg ⟨a.cs⟩) (.agg ⟨a.cs⟩) s = some (.bool true) := by
  have b2 : b2s s (.slice none 0 0) = some (.string ⟨⟨[]⟩⟩) := rfl
  obtain ⟨k, f, l, r, v⟩ := a
  simp only at hv
  subst hv
  simp only [leapfrogref09x_SameAnswer.r, leapfrogref09x_SameAnswer.t, sy, reduceIte, Nat.reduceAdd, Nat.reduceLeDiff, Nat.reduceLT, Nat.reduceEqDiff, Int.reduceEq, Int.reduceLT, Int.reduceLE, Int.reduceNe, ly, b2]
end Go.Proofs.Yteiagjbjokldgaa
