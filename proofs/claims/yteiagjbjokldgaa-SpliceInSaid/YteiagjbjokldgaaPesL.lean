/-
  Do the peers stand like a row?
-/
import Derived.Test.YteiagjbjokldgaaPesK
set_option linter.unusedSimpArgs false
set_option linter.unusedVariables false
set_option maxRecDepth 100000
set_option maxHeartbeats 4000000
namespace Go.Proofs.Yteiagjbjokldgaa
open Go.Sim Go.Sim.Bt
attribute [local congr] bdc cndc itec gdc gdSc gdUc

theorem Lst.stp {ks : List Nat} {wl wb : Int} {R A : List Rf} {rv pv : Value} {Xb : Nat} {ps : List (Pr × Nat)} {g : Nat → Option Rc} {s s' : St} (L : Lst wl wb R A rv pv Xb ps g s) (k : StpK ks s s') (h1 : 1 ∉ ks) (h4 : 4 ∉ ks) (h5 : 5 ∉ ks) (h11 : 11 ∉ ks) (h16 : 16 ∉ ks) : Lst wl wb R A rv pv Xb ps g s' :=
  ⟨k.row L.x h4, L.r.stp k h5, L.W.stp k h1 h11 h16, L.p.stp k h1, L.sp, k.2.2 L.f⟩
theorem Lst.more {wl wb : Int} {R A : List Rf} {rv pv : Value} {Xb : Nat} {ps : List (Pr × Nat)} {g : Nat → Option Rc} {s s' : St} (L : Lst wl wb R A rv pv Xb ps g s) (m : More s s') : Lst wl wb R A rv pv Xb ps g s' :=
  L.stp (ks := []) (.more m L.f) (by simp) (by simp) (by simp) (by simp) (by simp)
theorem held_in {s : St} {v x0 x1 x2 c5 c6 c7 c8 c9 c10 c11 : Value} {rows : List (List Value)} {l : List Rc} (hR : IsR s 16 v rows) (hr : RcR rows l) (hh : l.any Rc.held = false) (hN : l.length ≤ 1000) :
    iter (leapfroglaw13x_List_Like.l21 std) BIG [x0, x1, x2, v, .int .i64 ((0 : Nat) : Int), c5, c6, c7, c8, c9, c10, c11] s = some ((0, [x0, x1, x2, c5, c6, c7, c8, c9, c10, c11], s) : Cut) := by
  have hlen := hR.len
  rw [hr.1] at hlen
  refine iter_rel (fun d xs s' => ∃ i : Nat, i + d = l.length ∧ s' = s ∧ xs = [x0, x1, x2, v, .int .i64 (i : Int), c5, c6, c7, c8, c9, c10, c11])
    (fun y : Option Cut => y = some ((0, [x0, x1, x2, c5, c6, c7, c8, c9, c10, c11], s) : Cut)) ?_ BIG l.length _ s (by unfold BIG; omega) ⟨0, by omega, rfl, rfl⟩
  rintro d xs s' rec ⟨i, hi, rfl, rfl⟩ ih
  cases d with
  | zero =>
    have e1 : ¬ ((i : Int) < l.length) := by omega
    simp only [leapfroglaw13x_List_Like.l21, sy, reduceIte, Nat.reduceAdd, Nat.reduceLeDiff, Nat.reduceLT, Nat.reduceEqDiff, Int.reduceEq, Int.reduceLT, Int.reduceLE, Int.reduceNe, ly, hlen, e1]
  | succ d =>
    have e1 : (i : Int) < l.length := by omega
    have e5 : IntKind.i64.wrap ((i : Int) + 1) = ((i + 1 : Nat) : Int) := by rw [wrap64 (by omega) (by omega)]; omega
    obtain ⟨x, hx⟩ := get_some (l := l) (j := i) (by omega)
    obtain ⟨r, hrr⟩ := get_some (l := rows) (j := i) (by rw [hr.1]; omega)
    obtain ⟨w, rfl⟩ := hr.2 i r x hrr hx
    obtain ⟨o, al, ro, a1, a2, a3⟩ := hR.at hrr
    have hxh : x.held = false := by
      rw [List.any_eq_false] at hh
      simpa using hh x (List.mem_of_getElem? hx)
    have fin := ih d _ s' (by omega) ⟨i + 1, by omega, rfl, rfl⟩
    rw [← fin]
    simp only [leapfroglaw13x_List_Like.l21, sy, reduceIte, Nat.reduceAdd, Nat.reduceLeDiff, Nat.reduceLT, Nat.reduceEqDiff, Int.reduceEq, Int.reduceLT, Int.reduceLE, Int.reduceNe, ly, hlen, e1, a1, ldc_row a2, a3, hxh, e5]
def LikeC (A Q : List Rf) (g : Nat → Option Rc) : Prop :=
  ∀ (i : Nat) t, A[i]? = some t → (∃ r k y, g i = some r ∧ r.held = false ∧ Q[k]? = some y ∧ y.id = t.id ∧ ansR r = wantQ Q k) ∨ (g i = none ∧ ∀ y ∈ Q, y.id ≠ t.id)
theorem like_step {wl wb : Int} {R A Q : List Rf} {rv pv qv : Value} {Xb : Nat} {ps : List (Pr × Nat)} {g : Nat → Option Rc} {s : St} {i : Nat} (hw : okV wl wb) (L : Lst wl wb R A rv pv Xb ps g s) (hq : IsR s 5 qv (Q.map Rf.cs)) (hid : Q.Pairwise fun a b => a.id ≠ b.id) (hl : Q.length ≤ 100000) (hA : A.length ≤ 100000) (hC : LikeC A Q g) (hi : i < A.length) (rec : List Value → St → Option Cut) :
    ∃ s', leapfroglaw13x_List_Like.l2 std rec [PP Xb, qv, .int .i64 (i : Int)] s = rec [PP Xb, qv, .int .i64 ((i + 1 : Nat) : Int)] s' ∧ More s s' := by
  obtain ⟨t, ht⟩ := get_some hi
  obtain ⟨p, b, hps, me, ma, AP, sn, z1, z2, z3⟩ := L.at ht
  obtain ⟨a, w1, w2⟩ := want_in L ht hq hid hl
  rw [show ((0 : Nat) : Int) = 0 from rfl] at w1
  have plen := L.W.p.len
  rw [List.length_map, L.W.l] at plen
  have e1 : (i : Int) < (A.length : Int) := by omega
  have e5 : IntKind.i64.wrap ((i : Int) + 1) = ((i + 1 : Nat) : Int) := by rw [wrap64 (by omega) (by omega)]; omega
  have sp := L.W.p.same
  have sww := (by simp [sameV, sameVs] : sameV (.agg ⟨[.int .i64 wl, .int .u64 wb]⟩) (.agg ⟨[.int .i64 wl, .int .u64 wb]⟩) = true)
  have fin : ∀ (an : Ans), an.v = .slice none 0 0 → (∃ w s1, leapfrogref09x_Peer_Ask.v (PP b) (.int .i64 1) (QW 1 wl wb zR zR 0 0) s = some (.tuple ⟨[w, .int .i64 0]⟩, s1) ∧ Told s1 w 1 an ∧ More s s1 ∧ Fresh s1) → p.L.any Rc.held = false →
      ((a = an ∧ an.k = 1) ∨ (a = noA ∧ an = ⟨2, false, zR, zR, .slice none 0 0⟩)) → ∃ s', leapfroglaw13x_List_Like.l2 std rec [PP Xb, qv, .int .i64 (i : Int)] s = rec [PP Xb, qv, .int .i64 ((i + 1 : Nat) : Int)] s' ∧ More s s' := by
    rintro an hv ⟨w, s1, q1, q2, q3, q4⟩ hh hor
    have L1 := L.more q3
    obtain ⟨p', b', _, _, _, A1, _, y1, y2, _⟩ := L1.at ht
    have A1 := AP.more q3 L.f
    obtain ⟨vw, v, rows, s2, u1, u2, u3, u4, u5, u6⟩ := state_r q4 A1
    have hld := fun c5 c6 c7 c8 c9 c10 c11 => held_in (x0 := PP Xb) (x1 := qv) (x2 := .int .i64 (i : Int)) (c5 := c5) (c6 := c6) (c7 := c7) (c8 := c8) (c9 := c9) (c10 := c10) (c11 := c11) u5 u6 hh AP.n
    rw [show ((0 : Nat) : Int) = 0 from rfl] at hld
    obtain ⟨l1, q, t1, t2⟩ := q2.at
    have sa := sameAns_r an hv s1
    have pbeq : ldc s1 (.pointer (some ⟨blkOf pv, i, some 0⟩)) = some (PP b) := by
      obtain ⟨_, _, j1, j2, j3⟩ := L1.W.p.at2 (pb_get hps)
      rw [ldc_row j2, j3]; rfl
    refine ⟨s2, ?_, q3.trans u2⟩
    simp only [QW, AskP.cs] at q1
    rcases hor with ⟨rfl, k1⟩ | ⟨rfl, rfl⟩
    · have k1 := eq_true k1
      have k0 : (a.k = 0) = False := by
        have := of_eq_true k1
        simp; omega
      simp only [leapfroglaw13x_List_Like.l2, leapfroglaw13x_List_Like.l2.p1, sy, reduceIte, Nat.reduceAdd, Nat.reduceLeDiff, Nat.reduceLT, Nat.reduceEqDiff, Int.reduceEq, Int.reduceLT, Int.reduceLE, Int.reduceNe, ly, ldc_row L.x, lda_row L.x, plen, e1, w1, k0, z1, z2, q1, ldc_row L1.x, lda_row L1.x, sp, y1, samePj, pbeq, sww, l1, t1, lda_row t2, sa, u1, hld, e5]
    · simp only [leapfroglaw13x_List_Like.l2, leapfroglaw13x_List_Like.l2.p1, sy, reduceIte, Nat.reduceAdd, Nat.reduceLeDiff, Nat.reduceLT, Nat.reduceEqDiff, Int.reduceEq, Int.reduceLT, Int.reduceLE, Int.reduceNe, ly, ldc_row L.x, lda_row L.x, plen, e1, w1, z1, z2, q1, ldc_row L1.x, lda_row L1.x, sp, y1, samePj, pbeq, sww, l1, t1, lda_row t2, sa, u1, hld, e5]
  rcases hC i t ht with ⟨r, k, y, g1, g2, g3, g4, g5⟩ | ⟨g1, g2⟩
  · rw [g1] at sn
    obtain ⟨w, s1, q1, q2, q3, q4⟩ := gread (t := 1) hw L.f AP sn
    rw [ofC_f ma] at q2
    refine fin (ansR r) rfl ⟨w, s1, q1, q2, q3, q4⟩ (Vv.free sn g2) (.inl ⟨?_, rfl⟩)
    rcases w2 with ⟨_, w3⟩ | ⟨j, z, w3, w4, w5⟩
    · exact absurd g4 (w3 y (List.mem_of_getElem? g3))
    · have : j = k := by
        obtain ⟨j1, j2⟩ := List.getElem?_eq_some_iff.1 w3
        obtain ⟨k1, k2⟩ := List.getElem?_eq_some_iff.1 g3
        rcases Nat.lt_trichotomy j k with e | e | e
        · have := List.pairwise_iff_getElem.1 hid j k j1 k1 e
          rw [j2, k2] at this
          exact absurd (w4.trans g4.symm) this
        · exact e
        · have := List.pairwise_iff_getElem.1 hid k j k1 j1 e
          rw [j2, k2] at this
          exact absurd (g4.trans w4.symm) this
      rw [w5, this, g5]
  · rw [g1] at sn
    obtain ⟨w, s1, q1, q2, q3, q4⟩ := read_p (t := 1) L.f AP hw
    rw [getV_none sn.2.1 sn.1] at q2
    refine fin ⟨2, false, zR, zR, .slice none 0 0⟩ rfl ⟨w, s1, q1, q2, q3, q4⟩ (by rw [sn.1]; rfl) (.inr ⟨?_, rfl⟩)
    rcases w2 with ⟨w3, _⟩ | ⟨j, z, w3, w4, w5⟩
    · exact w3
    · exact absurd w4 (g2 z (List.mem_of_getElem? w3))
theorem like_l {wl wb : Int} {R A Q : List Rf} {rv pv qv : Value} {Xb : Nat} {ps : List (Pr × Nat)} {g : Nat → Option Rc} {s : St} (hw : okV wl wb) (L : Lst wl wb R A rv pv Xb ps g s) (hq : IsR s 5 qv (Q.map Rf.cs)) (hid : Q.Pairwise fun a b => a.id ≠ b.id) (hl : Q.length ≤ 100000) (hA : A.length ≤ 100000) (hC : LikeC A Q g) :
    ∃ s', leapfroglaw13x_List_Like.v (PP Xb) qv s = some (.bool true, s') ∧ More s s' := by
  have it : ∃ s', iter (leapfroglaw13x_List_Like.l2 std) BIG [PP Xb, qv, .int .i64 ((0 : Nat) : Int)] s = some ((0, [], s') : Cut) ∧ More s s' := by
    refine iter_rel (fun d xs s' => ∃ i : Nat, i + d = A.length ∧ More s s' ∧ xs = [PP Xb, qv, .int .i64 (i : Int)])
      (fun y : Option Cut => ∃ s', y = some ((0, [], s') : Cut) ∧ More s s') ?_ BIG A.length _ s (by unfold BIG; omega) ⟨0, by omega, .refl _, rfl⟩
    rintro d xs s2 rec ⟨i, hi, hm, rfl⟩ ih
    have L2 := L.more hm
    cases d with
    | zero =>
      have plen := L2.W.p.len
      rw [List.length_map, L2.W.l] at plen
      have e1 : ¬ (i : Int) < (A.length : Int) := by omega
      exact ⟨s2, by simp only [leapfroglaw13x_List_Like.l2, sy, reduceIte, Nat.reduceAdd, Nat.reduceLeDiff, Nat.reduceLT, Nat.reduceEqDiff, Int.reduceEq, Int.reduceLT, Int.reduceLE, Int.reduceNe, ly, ldc_row L2.x, plen, e1], hm⟩
    | succ d =>
      obtain ⟨s3, p1, p2⟩ := like_step hw L2 (hq.more hm L.f) hid hl hA hC (i := i) (by omega) rec
      rw [p1]
      exact ih d _ s3 (by omega) ⟨i + 1, by omega, hm.trans p2, rfl⟩
  obtain ⟨s', e, m⟩ := it
  rw [show ((0 : Nat) : Int) = 0 from rfl] at e
  exact ⟨s', by simp only [leapfroglaw13x_List_Like.v, leapfroglaw13x_List_Like.t, sy, reduceIte, Nat.reduceAdd, Nat.reduceLeDiff, Nat.reduceLT, Nat.reduceEqDiff, Int.reduceEq, Int.reduceLT, Int.reduceLE, Int.reduceNe, ly, e], m⟩
end Go.Proofs.Yteiagjbjokldgaa
