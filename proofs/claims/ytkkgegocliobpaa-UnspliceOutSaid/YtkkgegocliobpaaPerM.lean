/-
  Law 14's list: its peers are made.
-/
import Derived.Test.YtkkgegocliobpaaPerL
set_option linter.unusedSimpArgs false
set_option linter.unusedVariables false
set_option maxRecDepth 100000
set_option maxHeartbeats 2000000
namespace Go.Proofs.Ytkkgegocliobpaa
open Go.Sim Go.Sim.Bt
attribute [local congr] bdc cndc itec gdc gdSc gdUc

theorem IsR.at2 {s : St} {sz : Nat} {v : Value} {rows : List (List Value)} (h : IsR s sz v rows) {j : Nat} {r : List Value} (hj : rows[j]? = some r) :
    ∃ all ro, idx s sz v (.int .i64 (j : Int)) = some (.pointer (some ⟨blkOf v, j, some 0⟩)) ∧ s.get (blkOf v) = some (.row sz all ro) ∧ all[j]? = some r := by
  obtain ⟨b, all, ro, a1, a2, a3⟩ := h.at hj
  have e := h.blk hj a1
  simp only [Value.pointer.injEq, Option.some.injEq, Addr.mk.injEq] at e
  obtain ⟨rfl, _⟩ := e
  exact ⟨all, ro, a1, a2, a3⟩
theorem rf_get {l : List Rf} {j : Nat} {x : Rf} (h : l[j]? = some x) : (l.map Rf.cs)[j]? = some x.cs := by rw [List.getElem?_map, h]; rfl
/-- The peers as the loop makes them. -/
def pr14 (R : List Rf) (j : Nat) (vv : Value) : Pr :=
  if j = 0 ∨ j + 1 = R.length then ⟨R.getD j zR, true, true, false, [], vv, []⟩ else in14 vv (R.getD j zR) (R.getD (j - 1) zR) (R.getD (j + 1) zR)
theorem okRef_R {R : List Rf} (h : OkR R) {j : Nat} {r : Rf} (hr : R[j]? = some r) : okRef r := by
  have hjl : j < R.length := (List.getElem?_eq_some_iff.1 hr).1
  by_cases h0 : j = 0
  · subst h0; rw [h.first] at hr; cases hr; exact ⟨.inr ⟨.inl rfl, rfl⟩, okV0⟩
  · by_cases h1 : j + 1 < R.length
    · obtain ⟨q1, q2, q3, _⟩ := h.inner j r (by omega) h1 hr
      exact ⟨.inl q1, by rw [q2, q3]; exact okV0⟩
    · have := h.last
      rw [show R.length - 1 = j by omega] at this
      rw [this] at hr
      cases hr
      exact ⟨.inr ⟨.inr rfl, rfl⟩, okV0⟩
abbrev o91 : Value := .agg ⟨[.int .i64 9, .int .i64 1]⟩
/-- One round: a peer more. -/
theorem round14 {R : List Rf} (hR : OkR R) {rv pv : Value} {s : St} (hr : IsR s 5 rv (R.map Rf.cs)) (f : Fresh s) {j : Nat} {r : Rf} (hj : R[j]? = some r) :
    ∃ b s1 vv, AtP (pr14 R j vv) s1 b ∧ (vv = .slice none 0 0 ∨ s.n ≤ blkOf vv) ∧ More s s1 ∧ Fresh s1 ∧ s.n ≤ b ∧ ∀ rec, leapfroglaw14x_list.l16 std rec [rv, pv, .int .i64 (j : Int), o91] s =
      (app (s1.new (.row 1 [[PP b]] false)) 1 8 pv (.slice (some ⟨s1.n, 0, some 0⟩) 1 2)).bind fun r168 => rec [rv, r168.1, .int .i64 ((j + 1 : Nat) : Int), o91] r168.2 := by
  have hjl : j < R.length := (List.getElem?_eq_some_iff.1 hj).1
  have hlen := hr.len
  rw [List.length_map] at hlen
  have h900 := hR.len
  have e1 : (j : Int) < R.length := by omega
  have e5 : IntKind.i64.wrap ((j : Int) + 1) = ((j + 1 : Nat) : Int) := by rw [wrap64 (by omega) (by omega)]; omega
  have e6 : IntKind.i64.wrap ((R.length : Int) - 1) = (R.length : Int) - 1 := wrap64 (by omega) (by omega)
  obtain ⟨all, ro, a1, a2, a3⟩ := hr.at2 (rf_get hj)
  have hd : R.getD j zR = r := by rw [List.getD_eq_getElem?_getD, hj]; rfl
  by_cases h0 : j = 0
  · subst h0
    rw [hR.first] at hj
    cases hj
    have e0 := new_end (s := s) (me := endL 0) (v := .slice none 0 0) (by decide)
    obtain ⟨b, s1, n1, n2, n3, n4, n5⟩ := end_p f false (h := 0) (by omega) (by omega)
    refine ⟨b, s1, _, ?_, .inl rfl, n3, n4, n5, fun rec => ?_⟩
    · unfold pr14
      rw [if_pos (.inl rfl), hd]
      exact n2
    · have c0 : (((0 : Nat) : Int) = 0) = True := by simp
      have c1 : ¬ ((0 : Int) < ((0 : Nat) : Int)) := by omega
      simp only [leapfroglaw14x_list.l16, leapfroglaw14x_list.l16.p2, sy, reduceIte, Nat.reduceAdd, Nat.reduceLeDiff, Nat.reduceLT, Nat.reduceEqDiff, Int.reduceEq, Int.reduceLT, Int.reduceLE, Int.reduceNe, ly, hlen, e1, a1, lda_row a2, a3, e0, c0, c1, n1, als_eq, Nat.reduceMul, e5]
  · have c0 : ((j : Int) = 0) = False := by simp; omega
    by_cases h1 : j + 1 = R.length
    · have hl := hR.last
      rw [show R.length - 1 = j by omega] at hl
      rw [hl] at hj
      cases hj
      have e0 := new_end (s := s) (me := endR 0) (v := .slice none 0 0) (by decide)
      obtain ⟨b, s1, n1, n2, n3, n4, n5⟩ := end_p f true (h := 0) (by omega) (by omega)
      refine ⟨b, s1, _, ?_, .inl rfl, n3, n4, n5, fun rec => ?_⟩
      · unfold pr14
        rw [if_pos (.inr h1), hd]
        exact n2
      · have c1 : ((j : Int) = (R.length : Int) - 1) = True := by simp; omega
        have c2 : (0 : Int) < (j : Int) := by omega
        simp only [leapfroglaw14x_list.l16, leapfroglaw14x_list.l16.p2, sy, reduceIte, Nat.reduceAdd, Nat.reduceLeDiff, Nat.reduceLT, Nat.reduceEqDiff, Int.reduceEq, Int.reduceLT, Int.reduceLE, Int.reduceNe, ly, hlen, e1, a1, lda_row a2, a3, e0, c0, e6, c1, c2, n1, als_eq, Nat.reduceMul, e5]
    · have c1 : ((j : Int) = (R.length : Int) - 1) = False := by simp; omega
      obtain ⟨q1, q2, q3, q4⟩ := hR.inner j r (by omega) (by omega) hj
      obtain ⟨a, ha⟩ := get_some (l := R) (j := j - 1) (by omega)
      obtain ⟨c, hc⟩ := get_some (l := R) (j := j + 1) (by omega)
      have la := hR.up (j - 1) a r ha (by rw [show j - 1 + 1 = j by omega]; exact hj)
      have lc := hR.up j r c hj hc
      obtain ⟨b, s1, v2, s2, v3, s3, v4, s4, n1, m1, f1, hb, n2, b2, n3, b3, n4, b4, hA⟩ := inner14 f q1 q2 q3 (by omega) (by omega) la lc (okRef_R hR ha) (okRef_R hR hc)
      have m2 := StB.new m1 b2 hb
      have m3 := StB.new m2 b3 hb
      have m4 := StB.new m3 b4 hb
      refine ⟨b, s4, .slice (some ⟨s.n, 0, some 0⟩) 0 0, ?_, .inr (Nat.le_refl _), m4, m4.fresh f, hb, fun rec => ?_⟩
      · unfold pr14
        rw [if_neg (by omega), hd, List.getD_eq_getElem?_getD, ha, List.getD_eq_getElem?_getD, hc]
        exact hA
      · have e7 : IntKind.i64.wrap ((j : Int) - 1) = ((j - 1 : Nat) : Int) := by rw [wrap64 (by omega) (by omega)]; omega
        obtain ⟨al1, ro1, x1, x2, x3⟩ := (hr.more m1 f).at2 (rf_get ha)
        obtain ⟨al2, ro2, y1, y2, y3⟩ := (hr.more m1 f).at2 (rf_get hc)
        obtain ⟨al3, ro3, z1, z2, z3⟩ := (hr.more m2 f).at2 (rf_get ha)
        obtain ⟨al4, ro4, w1, w2, w3⟩ := (hr.more m2 f).at2 (rf_get hc)
        rw [x2] at y2
        cases y2
        rw [z2] at w2
        cases w2
        have sa := same5r a
        have sc := same5r c
        simp only [leapfroglaw14x_list.l16, leapfroglaw14x_list.l16.p2, leapfroglaw14x_list.l16.p1, sy, reduceIte, Nat.reduceAdd, Nat.reduceLeDiff, Nat.reduceLT, Nat.reduceEqDiff, Int.reduceEq, Int.reduceLT, Int.reduceLE, Int.reduceNe, ly, hlen, e1, a1, lda_row a2, a3, n1, c0, e6, c1, e7, x1, lda_row x2, x3, e5, y1, y3, n2, z1, lda_row z2, z3, w1, w3, samePj, sa, sc, n3, n4, als_eq, Nat.reduceMul]
end Go.Proofs.Ytkkgegocliobpaa
