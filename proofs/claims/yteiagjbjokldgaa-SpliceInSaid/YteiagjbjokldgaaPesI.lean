/-
  Law 13's peers, one after the other.
-/
import Derived.Test.YteiagjbjokldgaaPesH
set_option linter.unusedSimpArgs false
set_option linter.unusedVariables false
set_option maxRecDepth 100000
set_option maxHeartbeats 4000000
namespace Go.Proofs.Yteiagjbjokldgaa
open Go.Sim Go.Sim.Bt
attribute [local congr] bdc cndc itec gdc gdSc gdUc

abbrev o01 : Value := .agg ⟨[.int .i64 0, .int .i64 1]⟩
/-- The records as the loop makes them. -/
def rec0 (h wl wb : Int) (R : List Rf) (j : Nat) : Rc :=
  if j = 0 then ⟨wl, wb, zR, endR h, false, 0, 0⟩ else if j + 1 = R.length then ⟨wl, wb, endL h, zR, false, 0, 0⟩ else recV wl wb R j
def PrQ (h wl wb : Int) (R : List Rf) (p : Pr) (j : Nat) : Prop := R[j]? = some p.me ∧ p.ma = false ∧ Sn wl wb p (some (rec0 h wl wb R j))
theorem getD_some {R : List Rf} {j : Nat} {t : Rf} (h : R[j]? = some t) : R.getD j zR = t := by rw [List.getD_eq_getElem?_getD, h]; rfl
theorem app_last {α : Type} {l : List α} {x y : α} {i j : Nat} (hl : l.length = i) (h : (l ++ [x])[j]? = some y) : (j < i ∧ l[j]? = some y) ∨ (j = i ∧ y = x) := by
  by_cases c : j < l.length
  · rw [List.getElem?_append_left c] at h; exact .inl ⟨by omega, h⟩
  · rw [List.getElem?_append_right (by omega)] at h
    have h0 : j - l.length = 0 := by
      have := (List.getElem?_eq_some_iff.1 h).1
      simp at this; omega
    rw [h0] at h
    simp only [List.getElem?_cons_zero, Option.some.injEq] at h
    exact .inr ⟨by omega, h.symm⟩
theorem IsR.both {s : St} {sz : Nat} {v : Value} {rows : List (List Value)} (h : IsR s sz v rows) {j : Nat} {r : List Value} (hj : rows[j]? = some r) :
    ∃ all ro, s.get (blkOf v) = some (.row sz all ro) ∧ ∀ (k : Nat) q, rows[k]? = some q → idx s sz v (.int .i64 (k : Int)) = some (.pointer (some ⟨blkOf v, k, some 0⟩)) ∧ all[k]? = some q := by
  obtain ⟨all, ro, a1, a2, a3⟩ := h.at2 hj
  refine ⟨all, ro, a2, fun k q hk => ?_⟩
  obtain ⟨all', ro', b1, b2, b3⟩ := h.at2 hk
  rw [a2] at b2
  cases b2
  exact ⟨b1, b3⟩
theorem end_round {h wl wb : Int} {R : List Rf} (hR : OkRw h wl wb R) {rv pv : Value} {Xb i : Nat} {s0 s : St} {ps : List (Pr × Nat)} (hr : IsR s0 5 rv (R.map Rf.cs)) (f0 : Fresh s0) (M : Mk wl wb rv Xb s0 s pv ps) (hl : ps.length = i) (hq : ∀ (j : Nat) q, ps[j]? = some q → PrQ h wl wb R q.1 j)
    (hi : i < R.length) (he : i = 0 ∨ i + 1 = R.length) (rec : List Value → St → Option Cut) :
    ∃ pv' ps' s', leapfroglaw13x_Peers.l4 std rec [.int .i64 h, PP Xb, .int .i64 (i : Int), VI wl wb, o01] s = rec [.int .i64 h, PP Xb, .int .i64 ((i + 1 : Nat) : Int), VI wl wb, o01] s' ∧ Mk wl wb rv Xb s0 s' pv' ps' ∧ ps'.length = i + 1 ∧ ∀ (j : Nat) q, ps'[j]? = some q → PrQ h wl wb R q.1 j := by
  have hlen := hr.len
  rw [List.length_map] at hlen
  have h900 := hR.len
  have e1 : (i : Int) < (R.length : Int) := by omega
  have e5 : IntKind.i64.wrap ((i : Int) + 1) = ((i + 1 : Nat) : Int) := by rw [wrap64 (by omega) (by omega)]; omega
  obtain ⟨r, hj⟩ := get_some (l := R) (j := i) hi
  obtain ⟨_, _, a1, a2, a3⟩ := (hr.more M.m f0).at2 (rf_get hj)
  have hrk : r.rk ≠ 2 := by
    rcases he with e | e
    · subst e; rw [hR.first] at hj; cases hj; show (1 : Int) ≠ 2; omega
    · have := hR.last
      rw [show R.length - 1 = i by omega, hj] at this
      cases this; show (3 : Int) ≠ 2; omega
  have n0 := new_end (s := s) (me := r) (v := .slice none 0 0) hrk
  obtain ⟨b, s1, n1, n2, n3, n4, n5⟩ := end_p M.f (decide (0 < i)) hR.h0 hR.h1
  have hlw : wl ≤ h := hR.wh
  have hme : R[i]? = some (if decide (0 < i) = true then endR h else endL h) := by
    rcases he with e | e
    · subst e; exact hR.first
    · have := hR.last
      rw [show R.length - 1 = i by omega] at this
      rw [this, if_pos (by simp; omega)]
  have pq : PrQ h wl wb R ⟨if decide (0 < i) = true then endR h else endL h, true, true, false, [], .slice none 0 0, []⟩ i := by
    refine ⟨hme, rfl, ?_⟩
    have V := Vv.end (p := ⟨if decide (0 < i) = true then endR h else endL h, true, true, false, [], .slice none 0 0, []⟩) rfl rfl hR.hw (by show wl ≤ (if decide (0 < i) = true then endR h else endL h).ln; split <;> exact hlw)
    have : firstC ⟨if decide (0 < i) = true then endR h else endL h, true, true, false, [], .slice none 0 0, []⟩ wl wb = rec0 h wl wb R i := by
      unfold firstC rec0
      by_cases c : 0 < i
      · have d : decide (0 < i) = true := by simpa using c
        have : i + 1 = R.length := by omega
        simp only [d, if_true]
        rw [if_neg (show ¬ (3 : Int) = 1 by omega), if_neg (show ¬ i = 0 by omega), if_pos this]
      · have d : decide (0 < i) = false := by simpa using c
        simp only [d, Bool.false_eq_true, if_false]
        rw [if_pos trivial, if_pos (show i = 0 by omega)]
    rw [this] at V
    exact V
  obtain ⟨pv', s2, s3, p1, p2, p3, M3, _⟩ := M.add n2 n3 n4 n5 (.inl rfl) (by omega)
  have x1 := n3.get M.f M.x
  refine ⟨pv', _, s3, ?_, M3, by simp [hl], fun j q hjq => ?_⟩
  · by_cases h0 : i = 0
    · subst h0
      have c0 : (((0 : Nat) : Int) = 0) = True := by simp
      have c1 : ¬ ((0 : Int) < ((0 : Nat) : Int)) := by omega
      have c2 : ¬ (((0 : Nat) : Int) > 0) := by omega
      have dn : decide (0 < 0) = false := rfl
      rw [dn] at n1
      simp only [leapfroglaw13x_Peers.l4, leapfroglaw13x_Peers.l4.p3, sy, reduceIte, Nat.reduceAdd, Nat.reduceLeDiff, Nat.reduceLT, Nat.reduceEqDiff, Int.reduceEq, Int.reduceLT, Int.reduceLE, Int.reduceNe, ly, ldc_row M.x, hlen, e1, a1, lda_row a2, a3, n0, c0, c1, c2, n1, p1, als_eq, Nat.reduceMul, p2, p3, e5]
    · have h1 : i + 1 = R.length := by omega
      have c0 : ((i : Int) = 0) = False := by simp; omega
      have c1 : (0 : Int) < (i : Int) := by omega
      have c2 : (i : Int) > 0 := c1
      have c3 : (((i + 1 : Nat) : Int) = (R.length : Int)) = True := by simp; omega
      have c4 : ¬ (((i + 1 : Nat) : Int) < (R.length : Int)) := by omega
      have dn : decide (0 < i) = true := by simp; omega
      rw [dn] at n1
      simp only [leapfroglaw13x_Peers.l4, leapfroglaw13x_Peers.l4.p3, sy, reduceIte, Nat.reduceAdd, Nat.reduceLeDiff, Nat.reduceLT, Nat.reduceEqDiff, Int.reduceEq, Int.reduceLT, Int.reduceLE, Int.reduceNe, ly, ldc_row M.x, ldc_row M3.x, hlen, e1, a1, lda_row a2, a3, n0, c0, c1, c2, c3, c4, n1, p1, als_eq, Nat.reduceMul, p2, p3, e5]
  · rcases app_last hl hjq with ⟨_, g⟩ | ⟨rfl, rfl⟩
    · exact hq j q g
    · exact pq
theorem inner_round {h wl wb : Int} {R : List Rf} (hR : OkRw h wl wb R) {rv pv : Value} {Xb i : Nat} {s0 s : St} {ps : List (Pr × Nat)} (hr : IsR s0 5 rv (R.map Rf.cs)) (f0 : Fresh s0) (M : Mk wl wb rv Xb s0 s pv ps) (hl : ps.length = i) (hq : ∀ (j : Nat) q, ps[j]? = some q → PrQ h wl wb R q.1 j)
    (hi0 : 0 < i) (hi : i + 1 < R.length) (rec : List Value → St → Option Cut) :
    ∃ pv' ps' s', leapfroglaw13x_Peers.l4 std rec [.int .i64 h, PP Xb, .int .i64 (i : Int), VI wl wb, o01] s = rec [.int .i64 h, PP Xb, .int .i64 ((i + 1 : Nat) : Int), VI wl wb, o01] s' ∧ Mk wl wb rv Xb s0 s' pv' ps' ∧ ps'.length = i + 1 ∧ ∀ (j : Nat) q, ps'[j]? = some q → PrQ h wl wb R q.1 j := by
  have hlen := hr.len
  rw [List.length_map] at hlen
  have h900 := hR.len
  have e1 : (i : Int) < (R.length : Int) := by omega
  have e5 : IntKind.i64.wrap ((i : Int) + 1) = ((i + 1 : Nat) : Int) := by rw [wrap64 (by omega) (by omega)]; omega
  have e6 : IntKind.i64.wrap ((i : Int) - 1) = ((i - 1 : Nat) : Int) := by rw [wrap64 (by omega) (by omega)]; omega
  obtain ⟨r, hj⟩ := get_some (l := R) (j := i) (by omega)
  obtain ⟨a, ha⟩ := get_some (l := R) (j := i - 1) (by omega)
  obtain ⟨c, hc⟩ := get_some (l := R) (j := i + 1) (by omega)
  obtain ⟨_, _, a1, a2, a3⟩ := (hr.more M.m f0).at2 (rf_get hj)
  obtain ⟨k1, k2, k3, k4, k5, k6⟩ := hR.inner i r hi0 hi hj
  obtain ⟨b, s1, n1, A1, m1, f1, hb⟩ := new_p M.f k1 k3 k5 k6
  obtain ⟨pv', s2, s3, p1, p2, p3, M3, _⟩ := M.add A1 m1 f1 hb (.inr (Nat.le_refl _)) (by omega)
  have x1 := m1.get M.f M.x
  have hsb : s0.n ≤ b := by have := M.m.n; omega
  have i3 : (ps ++ [((⟨r, false, false, false, [], .slice (some ⟨s.n, 0, some 0⟩) 0 0, []⟩ : Pr), b)])[i]? = some (⟨r, false, false, false, [], .slice (some ⟨s.n, 0, some 0⟩) 0 0, []⟩, b) := by
    rw [List.getElem?_append_right (by omega), hl, Nat.sub_self]; rfl
  have A3 := M3.w.p i _ i3
  have hc0 : hasC (⟨r, false, false, false, [], .slice (some ⟨s.n, 0, some 0⟩) 0 0, []⟩ : Pr) wl wb := by
    unfold hasC; rw [if_neg (by simp)]; exact k4
  have o1 : okO 0 1 := by unfold okO; omega
  obtain ⟨w4, s4, q4, g4, _, A4, V4, L4, b4⟩ := genter (t := 0) hR.hw M3.f A3 rfl rfl hc0 o1 (ok_ref hR ha) (ok_ref hR hc) (up_at hR (by omega) ha hj) (up_at hR (by omega) hj hc)
  have M4 := M3.set i3 b4 A4 L4.2.2.2.2.2 hsb
  have i4 : ((ps ++ [((⟨r, false, false, false, [], .slice (some ⟨s.n, 0, some 0⟩) 0 0, []⟩ : Pr), b)]).set i (q4, b))[i]? = some (q4, b) := by
    rw [List.getElem?_set, if_pos rfl, if_pos (by simp [hl])]
  obtain ⟨w5, s5, q5, g5, _, A5, V5, L5, b5⟩ := gfree (t := 0) hR.hw M4.f A4 V4 o1 rfl
  have M5 := M4.set i4 b5 A5 L5.2.2.2.2.2 hsb
  have i5 : (((ps ++ [((⟨r, false, false, false, [], .slice (some ⟨s.n, 0, some 0⟩) 0 0, []⟩ : Pr), b)]).set i (q4, b)).set i (q5, b))[i]? = some (q5, b) := by
    rw [List.getElem?_set, if_pos rfl, if_pos (by simp [hl])]
  have L := L4.trans L5
  obtain ⟨w6, s6, g6, _, A6, b6⟩ := joined_p (t := 0) M5.f A5 (L.2.1)
  have M6 := M5.set i5 b6 A6 rfl hsb
  have hrv := hr
  obtain ⟨all3, _, c2, z3⟩ := (hr.more M3.m f0).both (rf_get ha)
  obtain ⟨c1, c3⟩ := z3 _ _ (rf_get ha)
  obtain ⟨d1, d3⟩ := z3 _ _ (rf_get hc)
  obtain ⟨all4, _, u2, z4⟩ := (hr.more M4.m f0).both (rf_get ha)
  obtain ⟨u1, u3⟩ := z4 _ _ (rf_get ha)
  obtain ⟨v1, v3⟩ := z4 _ _ (rf_get hc)
  have sa := same5q a
  have sc := same5q c
  have sr := (hr.more M4.m f0).same
  have c0 : ((i : Int) = 0) = False := by simp; omega
  have c3' : (((i + 1 : Nat) : Int) = (R.length : Int)) = False := by simp; omega
  have c4 : (0 : Int) < (i : Int) := by omega
  have c4' : (i : Int) > 0 := c4
  have c5 : ((i + 1 : Nat) : Int) < (R.length : Int) := by omega
  refine ⟨pv', _, s6, ?_, M6, by simp [hl], fun j q hjq => ?_⟩
  · simp only [QW, AskP.cs] at g4 g5
    simp only [AskP.cs] at g6
    simp only [leapfroglaw13x_Peers.l4, leapfroglaw13x_Peers.l4.p3, leapfroglaw13x_Peers.l4.p2, leapfroglaw13x_Peers.l4.p1, sy, reduceIte, Nat.reduceAdd, Nat.reduceLeDiff, Nat.reduceLT, Nat.reduceEqDiff, Int.reduceEq, Int.reduceLT, Int.reduceLE, Int.reduceNe, ly, ldc_row M.x, ldc_row x1, ldc_row M3.x, ldc_row M4.x, hlen, e1, a1, lda_row a2, a3, n1, c0, c3', c4, c4', c5, p1, als_eq, Nat.reduceMul, p2, p3, e5, e6, c1, lda_row c2, c3, d1, d3, g4, sr, u1, samePj, lda_row u2, u3, sa, v1, v3, sc, g5, g6]
  · by_cases e : j = i
    · subst e
      rw [List.getElem?_set, if_pos rfl, if_pos (by simp [hl])] at hjq
      cases hjq
      refine ⟨?_, ?_, ?_⟩
      · show R[j]? = some q5.me
        rw [L.1]; exact hj
      · show q5.ma = false
        rw [L.2.2.2.1]
      · have : freed ⟨wl, wb, a, c, true, 0, 1⟩ = rec0 h wl wb R j := by
          unfold rec0 recV freed
          rw [if_neg (by omega), if_neg (by omega), if_neg (by omega), getD_some ha, getD_some hc]
        rw [this] at V5
        exact ⟨V5.z, V5.l, V5.b, V5.h0⟩
    · rw [List.getElem?_set_ne (fun g => e g.symm), List.getElem?_set_ne (fun g => e g.symm), List.getElem?_set_ne (fun g => e g.symm)] at hjq
      rcases app_last hl hjq with ⟨_, g⟩ | ⟨g, _⟩
      · exact hq j q g
      · exact absurd g e
theorem peers_loop {h wl wb : Int} {R : List Rf} (hR : OkRw h wl wb R) {rv : Value} {Xb : Nat} {s0 s : St} (hr : IsR s0 5 rv (R.map Rf.cs)) (f0 : Fresh s0) (M : Mk wl wb rv Xb s0 s (.slice none 0 0) []) :
    ∃ pv' ps' s', iter (leapfroglaw13x_Peers.l4 std) BIG [.int .i64 h, PP Xb, .int .i64 ((0 : Nat) : Int), VI wl wb, o01] s = some ((0, [PP Xb, VI wl wb, o01], s') : Cut) ∧ Mk wl wb rv Xb s0 s' pv' ps' ∧ ps'.length = R.length ∧ ∀ (j : Nat) q, ps'[j]? = some q → PrQ h wl wb R q.1 j := by
  refine iter_rel (fun d xs s' => ∃ (i : Nat) (pv : Value) (ps : List (Pr × Nat)), i + d = R.length ∧ Mk wl wb rv Xb s0 s' pv ps ∧ ps.length = i ∧ (∀ (j : Nat) q, ps[j]? = some q → PrQ h wl wb R q.1 j) ∧ xs = [.int .i64 h, PP Xb, .int .i64 (i : Int), VI wl wb, o01])
    (fun y : Option Cut => ∃ pv' ps' s', y = some ((0, [PP Xb, VI wl wb, o01], s') : Cut) ∧ Mk wl wb rv Xb s0 s' pv' ps' ∧ ps'.length = R.length ∧ ∀ (j : Nat) q, ps'[j]? = some q → PrQ h wl wb R q.1 j) ?_ BIG R.length _ s (by have := hR.len; unfold BIG; omega) ⟨0, _, [], by omega, M, rfl, fun j q h => by simp at h, rfl⟩
  rintro d xs s2 rec ⟨i, pv, ps, hi, M2, hl, hq, rfl⟩ ih
  cases d with
  | zero =>
    have hlen := hr.len
    rw [List.length_map] at hlen
    have e1 : ¬ ((i : Int) < (R.length : Int)) := by omega
    exact ⟨pv, ps, s2, by simp only [leapfroglaw13x_Peers.l4, sy, reduceIte, Nat.reduceAdd, Nat.reduceLeDiff, Nat.reduceLT, Nat.reduceEqDiff, Int.reduceEq, Int.reduceLT, Int.reduceLE, Int.reduceNe, ly, ldc_row M2.x, hlen, e1], M2, by omega, hq⟩
  | succ d =>
    by_cases he : i = 0 ∨ i + 1 = R.length
    · obtain ⟨pv', ps', s3, p1, p2, p3, p4⟩ := end_round hR hr f0 M2 hl hq (by omega) he rec
      rw [p1]
      exact ih d _ s3 (by omega) ⟨i + 1, pv', ps', by omega, p2, p3, p4, rfl⟩
    · obtain ⟨pv', ps', s3, p1, p2, p3, p4⟩ := inner_round hR hr f0 M2 hl hq (by omega) (by omega) rec
      rw [p1]
      exact ih d _ s3 (by omega) ⟨i + 1, pv', ps', by omega, p2, p3, p4, rfl⟩
end Go.Proofs.Yteiagjbjokldgaa
