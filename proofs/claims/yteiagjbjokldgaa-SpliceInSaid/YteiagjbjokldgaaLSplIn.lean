/-
  SpliceIn, over abstract values.
-/
import Derived.Test.YteiagjbjokldgaaPesM
set_option linter.unusedSimpArgs false
set_option linter.unusedVariables false
set_option maxRecDepth 100000
set_option maxHeartbeats 4000000
namespace Go.Proofs.Yteiagjbjokldgaa
open Go.Sim Go.Sim.Bt
attribute [local congr] bdc cndc itec gdc gdSc gdUc
namespace SpliceIn

theorem alive_i (s : St) : leapfroglaw13x_aliveC.r s = some (.bool true) := rfl
theorem drop_not {x : Rf} : ∀ {l : List Rf}, l.Pairwise ltF → ∀ y ∈ l.dropWhile (fun y => lessF y x), ¬ ltF y x
  | [], _, y, hy => by simp at hy
  | z :: l, h, y, hy => by
    rw [List.pairwise_cons] at h
    rw [List.dropWhile_cons] at hy
    split at hy
    · exact drop_not h.2 y hy
    · rename_i g
      have hz : ¬ ltF z x := fun k => g (lessF_iff.2 k)
      rcases List.mem_cons.1 hy with rfl | hy
      · exact hz
      · exact fun k => hz (ltF_trans (h.1 y hy) k)
/-- Those below stand ahead. -/
theorem below_cut {x : Rf} {l : List Rf} (h : l.Pairwise ltF) : ∃ K : Nat, K ≤ l.length ∧ l.filter (fun y => lessF y x) = l.take K ∧ l.takeWhile (fun y => lessF y x) = l.take K ∧ l.dropWhile (fun y => lessF y x) = l.drop K ∧
    (∀ (j : Nat) y, j < K → l[j]? = some y → ltF y x) ∧ (∀ (j : Nat) y, K ≤ j → l[j]? = some y → ¬ ltF y x) := by
  have e := List.takeWhile_append_dropWhile (p := fun y => lessF y x) (l := l)
  have ht : ∀ y ∈ l.takeWhile (fun y => lessF y x), ltF y x := take_lo
  have hd := drop_not (x := x) h
  generalize l.takeWhile (fun y => lessF y x) = a at *
  generalize l.dropWhile (fun y => lessF y x) = b at *
  subst e
  refine ⟨a.length, by simp, ?_, by simp, by simp, fun j y hj hy => ?_, fun j y hj hy => ?_⟩
  · rw [List.filter_append, List.filter_eq_self.2 fun y hy => lessF_iff.2 (ht y hy), List.filter_eq_nil_iff.2 fun y hy g => hd y hy (lessF_iff.1 g)]
    simp
  · rw [List.getElem?_append_left hj] at hy
    exact ht y (List.mem_of_getElem? hy)
  · rw [List.getElem?_append_right hj] at hy
    exact hd y (List.mem_of_getElem? hy)
open Classical in
theorem guard_v {hV fV v : Value} {l : List Rf} {me : Rf} {wl wb : Int} {s : St} (hv : IsR s 5 v (l.map Rf.cs)) (hl : l.length ≤ 100000) :
    iter (leapfroglaw13x_SpliceIn.l8 std) BIG [hV, v, fV, .int .i64 ((0 : Nat) : Int), .agg ⟨me.cs⟩, .agg ⟨[.int .i64 wl, .int .u64 wb]⟩] s = some (if (∀ x ∈ l, ¬ (x.id = me.id ∨ (keyF x me ∧ 0 < wl))) then ((0, [hV, v, fV, .agg ⟨me.cs⟩, .agg ⟨[.int .i64 wl, .int .u64 wb]⟩], s) : Cut) else ((1, [.bool true], s) : Cut)) := by
  have hlen := hv.len
  rw [List.length_map] at hlen
  refine iter_rel (fun d xs s' => ∃ i : Nat, i + d = l.length ∧ (∀ (j : Nat) x, j < i → l[j]? = some x → ¬ (x.id = me.id ∨ (keyF x me ∧ 0 < wl))) ∧ s' = s ∧ xs = [hV, v, fV, .int .i64 (i : Int), .agg ⟨me.cs⟩, .agg ⟨[.int .i64 wl, .int .u64 wb]⟩])
    (fun y : Option Cut => y = some (if (∀ x ∈ l, ¬ (x.id = me.id ∨ (keyF x me ∧ 0 < wl))) then ((0, [hV, v, fV, .agg ⟨me.cs⟩, .agg ⟨[.int .i64 wl, .int .u64 wb]⟩], s) : Cut) else ((1, [.bool true], s) : Cut))) ?_ BIG l.length _ s (by unfold BIG; omega) ⟨0, by omega, fun j x hj => by omega, rfl, rfl⟩
  rintro d xs s2 rec ⟨i, hi, hall, rfl, rfl⟩ ih
  have al := alive_i s2
  cases d with
  | zero =>
    have e1 : ¬ ((i : Int) < (l.length : Int)) := by omega
    rw [if_pos fun x hx => by
      obtain ⟨j, hj⟩ := List.getElem?_of_mem hx
      exact hall j x (by have := (List.getElem?_eq_some_iff.1 hj).1; omega) hj]
    simp only [leapfroglaw13x_SpliceIn.l8, sy, reduceIte, Nat.reduceAdd, Nat.reduceLeDiff, Nat.reduceLT, Nat.reduceEqDiff, Int.reduceEq, Int.reduceLT, Int.reduceLE, Int.reduceNe, ly, hlen, e1]
  | succ d =>
    have e1 : (i : Int) < (l.length : Int) := by omega
    have e5 : IntKind.i64.wrap ((i : Int) + 1) = ((i + 1 : Nat) : Int) := by rw [wrap64 (by omega) (by omega)]; omega
    obtain ⟨x, hx⟩ := get_some (l := l) (j := i) (by omega)
    have hxm := List.mem_of_getElem? hx
    obtain ⟨_, _, a1, a2, a3⟩ := hv.at2 (rf_get hx)
    have go : ¬ (x.id = me.id ∨ (keyF x me ∧ 0 < wl)) → rec [hV, v, fV, .int .i64 ((i + 1 : Nat) : Int), .agg ⟨me.cs⟩, .agg ⟨[.int .i64 wl, .int .u64 wb]⟩] s2 = some (if (∀ x ∈ l, ¬ (x.id = me.id ∨ (keyF x me ∧ 0 < wl))) then ((0, [hV, v, fV, .agg ⟨me.cs⟩, .agg ⟨[.int .i64 wl, .int .u64 wb]⟩], s2) : Cut) else ((1, [.bool true], s2) : Cut)) := fun g =>
      ih d _ s2 (by omega) ⟨i + 1, by omega, fun j z hj hz => by
        by_cases e : j = i
        · subst e; rw [hx] at hz; cases hz; exact g
        · exact hall j z (by omega) hz, rfl, rfl⟩
    by_cases q1 : x.id = me.id
    · rw [if_neg fun g => g x hxm (.inl q1)]
      simp only [leapfroglaw13x_SpliceIn.l8, sy, reduceIte, Nat.reduceAdd, Nat.reduceLeDiff, Nat.reduceLT, Nat.reduceEqDiff, Int.reduceEq, Int.reduceLT, Int.reduceLE, Int.reduceNe, ly, hlen, e1, a1, ldc_row a2, lda_row a2, a3, q1, al]
    · by_cases q2 : x.rk = me.rk
      · by_cases q3 : x.n = me.n
        · by_cases q4 : 0 < wl
          · have q4' : wl > 0 := q4
            rw [if_neg fun g => g x hxm (.inr ⟨⟨q2, q3⟩, q4⟩)]
            simp only [leapfroglaw13x_SpliceIn.l8, sy, reduceIte, Nat.reduceAdd, Nat.reduceLeDiff, Nat.reduceLT, Nat.reduceEqDiff, Int.reduceEq, Int.reduceLT, Int.reduceLE, Int.reduceNe, ly, hlen, e1, a1, ldc_row a2, lda_row a2, a3, q1, q2, q3, q4, q4', al]
          · have q4' : ¬ wl > 0 := q4
            rw [← go fun g => g.elim q1 fun g => q4 g.2]
            simp only [leapfroglaw13x_SpliceIn.l8, sy, reduceIte, Nat.reduceAdd, Nat.reduceLeDiff, Nat.reduceLT, Nat.reduceEqDiff, Int.reduceEq, Int.reduceLT, Int.reduceLE, Int.reduceNe, ly, hlen, e1, a1, ldc_row a2, lda_row a2, a3, q1, q2, q3, q4, q4', e5]
        · rw [← go fun g => g.elim q1 fun g => q3 g.1.2]
          simp only [leapfroglaw13x_SpliceIn.l8, sy, reduceIte, Nat.reduceAdd, Nat.reduceLeDiff, Nat.reduceLT, Nat.reduceEqDiff, Int.reduceEq, Int.reduceLT, Int.reduceLE, Int.reduceNe, ly, hlen, e1, a1, ldc_row a2, lda_row a2, a3, q1, q2, q3, e5]
      · rw [← go fun g => g.elim q1 fun g => q2 g.1.1]
        simp only [leapfroglaw13x_SpliceIn.l8, sy, reduceIte, Nat.reduceAdd, Nat.reduceLeDiff, Nat.reduceLT, Nat.reduceEqDiff, Int.reduceEq, Int.reduceLT, Int.reduceLE, Int.reduceNe, ly, hlen, e1, a1, ldc_row a2, lda_row a2, a3, q1, q2, e5]
def sameKF (me x : Rf) : Bool := decide (x.rk = me.rk) && decide (x.n = me.n)
theorem sameKF_iff {me x : Rf} : sameKF me x = true ↔ keyF x me := by unfold sameKF keyF; simp
theorem below_v {hV fV lv : Value} {R A : List Rf} {me : Rf} {wl wb : Int} {rv pv : Value} {Xb : Nat} {ps : List (Pr × Nat)} {g : Nat → Option Rc} {s : St} (L : Lst wl wb R A rv pv Xb ps g s) (hl : R.length ≤ 100000) :
    ∃ bv s', iter (leapfroglaw13x_SpliceIn.l16 std) BIG [hV, lv, fV, PP Xb, .slice none 0 0, .bool false, .int .i64 ((0 : Nat) : Int), .agg ⟨me.cs⟩, .agg ⟨[.int .i64 wl, .int .u64 wb]⟩] s =
      some ((0, [hV, lv, fV, PP Xb, bv, .bool (R.any (sameKF me)), .agg ⟨me.cs⟩, .agg ⟨[.int .i64 wl, .int .u64 wb]⟩], s') : Cut) ∧ More s s' ∧ IsR s' 5 bv ((R.filter (fun y => lessF y me)).map Rf.cs) := by
  refine iter_rel (fun d xs s' => ∃ (i : Nat) (bv : Value), i + d = R.length ∧ More s s' ∧ Ful s.n s' 5 bv (((R.take i).filter (fun y => lessF y me)).map Rf.cs) ∧ xs = [hV, lv, fV, PP Xb, bv, .bool ((R.take i).any (sameKF me)), .int .i64 (i : Int), .agg ⟨me.cs⟩, .agg ⟨[.int .i64 wl, .int .u64 wb]⟩])
    (fun y : Option Cut => ∃ bv s', y = some ((0, [hV, lv, fV, PP Xb, bv, .bool (R.any (sameKF me)), .agg ⟨me.cs⟩, .agg ⟨[.int .i64 wl, .int .u64 wb]⟩], s') : Cut) ∧ More s s' ∧ IsR s' 5 bv ((R.filter (fun y => lessF y me)).map Rf.cs)) ?_ BIG R.length _ s (by unfold BIG; omega)
    ⟨0, _, by omega, .refl _, .nil, by simp⟩
  rintro d xs s2 rec ⟨i, bv, hi, hm, hb, rfl⟩ ih
  have L2 := L.more hm
  have hlen := L2.r.len
  rw [List.length_map] at hlen
  cases d with
  | zero =>
    have e1 : ¬ ((i : Int) < (R.length : Int)) := by omega
    rw [List.take_of_length_le (by omega)] at hb ⊢
    exact ⟨bv, s2, by simp only [leapfroglaw13x_SpliceIn.l16, sy, reduceIte, Nat.reduceAdd, Nat.reduceLeDiff, Nat.reduceLT, Nat.reduceEqDiff, Int.reduceEq, Int.reduceLT, Int.reduceLE, Int.reduceNe, ly, ldc_row L2.x, hlen, e1], hm, hb.isR⟩
  | succ d =>
    have e1 : (i : Int) < (R.length : Int) := by omega
    have e5 : IntKind.i64.wrap ((i : Int) + 1) = ((i + 1 : Nat) : Int) := by rw [wrap64 (by omega) (by omega)]; omega
    obtain ⟨x, hx⟩ := get_some (l := R) (j := i) (by omega)
    obtain ⟨_, _, a1, a2, a3⟩ := L2.r.at2 (rf_get hx)
    have ls := r9less_r x.rk x.n me.rk me.n s2
    have hkv : ∀ r n, KV r n = .agg ⟨[.int .i64 r, .int .u64 n]⟩ := fun _ _ => rfl
    rw [hkv, hkv] at ls
    have htk : R.take (i + 1) = R.take i ++ [x] := by rw [List.take_add_one, hx]; rfl
    have hfl : ((R.take i).filter (fun y => lessF y me)).length ≤ i := by
      have := List.length_filter_le (fun y => lessF y me) (R.take i)
      rw [List.length_take] at this; omega
    have hex : (R.take (i + 1)).any (sameKF me) = ((R.take i).any (sameKF me) || (decide (x.rk = me.rk) && decide (x.n = me.n))) := by
      rw [htk, List.any_append]
      simp [sameKF]
    obtain ⟨v2, s3, q1, q2, q3, q4, q5⟩ := push (s0 := s) L2.f hb hm (by_ := 40) x.cs (by rw [List.length_map]; omega) (by rw [List.length_map]; omega)
    have L3 := L.more q2
    obtain ⟨_, _, b1, b2, b3⟩ := L3.r.at2 (rf_get hx)
    by_cases c : ltF x me
    · rw [decide_eq_true c] at ls
      have hb3 : Ful s.n s3 5 v2 (((R.take (i + 1)).filter (fun y => lessF y me)).map Rf.cs) := by
        rw [htk, List.filter_append, List.map_append]
        simpa [List.filter_cons, lessF_iff.2 c] using q3
      have fin := ih d [hV, lv, fV, PP Xb, v2, .bool ((R.take (i + 1)).any (sameKF me)), .int .i64 ((i + 1 : Nat) : Int), .agg ⟨me.cs⟩, .agg ⟨[.int .i64 wl, .int .u64 wb]⟩] s3 (by omega) ⟨i + 1, v2, by omega, q2, hb3, rfl⟩
      obtain ⟨bv', s', f1, f2, f3⟩ := fin
      refine ⟨bv', s', ?_, f2, f3⟩
      rw [← f1, hex]
      cases hsm : (R.take i).any (sameKF me)
      · rcases Classical.propComplete (x.rk = me.rk) with k1 | k1 <;> rcases Classical.propComplete (x.n = me.n) with k2 | k2 <;> simp only [leapfroglaw13x_SpliceIn.l16, leapfroglaw13x_SpliceIn.l16.p1, sy, reduceIte, Nat.reduceAdd, Nat.reduceLeDiff, Nat.reduceLT, Nat.reduceEqDiff, Int.reduceEq, Int.reduceLT, Int.reduceLE, Int.reduceNe, ly, ldc_row L2.x, ldc_row L3.x, hlen, e1, a1, lda_row a2, a3, ls, als_eq, q1, b1, lda_row b2, b3, k1, k2, e5, Bool.false_or]
      · simp only [leapfroglaw13x_SpliceIn.l16, leapfroglaw13x_SpliceIn.l16.p1, sy, reduceIte, Nat.reduceAdd, Nat.reduceLeDiff, Nat.reduceLT, Nat.reduceEqDiff, Int.reduceEq, Int.reduceLT, Int.reduceLE, Int.reduceNe, ly, ldc_row L2.x, ldc_row L3.x, hlen, e1, a1, lda_row a2, a3, ls, als_eq, q1, b1, lda_row b2, b3, e5, Bool.true_or]
    · rw [decide_eq_false c] at ls
      have hnl : lessF x me = false := by
        cases g : lessF x me
        · rfl
        · exact absurd (lessF_iff.1 g) c
      have hb3 : Ful s.n s2 5 bv (((R.take (i + 1)).filter (fun y => lessF y me)).map Rf.cs) := by
        rw [htk, List.filter_append, List.map_append]
        simpa [List.filter_cons, hnl] using hb
      have fin := ih d [hV, lv, fV, PP Xb, bv, .bool ((R.take (i + 1)).any (sameKF me)), .int .i64 ((i + 1 : Nat) : Int), .agg ⟨me.cs⟩, .agg ⟨[.int .i64 wl, .int .u64 wb]⟩] s2 (by omega) ⟨i + 1, bv, by omega, hm, hb3, rfl⟩
      obtain ⟨bv', s', f1, f2, f3⟩ := fin
      refine ⟨bv', s', ?_, f2, f3⟩
      rw [← f1, hex]
      cases hsm : (R.take i).any (sameKF me)
      · rcases Classical.propComplete (x.rk = me.rk) with k1 | k1 <;> rcases Classical.propComplete (x.n = me.n) with k2 | k2 <;> simp only [leapfroglaw13x_SpliceIn.l16, leapfroglaw13x_SpliceIn.l16.p1, sy, reduceIte, Nat.reduceAdd, Nat.reduceLeDiff, Nat.reduceLT, Nat.reduceEqDiff, Int.reduceEq, Int.reduceLT, Int.reduceLE, Int.reduceNe, ly, ldc_row L2.x, hlen, e1, a1, lda_row a2, a3, ls, k1, k2, e5, Bool.false_or]
      · simp only [leapfroglaw13x_SpliceIn.l16, leapfroglaw13x_SpliceIn.l16.p1, sy, reduceIte, Nat.reduceAdd, Nat.reduceLeDiff, Nat.reduceLT, Nat.reduceEqDiff, Int.reduceEq, Int.reduceLT, Int.reduceLE, Int.reduceNe, ly, ldc_row L2.x, hlen, e1, a1, lda_row a2, a3, ls, e5, Bool.true_or]
/-- At the end: its key is there. -/
theorem fin_same {h : Int} {c : Cf} {R : List Rf} {rv pv hV lv belv : Value} {Xb U n : Nat} {m : Mm} {s : St} {p q : Rf} (H : WkH h c R) (G : Go c R (R ++ [c.me]) rv pv Xb U m (quiet c.wl c.wb R) s) (hm : nextC c m = stepC 3 zR zAsk ⟨100, 0, p, q, false⟩) (hn : n < 200) (hk : keyF q c.me) (rec : List Value → St → Option Cut) :
    ∃ s', leapfroglaw13x_SpliceIn.l29 std rec (args29 hV lv belv (.bool true) Xb U n c) s = some ((1, [.bool true], s') : Cut) := by
  obtain ⟨ps, L⟩ := G.L
  have n1 := next_r G.a G.i
  rw [hm] at n1
  have e2 : (n : Int) < 200 := by omega
  have hl := H.ok.len
  obtain ⟨s1, e1, m1⟩ := like_l H.ok.hw L L.r H.ok.ids (by omega) H.len (fun i t ht => by
    by_cases hi : i < R.length
    · left
      rw [List.getElem?_append_left hi] at ht
      exact ⟨recV c.wl c.wb R i, i, t, by unfold quiet; rw [if_pos hi], rfl, ht, rfl, rfl⟩
    · right
      refine ⟨by unfold quiet; rw [if_neg hi], ?_⟩
      rw [List.getElem?_append_right (by omega)] at ht
      have h0 : i - R.length = 0 := by
        have := (List.getElem?_eq_some_iff.1 ht).1
        simp at this; omega
      rw [h0] at ht
      simp only [List.getElem?_cons_zero, Option.some.injEq] at ht
      subst ht
      exact H.id)
  have k1 := eq_true hk.1
  have k2 := eq_true hk.2
  have al := alive_i s1
  refine ⟨s1, ?_⟩
  simp only [args29, leapfroglaw13x_SpliceIn.l29, leapfroglaw13x_SpliceIn.l29.p2, sy, reduceIte, Nat.reduceAdd, Nat.reduceLeDiff, Nat.reduceLT, Nat.reduceEqDiff, Int.reduceEq, Int.reduceLT, Int.reduceLE, Int.reduceNe, ly, e2, n1, k1, k2, ldc_row L.x, e1, al]
/-- The row with one more, and who stands where. -/
theorem like_fin {h : Int} {c : Cf} {R : List Rf} {K : Nat} {p q : Rf} (H : WkH h c R) (hp : R[K]? = some p) (hq : R[K + 1]? = some q) :
    LikeC (R ++ [c.me]) (R.take (K + 1) ++ c.me :: R.drop (K + 1)) (gfin c R K p q) := by
  have hil : K + 1 < R.length := (List.getElem?_eq_some_iff.1 hq).1
  have hlt : (R.take (K + 1)).length = K + 1 := by rw [List.length_take]; omega
  have lo : ∀ j, j < K + 1 → (R.take (K + 1) ++ c.me :: R.drop (K + 1))[j]? = R[j]? := fun j hj => by
    rw [List.getElem?_append_left (by omega), List.getElem?_take, if_pos hj]
  have mid : (R.take (K + 1) ++ c.me :: R.drop (K + 1))[K + 1]? = some c.me := by
    rw [List.getElem?_append_right (by omega), hlt, Nat.sub_self]; rfl
  have hi : ∀ j, K + 1 ≤ j → (R.take (K + 1) ++ c.me :: R.drop (K + 1))[j + 1]? = R[j]? := fun j hj => by
    rw [List.getElem?_append_right (by omega), hlt, show j + 1 - (K + 1) = (j - (K + 1)) + 1 by omega, List.getElem?_cons_succ, List.getElem?_drop]
    congr 1; omega
  intro i t ht
  left
  have gd : ∀ {l : List Rf} {j : Nat}, l.getD j zR = (l[j]?).getD zR := fun {l j} => List.getD_eq_getElem?_getD
  by_cases e1 : i = R.length
  · subst e1
    rw [List.getElem?_append_right (Nat.le_refl _), Nat.sub_self] at ht
    cases ht
    refine ⟨⟨c.wl, c.wb, p, q, false, 0, 0⟩, K + 1, c.me, by unfold gfin; rw [if_neg (by omega), if_pos rfl], rfl, mid, rfl, ?_⟩
    unfold wantQ
    rw [if_neg (by omega), show K + 1 - 1 = K by omega, gd, gd, lo K (by omega), hi (K + 1) (Nat.le_refl _), hp, hq]
    rfl
  · have hir : i < R.length := by
      have := (List.getElem?_eq_some_iff.1 ht).1
      rw [List.length_append, List.length_singleton] at this; omega
    rw [List.getElem?_append_left hir] at ht
    by_cases e2 : i < K
    · refine ⟨recV c.wl c.wb R i, i, t, by unfold gfin quiet; rw [if_neg (by omega), if_neg e1, if_neg (by omega), if_pos hir], rfl, by rw [lo i (by omega)]; exact ht, rfl, ?_⟩
      unfold wantQ recV
      simp only [gd]
      rw [lo (i + 1) (by omega), lo (i - 1) (by omega)]
    · by_cases e3 : i = K
      · subst e3
        refine ⟨{ recV c.wl c.wb R i with r := c.me }, i, t, by unfold gfin; rw [if_pos rfl], rfl, by rw [lo i (by omega)]; exact ht, rfl, ?_⟩
        unfold wantQ recV
        simp only [gd]
        rw [mid, lo (i - 1) (by omega)]
        rfl
      · by_cases e4 : i = K + 1
        · subst e4
          refine ⟨{ recV c.wl c.wb R (K + 1) with l := c.me }, K + 1 + 1, t, by unfold gfin; rw [if_neg (by omega), if_neg e1, if_pos rfl], rfl, by rw [hi (K + 1) (Nat.le_refl _)]; exact ht, rfl, ?_⟩
          unfold wantQ recV
          simp only [gd]
          rw [if_neg (by omega), show K + 1 + 1 - 1 = K + 1 by omega, mid, hi (K + 1 + 1) (by omega)]
          rfl
        · refine ⟨recV c.wl c.wb R i, i + 1, t, by unfold gfin quiet; rw [if_neg e3, if_neg e1, if_neg e4, if_pos hir], rfl, by rw [hi i (by omega)]; exact ht, rfl, ?_⟩
          unfold wantQ recV
          simp only [gd]
          rw [if_neg (by omega), if_neg (by omega), show i + 1 - 1 = (i - 1) + 1 by omega, hi (i - 1) (by omega), hi (i + 1) (by omega)]
theorem ids_fin {h : Int} {c : Cf} {R : List Rf} {K : Nat} (H : WkH h c R) : (R.take K ++ c.me :: R.drop K).Pairwise fun a b => a.id ≠ b.id := by
  have e := H.ok.ids
  rw [← List.take_append_drop K R, List.pairwise_append] at e
  rw [List.pairwise_append, List.pairwise_cons]
  refine ⟨e.1, ⟨fun b hb => fun g => H.id b (List.mem_of_mem_drop hb) g.symm, e.2.1⟩, fun a ha b hb => ?_⟩
  rcases List.mem_cons.1 hb with rfl | hb
  · exact H.id a (List.mem_of_mem_take ha)
  · exact e.2.2 a ha b hb
theorem fin_in {h : Int} {c : Cf} {R l : List Rf} {rv pv lv belv : Value} {Xb U n K : Nat} {m : Mm} {s : St} {p q : Rf} (H : WkH h c R) (G : Go c R (R ++ [c.me]) rv pv Xb U m (gfin c R K p q) s) (hm : nextC c m = stepC 3 zR zAsk ⟨0, 0, p, q, false⟩) (hn : n < 200) (hp : R[K]? = some p) (hq : R[K + 1]? = some q)
    (hlv : IsR s 5 lv (l.map Rf.cs)) (hll : l.length ≤ 1000) (hbt : ∀ r ∈ l, 0 ≤ r.bt) (hmb : 0 ≤ c.me.bt) (hbel : IsR s 5 belv ((R.take (K + 1)).map Rf.cs)) (hR : rowF h c.wl c.wb (l ++ [c.me]) = R.take (K + 1) ++ c.me :: R.drop (K + 1)) (rec : List Value → St → Option Cut) :
    ∃ s', leapfroglaw13x_SpliceIn.l29 std rec (args29 (.int .i64 h) lv belv (.bool false) Xb U n c) s = some ((1, [.bool true], s') : Cut) := by
  obtain ⟨ps, L⟩ := G.L
  have n1 := next_r G.a G.i
  rw [hm] at n1
  have e2 : (n : Int) < 200 := by omega
  have hl := H.ok.len
  have hil : K + 1 < R.length := (List.getElem?_eq_some_iff.1 hq).1
  have rp0 : List.replicate 0 [Value.int .i64 0, Value.int .i64 0, Value.int .u64 0, Value.int .i64 0, Value.int .u64 0] = [] := rfl
  have z0 : 2 * 0 = 0 := rfl
  have mn : More s (s.new (.row 5 [] false)) := .new
  have o2 := (hlv.more mn L.f).sli
  obtain ⟨v2, s2, p1, p2, p3, p4⟩ := app_any (s0 := s) (by_ := 40) (mn.fresh L.f) (ful_new s 5 (Nat.le_refl _)) mn o2.lenV o2.rowsOf (by rw [List.length_map, List.length_nil]; omega) (by rw [List.length_map, List.length_nil]; omega)
  rw [List.nil_append] at p3
  obtain ⟨v3, s3, q1, q2, q3, q4, q5⟩ := push (s0 := s) p4 p3 p2 (by_ := 40) c.me.cs (by rw [List.length_map]; omega) (by rw [List.length_map]; omega)
  have q3' : IsR s3 5 v3 ((l ++ [c.me]).map Rf.cs) := by rw [List.map_append]; exact q3.isR
  obtain ⟨r4, s4, r1, r2, r3, r5⟩ := row_v (h := h) (wl := c.wl) (wb := c.wb) q3' q4 (by simp; omega) (okV_in H.ok.hw).2.2 (fun r hr => by
    rcases List.mem_append.1 hr with hr | hr
    · exact hbt r hr
    · rw [List.mem_singleton] at hr; subst hr; exact hmb) H.ok.h0 H.ok.h1
  rw [hR] at r5
  have m4 := q2.trans r2
  have L4 := L.more m4
  obtain ⟨s5, e5, m5⟩ := like_l H.ok.hw L4 r5.isR (ids_fin H) (by simp; omega) H.len (like_fin H hp hq)
  have b4 := hbel.more m4 L.f
  have b5 := b4.more m5 L4.f
  have blen := hbel.len
  have ht : ((R.take (K + 1)).map Rf.cs).length = K + 1 := by rw [List.length_map, List.length_take]; omega
  rw [ht] at blen
  have hpk : (R.take (K + 1))[K]? = some p := by rw [List.getElem?_take, if_pos (by omega)]; exact hp
  obtain ⟨_, _, i1, i2, i3⟩ := b4.at2 (rf_get hpk)
  obtain ⟨_, _, j1, j2, j3⟩ := b5.at2 (rf_get hpk)
  have ek : IntKind.i64.wrap (((K + 1 : Nat) : Int) - 1) = (K : Int) := by rw [wrap64 (by omega) (by omega)]; omega
  have s5p := same5q p
  have sI : sameV (.int .i64 (K : Int)) (.int .i64 (K : Int)) = true := by simp [sameV]
  have sI' : sameV (.int .i64 ((K + 1 : Nat) : Int)) (.int .i64 ((K + 1 : Nat) : Int)) = true := by simp [sameV]
  have al := alive_i s5
  have r1 : leapfrogref11x_Row.v (.int .i64 h) (.agg ⟨[.int .i64 c.wl, .int .u64 c.wb]⟩) v3 s3 = _ := r1
  refine ⟨s5, ?_⟩
  simp only [args29, leapfroglaw13x_SpliceIn.l29, leapfroglaw13x_SpliceIn.l29.p2, leapfroglaw13x_SpliceIn.l29.p1, sy, reduceIte, Nat.reduceAdd, Nat.reduceLeDiff, Nat.reduceLT, Nat.reduceEqDiff, Int.reduceEq, Int.reduceLT, Int.reduceLE, Int.reduceNe, ly, e2, n1, als_eq, rp0, z0, p1, q1, r1, blen, ek, i1, lda_row i2, i3, e5, j1, lda_row j2, j3, s5p, sI, sI', samePj, al]
theorem rest_v {h wl wb fr : Int} {lv : Value} {l : List Rf} {me : Rf} {s : St} (f : Fresh s) (hlv : IsR s 5 lv (l.map Rf.cs)) (hl10 : l.length ≤ 10) (gG : OkG h l) (hw : okV wl wb) (wh : wl ≤ h) (hbt : ∀ r ∈ l, 0 ≤ r.bt) (m2 : me.rk = 2) (mv : okV me.ln me.bt) (mid : me.id = 900) (hB : BG me.ln me.bt wl wb)
    (hg : ∀ x ∈ l, ¬ (x.id = me.id ∨ (keyF x me ∧ 0 < wl))) : ∃ s', leapfroglaw13x_SpliceIn.t.p2 std ((0, [.int .i64 h, lv, .int .i64 fr, .agg ⟨me.cs⟩, .agg ⟨[.int .i64 wl, .int .u64 wb]⟩], s) : Cut) = some (.bool true, s') := by
  obtain ⟨Xb, rv, pv, ps, s1, e1, L1, k1⟩ := peers_v hlv f gG hw wh hbt
  have e1 : leapfroglaw13x_Peers.v (.int .i64 h) (.agg ⟨[.int .i64 wl, .int .u64 wb]⟩) lv s = _ := e1
  have hRok := row_ok gG hw wh
  have hmore := row_more (h := h) (l := l) hB m2
  have hmemR : ∀ r ∈ rowF h wl wb l, r = endL h ∨ r = endR h ∨ r ∈ l := by
    intro r hr
    unfold rowF at hr
    rcases List.mem_cons.1 hr with rfl | hr
    · exact .inl rfl
    · rcases List.mem_append.1 hr with hr | hr
      · exact .inr (.inr ((memF_mem gG).1 hr).1)
      · rw [List.mem_singleton] at hr; exact .inr (.inl hr)
  have hlen12 : (rowF h wl wb l).length ≤ 12 := by
    have := memF_len wl wb l
    unfold rowF
    rw [List.length_cons, List.length_append, List.length_singleton]; omega
  generalize rowF h wl wb l = R at *
  obtain ⟨K, hK0, hK1, hK2, hK3, hlo, hhi⟩ := below_cut (x := me) hRok.up
  rw [hK2, hK3] at hmore
  have hRl := hRok.len
  have hK : 1 ≤ K := by
    rcases Nat.eq_zero_or_pos K with e | e
    · exact absurd (by unfold ltF lessK; left; rw [m2]; show (1 : Int) < 2; omega) (hhi 0 _ (by omega) hRok.first)
    · exact e
  have hKR : K < R.length := by
    rcases Nat.lt_or_ge K R.length with e | e
    · exact e
    · have := hlo (R.length - 1) _ (by omega) hRok.last
      unfold ltF lessK at this
      rw [m2] at this
      simp only at this
      omega
  obtain ⟨bv, s2, e2, n2, hb2⟩ := below_v (hV := .int .i64 h) (fV := .int .i64 fr) (lv := lv) (me := me) L1 (by omega)
  rw [show ((0 : Nat) : Int) = 0 from rfl] at e2
  rw [hK1] at hb2
  have L2 := L1.more n2
  have hbl : ((R.take K).map Rf.cs).length = K := by rw [List.length_map, List.length_take]; omega
  have blen := hb2.len
  rw [hbl] at blen
  -- whom it starts from
  obtain ⟨i0, hi0, hfr⟩ : ∃ i0 : Nat, i0 < K ∧ ((fr < 0 ∨ (K : Int) ≤ fr) ∧ i0 = 0 ∨ (¬ fr < 0 ∧ ¬ (K : Int) ≤ fr) ∧ fr = (i0 : Int)) := by
    by_cases c : fr < 0 ∨ (K : Int) ≤ fr
    · exact ⟨0, by omega, .inl ⟨c, rfl⟩⟩
    · exact ⟨fr.toNat, by omega, .inr ⟨⟨fun g => c (.inl g), fun g => c (.inr g)⟩, by omega⟩⟩
  obtain ⟨p0, hp0⟩ := get_some (l := R) (j := i0) (by omega)
  have hp0t : (R.take K)[i0]? = some p0 := by rw [List.getElem?_take, if_pos hi0]; exact hp0
  -- the one that is to go in
  obtain ⟨b, s3, e3, A3, n3, f3, hb3⟩ := new_p L2.f m2 mv (by omega) (by omega)
  have M2 : Mk wl wb rv Xb ⟨s2.h, 0⟩ s2 pv ps := ⟨⟨Nat.zero_le _, fun _ hx => absurd hx (Nat.not_lt_zero _), fun g => L2.f⟩, L2.f, Nat.zero_le _, L2.x, L2.p, L2.W.w, L2.sp⟩
  obtain ⟨pv', s4, s5, a1, a2, a3, M5, k5⟩ := M2.add A3 n3 f3 hb3 (.inr (Nat.le_refl _)) (by rw [L2.W.l]; omega)
  have hps : ps.length = R.length := L2.W.l
  have L5 : Lst wl wb R (R ++ [me]) rv pv' Xb (ps ++ [(⟨me, false, false, false, [], .slice (some ⟨s2.n, 0, some 0⟩) 0 0, []⟩, b)]) (quiet wl wb R) s5 := by
    refine ⟨M5.x, L2.r.stp k5 (by simp), ⟨M5.p.isR, M5.w, by simp [hps], fun j q hq => ?_, fun j q hq => ?_⟩, M5.p, M5.sp, M5.f⟩
    · rcases app_last hps hq with ⟨hj, hq⟩ | ⟨rfl, rfl⟩
      · unfold quiet
        rw [if_pos hj]
        exact L2.W.v j q hq
      · unfold quiet
        rw [if_neg (by omega)]
        exact ⟨rfl, rfl, by unfold hasC; rw [if_neg (by simp)]; exact hB⟩
    · rcases app_last hps hq with ⟨hj, hq⟩ | ⟨rfl, rfl⟩
      · rw [List.getElem?_append_left hj]
        exact L2.W.m j q hq
      · rw [List.getElem?_append_right (Nat.le_refl _), Nat.sub_self]
        exact ⟨rfl, rfl⟩
  have hb5 := hb2.stp k5 (by simp)
  have lv5 : IsR s5 5 lv (l.map Rf.cs) := (((hlv.stp k1 (by simp)).more n2 L1.f).stp k5 (by simp))
  -- the machine
  obtain ⟨c, hc⟩ : ∃ c : Cf, c = ⟨wl, wb, me, p0, 1, 1⟩ := ⟨_, rfl⟩
  have okr := ok_ref hRok hp0
  have okc : okC c := by
    subst hc
    exact ⟨m2, hB, okr.1, hlo i0 p0 hi0 hp0, (show okO 1 1 by unfold okO; omega)⟩
  have q1 := new_yes (c := c) L5.f (by subst hc; exact (okV_in mv).2.2) (by subst hc; exact (okV_in hw).2.2) okc
  obtain ⟨s6, hs6⟩ : ∃ s6, s6 = s5.new (.row 44 [urow c (m0 c) (.pointer none) .nilFunc] false) := ⟨_, rfl⟩
  rw [← hs6] at q1
  have n6 : More s5 s6 := by subst hs6; exact .new
  have hA : At c (m0 c) s6 s5.n := by subst hs6; exact ⟨_, _, get_new_same, rfl, fun e => by simp [m0] at e⟩
  have L6 := L5.more n6
  have hb6 := hb5.more n6 L5.f
  have lv6 := lv5.more n6 L5.f
  have H : WkH h c R := by
    subst hc
    refine ⟨hRok, m2, mv, fun r hr => ?_, rfl, rfl⟩
    rcases hmemR r hr with rfl | rfl | g
    · show (0 : Int) ≠ me.id; omega
    · show (1 : Int) ≠ me.id; omega
    · exact fun e => hg r g (.inl e)
  have hcm : c.me = me := by rw [hc]
  have hcw : c.wl = wl := by rw [hc]
  have hcb : c.wb = wb := by rw [hc]
  have hcf : c.fr = p0 := by rw [hc]
  have G6 : Go c R (R ++ [c.me]) rv pv' Xb s5.n ⟨1, p0, none, zR, false, false, .no, zRes⟩ (quiet c.wl c.wb R) s6 := by
    refine ⟨⟨_, by rw [hcm, hcw, hcb]; exact L6⟩, ?_, ?_⟩
    · have := hA
      unfold m0 at this
      rw [hcf] at this
      exact this
    · unfold InvM; simp
  obtain ⟨fu, hfu⟩ : ∃ fu, BIG = fu + 7 + 2 * (K - 1 - i0) := ⟨BIG - 7 - 2 * (K - 1 - i0), by unfold BIG; omega⟩
  obtain ⟨s7, p, la, r7, dd, th, res, w1, w2, w3, G7⟩ := walk (hV := .int .i64 h) (lv := lv) (belv := bv) (same := .bool (R.any (sameKF me))) H (K := K) (fun j x hj hx => by rw [hcm]; exact hlo j x hj hx) hKR (fu + 7) (K - 1 - i0) i0 0 s6 p0 _ _ _ _ _ (by omega) (by omega) hp0 G6
  rw [← hfu, Nat.zero_add] at w1
  obtain ⟨q, hq⟩ := get_some (l := R) (j := K) hKR
  have hq' : R[K - 1 + 1]? = some q := by rw [show K - 1 + 1 = K by omega]; exact hq
  have hq1 : ¬ ltF q me := hhi K q (Nat.le_refl _) hq
  have fin : ∃ s', iter (leapfroglaw13x_SpliceIn.l29 std) BIG (args29 (.int .i64 h) lv bv (.bool (R.any (sameKF me))) Xb s5.n 0 c) s6 = some ((1, [.bool true], s') : Cut) := by
    rw [w1]
    by_cases hsame : R.any (sameKF me) = true
    · -- its key is there
      rw [hsame]
      rw [List.any_eq_true] at hsame
      obtain ⟨y, hy1, hy2⟩ := hsame
      have hy2 := sameKF_iff.1 hy2
      obtain ⟨j, hj⟩ := List.getElem?_of_mem hy1
      have hyl : y ∈ l := by
        rcases hmemR y hy1 with rfl | rfl | g
        · have := hy2.1; rw [m2] at this; simp only at this; omega
        · have := hy2.1; rw [m2] at this; simp only at this; omega
        · exact g
      have h0 : ¬ 0 < wl := fun g => hg y hyl (.inr ⟨hy2, g⟩)
      have hjK : ¬ j < K := fun g => by
        have := hlo j y g hj
        unfold ltF lessK at this
        obtain ⟨a, b⟩ := hy2
        omega
      have hyq : keyF q me := by
        rcases Nat.lt_or_ge K j with g | g
        · have := up_at hRok g hq hj
          exfalso
          apply hq1
          unfold ltF lessK at this ⊢
          obtain ⟨a, b⟩ := hy2
          omega
        · have : j = K := by omega
          subst this
          rw [hq] at hj; cases hj; exact hy2
      obtain ⟨s8, m8, x1, x2, x3, x4⟩ := ends_same (hV := .int .i64 h) (lv := lv) (belv := bv) (same := .bool true) (n := 2 * (K - 1 - i0)) H G7 (by omega) w3 hq' (by rw [hcm]; exact hyq) (by rw [hcw]; exact h0) (fu + 4)
      obtain ⟨s9, x5⟩ := fin_same (hV := .int .i64 h) (lv := lv) (belv := bv) (n := 2 * (K - 1 - i0) + 3) H x3 x4 (by omega) (by rw [hcm]; exact hyq) (iter (leapfroglaw13x_SpliceIn.l29 std) (fu + 3))
      exact ⟨s9, by rw [show fu + 7 = fu + 4 + 3 by omega, x1, show fu + 4 = fu + 3 + 1 by omega, iter_succ, x5]⟩
    · have hsame : R.any (sameKF me) = false := by simpa using hsame
      rw [hsame]
      rw [List.any_eq_false] at hsame
      have hnk : ¬ keyF q me := fun g => hsame q (List.mem_of_getElem? hq) (sameKF_iff.2 g)
      have hmq : ltF me q := (ltF_total hnk).resolve_left hq1
      have hpm : ltF p me := hlo (K - 1) p (by omega) w3
      obtain ⟨s8, m8, x1, x2, x3, x4⟩ := ends_in (hV := .int .i64 h) (lv := lv) (belv := bv) (same := .bool false) (n := 2 * (K - 1 - i0)) H G7 (by omega) w3 hq' (by rw [hcm]; exact hpm) (by rw [hcm]; exact hmq) (fu + 1)
      have kk := w2.trans x2
      obtain ⟨s9, x5⟩ := fin_in (n := 2 * (K - 1 - i0) + 6) H x3 x4 (by omega) w3 hq' (lv6.stp kk (by simp)) (by omega) hbt (by rw [hcm]; exact (okV_in mv).2.2) (by rw [show K - 1 + 1 = K by omega]; exact hb6.stp kk (by simp)) (by rw [hcw, hcb, hcm, show K - 1 + 1 = K by omega]; exact hmore) (iter (leapfroglaw13x_SpliceIn.l29 std) fu)
      exact ⟨s9, by rw [show fu + 7 = fu + 1 + 6 by omega, x1, iter_succ, x5]⟩
  obtain ⟨s', fin⟩ := fin
  refine ⟨s', ?_⟩
  subst hc
  obtain ⟨_, _, b1, b2, b3⟩ := hb5.at2 (rf_get hp0t)
  obtain ⟨_, _, c1, c2, c3⟩ := hb6.at2 (rf_get hp0t)
  have sp := same5q p0
  have q0 : eqb [3] false false (P s5.n) (.pointer none) = some (.bool false) := rfl
  simp only [args29] at fin
  rw [show ((0 : Nat) : Int) = 0 from rfl] at fin
  rcases hfr with ⟨hf, rfl⟩ | ⟨⟨hf1, hf2⟩, rfl⟩
  · rw [show ((0 : Nat) : Int) = 0 from rfl] at b1 c1
    by_cases g1 : fr < 0
    · simp only [leapfroglaw13x_SpliceIn.t.p2, leapfroglaw13x_SpliceIn.t.p1, sy, reduceIte, Nat.reduceAdd, Nat.reduceLeDiff, Nat.reduceLT, Nat.reduceEqDiff, Int.reduceEq, Int.reduceLT, Int.reduceLE, Int.reduceNe, ly, e1, e2, g1, e3, a1, als_eq, Nat.reduceMul, a2, a3, b1, lda_row b2, b3, q1, c1, samePj, lda_row c2, c3, sp, q0, fin, Nat.one_ne_zero]
    · have g2 : (K : Int) ≤ fr := hf.resolve_left g1
      have g2' : fr ≥ (K : Int) := g2
      simp only [leapfroglaw13x_SpliceIn.t.p2, leapfroglaw13x_SpliceIn.t.p1, sy, reduceIte, Nat.reduceAdd, Nat.reduceLeDiff, Nat.reduceLT, Nat.reduceEqDiff, Int.reduceEq, Int.reduceLT, Int.reduceLE, Int.reduceNe, ly, e1, e2, g1, blen, g2, g2', e3, a1, als_eq, Nat.reduceMul, a2, a3, b1, lda_row b2, b3, q1, c1, samePj, lda_row c2, c3, sp, q0, fin, Nat.one_ne_zero]
  · have g2' : ¬ ((i0 : Nat) : Int) ≥ (K : Int) := hf2
    simp only [leapfroglaw13x_SpliceIn.t.p2, leapfroglaw13x_SpliceIn.t.p1, sy, reduceIte, Nat.reduceAdd, Nat.reduceLeDiff, Nat.reduceLT, Nat.reduceEqDiff, Int.reduceEq, Int.reduceLT, Int.reduceLE, Int.reduceNe, ly, e1, e2, hf1, blen, hf2, g2', e3, a1, als_eq, Nat.reduceMul, a2, a3, b1, lda_row b2, b3, q1, c1, samePj, lda_row c2, c3, sp, q0, fin, Nat.one_ne_zero]
def rfOf : List Value → Rf
  | [.int _ a, .int _ b, .int _ c, .int _ d, .int _ e] => ⟨a, b, c, d, e⟩
  | _ => zR
theorem isF_of {s : St} {v : Value} (h : Leaf.Is s (.sl [.i .i64, .i .i64, .i .u64, .i .i64, .i .u64]) v) : ∃ L : List Rf, (∀ r ∈ L, 0 ≤ r.bt) ∧ ((v = .slice none 0 0 ∧ L = []) ∨ ∃ b cap all, v = .slice (some ⟨b, 0, some 0⟩) L.length (2 * cap) ∧ L.length ≤ cap ∧ s.get b = some (.row 5 all true) ∧ all.take L.length = L.map Rf.cs) := by
  unfold Leaf.Is at h
  rcases h with rfl | ⟨b, len, cap, rows, rfl, h1, h2, h3, h4, h5⟩
  · exact ⟨[], fun p hp => (by cases hp), .inl ⟨rfl, rfl⟩⟩
  · have hrow : ∀ r ∈ rows, r = (rfOf r).cs ∧ 0 ≤ (rfOf r).bt := by
      intro r hr
      have := h5 r hr
      simp only [Leaf.Are, Leaf.Is] at this
      obtain ⟨_, _, rfl, ⟨a1, rfl, _⟩, _, _, rfl, ⟨a2, rfl, _⟩, _, _, rfl, ⟨a3, rfl, _⟩, _, _, rfl, ⟨a4, rfl, _⟩, _, _, rfl, ⟨a5, rfl, ha⟩, rfl⟩ := this
      exact ⟨rfl, (wf_u64 ha).1⟩
    have hlen : ((rows.take len).map rfOf).length = len := by simp; omega
    refine ⟨(rows.take len).map rfOf, fun p hp => ?_, .inr ⟨b, cap, rows, by rw [hlen], by rw [hlen]; exact h1, h3, ?_⟩⟩
    · simp only [List.mem_map] at hp
      obtain ⟨r, hr, rfl⟩ := hp
      exact (hrow r (List.mem_of_mem_take hr)).2
    · rw [hlen, List.map_map]
      refine (List.map_id _).symm.trans (List.map_congr_left fun r hr => ?_)
      exact (hrow r (List.mem_of_mem_take hr)).1
theorem few_l {s : St} {v : Value} (h : Leaf.Is s (.sl [.i .i64, .i .i64, .i .u64, .i .i64, .i .u64]) v) :
    ∃ (len : Int) (L : List Rf) (w : Value), lenL v = some (.int .i64 len) ∧ (∀ r ∈ L, 0 ≤ r.bt) ∧ L.length ≤ 10 ∧ IsR s 5 w (L.map Rf.cs) ∧ ((¬ 10 < len ∧ ¬ len > 10 ∧ v = w) ∨ (10 < len ∧ len > 10 ∧ slc s 5 v none (some (.int .i64 10)) none = some w)) := by
  obtain ⟨L, h0, h⟩ := isF_of h
  rcases h with ⟨rfl, rfl⟩ | ⟨b, cap, all, rfl, h1, h2, h3⟩
  · exact ⟨0, [], _, rfl, h0, by simp, .nil, .inl ⟨by omega, by omega, rfl⟩⟩
  · by_cases k : L.length ≤ 10
    · exact ⟨L.length, L, _, rfl, h0, k, .inr ⟨b, 2 * cap, all, true, by rw [List.length_map], h2, by rw [List.length_map]; exact h3⟩, .inl ⟨by omega, by omega, rfl⟩⟩
    · have hl : (L.take 10).length = 10 := by rw [List.length_take]; omega
      refine ⟨L.length, L.take 10, .slice (some ⟨b, 0, some 0⟩) 10 (2 * cap), rfl, fun p hp => h0 p (List.mem_of_mem_take hp), by omega, .inr ⟨b, 2 * cap, all, true, by rw [List.length_map, hl], h2, ?_⟩, .inr ⟨by omega, by omega, ?_⟩⟩
      · rw [List.length_map, hl, List.map_take, ← h3, List.take_take]
        congr 1
        omega
      · unfold slc
        have z : optN none 0 = some 0 := rfl
        have z' : optN (some (.int .i64 10)) L.length = some 10 := rfl
        have n1 : 2 * cap ≠ 1 := by omega
        have n2 : 10 ≤ 2 * cap / 2 := by omega
        rw [z]
        simp [z', h2, n1, n2]
        omega
open Classical in
theorem law (s : St) (us : List Value) (ha : AllRo s) (hf : ∀ b, s.n ≤ b → s.get b = none) (h : Args s [(false, [.i .i64]), (false, [.i .i64]), (false, [.sl [.i .i64, .i .i64, .i .u64, .i .i64, .i .u64]]), (true, [.i .i64, .i .i64, .i .u64, .i .i64, .i .u64]), (false, [.i .i64])] us) :
    ∃ s', leapfroglaw13x_SpliceIn.w us s = some (.bool true, s') := by
  simp only [Args, Arg] at h
  obtain ⟨a0, _, rfl, h0, a1, _, rfl, h1, v, _, rfl, h2, _, _, rfl, ⟨_, rfl, h3⟩, a4, _, rfl, h4, rfl⟩ := h
  unfold Leaf.Are Leaf.Are Leaf.Is at h0 h1 h4
  unfold Leaf.Are Leaf.Are at h2
  obtain ⟨_, _, g0, ⟨hh, rfl, _⟩, rfl⟩ := h0
  obtain rfl := (List.cons.inj g0).1
  obtain ⟨_, _, g1, ⟨bits, rfl, _⟩, rfl⟩ := h1
  obtain rfl := (List.cons.inj g1).1
  obtain ⟨_, _, g4, ⟨fr, rfl, _⟩, rfl⟩ := h4
  obtain rfl := (List.cons.inj g4).1
  obtain ⟨v', _, g2, h2, rfl⟩ := h2
  obtain rfl : v = v' := (List.cons.inj g2).1
  simp only [Leaf.Are, Leaf.Is] at h3
  obtain ⟨_, _, rfl, ⟨i1, rfl, _⟩, _, _, rfl, ⟨i2, rfl, _⟩, _, _, rfl, ⟨i3, rfl, _⟩, _, _, rfl, ⟨i4, rfl, _⟩, _, _, rfl, ⟨i5, rfl, hi5⟩, rfl⟩ := h3
  have hm0 := (wf_u64 hi5).1
  have hf : Fresh s := hf
  obtain ⟨len, L, w, vlen, hbt, h10, hL, hfew⟩ := few_l h2
  show ∃ s', leapfroglaw13x_SpliceIn.v (.int .i64 hh) (.int .i64 bits) v (.agg ⟨[.int .i64 i1, .int .i64 i2, .int .u64 i3, .int .i64 i4, .int .u64 i5]⟩) (.int .i64 fr) s = some (.bool true, s')
  have al := alive_i s
  by_cases k1 : okV i4 i5
  · obtain ⟨n, b, rfl, rfl, hn, hb⟩ := id k1
    by_cases k2 : 0 ≤ bits ∧ bits ≤ n
    · obtain ⟨i, rfl⟩ : ∃ i : Nat, bits = i := ⟨bits.toNat, by omega⟩
      have hin : i ≤ n := by omega
      have pf := rPrefix_ok s hn hb hin
      have hbw := div_lt_pow hb hin
      have hw : okV (i : Int) ((b / 2 ^ (n - i) : Nat) : Int) := ⟨i, _, rfl, rfl, by omega, hbw⟩
      have hB : BG (n : Int) (b : Int) (i : Int) ((b / 2 ^ (n - i) : Nat) : Int) := ⟨k1, hw, by omega, by simp only [Int.toNat_natCast]⟩
      have ck := gcheck_r (h := hh) hL hbt (by omega)
      by_cases k3 : OkG hh L
      · rw [if_pos k3] at ck
        have m1 : More s (s.new (.row 5 [[.int .i64 900, .int .i64 i2, .int .u64 i3, .int .i64 (n : Int), .int .u64 (b : Int)]] false)) := .new
        have hme : IsR (s.new (.row 5 [[.int .i64 900, .int .i64 i2, .int .u64 i3, .int .i64 (n : Int), .int .u64 (b : Int)]] false)) 5 (.slice (some ⟨s.n, 0, some 0⟩) 1 2) (([(⟨900, i2, i3, n, b⟩ : Rf)]).map Rf.cs) := (ful_one (n0 := 0) (Nat.zero_le _)).isR
        have ck2 := gcheck_r (h := hh) hme (fun r hr => by rw [List.mem_singleton] at hr; subst hr; exact hm0) (by simp)
        have f1 := m1.fresh hf
        have hL1 := hL.more m1 hf
        obtain ⟨s1, hs1⟩ : ∃ s1, s.new (.row 5 [[.int .i64 900, .int .i64 i2, .int .u64 i3, .int .i64 (n : Int), .int .u64 (b : Int)]] false) = s1 := ⟨_, rfl⟩
        rw [hs1] at m1 hme ck2 f1 hL1
        have al1 := alive_i s1
        by_cases k4 : OkG hh [(⟨900, i2, i3, n, b⟩ : Rf)]
        · rw [if_pos k4] at ck2
          obtain ⟨_, _, q2, _, q4⟩ := k4.mem _ (List.mem_singleton.2 rfl)
          have gv := guard_v (hV := .int .i64 hh) (fV := .int .i64 fr) (me := ⟨900, i2, i3, n, b⟩) (wl := (i : Int)) (wb := ((b / 2 ^ (n - i) : Nat) : Int)) hL1 (by omega)
          rw [show ((0 : Nat) : Int) = 0 from rfl] at gv
          by_cases k5 : ∀ x ∈ L, ¬ (x.id = (⟨900, i2, i3, n, b⟩ : Rf).id ∨ (keyF x ⟨900, i2, i3, n, b⟩ ∧ 0 < (i : Int)))
          · rw [if_pos k5] at gv
            have hnh : (n : Int) = hh := q4
            obtain ⟨s', re⟩ := rest_v (h := hh) (wl := (i : Int)) (wb := ((b / 2 ^ (n - i) : Nat) : Int)) (fr := fr) (me := ⟨900, i2, i3, n, b⟩) f1 hL1 h10 k3 hw (by omega) hbt q2 k1 rfl hB k5
            refine ⟨s', ?_⟩
            rcases hfew with ⟨e10, e10', rfl⟩ | ⟨e10, e10', hs⟩
            · simp only [leapfroglaw13x_SpliceIn.v, leapfroglaw13x_SpliceIn.t, sy, reduceIte, Nat.reduceAdd, Nat.reduceLeDiff, Nat.reduceLT, Nat.reduceEqDiff, Int.reduceEq, Int.reduceLT, Int.reduceLE, Int.reduceNe, ly, vlen, e10, e10', pf, ck, als_eq, Nat.reduceMul, hs1, ck2, gv, re]
            · simp only [leapfroglaw13x_SpliceIn.v, leapfroglaw13x_SpliceIn.t, sy, reduceIte, Nat.reduceAdd, Nat.reduceLeDiff, Nat.reduceLT, Nat.reduceEqDiff, Int.reduceEq, Int.reduceLT, Int.reduceLE, Int.reduceNe, ly, vlen, e10, e10', hs, pf, ck, als_eq, Nat.reduceMul, hs1, ck2, gv, re]
          · rw [if_neg k5] at gv
            refine ⟨s1, ?_⟩
            rcases hfew with ⟨e10, e10', rfl⟩ | ⟨e10, e10', hs⟩
            · simp only [leapfroglaw13x_SpliceIn.v, leapfroglaw13x_SpliceIn.t, sy, reduceIte, Nat.reduceAdd, Nat.reduceLeDiff, Nat.reduceLT, Nat.reduceEqDiff, Int.reduceEq, Int.reduceLT, Int.reduceLE, Int.reduceNe, ly, vlen, e10, e10', pf, ck, als_eq, Nat.reduceMul, hs1, ck2, gv, Nat.one_ne_zero]
            · simp only [leapfroglaw13x_SpliceIn.v, leapfroglaw13x_SpliceIn.t, sy, reduceIte, Nat.reduceAdd, Nat.reduceLeDiff, Nat.reduceLT, Nat.reduceEqDiff, Int.reduceEq, Int.reduceLT, Int.reduceLE, Int.reduceNe, ly, vlen, e10, e10', hs, pf, ck, als_eq, Nat.reduceMul, hs1, ck2, gv, Nat.one_ne_zero]
        · rw [if_neg k4] at ck2
          refine ⟨s1, ?_⟩
          rcases hfew with ⟨e10, e10', rfl⟩ | ⟨e10, e10', hs⟩
          · simp only [leapfroglaw13x_SpliceIn.v, leapfroglaw13x_SpliceIn.t, sy, reduceIte, Nat.reduceAdd, Nat.reduceLeDiff, Nat.reduceLT, Nat.reduceEqDiff, Int.reduceEq, Int.reduceLT, Int.reduceLE, Int.reduceNe, ly, vlen, e10, e10', pf, ck, als_eq, Nat.reduceMul, hs1, ck2, al1]
          · simp only [leapfroglaw13x_SpliceIn.v, leapfroglaw13x_SpliceIn.t, sy, reduceIte, Nat.reduceAdd, Nat.reduceLeDiff, Nat.reduceLT, Nat.reduceEqDiff, Int.reduceEq, Int.reduceLT, Int.reduceLE, Int.reduceNe, ly, vlen, e10, e10', hs, pf, ck, als_eq, Nat.reduceMul, hs1, ck2, al1]
      · rw [if_neg k3] at ck
        refine ⟨s, ?_⟩
        rcases hfew with ⟨e10, e10', rfl⟩ | ⟨e10, e10', hs⟩
        · simp only [leapfroglaw13x_SpliceIn.v, leapfroglaw13x_SpliceIn.t, sy, reduceIte, Nat.reduceAdd, Nat.reduceLeDiff, Nat.reduceLT, Nat.reduceEqDiff, Int.reduceEq, Int.reduceLT, Int.reduceLE, Int.reduceNe, ly, vlen, e10, e10', pf, ck, al]
        · simp only [leapfroglaw13x_SpliceIn.v, leapfroglaw13x_SpliceIn.t, sy, reduceIte, Nat.reduceAdd, Nat.reduceLeDiff, Nat.reduceLT, Nat.reduceEqDiff, Int.reduceEq, Int.reduceLT, Int.reduceLE, Int.reduceNe, ly, vlen, e10, e10', hs, pf, ck, al]
    · have pf := rPrefix_out (i := bits) s hn hb k2
      refine ⟨s, ?_⟩
      rcases hfew with ⟨e10, e10', rfl⟩ | ⟨e10, e10', hs⟩
      · simp only [leapfroglaw13x_SpliceIn.v, leapfroglaw13x_SpliceIn.t, sy, reduceIte, Nat.reduceAdd, Nat.reduceLeDiff, Nat.reduceLT, Nat.reduceEqDiff, Int.reduceEq, Int.reduceLT, Int.reduceLE, Int.reduceNe, ly, vlen, e10, e10', pf, al]
      · simp only [leapfroglaw13x_SpliceIn.v, leapfroglaw13x_SpliceIn.t, sy, reduceIte, Nat.reduceAdd, Nat.reduceLeDiff, Nat.reduceLT, Nat.reduceEqDiff, Int.reduceEq, Int.reduceLT, Int.reduceLE, Int.reduceNe, ly, vlen, e10, e10', hs, pf, al]
  · have pf := rPrefix_no (i := bits) s k1 hm0
    refine ⟨s, ?_⟩
    rcases hfew with ⟨e10, e10', rfl⟩ | ⟨e10, e10', hs⟩
    · simp only [leapfroglaw13x_SpliceIn.v, leapfroglaw13x_SpliceIn.t, sy, reduceIte, Nat.reduceAdd, Nat.reduceLeDiff, Nat.reduceLT, Nat.reduceEqDiff, Int.reduceEq, Int.reduceLT, Int.reduceLE, Int.reduceNe, ly, vlen, e10, e10', pf, al]
    · simp only [leapfroglaw13x_SpliceIn.v, leapfroglaw13x_SpliceIn.t, sy, reduceIte, Nat.reduceAdd, Nat.reduceLeDiff, Nat.reduceLT, Nat.reduceEqDiff, Int.reduceEq, Int.reduceLT, Int.reduceLE, Int.reduceNe, ly, vlen, e10, e10', hs, pf, al]
end SpliceIn
end Go.Proofs.Yteiagjbjokldgaa
