/-
  Slices in general; the reference's look at a graph.
-/
import Derived.Test.YteiagjbjokldgaaPesD
set_option linter.unusedSimpArgs false
set_option linter.unusedVariables false
set_option maxRecDepth 100000
set_option maxHeartbeats 4000000
namespace Go.Proofs.Yteiagjbjokldgaa
open Go.Sim Go.Sim.Bt
attribute [local congr] bdc cndc itec gdc gdSc gdUc

theorem app_many {s0 s : St} {sz by_ : Nat} {v w : Value} {rows news : List (List Value)} (f : Fresh s) (h : Ful s0.n s sz v rows) (m : More s0 s) (hl : lenV w = some news.length) (hr : rowsOf s sz news.length w = some news) (hb : (rows.length + news.length) * by_ ≤ 140737488355328) (hlm : rows.length + news.length ≤ 9223372036854775807) (e0 : 0 < news.length) :
    ∃ v' s', app s sz by_ v w = some (v', s') ∧ More s0 s' ∧ Ful s0.n s' sz v' (rows ++ news) ∧ Fresh s' := by
  rcases h with ⟨rfl, rfl⟩ | ⟨b, e, h0, rfl, hg, he⟩
  · refine ⟨_, _, app_nil hl hr e0 (by simpa using hb) (by simpa using hlm), m.trans .new, .inr ⟨s.n, 1, m.n, by simp, get_new_same, .inl rfl⟩, f.new⟩
  · rcases he with rfl | rfl
    · refine ⟨_, _, app_own hl hr hg (Nat.le_refl _) e0 hb hlm, (m.del h0).trans .new, .inr ⟨s.n, 1, m.n, by simp, ?_, .inl rfl⟩, f.del.new⟩
      rw [List.take_length]; exact get_new_same (s := s.del b)
    · refine ⟨_, _, app_full hl hr hg (by omega) (by omega) (by omega) hb hlm, m.trans .new, .inr ⟨s.n, 1, m.n, by simp, ?_, .inl rfl⟩, f.new⟩
      simp only [List.drop_zero, List.take_length]
      exact get_new_same
theorem app_any {s0 s : St} {sz by_ : Nat} {v w : Value} {rows news : List (List Value)} (f : Fresh s) (h : Ful s0.n s sz v rows) (m : More s0 s) (hl : lenV w = some news.length) (hr : rowsOf s sz news.length w = some news) (hb : (rows.length + news.length) * by_ ≤ 140737488355328) (hlm : rows.length + news.length ≤ 9223372036854775807) :
    ∃ v' s', app s sz by_ v w = some (v', s') ∧ More s0 s' ∧ Ful s0.n s' sz v' (rows ++ news) ∧ Fresh s' := by
  rcases Nat.eq_zero_or_pos news.length with e0 | e0
  · have en : news = [] := List.eq_nil_of_length_eq_zero e0
    subst en
    rw [List.append_nil]
    simp only [List.length_nil, Nat.add_zero] at hl hr hb hlm
    rcases h with ⟨rfl, rfl⟩ | ⟨b, e, h0, rfl, hg, he⟩
    · exact ⟨_, _, app_nil0 hl hr, m, .inl ⟨rfl, rfl⟩, f⟩
    · rcases he with rfl | rfl
      · refine ⟨.slice (some ⟨b, 0, some 0⟩) rows.length 1, s, ?_, m, .inr ⟨b, 1, h0, rfl, hg, .inl rfl⟩, f⟩
        simp only [app, hl, hr, hg]
        rw [if_pos ⟨trivial, by omega⟩, if_pos ⟨by simpa using hb, by omega⟩]
        simp
      · refine ⟨.slice (some ⟨b, 0, some 0⟩) rows.length (2 * rows.length), s.put b (.row sz rows false), ?_, m.put h0, .inr ⟨b, _, h0, rfl, get_put_same hg, .inr rfl⟩, f.put⟩
        simp only [app, hl, hr, hg]
        rw [if_pos ⟨trivial, by omega⟩, if_pos ⟨by simpa using hb, by omega⟩, if_neg (by omega), if_pos (by omega)]
        simp
  · exact app_many f h m hl hr hb hlm e0
/-- Any slice, be it a part of another one. -/
def Sli (s : St) (sz : Nat) (v : Value) (rows : List (List Value)) : Prop :=
  (v = .slice none 0 0 ∧ rows = []) ∨ ∃ b i e all ro, v = .slice (some ⟨b, i, some 0⟩) rows.length e ∧ s.get b = some (.row sz all ro) ∧ i + rows.length ≤ all.length ∧ (all.drop i).take rows.length = rows
theorem Sli.more {s s' : St} {sz : Nat} {v : Value} {rows : List (List Value)} (h : Sli s sz v rows) (m : More s s') (f : Fresh s) : Sli s' sz v rows := by
  rcases h with h | ⟨b, i, e, all, ro, h1, h2, h3, h4⟩
  · exact .inl h
  · exact .inr ⟨b, i, e, all, ro, h1, m.get f h2, h3, h4⟩
theorem Sli.lenV {s : St} {sz : Nat} {v : Value} {rows : List (List Value)} (h : Sli s sz v rows) : Sim.lenV v = some rows.length := by
  rcases h with ⟨rfl, rfl⟩ | ⟨b, i, e, all, ro, rfl, _⟩ <;> rfl
theorem Sli.rowsOf {s : St} {sz : Nat} {v : Value} {rows : List (List Value)} (h : Sli s sz v rows) : Sim.rowsOf s sz rows.length v = some rows := by
  rcases h with ⟨rfl, rfl⟩ | ⟨b, i, e, all, ro, rfl, h2, h3, h4⟩
  · rfl
  · rw [rowsOf_row h2 (Nat.le_refl _) h3, h4]
theorem Sli.same {s : St} {sz : Nat} {v : Value} {rows : List (List Value)} (h : Sli s sz v rows) : sameV v v = true := by
  rcases h with ⟨rfl, rfl⟩ | ⟨b, i, e, all, ro, rfl, _⟩ <;> simp [sameV]
theorem IsR.sli {s : St} {sz : Nat} {v : Value} {rows : List (List Value)} (h : IsR s sz v rows) : Sli s sz v rows := by
  rcases h with h | ⟨b, e, all, ro, h1, h2, h3⟩
  · exact .inl h
  · refine .inr ⟨b, 0, e, all, ro, h1, h2, ?_, by simpa using h3⟩
    have := congrArg List.length h3
    rw [List.length_take] at this
    omega
/-- A slice of one's own, cut in two. -/
theorem ful_cut {n0 : Nat} {s : St} {sz : Nat} {v : Value} {rows : List (List Value)} {k : Nat} (f : Fresh s) (h : Ful n0 s sz v rows) (hk : k ≤ rows.length) :
    ∃ x y, Sli s sz x (rows.take k) ∧ Sli s sz y (rows.drop k) ∧ ∀ s', More s s' → slc s' sz v none (some (.int .i64 (k : Int))) none = some x ∧ slc s' sz v (some (.int .i64 (k : Int))) none none = some y := by
  rcases h with ⟨rfl, rfl⟩ | ⟨b, e, _, rfl, hg, he⟩
  · have hk0 : k = 0 := by simpa using hk
    subst hk0
    exact ⟨.slice none 0 0, .slice none 0 0, .inl ⟨rfl, rfl⟩, .inl ⟨rfl, rfl⟩, fun s' _ => ⟨rfl, rfl⟩⟩
  · refine ⟨.slice (some ⟨b, 0, some 0⟩) k e, .slice (some ⟨b, k, some 0⟩) (rows.length - k) (if e = 1 then 1 else 2 * (e / 2 - k)), .inr ⟨b, 0, e, rows, false, ?_, hg, ?_, ?_⟩, .inr ⟨b, k, (if e = 1 then 1 else 2 * (e / 2 - k)), rows, false, ?_, hg, ?_, ?_⟩, fun s' m => ?_⟩
    · rw [List.length_take, Nat.min_eq_left hk]
    · rw [List.length_take]; omega
    · rw [List.length_take, Nat.min_eq_left hk, List.drop_zero]
    · rw [List.length_drop]
    · rw [List.length_drop]; omega
    · rw [List.take_length]
    · have hg' := m.get f hg
      exact ⟨slc_to hg' hk he, slc_from hg' hk he⟩
theorem Ful.len {n0 : Nat} {s : St} {sz : Nat} {v : Value} {rows : List (List Value)} (h : Ful n0 s sz v rows) : lenL v = some (.int .i64 rows.length) := h.isR.len
theorem ful_new (s : St) (sz : Nat) {n0 : Nat} (hn : n0 ≤ s.n) : Ful n0 (s.new (.row sz [] false)) sz (.slice (some ⟨s.n, 0, some 0⟩) 0 0) [] :=
  .inr ⟨s.n, 0, hn, rfl, get_new_same, .inr rfl⟩

/-! ### Which graphs may be -/

open Classical in
/-- One member is looked at, beside those ahead of it. -/
theorem check_in {h : Int} {v : Value} {l : List Rf} {s : St} {i : Nat} {x : Rf} {c4 c5 c6 c7 c8 c9 c10 c11 c12 c13 : Value} (hv : IsR s 5 v (l.map Rf.cs)) (hi : i ≤ l.length) (hl : l.length ≤ 1000000) :
    iter (leapfrogref11x_Check.l10 std) BIG [.int .i64 h, v, .int .i64 (i : Int), .int .i64 ((0 : Nat) : Int), c4, c5, c6, c7, c8, c9, c10, c11, c12, c13, .agg ⟨x.cs⟩] s =
      some (if (∀ (k : Nat) y, k < i → l[k]? = some y → ¬ (y.id = x.id ∨ keyF y x)) then ((0, [.int .i64 h, v, .int .i64 (i : Int), c4, c5, c6, c7, c8, c9, c10, c11, c12, c13], s) : Cut) else ((1, [.int .i64 110], s) : Cut)) := by
  refine iter_rel (fun d xs s' => ∃ k : Nat, k + d = i ∧ (∀ (j : Nat) y, j < k → l[j]? = some y → ¬ (y.id = x.id ∨ keyF y x)) ∧ s' = s ∧ xs = [.int .i64 h, v, .int .i64 (i : Int), .int .i64 (k : Int), c4, c5, c6, c7, c8, c9, c10, c11, c12, c13, .agg ⟨x.cs⟩])
    (fun y : Option Cut => y = some (if (∀ (k : Nat) y, k < i → l[k]? = some y → ¬ (y.id = x.id ∨ keyF y x)) then ((0, [.int .i64 h, v, .int .i64 (i : Int), c4, c5, c6, c7, c8, c9, c10, c11, c12, c13], s) : Cut) else ((1, [.int .i64 110], s) : Cut))) ?_ BIG i _ s (by unfold BIG; omega) ⟨0, by omega, fun j y hj => by omega, rfl, rfl⟩
  rintro d xs s2 rec ⟨k, hk, hall, rfl, rfl⟩ ih
  cases d with
  | zero =>
    have e1 : ¬ ((k : Int) < (i : Int)) := by omega
    rw [if_pos fun j y hj hy => hall j y (by omega) hy]
    simp only [leapfrogref11x_Check.l10, sy, reduceIte, Nat.reduceAdd, Nat.reduceLeDiff, Nat.reduceLT, Nat.reduceEqDiff, Int.reduceEq, Int.reduceLT, Int.reduceLE, Int.reduceNe, ly, e1]
  | succ d =>
    have e1 : (k : Int) < (i : Int) := by omega
    have e5 : IntKind.i64.wrap ((k : Int) + 1) = ((k + 1 : Nat) : Int) := by rw [wrap64 (by omega) (by omega)]; omega
    obtain ⟨y, hy⟩ := get_some (l := l) (j := k) (by omega)
    obtain ⟨all, ro, a1, a2, a3⟩ := hv.at2 (rf_get hy)
    by_cases q1 : y.id = x.id
    · rw [if_neg fun g => g k y (by omega) hy (.inl q1)]
      simp only [leapfrogref11x_Check.l10, sy, reduceIte, Nat.reduceAdd, Nat.reduceLeDiff, Nat.reduceLT, Nat.reduceEqDiff, Int.reduceEq, Int.reduceLT, Int.reduceLE, Int.reduceNe, ly, e1, a1, ldc_row a2, lda_row a2, a3, q1]
    · by_cases q2 : y.rk = x.rk
      · by_cases q3 : y.n = x.n
        · rw [if_neg fun g => g k y (by omega) hy (.inr ⟨q2, q3⟩)]
          simp only [leapfrogref11x_Check.l10, sy, reduceIte, Nat.reduceAdd, Nat.reduceLeDiff, Nat.reduceLT, Nat.reduceEqDiff, Int.reduceEq, Int.reduceLT, Int.reduceLE, Int.reduceNe, ly, e1, a1, ldc_row a2, lda_row a2, a3, q1, q2, q3]
        · have fin := ih d _ s2 (by omega) ⟨k + 1, by omega, fun j z hj hz => by
            by_cases e : j = k
            · subst e; rw [hy] at hz; cases hz; exact fun g => g.elim q1 fun g => q3 g.2
            · exact hall j z (by omega) hz, rfl, rfl⟩
          rw [← fin]
          simp only [leapfrogref11x_Check.l10, sy, reduceIte, Nat.reduceAdd, Nat.reduceLeDiff, Nat.reduceLT, Nat.reduceEqDiff, Int.reduceEq, Int.reduceLT, Int.reduceLE, Int.reduceNe, ly, e1, a1, ldc_row a2, lda_row a2, a3, q1, q2, q3, e5]
      · have fin := ih d _ s2 (by omega) ⟨k + 1, by omega, fun j z hj hz => by
          by_cases e : j = k
          · subst e; rw [hy] at hz; cases hz; exact fun g => g.elim q1 fun g => q2 g.1
          · exact hall j z (by omega) hz, rfl, rfl⟩
        rw [← fin]
        simp only [leapfrogref11x_Check.l10, sy, reduceIte, Nat.reduceAdd, Nat.reduceLeDiff, Nat.reduceLT, Nat.reduceEqDiff, Int.reduceEq, Int.reduceLT, Int.reduceLE, Int.reduceNe, ly, e1, a1, ldc_row a2, lda_row a2, a3, q1, q2, e5]
def okM (h : Int) (r : Rf) : Prop := 2 ≤ r.id ∧ r.id < 1024 ∧ r.rk = 2 ∧ okV r.ln r.bt ∧ r.ln = h
theorem okG_iff {h : Int} {l : List Rf} : OkG h l ↔ 0 ≤ h ∧ h ≤ 32 ∧ l.length ≤ 1022 ∧ ∀ (i : Nat) x, l[i]? = some x → okM h x ∧ ∀ (k : Nat) y, k < i → l[k]? = some y → ¬ (y.id = x.id ∨ keyF y x) := by
  constructor
  · intro g
    refine ⟨g.h0, g.h1, g.len, fun i x hx => ⟨g.mem x (List.mem_of_getElem? hx), fun k y hk hy => ?_⟩⟩
    obtain ⟨i1, i2⟩ := List.getElem?_eq_some_iff.1 hx
    obtain ⟨k1, k2⟩ := List.getElem?_eq_some_iff.1 hy
    have := List.pairwise_iff_getElem.1 g.ne k i k1 i1 hk
    rwa [i2, k2] at this
  · rintro ⟨h0, h1, h2, h3⟩
    refine ⟨h0, h1, h2, fun r hr => ?_, List.pairwise_iff_getElem.2 fun k i hk hi hki => ?_⟩
    · obtain ⟨i, hi⟩ := List.getElem?_of_mem hr
      exact (h3 i r hi).1
    · exact (h3 i _ (List.getElem?_eq_getElem hi)).2 k _ hki (List.getElem?_eq_getElem hk)
open Classical in
theorem gcheck_r {h : Int} {v : Value} {l : List Rf} {s : St} (hv : IsR s 5 v (l.map Rf.cs)) (hb : ∀ r ∈ l, 0 ≤ r.bt) (hl : l.length ≤ 1000000) :
    leapfrogref11x_Check.r (.int .i64 h) v s = some (.int .i64 (if OkG h l then 0 else 110)) := by
  have hlen := hv.len
  rw [List.length_map] at hlen
  by_cases c1 : h < 0
  · rw [if_neg fun g => by have := g.h0; omega]
    simp only [leapfrogref11x_Check.r, leapfrogref11x_Check.t, sy, reduceIte, Nat.reduceAdd, Nat.reduceLeDiff, Nat.reduceLT, Nat.reduceEqDiff, Int.reduceEq, Int.reduceLT, Int.reduceLE, Int.reduceNe, ly, c1]
  · by_cases c2 : 32 < h
    · rw [if_neg fun g => by have := g.h1; omega]
      have c2' : h > 32 := c2
      simp only [leapfrogref11x_Check.r, leapfrogref11x_Check.t, sy, reduceIte, Nat.reduceAdd, Nat.reduceLeDiff, Nat.reduceLT, Nat.reduceEqDiff, Int.reduceEq, Int.reduceLT, Int.reduceLE, Int.reduceNe, ly, c1, c2, c2']
    · have c2' : ¬ h > 32 := c2
      by_cases c3 : (1022 : Int) < (l.length : Int)
      · rw [if_neg fun g => by have := g.len; omega]
        have c3' : (l.length : Int) > 1022 := c3
        simp only [leapfrogref11x_Check.r, leapfrogref11x_Check.t, sy, reduceIte, Nat.reduceAdd, Nat.reduceLeDiff, Nat.reduceLT, Nat.reduceEqDiff, Int.reduceEq, Int.reduceLT, Int.reduceLE, Int.reduceNe, ly, c1, c2, c2', hlen, c3, c3']
      · have c3' : ¬ (l.length : Int) > 1022 := c3
        have it : iter (leapfrogref11x_Check.l4 std) BIG [.int .i64 h, v, .int .i64 ((0 : Nat) : Int)] s = some (if OkG h l then ((0, [], s) : Cut) else ((1, [.int .i64 110], s) : Cut)) := by
          refine iter_rel (fun d xs s' => ∃ i : Nat, i + d = l.length ∧ (∀ (j : Nat) x, j < i → l[j]? = some x → okM h x ∧ ∀ (k : Nat) y, k < j → l[k]? = some y → ¬ (y.id = x.id ∨ keyF y x)) ∧ s' = s ∧ xs = [.int .i64 h, v, .int .i64 (i : Int)])
            (fun y : Option Cut => y = some (if OkG h l then ((0, [], s) : Cut) else ((1, [.int .i64 110], s) : Cut))) ?_ BIG l.length _ s (by unfold BIG; omega) ⟨0, by omega, fun j x hj => by omega, rfl, rfl⟩
          rintro d xs s2 rec ⟨i, hi, hall, rfl, rfl⟩ ih
          cases d with
          | zero =>
            have e1 : ¬ ((i : Int) < (l.length : Int)) := by omega
            rw [if_pos (okG_iff.2 ⟨by omega, by omega, by omega, fun j x hx => hall j x (by have := (List.getElem?_eq_some_iff.1 hx).1; omega) hx⟩)]
            simp only [leapfrogref11x_Check.l4, sy, reduceIte, Nat.reduceAdd, Nat.reduceLeDiff, Nat.reduceLT, Nat.reduceEqDiff, Int.reduceEq, Int.reduceLT, Int.reduceLE, Int.reduceNe, ly, hlen, e1]
          | succ d =>
            have e1 : (i : Int) < (l.length : Int) := by omega
            have e5 : IntKind.i64.wrap ((i : Int) + 1) = ((i + 1 : Nat) : Int) := by rw [wrap64 (by omega) (by omega)]; omega
            obtain ⟨x, hx⟩ := get_some (l := l) (j := i) (by omega)
            obtain ⟨all, ro, a1, a2, a3⟩ := hv.at2 (rf_get hx)
            have rr := rright_i x.ln x.bt (hb x (List.mem_of_getElem? hx)) s2
            have no : ¬ okM h x → ¬ OkG h l := fun n g => n (g.mem x (List.mem_of_getElem? hx))
            have nr : ∀ X : Cut → Prop, True := fun _ => trivial
            by_cases k1 : x.id < 2
            · rw [if_neg (no fun g => by have := g.1; omega)]
              simp only [leapfrogref11x_Check.l4, sy, reduceIte, Nat.reduceAdd, Nat.reduceLeDiff, Nat.reduceLT, Nat.reduceEqDiff, Int.reduceEq, Int.reduceLT, Int.reduceLE, Int.reduceNe, ly, hlen, e1, a1, lda_row a2, a3, k1]
            · by_cases k2 : 1024 ≤ x.id
              · rw [if_neg (no fun g => by have := g.2.1; omega)]
                have k2' : x.id ≥ 1024 := k2
                simp only [leapfrogref11x_Check.l4, sy, reduceIte, Nat.reduceAdd, Nat.reduceLeDiff, Nat.reduceLT, Nat.reduceEqDiff, Int.reduceEq, Int.reduceLT, Int.reduceLE, Int.reduceNe, ly, hlen, e1, a1, lda_row a2, a3, k1, k2, k2']
              · have k2' : ¬ x.id ≥ 1024 := k2
                by_cases k3 : x.rk = 2
                · by_cases k4 : okV x.ln x.bt
                  · rw [decide_eq_true k4] at rr
                    by_cases k5 : x.ln = h
                    · have rr : leapfrogref01x_Right.r (.agg ⟨[.int .i64 x.ln, .int .u64 x.bt]⟩) s2 = some (.bool true) := rr
                      have hin := fun c4 c5 c6 c7 c8 c9 c10 c11 c12 c13 => check_in (h := h) (x := x) (c4 := c4) (c5 := c5) (c6 := c6) (c7 := c7) (c8 := c8) (c9 := c9) (c10 := c10) (c11 := c11) (c12 := c12) (c13 := c13) hv (i := i) (by omega) hl
                      rw [show ((0 : Nat) : Int) = 0 from rfl] at hin
                      have k3 := eq_true k3
                      have k5 := eq_true k5
                      by_cases k6 : ∀ (k : Nat) y, k < i → l[k]? = some y → ¬ (y.id = x.id ∨ keyF y x)
                      · simp only [if_pos k6] at hin
                        have fin := ih d _ s2 (by omega) ⟨i + 1, by omega, fun j z hj hz => by
                          by_cases e : j = i
                          · subst e; rw [hx] at hz; cases hz; exact ⟨⟨by omega, by omega, of_eq_true k3, k4, of_eq_true k5⟩, k6⟩
                          · exact hall j z (by omega) hz, rfl, rfl⟩
                        rw [← fin]
                        simp only [leapfrogref11x_Check.l4, sy, reduceIte, Nat.reduceAdd, Nat.reduceLeDiff, Nat.reduceLT, Nat.reduceEqDiff, Int.reduceEq, Int.reduceLT, Int.reduceLE, Int.reduceNe, ly, hlen, e1, a1, lda_row a2, a3, k1, k2, k2', k3, rr, k5, hin, e5]
                      · simp only [if_neg k6] at hin
                        rw [if_neg fun g => k6 ((okG_iff.1 g).2.2.2 i x hx).2]
                        simp only [leapfrogref11x_Check.l4, sy, reduceIte, Nat.reduceAdd, Nat.reduceLeDiff, Nat.reduceLT, Nat.reduceEqDiff, Int.reduceEq, Int.reduceLT, Int.reduceLE, Int.reduceNe, ly, hlen, e1, a1, lda_row a2, a3, k1, k2, k2', k3, rr, k5, hin]
                        first | done | simp
                    · rw [if_neg (no fun g => k5 g.2.2.2.2)]
                      simp only [leapfrogref11x_Check.l4, sy, reduceIte, Nat.reduceAdd, Nat.reduceLeDiff, Nat.reduceLT, Nat.reduceEqDiff, Int.reduceEq, Int.reduceLT, Int.reduceLE, Int.reduceNe, ly, hlen, e1, a1, lda_row a2, a3, k1, k2, k2', k3, rr, k5]
                  · rw [decide_eq_false k4] at rr
                    rw [if_neg (no fun g => k4 g.2.2.2.1)]
                    simp only [leapfrogref11x_Check.l4, sy, reduceIte, Nat.reduceAdd, Nat.reduceLeDiff, Nat.reduceLT, Nat.reduceEqDiff, Int.reduceEq, Int.reduceLT, Int.reduceLE, Int.reduceNe, ly, hlen, e1, a1, lda_row a2, a3, k1, k2, k2', k3, rr]
                · rw [if_neg (no fun g => k3 g.2.2.1)]
                  simp only [leapfrogref11x_Check.l4, sy, reduceIte, Nat.reduceAdd, Nat.reduceLeDiff, Nat.reduceLT, Nat.reduceEqDiff, Int.reduceEq, Int.reduceLT, Int.reduceLE, Int.reduceNe, ly, hlen, e1, a1, lda_row a2, a3, k1, k2, k2', k3]
        rw [show ((0 : Nat) : Int) = 0 from rfl] at it
        by_cases ok : OkG h l
        · rw [if_pos ok] at it ⊢
          simp only [leapfrogref11x_Check.r, leapfrogref11x_Check.t, sy, reduceIte, Nat.reduceAdd, Nat.reduceLeDiff, Nat.reduceLT, Nat.reduceEqDiff, Int.reduceEq, Int.reduceLT, Int.reduceLE, Int.reduceNe, ly, c1, c2, c2', hlen, c3, c3', it]
        · rw [if_neg ok] at it ⊢
          simp only [leapfrogref11x_Check.r, leapfrogref11x_Check.t, sy, reduceIte, Nat.reduceAdd, Nat.reduceLeDiff, Nat.reduceLT, Nat.reduceEqDiff, Int.reduceEq, Int.reduceLT, Int.reduceLE, Int.reduceNe, ly, c1, c2, c2', hlen, c3, c3', it]
          first | done | simp
end Go.Proofs.Yteiagjbjokldgaa
