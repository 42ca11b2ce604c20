/-
  Rows of a graph's lists, in memory.
-/
import Derived.Test.YteiagjbjokldgaaPesF
set_option linter.unusedSimpArgs false
set_option linter.unusedVariables false
set_option maxRecDepth 100000
set_option maxHeartbeats 4000000
namespace Go.Proofs.Yteiagjbjokldgaa
open Go.Sim Go.Sim.Bt
attribute [local congr] bdc cndc itec gdc gdSc gdUc

theorem tw_len {p : Rf → Bool} : ∀ {l : List Rf} {k : Nat}, (∀ (j : Nat) y, j < k → l[j]? = some y → p y = true) → (k = l.length ∨ ∃ y, l[k]? = some y ∧ p y = false) → l.takeWhile p = l.take k ∧ l.dropWhile p = l.drop k
  | [], k, h1, h2 => by
    rcases h2 with h2 | ⟨y, h2, _⟩
    · simp
    · simp at h2
  | z :: l, 0, h1, h2 => by
    rcases h2 with h2 | ⟨y, h2, h3⟩
    · simp at h2
    · simp only [List.getElem?_cons_zero, Option.some.injEq] at h2
      subst h2
      simp [List.takeWhile_cons, List.dropWhile_cons, h3]
  | z :: l, k + 1, h1, h2 => by
    have hz := h1 0 z (by omega) rfl
    have ih := tw_len (p := p) (l := l) (k := k) (fun j y hj hy => h1 (j + 1) y (by omega) hy) (by
      rcases h2 with h2 | ⟨y, h2, h3⟩
      · left; simpa using h2
      · exact .inr ⟨y, h2, h3⟩)
    simp [List.takeWhile_cons, List.dropWhile_cons, hz, ih.1, ih.2]
theorem sort_find {v ov : Value} {l out : List Rf} {s : St} {i : Nat} {x : Rf} (hv : IsR s 5 v (l.map Rf.cs)) (hx : l[i]? = some x) (ho : IsR s 5 ov (out.map Rf.cs)) (hl : out.length ≤ 1000000) :
    ∃ (k : Nat) (tl : List Value), k ≤ out.length ∧ out.takeWhile (fun y => lessF y x) = out.take k ∧ out.dropWhile (fun y => lessF y x) = out.drop k ∧
      iter (leapfrogref11x_sorted.l6 std) BIG [v, ov, .int .i64 (i : Int), .int .i64 ((0 : Nat) : Int)] s = some ((0, v :: ov :: .int .i64 (i : Int) :: .int .i64 (k : Int) :: tl, s) : Cut) := by
  have hlen := ho.len
  rw [List.length_map] at hlen
  obtain ⟨all, ro, b1, b2, b3⟩ := hv.at2 (rf_get hx)
  refine iter_rel (fun d xs s' => ∃ k : Nat, k + d = out.length ∧ (∀ (j : Nat) y, j < k → out[j]? = some y → lessF y x = true) ∧ s' = s ∧ xs = [v, ov, .int .i64 (i : Int), .int .i64 (k : Int)])
    (fun y : Option Cut => ∃ (k : Nat) (tl : List Value), k ≤ out.length ∧ out.takeWhile (fun y => lessF y x) = out.take k ∧ out.dropWhile (fun y => lessF y x) = out.drop k ∧ y = some ((0, v :: ov :: .int .i64 (i : Int) :: .int .i64 (k : Int) :: tl, s) : Cut)) ?_ BIG out.length _ s (by unfold BIG; omega) ⟨0, by omega, fun j y hj => by omega, rfl, rfl⟩
  rintro d xs s2 rec ⟨k, hk, hall, rfl, rfl⟩ ih
  cases d with
  | zero =>
    have e1 : ¬ ((k : Int) < (out.length : Int)) := by omega
    have t := tw_len (p := fun y => lessF y x) hall (.inl (by omega))
    refine ⟨k, ?_⟩
    apply Exists.intro
    refine ⟨by omega, t.1, t.2, ?_⟩
    simp only [leapfrogref11x_sorted.l6, sy, reduceIte, Nat.reduceAdd, Nat.reduceLeDiff, Nat.reduceLT, Nat.reduceEqDiff, Int.reduceEq, Int.reduceLT, Int.reduceLE, Int.reduceNe, ly, hlen, e1]
    rfl
  | succ d =>
    have e1 : (k : Int) < (out.length : Int) := by omega
    have e5 : IntKind.i64.wrap ((k : Int) + 1) = ((k + 1 : Nat) : Int) := by rw [wrap64 (by omega) (by omega)]; omega
    obtain ⟨y, hy⟩ := get_some (l := out) (j := k) (by omega)
    obtain ⟨all', ro', c1, c2, c3⟩ := ho.at2 (rf_get hy)
    have ls := r9less_r y.rk y.n x.rk x.n s2
    have hkv : ∀ r n, KV r n = .agg ⟨[.int .i64 r, .int .u64 n]⟩ := fun _ _ => rfl
    rw [hkv, hkv] at ls
    by_cases c : ltF y x
    · rw [decide_eq_true c] at ls
      have fin := ih d _ s2 (by omega) ⟨k + 1, by omega, fun j z hj hz => by
        by_cases e : j = k
        · subst e; rw [hy] at hz; cases hz; exact lessF_iff.2 c
        · exact hall j z (by omega) hz, rfl, rfl⟩
      have key : leapfrogref11x_sorted.l6 std rec [v, ov, .int .i64 (i : Int), .int .i64 (k : Int)] s2 = rec [v, ov, .int .i64 (i : Int), .int .i64 ((k + 1 : Nat) : Int)] s2 := by
        simp only [leapfrogref11x_sorted.l6, sy, reduceIte, Nat.reduceAdd, Nat.reduceLeDiff, Nat.reduceLT, Nat.reduceEqDiff, Int.reduceEq, Int.reduceLT, Int.reduceLE, Int.reduceNe, ly, hlen, e1, c1, lda_row c2, c3, b1, lda_row b2, b3, ls, e5]
      rw [key]
      exact fin
    · rw [decide_eq_false c] at ls
      have t := tw_len (p := fun y => lessF y x) hall (.inr ⟨y, hy, by
        cases g : lessF y x
        · rfl
        · exact absurd (lessF_iff.1 g) c⟩)
      refine ⟨k, ?_⟩
      apply Exists.intro
      refine ⟨by omega, t.1, t.2, ?_⟩
      simp only [leapfrogref11x_sorted.l6, sy, reduceIte, Nat.reduceAdd, Nat.reduceLeDiff, Nat.reduceLT, Nat.reduceEqDiff, Int.reduceEq, Int.reduceLT, Int.reduceLE, Int.reduceNe, ly, hlen, e1, c1, lda_row c2, c3, b1, lda_row b2, b3, ls]
      rfl
theorem same5q (r : Rf) : sameV (.agg ⟨[.int .i64 r.id, .int .i64 r.rk, .int .u64 r.n, .int .i64 r.ln, .int .u64 r.bt]⟩) (.agg ⟨[.int .i64 r.id, .int .i64 r.rk, .int .u64 r.n, .int .i64 r.ln, .int .u64 r.bt]⟩) = true := by simp [sameV, sameVs]
/-- One more at its place. -/
theorem sort_step {v ov : Value} {l out : List Rf} {s0 s : St} {i : Nat} {x : Rf} (hv : IsR s 5 v (l.map Rf.cs)) (hx : l[i]? = some x) (ho : Ful s0.n s 5 ov (out.map Rf.cs)) (m0 : More s0 s) (f : Fresh s) (hl : l.length ≤ 100000) (ho2 : out.length ≤ 100000) (rec : List Value → St → Option Cut) :
    ∃ ov' s', leapfrogref11x_sorted.l3 std rec [v, ov, .int .i64 (i : Int)] s = rec [v, ov', .int .i64 ((i + 1 : Nat) : Int)] s' ∧ More s s' ∧ Fresh s' ∧ Ful s0.n s' 5 ov' ((insF x out).map Rf.cs) := by
  have hlen := hv.len
  rw [List.length_map] at hlen
  have hil : i < l.length := (List.getElem?_eq_some_iff.1 hx).1
  have e1 : (i : Int) < (l.length : Int) := by omega
  have e5 : IntKind.i64.wrap ((i : Int) + 1) = ((i + 1 : Nat) : Int) := by rw [wrap64 (by omega) (by omega)]; omega
  obtain ⟨k, tl, hk, t1, t2, it⟩ := sort_find hv hx ho.isR (by omega)
  rw [show ((0 : Nat) : Int) = 0 from rfl] at it
  obtain ⟨a, b, ha, hb, hc⟩ := ful_cut (k := k) f ho (by rw [List.length_map]; exact hk)
  have la : ((out.map Rf.cs).take k).length = k := by rw [List.length_take, List.length_map]; omega
  have lb : ((out.map Rf.cs).drop k).length = out.length - k := by rw [List.length_drop, List.length_map]
  obtain ⟨_, _, i1, i2, i3⟩ := hv.at2 (rf_get hx)
  have rp0 : List.replicate 0 [Value.int .i64 0, Value.int .i64 0, Value.int .u64 0, Value.int .i64 0, Value.int .u64 0] = [] := rfl
  have z0 : 2 * 0 = 0 := rfl
  -- the part ahead
  have mn : More s (s.new (.row 5 [] false)) := .new
  have fn := mn.fresh f
  have un := ful_new s 5 (n0 := s.n) (Nat.le_refl _)
  have ha1 := ha.more mn f
  obtain ⟨v1, s1, p1, p2, p3, p4⟩ := app_any (s0 := s) (by_ := 40) fn un mn ha1.lenV ha1.rowsOf (by rw [la, List.length_nil]; omega) (by rw [la, List.length_nil]; omega)
  rw [List.nil_append] at p3
  -- the one
  obtain ⟨v2, s2, q1, q2, q3, q4, q5⟩ := push (s0 := s) p4 p3 p2 (by_ := 40) x.cs (by rw [la]; omega) (by rw [la]; omega)
  -- the part behind
  have hb2 := hb.more q2 f
  obtain ⟨v3, s3, r1, r2, r3, r4⟩ := app_any (s0 := s) (by_ := 40) q4 q3 q2 hb2.lenV hb2.rowsOf (by rw [lb, List.length_append, la, List.length_singleton]; omega) (by rw [lb, List.length_append, la, List.length_singleton]; omega)
  obtain ⟨_, _, j1, j2, j3⟩ := (hv.more p2 f).at2 (rf_get hx)
  obtain ⟨_, _, k1, k2, k3⟩ := (hv.more q2 f).at2 (rf_get hx)
  obtain ⟨_, _, l1, l2, l3⟩ := (hv.more r2 f).at2 (rf_get hx)
  have sb := hb.same
  have s5 := same5q x
  obtain ⟨c0a, c0b⟩ := hc s (.refl s)
  have c1b := (hc s1 p2).2
  have c2b := (hc s2 q2).2
  have nn := m0.n
  refine ⟨v3, s3, ?_, r2, r4, ?_⟩
  · simp only [leapfrogref11x_sorted.l3, leapfrogref11x_sorted.l3.p1, sy, reduceIte, Nat.reduceAdd, Nat.reduceLeDiff, Nat.reduceLT, Nat.reduceEqDiff, Int.reduceEq, Int.reduceLT, Int.reduceLE, Int.reduceNe, ly, hlen, e1, it, c0a, i1, lda_row i2, i3, c0b, als_eq, rp0, z0, p1, j1, samePj, lda_row j2, j3, s5, c1b, sb, q1, k1, c2b, r1, l1, e5]
  · have e : (insF x out).map Rf.cs = (out.map Rf.cs).take k ++ [x.cs] ++ (out.map Rf.cs).drop k := by
      unfold insF
      rw [t1, t2, List.map_append, List.map_cons, List.map_take, List.map_drop]
      simp
    rw [e]
    exact r3.le nn
theorem sorted_v {v : Value} {l : List Rf} {s : St} (hv : IsR s 5 v (l.map Rf.cs)) (f : Fresh s) (hl : l.length ≤ 100000) :
    ∃ ov s', leapfrogref11x_sorted.v v s = some (ov, s') ∧ More s s' ∧ Fresh s' ∧ Ful s.n s' 5 ov ((srtF l).map Rf.cs) := by
  have it : ∃ ov s', iter (leapfrogref11x_sorted.l3 std) BIG [v, .slice none 0 0, .int .i64 ((0 : Nat) : Int)] s = some ((0, [ov], s') : Cut) ∧ More s s' ∧ Fresh s' ∧ Ful s.n s' 5 ov ((srtF l).map Rf.cs) := by
    refine iter_rel (fun d xs s' => ∃ (i : Nat) (ov : Value), i + d = l.length ∧ More s s' ∧ Fresh s' ∧ Ful s.n s' 5 ov ((srtF (l.take i)).map Rf.cs) ∧ xs = [v, ov, .int .i64 (i : Int)])
      (fun y : Option Cut => ∃ ov s', y = some ((0, [ov], s') : Cut) ∧ More s s' ∧ Fresh s' ∧ Ful s.n s' 5 ov ((srtF l).map Rf.cs)) ?_ BIG l.length _ s (by unfold BIG; omega) ⟨0, _, by omega, .refl _, f, .nil, rfl⟩
    rintro d xs s2 rec ⟨i, ov, hi, hm, hf, ho, rfl⟩ ih
    have hv2 := hv.more hm f
    cases d with
    | zero =>
      have hlen := hv2.len
      rw [List.length_map] at hlen
      have e1 : ¬ ((i : Int) < (l.length : Int)) := by omega
      rw [List.take_of_length_le (by omega)] at ho
      exact ⟨ov, s2, by simp only [leapfrogref11x_sorted.l3, sy, reduceIte, Nat.reduceAdd, Nat.reduceLeDiff, Nat.reduceLT, Nat.reduceEqDiff, Int.reduceEq, Int.reduceLT, Int.reduceLE, Int.reduceNe, ly, hlen, e1], hm, hf, ho⟩
    | succ d =>
      obtain ⟨x, hx⟩ := get_some (l := l) (j := i) (by omega)
      obtain ⟨ov', s3, p1, p2, p3, p4⟩ := sort_step hv2 hx ho hm hf hl (by rw [srtF_len, List.length_take]; omega) rec
      rw [p1]
      exact ih d _ s3 (by omega) ⟨i + 1, ov', by omega, hm.trans p2, p3, by rw [List.take_add_one, hx]; exact (srtF_snoc (l.take i) x) ▸ p4, rfl⟩
  obtain ⟨ov, s', e, r⟩ := it
  rw [show ((0 : Nat) : Int) = 0 from rfl] at e
  exact ⟨ov, s', by simp only [leapfrogref11x_sorted.v, leapfrogref11x_sorted.t, sy, reduceIte, Nat.reduceAdd, Nat.reduceLeDiff, Nat.reduceLT, Nat.reduceEqDiff, Int.reduceEq, Int.reduceLT, Int.reduceLE, Int.reduceNe, ly, e], r⟩
open Classical in
theorem members_v {v : Value} {l : List Rf} {s : St} {wl wb : Int} (hv : IsR s 5 v (l.map Rf.cs)) (f : Fresh s) (hl : l.length ≤ 100000) (hwb : 0 ≤ wb) (hb : ∀ r ∈ l, 0 ≤ r.bt) :
    ∃ ov s', leapfrogref11x_members.v (VI wl wb) v s = some (ov, s') ∧ More s s' ∧ Fresh s' ∧ Ful s.n s' 5 ov ((memF wl wb l).map Rf.cs) := by
  have it : ∃ ov s', iter (leapfrogref11x_members.l3 std) BIG [v, .slice none 0 0, .int .i64 ((0 : Nat) : Int), VI wl wb] s = some ((0, [ov], s') : Cut) ∧ More s s' ∧ Fresh s' ∧ Ful s.n s' 5 ov ((l.filter (inW wl wb)).map Rf.cs) := by
    refine iter_rel (fun d xs s' => ∃ (i : Nat) (ov : Value), i + d = l.length ∧ More s s' ∧ Fresh s' ∧ Ful s.n s' 5 ov (((l.take i).filter (inW wl wb)).map Rf.cs) ∧ xs = [v, ov, .int .i64 (i : Int), VI wl wb])
      (fun y : Option Cut => ∃ ov s', y = some ((0, [ov], s') : Cut) ∧ More s s' ∧ Fresh s' ∧ Ful s.n s' 5 ov ((l.filter (inW wl wb)).map Rf.cs)) ?_ BIG l.length _ s (by unfold BIG; omega) ⟨0, _, by omega, .refl _, f, .nil, rfl⟩
    rintro d xs s2 rec ⟨i, ov, hi, hm, hf, ho, rfl⟩ ih
    have hv2 := hv.more hm f
    have hlen := hv2.len
    rw [List.length_map] at hlen
    cases d with
    | zero =>
      have e1 : ¬ ((i : Int) < (l.length : Int)) := by omega
      rw [List.take_of_length_le (by omega)] at ho
      exact ⟨ov, s2, by simp only [leapfrogref11x_members.l3, sy, reduceIte, Nat.reduceAdd, Nat.reduceLeDiff, Nat.reduceLT, Nat.reduceEqDiff, Int.reduceEq, Int.reduceLT, Int.reduceLE, Int.reduceNe, ly, hlen, e1], hm, hf, ho⟩
    | succ d =>
      obtain ⟨x, hx⟩ := get_some (l := l) (j := i) (by omega)
      have e1 : (i : Int) < (l.length : Int) := by omega
      have e5 : IntKind.i64.wrap ((i : Int) + 1) = ((i + 1 : Nat) : Int) := by rw [wrap64 (by omega) (by omega)]; omega
      obtain ⟨_, _, i1, i2, i3⟩ := hv2.at2 (rf_get hx)
      have bg := rbegins_i x.ln x.bt wl wb (hb x (List.mem_of_getElem? hx)) hwb s2 hf
      have bg : leapfrogref01x_BeginsQ.r (.agg ⟨[.int .i64 x.ln, .int .u64 x.bt]⟩) (.agg ⟨[.int .i64 wl, .int .u64 wb]⟩) s2 = _ := bg
      have hfl : ((l.take i).filter (inW wl wb)).length ≤ i := by
        have := List.length_filter_le (inW wl wb) (l.take i)
        rw [List.length_take] at this; omega
      by_cases c : BG x.ln x.bt wl wb
      · have hi1 : inW wl wb x = true := by unfold inW; simp [c]
        rw [decide_eq_true c] at bg
        obtain ⟨v2, s3, q1, q2, q3, q4, q5⟩ := push (s0 := s) hf ho hm (by_ := 40) x.cs (by rw [List.length_map]; omega) (by rw [List.length_map]; omega)
        have key : leapfrogref11x_members.l3 std rec [v, ov, .int .i64 (i : Int), VI wl wb] s2 = rec [v, v2, .int .i64 ((i + 1 : Nat) : Int), VI wl wb] s3 := by
          simp only [leapfrogref11x_members.l3, sy, reduceIte, Nat.reduceAdd, Nat.reduceLeDiff, Nat.reduceLT, Nat.reduceEqDiff, Int.reduceEq, Int.reduceLT, Int.reduceLE, Int.reduceNe, ly, hlen, e1, i1, lda_row i2, i3, bg, als_eq, q1, e5]
        rw [key]
        refine ih d _ s3 (by omega) ⟨i + 1, v2, by omega, q2, q4, ?_, rfl⟩
        rw [List.take_add_one, hx, List.filter_append, List.map_append]
        simpa [List.filter_cons, hi1] using q3
      · have hi1 : inW wl wb x = false := by unfold inW; simp [c]
        rw [decide_eq_false c] at bg
        have key : leapfrogref11x_members.l3 std rec [v, ov, .int .i64 (i : Int), VI wl wb] s2 = rec [v, ov, .int .i64 ((i + 1 : Nat) : Int), VI wl wb] s2 := by
          simp only [leapfrogref11x_members.l3, sy, reduceIte, Nat.reduceAdd, Nat.reduceLeDiff, Nat.reduceLT, Nat.reduceEqDiff, Int.reduceEq, Int.reduceLT, Int.reduceLE, Int.reduceNe, ly, hlen, e1, i1, lda_row i2, i3, bg, e5]
        rw [key]
        refine ih d _ s2 (by omega) ⟨i + 1, ov, by omega, hm, hf, ?_, rfl⟩
        rw [List.take_add_one, hx, List.filter_append, List.map_append]
        simpa [List.filter_cons, hi1] using ho
  obtain ⟨ov, s1, e, m1, f1, o1⟩ := it
  rw [show ((0 : Nat) : Int) = 0 from rfl] at e
  obtain ⟨ov2, s2, e2, m2, f2, o2⟩ := sorted_v o1.isR f1 (by have := List.length_filter_le (inW wl wb) l; omega)
  exact ⟨ov2, s2, by simp only [leapfrogref11x_members.v, leapfrogref11x_members.t, sy, reduceIte, Nat.reduceAdd, Nat.reduceLeDiff, Nat.reduceLT, Nat.reduceEqDiff, Int.reduceEq, Int.reduceLT, Int.reduceLE, Int.reduceNe, ly, e, e2], m1.trans m2, f2, o2.le m1.n⟩
theorem row_v {v : Value} {l : List Rf} {s : St} {h wl wb : Int} (hv : IsR s 5 v (l.map Rf.cs)) (f : Fresh s) (hl : l.length ≤ 100000) (hwb : 0 ≤ wb) (hb : ∀ r ∈ l, 0 ≤ r.bt) (h0 : 0 ≤ h) (h1 : h ≤ 32) :
    ∃ rv s', leapfrogref11x_Row.v (.int .i64 h) (VI wl wb) v s = some (rv, s') ∧ More s s' ∧ Fresh s' ∧ Ful s.n s' 5 rv ((rowF h wl wb l).map Rf.cs) := by
  obtain ⟨ov, s1, e1, m1, f1, o1⟩ := members_v hv f hl hwb hb (wl := wl)
  have e1 : leapfrogref11x_members.v (.agg ⟨[.int .i64 wl, .int .u64 wb]⟩) v s = _ := e1
  have hd := r9head_r h h0 h1 s
  have tl := r9tail_r h h0 h1 s
  have ml := memF_len wl wb l
  have u1 : Ful s.n (s1.new (.row 5 [(endL h).cs] false)) 5 (.slice (some ⟨s1.n, 0, some 0⟩) 1 2) [(endL h).cs] := ful_one m1.n
  have mn : More s1 (s1.new (.row 5 [(endL h).cs] false)) := .new
  have o2 := (o1.isR.more mn f1).sli
  obtain ⟨v2, s2, p1, p2, p3, p4⟩ := app_any (s0 := s) (by_ := 40) (mn.fresh f1) u1 (m1.trans mn) o2.lenV o2.rowsOf (by rw [List.length_map, List.length_singleton]; omega) (by rw [List.length_map, List.length_singleton]; omega)
  obtain ⟨v3, s3, q1, q2, q3, q4, q5⟩ := push (s0 := s) p4 p3 p2 (by_ := 40) (endR h).cs (by rw [List.length_append, List.length_map, List.length_singleton]; omega) (by rw [List.length_append, List.length_map, List.length_singleton]; omega)
  refine ⟨v3, s3, ?_, q2, q4, ?_⟩
  · simp only [endL, endR] at hd tl p1 q1
    simp only [leapfrogref11x_Row.v, leapfrogref11x_Row.t, leapfrogref11x_Row.t.p1, sy, reduceIte, Nat.reduceAdd, Nat.reduceLeDiff, Nat.reduceLT, Nat.reduceEqDiff, Int.reduceEq, Int.reduceLT, Int.reduceLE, Int.reduceNe, ly, hd, tl, e1, als_eq, p1, q1]
  · have : (rowF h wl wb l).map Rf.cs = [(endL h).cs] ++ (memF wl wb l).map Rf.cs ++ [(endR h).cs] := by unfold rowF; simp
    rw [this]; exact q3
end Go.Proofs.Yteiagjbjokldgaa
