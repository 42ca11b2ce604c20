/-
  Worlds in the program's memory: keys sorted; lists; answers.
-/
import Derived.Test.YtogcfnhbacglfaaWldA
set_option linter.unusedSimpArgs false
set_option linter.unusedVariables false
set_option maxRecDepth 100000
set_option maxHeartbeats 2000000
namespace Go.Proofs.Ytogcfnhbacglfaa
open Go.Sim Go.Sim.Bt
attribute [local congr] bdc cndc itec gdc gdSc gdUc

abbrev KC (n : Int) : List Value := [.int .i64 2, .int .u64 n]
theorem kc_get {l : List Int} {j : Nat} {x : Int} (h : l[j]? = some x) : (l.map KC)[j]? = some (KC x) := by rw [List.getElem?_map, h]; rfl
theorem less2 (a b : Int) : decide (lessK 2 a 2 b) = decide (a < b) := by
  have : lessK 2 a 2 b = (a < b) := by unfold lessK; simp
  rw [decide_eq_decide]; rw [this]
/-- The inner loop. -/
theorem sort_in {v ov : Value} {ks out : List Int} {i : Nat} {x : Int} {s1 : St} (hv : IsR s1 2 v (ks.map KC)) (hx : ks[i]? = some x) (ho : IsR s1 2 ov (out.map KC)) (f1 : Fresh s1) (hol : out.length ≤ 1000) :
    ∃ nv put next s', iter (leapfrogref02x_Sorted.l8 std) BIG [v, ov, .int .i64 (i : Int), .slice none 0 0, .bool false, .int .i64 ((0 : Nat) : Int)] s1 = some ((0, [v, .int .i64 (i : Int), nv, .bool put], s') : Cut) ∧
      Ful s1.n s' 2 nv (next.map KC) ∧ More s1 s' ∧ Fresh s' ∧ next ++ (if put = true then [] else [x]) = insGo x false out ∧ next.length ≤ 2 * out.length := by
  refine iter_rel (fun d xs s => ∃ nv put next k, Ful s1.n s 2 nv (next.map KC) ∧ More s1 s ∧ Fresh s ∧ k + d = out.length ∧ next ++ insGo x put (out.drop k) = insGo x false out ∧ next.length ≤ 2 * k ∧ xs = [v, ov, .int .i64 (i : Int), nv, .bool put, .int .i64 (k : Int)])
    (fun y : Option Cut => ∃ nv put next s', y = some ((0, [v, .int .i64 (i : Int), nv, .bool put], s') : Cut) ∧ Ful s1.n s' 2 nv (next.map KC) ∧ More s1 s' ∧ Fresh s' ∧ next ++ (if put = true then [] else [x]) = insGo x false out ∧ next.length ≤ 2 * out.length) ?_ BIG out.length _ s1 (by unfold BIG; omega)
    ⟨_, false, [], 0, .nil, .refl _, f1, by omega, by simp, by simp, rfl⟩
  rintro d xs s rec ⟨nv, put, next, k, hn, hm, hf, hk, he, hnl, rfl⟩ ih
  have hov := ho.more hm f1
  have hvv := hv.more hm f1
  have hlen := hov.len
  rw [List.length_map] at hlen
  cases d with
  | zero =>
    have e1 : ¬ ((k : Int) < out.length) := by omega
    refine ⟨nv, put, next, s, by simp only [leapfrogref02x_Sorted.l8, sy, reduceIte, Nat.reduceAdd, Nat.reduceLeDiff, Nat.reduceLT, Nat.reduceEqDiff, Int.reduceEq, Int.reduceLT, Int.reduceLE, Int.reduceNe, ly, hlen, e1], hn, hm, hf, ?_, by omega⟩
    rw [List.drop_eq_nil_of_le (by omega)] at he
    simpa [insGo] using he
  | succ d =>
    have e1 : (k : Int) < out.length := by omega
    obtain ⟨y, hy⟩ := get_some (l := out) (j := k) (by omega)
    have e5 : IntKind.i64.wrap ((k : Int) + 1) = ((k + 1 : Nat) : Int) := by rw [wrap64 (by omega) (by omega)]; omega
    obtain ⟨b1, all1, ro1, a1, a2, a3⟩ := hov.at (kc_get hy)
    obtain ⟨b2, all2, ro2, c1, c2, c3⟩ := hvv.at (kc_get hx)
    have l1 := rless_r 2 y 2 x s
    rw [less2] at l1
    rw [drop_get hy] at he
    have nln : (next.map KC).length = next.length := List.length_map _
    -- the second half
    have snd : ∀ nv' put' next' s', Ful s1.n s' 2 nv' (next'.map KC) → More s1 s' → Fresh s' → next' ++ ((if y ≠ x then [y] else []) ++ insGo x put' (out.drop (k + 1))) = insGo x false out → next'.length ≤ 2 * k + 1 →
        ((put' = put ∧ nv' = nv ∧ s' = s ∧ ((put = true) ∨ (put = false ∧ y < x))) ∨ (put = false ∧ put' = true ∧ ¬ y < x ∧ app (s.new (.row 2 [KC x] false)) 2 16 nv (.slice (some ⟨s.n, 0, some 0⟩) 1 2) = some (nv', s'))) →
        ∃ nv' put' next' s'', Ful s1.n s'' 2 nv' (next'.map KC) ∧ More s1 s'' ∧ Fresh s'' ∧ next' ++ insGo x put' (out.drop (k + 1)) = insGo x false out ∧ next'.length ≤ 2 * (k + 1) ∧
          leapfrogref02x_Sorted.l8 std rec [v, ov, .int .i64 (i : Int), nv, .bool put, .int .i64 (k : Int)] s = rec [v, ov, .int .i64 (i : Int), nv', .bool put', .int .i64 ((k + 1 : Nat) : Int)] s'' := by
      intro nv' put' next' s' hn' hm' hf' he' hnl' how
      have hov' := ho.more hm' f1
      have hvv' := hv.more hm' f1
      obtain ⟨b3, all3, ro3, x1, x2, x3⟩ := hov'.at (kc_get hy)
      obtain ⟨b4, all4, ro4, z1, z2, z3⟩ := hvv'.at (kc_get hx)
      by_cases hyx : y = x
      · subst hyx
        refine ⟨nv', put', next', s', hn', hm', hf', by simpa using he', by omega, ?_⟩
        rcases how with ⟨rfl, rfl, rfl, hp | ⟨hp, hlt⟩⟩ | ⟨hp, rfl, hlt, hap⟩
        · subst hp
          simp only [leapfrogref02x_Sorted.l8, leapfrogref02x_Sorted.l8.p1, sy, reduceIte, Nat.reduceAdd, Nat.reduceLeDiff, Nat.reduceLT, Nat.reduceEqDiff, Int.reduceEq, Int.reduceLT, Int.reduceLE, Int.reduceNe, ly, hlen, e1, x1, lda_row x2, x3, z1, lda_row z2, z3, e5]
        · omega
        · subst hp
          have hlt' : (y < y) = False := eq_false (by omega)
          simp only [leapfrogref02x_Sorted.l8, leapfrogref02x_Sorted.l8.p1, sy, reduceIte, Nat.reduceAdd, Nat.reduceLeDiff, Nat.reduceLT, Nat.reduceEqDiff, Int.reduceEq, Int.reduceLT, Int.reduceLE, Int.reduceNe, ly, hlen, e1, a1, lda_row a2, a3, c1, lda_row c2, c3, l1, hlt', als_eq, Nat.reduceMul, hap, x1, lda_row x2, x3, z1, lda_row z2, z3, e5]
      · have hyx' : (y = x) = False := eq_false hyx
        obtain ⟨v2, s2, g1, g2, g3, g4, _⟩ := push hf' hn' hm' (by_ := 16) (KC y) (by rw [List.length_map]; omega) (by rw [List.length_map]; omega)
        refine ⟨v2, put', next' ++ [y], s2, by rw [List.map_append]; exact g3, g2, g4, by rw [List.append_assoc]; simpa [hyx] using he', by simp; omega, ?_⟩
        rcases how with ⟨rfl, rfl, rfl, hp | ⟨hp, hlt⟩⟩ | ⟨hp, rfl, hlt, hap⟩
        · subst hp
          simp only [leapfrogref02x_Sorted.l8, leapfrogref02x_Sorted.l8.p1, sy, reduceIte, Nat.reduceAdd, Nat.reduceLeDiff, Nat.reduceLT, Nat.reduceEqDiff, Int.reduceEq, Int.reduceLT, Int.reduceLE, Int.reduceNe, ly, hlen, e1, x1, lda_row x2, x3, z1, lda_row z2, z3, e5, hyx', als_eq, Nat.reduceMul, g1]
        · subst hp
          have hlt' : (y < x) = True := eq_true hlt
          simp only [leapfrogref02x_Sorted.l8, leapfrogref02x_Sorted.l8.p1, sy, reduceIte, Nat.reduceAdd, Nat.reduceLeDiff, Nat.reduceLT, Nat.reduceEqDiff, Int.reduceEq, Int.reduceLT, Int.reduceLE, Int.reduceNe, ly, hlen, e1, l1, hlt', x1, lda_row x2, x3, z1, lda_row z2, z3, e5, hyx', als_eq, Nat.reduceMul, g1]
        · subst hp
          have hlt' : (y < x) = False := eq_false hlt
          simp only [leapfrogref02x_Sorted.l8, leapfrogref02x_Sorted.l8.p1, sy, reduceIte, Nat.reduceAdd, Nat.reduceLeDiff, Nat.reduceLT, Nat.reduceEqDiff, Int.reduceEq, Int.reduceLT, Int.reduceLE, Int.reduceNe, ly, hlen, e1, a1, lda_row a2, a3, c1, lda_row c2, c3, l1, hlt', als_eq, Nat.reduceMul, hap, x1, lda_row x2, x3, z1, lda_row z2, z3, e5, hyx', g1]
    simp only [insGo] at he
    cases hp : put with
    | true =>
      rw [hp] at he
      simp only [Bool.true_eq_false, false_and, if_false, List.nil_append, Bool.true_or] at he
      obtain ⟨n1, n2, n3, n4, q1, q2, q3, q4, q5, q6⟩ := snd nv put next s hn hm hf (by rw [hp]; exact he) (by omega) (.inl ⟨rfl, rfl, rfl, .inl hp⟩)
      rw [hp] at q6
      rw [q6]
      exact ih d _ _ (by omega) ⟨n1, n2, n3, k + 1, q1, q2, q3, by omega, q4, q5, rfl⟩
    | false =>
      rw [hp] at he
      by_cases hlt : y < x
      · simp only [hlt, not_true_eq_false, and_false, if_false, List.nil_append, decide_true, Bool.not_true, Bool.or_false] at he
        obtain ⟨n1, n2, n3, n4, q1, q2, q3, q4, q5, q6⟩ := snd nv put next s hn hm hf (by rw [hp]; exact he) (by omega) (.inl ⟨rfl, rfl, rfl, .inr ⟨hp, hlt⟩⟩)
        rw [hp] at q6
        rw [q6]
        exact ih d _ _ (by omega) ⟨n1, n2, n3, k + 1, q1, q2, q3, by omega, q4, q5, rfl⟩
      · simp only [hlt, not_false_eq_true, and_self, if_true, decide_false, Bool.not_false, Bool.or_true] at he
        obtain ⟨v2, s2, g1, g2, g3, g4, _⟩ := push hf hn hm (by_ := 16) (KC x) (by rw [List.length_map]; omega) (by rw [List.length_map]; omega)
        obtain ⟨n1, n2, n3, n4, q1, q2, q3, q4, q5, q6⟩ := snd v2 true (next ++ [x]) s2 (by rw [List.map_append]; exact g3) g2 g4 (by rw [List.append_assoc]; exact he) (by simp; omega) (.inr ⟨hp, rfl, hlt, g1⟩)
        rw [hp] at q6
        rw [q6]
        exact ih d _ _ (by omega) ⟨n1, n2, n3, k + 1, q1, q2, q3, by omega, q4, q5, rfl⟩
theorem sorted_r {v : Value} {ks : List Int} {s : St} (hv : IsR s 2 v (ks.map KC)) (f : Fresh s) (hl : ks.length ≤ 900) :
    ∃ v' s', leapfrogref02x_Sorted.v v s = some (v', s') ∧ IsR s' 2 v' ((srtN ks).map KC) ∧ More s s' ∧ Fresh s' := by
  have main : ∃ v' s', iter (leapfrogref02x_Sorted.l3 std) BIG [v, .slice none 0 0, .int .i64 ((0 : Nat) : Int)] s = some ((0, [v'], s') : Cut) ∧ IsR s' 2 v' ((srtN ks).map KC) ∧ More s s' ∧ Fresh s' := by
    refine iter_rel (fun d xs s' => ∃ ov i, IsR s' 2 ov (((ks.take i).foldl (fun out x => insGo x false out) []).map KC) ∧ ((ks.take i).foldl (fun out x => insGo x false out) []).length ≤ i ∧ ((ks.take i).foldl (fun out x => insGo x false out) []).Pairwise (· < ·) ∧ More s s' ∧ Fresh s' ∧ i + d = ks.length ∧ xs = [v, ov, .int .i64 (i : Int)])
      (fun y : Option Cut => ∃ v' s', y = some ((0, [v'], s') : Cut) ∧ IsR s' 2 v' ((srtN ks).map KC) ∧ More s s' ∧ Fresh s') ?_ BIG ks.length _ s (by unfold BIG; omega) ⟨_, 0, .nil, by simp, by simp, .refl _, f, by omega, rfl⟩
    rintro d xs s1 rec ⟨ov, i, ho, hol, hop, hm, hf, hi, rfl⟩ ih
    have hvv := hv.more hm f
    have hlen := hvv.len
    rw [List.length_map] at hlen
    cases d with
    | zero =>
      have e1 : ¬ ((i : Int) < ks.length) := by omega
      refine ⟨ov, s1, by simp only [leapfrogref02x_Sorted.l3, sy, reduceIte, Nat.reduceAdd, Nat.reduceLeDiff, Nat.reduceLT, Nat.reduceEqDiff, Int.reduceEq, Int.reduceLT, Int.reduceLE, Int.reduceNe, ly, hlen, e1], ?_, hm, hf⟩
      rw [List.take_of_length_le (by omega)] at ho
      exact ho
    | succ d =>
      have e1 : (i : Int) < ks.length := by omega
      obtain ⟨x, hx⟩ := get_some (l := ks) (j := i) (by omega)
      have e5 : IntKind.i64.wrap ((i : Int) + 1) = ((i + 1 : Nat) : Int) := by rw [wrap64 (by omega) (by omega)]; omega
      have htk : ks.take (i + 1) = ks.take i ++ [x] := by rw [List.take_add_one, hx]; rfl
      obtain ⟨nv, put, next, s2, q1, q2, q3, q4, q5, q6⟩ := sort_in hvv hx ho hf (by omega)
      rw [show ((0 : Nat) : Int) = 0 from rfl] at q1
      have hsp := insGo_sorted (x := x) hop
      have hfold : (ks.take (i + 1)).foldl (fun out x => insGo x false out) [] = insGo x false ((ks.take i).foldl (fun out x => insGo x false out) []) := by rw [htk, List.foldl_append]; rfl
      cases put with
      | true =>
        simp only [if_true, List.append_nil] at q5
        have fin : leapfrogref02x_Sorted.l3 std rec [v, ov, .int .i64 (i : Int)] s1 = rec [v, nv, .int .i64 ((i + 1 : Nat) : Int)] s2 := by
          simp only [leapfrogref02x_Sorted.l3, sy, reduceIte, Nat.reduceAdd, Nat.reduceLeDiff, Nat.reduceLT, Nat.reduceEqDiff, Int.reduceEq, Int.reduceLT, Int.reduceLE, Int.reduceNe, ly, hlen, e1, q1, e5]
        rw [fin]
        exact ih d _ _ (by omega) ⟨nv, i + 1, by rw [hfold, ← q5]; exact q2.isR, by rw [hfold]; omega, by rw [hfold]; exact hsp.1, hm.trans q3, q4, by omega, rfl⟩
      | false =>
        simp only [Bool.false_eq_true, if_false] at q5
        have hvv2 := hvv.more q3 hf
        obtain ⟨b2, all2, ro2, c1, c2, c3⟩ := hvv2.at (kc_get hx)
        obtain ⟨v2, s3, g1, g2, g3, g4, _⟩ := push q4 q2 q3 (by_ := 16) (KC x) (by rw [List.length_map]; omega) (by rw [List.length_map]; omega)
        have fin : leapfrogref02x_Sorted.l3 std rec [v, ov, .int .i64 (i : Int)] s1 = rec [v, v2, .int .i64 ((i + 1 : Nat) : Int)] s3 := by
          simp only [leapfrogref02x_Sorted.l3, sy, reduceIte, Nat.reduceAdd, Nat.reduceLeDiff, Nat.reduceLT, Nat.reduceEqDiff, Int.reduceEq, Int.reduceLT, Int.reduceLE, Int.reduceNe, ly, hlen, e1, q1, c1, lda_row c2, c3, als_eq, Nat.reduceMul, g1, e5]
        rw [fin]
        refine ih d _ _ (by omega) ⟨v2, i + 1, ?_, by rw [hfold]; omega, by rw [hfold]; exact hsp.1, hm.trans g2, g4, by omega, rfl⟩
        rw [hfold, ← q5, List.map_append]
        exact g3.isR
  obtain ⟨v', s', e, h1, h2, h3⟩ := main
  rw [show ((0 : Nat) : Int) = 0 from rfl] at e
  exact ⟨v', s', by simp only [leapfrogref02x_Sorted.v, leapfrogref02x_Sorted.t, sy, reduceIte, Nat.reduceAdd, Nat.reduceLeDiff, Nat.reduceLT, Nat.reduceEqDiff, Int.reduceEq, Int.reduceLT, Int.reduceLE, Int.reduceNe, ly, e], h1, h2, h3⟩
end Go.Proofs.Ytogcfnhbacglfaa
