/-
  Law 14's list: its keys, its references.
-/
import Derived.Test.YtkkgegocliobpaaPerH
import Derived.Test.YtkkgegocliobpaaWldB
set_option linter.unusedSimpArgs false
set_option linter.unusedVariables false
set_option maxRecDepth 100000
set_option maxHeartbeats 2000000
namespace Go.Proofs.Ytkkgegocliobpaa
open Go.Sim Go.Sim.Bt
attribute [local congr] bdc cndc itec gdc gdSc gdUc

abbrev U1 (n : Int) : List Value := [.int .u64 n]
theorem u1_get {l : List Int} {j : Nat} {x : Int} (h : l[j]? = some x) : (l.map U1)[j]? = some (U1 x) := by rw [List.getElem?_map, h]; rfl
theorem at14_r (n : Int) (s : St) : leapfrogref02x_At.r (.int .u64 n) s = some (KV 2 n) := by
  simp only [leapfrogref02x_At.r, leapfrogref02x_At.t, sy, reduceIte, Nat.reduceAdd, Nat.reduceLeDiff, Nat.reduceLT, Nat.reduceEqDiff, Int.reduceEq, Int.reduceLT, Int.reduceLE, Int.reduceNe, ly]
theorem keys14 {kv : Value} {ks : List Int} {s : St} (hk : IsR s 1 kv (ks.map U1)) (f : Fresh s) :
    ∃ lv s', iter (leapfroglaw14x_list.l3 std) BIG [kv, .slice none 0 0, .int .i64 ((0 : Nat) : Int)] s = some ((0, [lv], s') : Cut) ∧ Ful s.n s' 2 lv ((ks.take 12).map KC) ∧ More s s' ∧ Fresh s' := by
  refine iter_rel (fun d xs s' => ∃ lv i, Ful s.n s' 2 lv ((ks.take i).map KC) ∧ More s s' ∧ Fresh s' ∧ i + d = 12 ∧ (i ≤ ks.length) ∧ xs = [kv, lv, .int .i64 (i : Int)])
    (fun y : Option Cut => ∃ lv s', y = some ((0, [lv], s') : Cut) ∧ Ful s.n s' 2 lv ((ks.take 12).map KC) ∧ More s s' ∧ Fresh s') ?_ BIG 12 _ s (by unfold BIG; omega) ⟨_, 0, .nil, .refl _, f, by omega, Nat.zero_le _, rfl⟩
  rintro d xs s2 rec ⟨lv, i, hl, hm, hf, hi, hil, rfl⟩ ih
  have hk2 := hk.more hm f
  have hlen := hk2.len
  rw [List.length_map] at hlen
  by_cases hlt : i < ks.length
  · have e1 : (i : Int) < ks.length := by omega
    cases d with
    | zero =>
      have e2 : ¬ ((i : Int) < 12) := by omega
      have : i = 12 := by omega
      subst this
      exact ⟨lv, s2, by simp only [leapfroglaw14x_list.l3, sy, reduceIte, Nat.reduceAdd, Nat.reduceLeDiff, Nat.reduceLT, Nat.reduceEqDiff, Int.reduceEq, Int.reduceLT, Int.reduceLE, Int.reduceNe, ly, hlen, e1, e2], hl, hm, hf⟩
    | succ d =>
      have e2 : (i : Int) < 12 := by omega
      obtain ⟨x, hx⟩ := get_some hlt
      have e5 : IntKind.i64.wrap ((i : Int) + 1) = ((i + 1 : Nat) : Int) := by rw [wrap64 (by omega) (by omega)]; omega
      obtain ⟨b2, all2, ro2, c1, c2, c3⟩ := hk2.at (u1_get hx)
      have ha := at14_r x s2
      have hll : ((ks.take i).map KC).length ≤ 20 := by rw [List.length_map, List.length_take]; omega
      obtain ⟨v2, s3, g1, g2, g3, g4, _⟩ := push hf hl hm (by_ := 16) (KC x) (by omega) (by omega)
      have fin : leapfroglaw14x_list.l3 std rec [kv, lv, .int .i64 (i : Int)] s2 = rec [kv, v2, .int .i64 ((i + 1 : Nat) : Int)] s3 := by
        simp only [leapfroglaw14x_list.l3, sy, reduceIte, Nat.reduceAdd, Nat.reduceLeDiff, Nat.reduceLT, Nat.reduceEqDiff, Int.reduceEq, Int.reduceLT, Int.reduceLE, Int.reduceNe, ly, hlen, e1, e2, c1, ldc_row c2, c3, ha, als_eq, Nat.reduceMul, g1, e5]
      rw [fin]
      refine ih d _ _ (by omega) ⟨v2, i + 1, ?_, g2, g4, by omega, by omega, rfl⟩
      rw [List.take_add_one, hx, List.map_append]
      exact g3
  · have e1 : ¬ ((i : Int) < ks.length) := by omega
    refine ⟨lv, s2, by simp only [leapfroglaw14x_list.l3, sy, reduceIte, Nat.reduceAdd, Nat.reduceLeDiff, Nat.reduceLT, Nat.reduceEqDiff, Int.reduceEq, Int.reduceLT, Int.reduceLE, Int.reduceNe, ly, hlen, e1], ?_, hm, hf⟩
    rw [List.take_of_length_le (by omega)] at hl ⊢
    exact hl
/-- The references of a list of these keys. -/
def inR (S : List Int) (i : Nat) : Rf := ⟨(i : Int) + 2, 2, S.getD i 0, 0, 0⟩
def mkR (S : List Int) : List Rf := (endL 0 :: (List.range S.length).map (inR S)) ++ [endR 0]
theorem refs14 {sv hv : Value} {S : List Int} {s0 s : St} (hs : IsR s 2 sv (S.map KC)) (hh : Ful s0.n s 5 hv [(endL 0).cs]) (m : More s0 s) (f : Fresh s) (hl : S.length ≤ 900) :
    ∃ rv s', iter (leapfroglaw14x_list.l9 std) BIG [sv, hv, .int .i64 ((0 : Nat) : Int)] s = some ((0, [rv], s') : Cut) ∧ Ful s0.n s' 5 rv ((endL 0 :: (List.range S.length).map (inR S)).map Rf.cs) ∧ More s0 s' ∧ Fresh s' ∧ StpK [5] s s' := by
  refine iter_rel (fun d xs s' => ∃ rv i, Ful s0.n s' 5 rv ((endL 0 :: (List.range i).map (inR S)).map Rf.cs) ∧ More s0 s' ∧ Fresh s' ∧ StpK [5] s s' ∧ i + d = S.length ∧ xs = [sv, rv, .int .i64 (i : Int)])
    (fun y : Option Cut => ∃ rv s', y = some ((0, [rv], s') : Cut) ∧ Ful s0.n s' 5 rv ((endL 0 :: (List.range S.length).map (inR S)).map Rf.cs) ∧ More s0 s' ∧ Fresh s' ∧ StpK [5] s s') ?_ BIG S.length _ s (by unfold BIG; omega) ⟨_, 0, by simpa using hh, m, f, .refl _ _, by omega, rfl⟩
  rintro d xs s2 rec ⟨rv, i, hr, hm, hf, hk, hi, rfl⟩ ih
  have hs2 := hs.stp hk (by simp)
  have hlen := hs2.len
  rw [List.length_map] at hlen
  cases d with
  | zero =>
    have e1 : ¬ ((i : Int) < S.length) := by omega
    have : i = S.length := by omega
    subst this
    exact ⟨rv, s2, by simp only [leapfroglaw14x_list.l9, sy, reduceIte, Nat.reduceAdd, Nat.reduceLeDiff, Nat.reduceLT, Nat.reduceEqDiff, Int.reduceEq, Int.reduceLT, Int.reduceLE, Int.reduceNe, ly, hlen, e1], hr, hm, hf, hk⟩
  | succ d =>
    have e1 : (i : Int) < S.length := by omega
    obtain ⟨x, hx⟩ := get_some (l := S) (j := i) (by omega)
    have e5 : IntKind.i64.wrap ((i : Int) + 1) = ((i + 1 : Nat) : Int) := by rw [wrap64 (by omega) (by omega)]; omega
    have e6 : IntKind.i64.wrap ((i : Int) + 2) = (i : Int) + 2 := wrap64 (by omega) (by omega)
    obtain ⟨b2, all2, ro2, c1, c2, c3⟩ := hs2.at (kc_get hx)
    have hd : S.getD i 0 = x := by rw [List.getD_eq_getElem?_getD, hx]; rfl
    have hll : ((endL 0 :: (List.range i).map (inR S)).map Rf.cs).length ≤ 1000 := by simp; omega
    obtain ⟨v2, s3, g1, g2, g3, g4, g5⟩ := push hf hr hm (by_ := 40) [.int .i64 ((i : Int) + 2), .int .i64 2, .int .u64 x, .int .i64 0, .int .u64 0] (by omega) (by omega)
    have fin : leapfroglaw14x_list.l9 std rec [sv, rv, .int .i64 (i : Int)] s2 = rec [sv, v2, .int .i64 ((i + 1 : Nat) : Int)] s3 := by
      simp only [leapfroglaw14x_list.l9, sy, reduceIte, Nat.reduceAdd, Nat.reduceLeDiff, Nat.reduceLT, Nat.reduceEqDiff, Int.reduceEq, Int.reduceLT, Int.reduceLE, Int.reduceNe, ly, hlen, e1, e6, c1, lda_row c2, c3, als_eq, Nat.reduceMul, g1, e5]
    rw [fin]
    refine ih d _ _ (by omega) ⟨v2, i + 1, ?_, g2, g4, hk.trans g5, by omega, rfl⟩
    rw [List.range_succ, List.map_append, ← List.cons_append, List.map_append]
    have : [Rf.cs (inR S i)] = [[.int .i64 ((i : Int) + 2), .int .i64 2, .int .u64 x, .int .i64 0, .int .u64 0]] := by unfold inR; rw [hd]
    simp only [List.map_cons, List.map_nil] at *
    rw [this]
    exact g3
end Go.Proofs.Ytkkgegocliobpaa
