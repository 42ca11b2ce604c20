/-
  A probe is made: the program's and the reference's.
-/
import Derived.Test.YtogcfnhbacglfaaMachF
set_option linter.unusedSimpArgs false
set_option linter.unusedVariables false
set_option maxRecDepth 100000
set_option maxHeartbeats 2000000
namespace Go.Proofs.Ytogcfnhbacglfaa
open Go.Sim Go.Sim.Bt
attribute [local congr] bdc cndc itec gdc gdSc gdUc

abbrev V2 (p : Int × Int) : List Value := [.int .i64 p.1, .int .u64 p.2]
theorem v2_get {L : List (Int × Int)} {j : Nat} {p : Int × Int} (h : L[j]? = some p) : (L.map V2)[j]? = some (V2 p) := by rw [List.getElem?_map, h]; rfl
theorem IsR.lenV {s : St} {sz : Nat} {v : Value} {rows : List (List Value)} (h : IsR s sz v rows) : Sim.lenV v = some rows.length := by
  rcases h with ⟨rfl, rfl⟩ | ⟨b, e, all, ro, rfl, _⟩ <;> rfl
theorem IsR.rowsOf {s : St} {sz : Nat} {v : Value} {rows : List (List Value)} (h : IsR s sz v rows) : Sim.rowsOf s sz rows.length v = some rows := by
  rcases h with ⟨rfl, rfl⟩ | ⟨b, e, all, ro, rfl, hg, ht⟩
  · rfl
  · have hl : rows.length ≤ all.length := by
      have := congrArg List.length ht
      rw [List.length_take] at this
      omega
    rw [rowsOf_row hg (Nat.le_refl _) (by omega), List.drop_zero, ht]
/-- append([]T{}, v...) -/
theorem app_clone {s : St} {sz by_ : Nat} {v : Value} {rows : List (List Value)} (f : Fresh s) (h : IsR s sz v rows) (hb : rows.length * by_ ≤ 140737488355328) (hl : rows.length ≤ 1000000) :
    ∃ w s', app (s.new (.row sz [] false)) sz by_ (.slice (some ⟨s.n, 0, some 0⟩) 0 0) v = some (w, s') ∧ More s s' ∧ Fresh s' ∧ Ful s.n s' sz w rows := by
  have h1 := h.more (.new (x := .row sz [] false)) f
  have g0 : (s.new (.row sz [] false)).get s.n = some (.row sz [] false) := get_new_same
  by_cases h0 : rows.length = 0
  · have e : rows = [] := List.eq_nil_of_length_eq_zero h0
    subst e
    refine ⟨.slice (some ⟨s.n, 0, some 0⟩) 0 0, (s.new (.row sz [] false)).put s.n (.row sz [] false), ?_, More.new.put (Nat.le_refl _), f.new.put, .inr ⟨s.n, 0, Nat.le_refl _, rfl, get_put_same g0, .inr rfl⟩⟩
    have hlen := h1.lenV
    have hrow := h1.rowsOf
    simp only [List.length_nil] at hlen hrow
    unfold app
    rw [hlen]
    simp [hrow, g0]
  · have a1 := app_full (s := s.new (.row sz [] false)) (by_ := by_) (n := rows.length) (x := v) (b := s.n) (i := 0) (len := 0) (e := 0) h1.lenV h1.rowsOf g0 (by simp) (by omega) (by omega) (by rw [Nat.zero_add]; exact hb) (by omega)
    simp only [List.drop_zero, List.take_nil, List.nil_append, Nat.zero_add] at a1
    exact ⟨_, _, a1, More.new.trans .new, f.new.new, .inr ⟨_, _, Nat.le_succ _, rfl, get_new_same, .inl rfl⟩⟩
/-- slices.Clone of rows that are no nil. -/
theorem cloneL_v {s : St} {v : Value} {L : List (Int × Int)} (f : Fresh s) (h : IsR s 2 v (L.map V2)) (hl : L.length ≤ 1000000) :
    ∃ w s', slices_Clone_api_Vec_api_Vec.v v s = some (w, s') ∧ More s s' ∧ Fresh s' ∧ Ful s.n s' 2 w (L.map V2) := by
  obtain ⟨w, s', e1, e2, e3, e4⟩ := app_clone (by_ := 16) f h (by rw [List.length_map]; omega) (by rw [List.length_map]; omega)
  have rp0 : List.replicate 0 [Value.int .i64 0, Value.int .u64 0] = [] := rfl
  have z0 : 2 * 0 = 0 := rfl
  have h' := h
  rcases h' with ⟨rfl, hr⟩ | ⟨b, e, all, ro, rfl, _⟩
  · have q : eqb [4] false false (.slice none 0 0) (.slice none 0 0) = some (.bool true) := rfl
    exact ⟨.slice none 0 0, s, by simp only [slices_Clone_api_Vec_api_Vec.v, slices_Clone_api_Vec_api_Vec.t, sy, reduceIte, Nat.reduceAdd, Nat.reduceLeDiff, Nat.reduceLT, Nat.reduceEqDiff, Int.reduceEq, Int.reduceLT, Int.reduceLE, Int.reduceNe, ly, q], .refl _, f, .inl ⟨rfl, hr⟩⟩
  · have q : ∀ n, eqb [4] false false (.slice (some ⟨b, 0, some 0⟩) n e) (.slice none 0 0) = some (.bool false) := fun _ => rfl
    exact ⟨w, s', by simp only [slices_Clone_api_Vec_api_Vec.v, slices_Clone_api_Vec_api_Vec.t, sy, reduceIte, Nat.reduceAdd, Nat.reduceLeDiff, Nat.reduceLT, Nat.reduceEqDiff, Int.reduceEq, Int.reduceLT, Int.reduceLE, Int.reduceNe, ly, q, rp0, als_eq, z0, e1], e2, e3, e4⟩

/-! ### Are all lists right? -/

open Classical in
/-- The program looks at them through an iterator. -/
theorem scan_v {s0 s : St} {lv : Value} {L : List (Int × Int)} (f0 : Fresh s0) (h : IsR s0 2 lv (L.map V2)) (hp : ∀ p ∈ L, 0 ≤ p.2) (hl : L.length ≤ 1000000) (m : More s0 s) (f : Fresh s) :
    ∃ s', iter (itF probe_bad_fn1I.Pw probe_bad_fn1I.Qw 0) BIG [lv, .int .i64 (L.length : Int), .int .i64 ((0 : Nat) : Int)] s = some ((if (∀ p ∈ L, okV p.1 p.2) then 1 else 2), s') ∧ More s0 s' ∧ Fresh s' := by
  refine iter_rel (fun d xs s' => ∃ i : Nat, i + d = L.length ∧ (∀ (j : Nat) p, j < i → L[j]? = some p → okV p.1 p.2) ∧ More s0 s' ∧ Fresh s' ∧ xs = [lv, .int .i64 (L.length : Int), .int .i64 (i : Int)])
    (fun y : Option (Nat × St) => ∃ s', y = some ((if (∀ p ∈ L, okV p.1 p.2) then 1 else 2), s') ∧ More s0 s' ∧ Fresh s') ?_ BIG L.length _ s (by unfold BIG; omega) ⟨0, by omega, fun j p hj => by omega, m, f, rfl⟩
  rintro d xs s2 rec ⟨i, hi, hall, hm, hf, rfl⟩ ih
  have g1 := h.more hm f0
  cases d with
  | zero =>
    have e1 : ¬ ((i : Int) < (L.length : Int)) := by omega
    rw [if_pos fun p hp => by
      obtain ⟨j, hj⟩ := List.getElem?_of_mem hp
      exact hall j p (by have := (List.getElem?_eq_some_iff.1 hj).1; omega) hj]
    exact ⟨s2, by simp only [itF, probe_bad_fn1I.Pw, probe_bad_fn1I.Pu, sy, reduceIte, Nat.reduceAdd, Nat.reduceLeDiff, Nat.reduceLT, Nat.reduceEqDiff, Int.reduceEq, Int.reduceLT, Int.reduceLE, Int.reduceNe, ly, e1], hm, hf⟩
  | succ d =>
    have e1 : (i : Int) < (L.length : Int) := by omega
    have e5 : IntKind.i64.wrap ((i : Int) + 1) = ((i + 1 : Nat) : Int) := by rw [wrap64 (by omega) (by omega)]; omega
    obtain ⟨p, hj⟩ : ∃ p, L[i]? = some p := ⟨L[i]'(by omega), List.getElem?_eq_getElem (by omega)⟩
    obtain ⟨b, all, ro, a1, a2, a3⟩ := g1.at (v2_get hj)
    have ge : (s2.new (.row 2 [[.int .i64 0, .int .u64 0]] false)).get s2.n = some (.row 2 [[.int .i64 0, .int .u64 0]] false) := get_new_same
    have st : stv (s2.new (.row 2 [[.int .i64 0, .int .u64 0]] false)) 2 (.pointer (some ⟨s2.n, 0, some 0⟩)) (.agg ⟨V2 p⟩) = some ((s2.new (.row 2 [[.int .i64 0, .int .u64 0]] false)).put s2.n (.row 2 [V2 p] false)) := by rw [stv_row ge]; rfl
    have ld : lda ((s2.new (.row 2 [[.int .i64 0, .int .u64 0]] false)).put s2.n (.row 2 [V2 p] false)) 2 (.pointer (some ⟨s2.n, 0, some 0⟩)) = some (.agg ⟨V2 p⟩) := by rw [lda_row (get_put_same ge)]; rfl
    have m3 : More s2 ((s2.new (.row 2 [[.int .i64 0, .int .u64 0]] false)).put s2.n (.row 2 [V2 p] false)) := More.new.put (Nat.le_refl _)
    have al : alv s2 (.agg #[.int .i64 0, .int .u64 0]) = some (.pointer (some ⟨s2.n, 0, some 0⟩), s2.new (.row 2 [[.int .i64 0, .int .u64 0]] false)) := rfl
    have f3 := m3.fresh hf
    generalize (s2.new (.row 2 [[.int .i64 0, .int .u64 0]] false)).put s2.n (.row 2 [V2 p] false) = s3 at *
    generalize s2.new (.row 2 [[.int .i64 0, .int .u64 0]] false) = s2' at *
    have hr := right_i p.1 p.2 (hp p (List.mem_of_getElem? hj)) s3
    have hv : VI p.1 p.2 = .agg ⟨V2 p⟩ := rfl
    rw [hv] at hr
    by_cases ok : okV p.1 p.2
    · rw [if_pos ok] at hr
      have fin := ih d [lv, .int .i64 (L.length : Int), .int .i64 ((i + 1 : Nat) : Int)] s3 (by omega) ⟨i + 1, by omega, fun j q hj' hq => by
        by_cases e : j = i
        · subst e; rw [hj] at hq; cases hq; exact ok
        · exact hall j q (by omega) hq, hm.trans m3, f3, rfl⟩
      have key : itF probe_bad_fn1I.Pw probe_bad_fn1I.Qw 0 rec [lv, .int .i64 (L.length : Int), .int .i64 (i : Int)] s2 = rec [lv, .int .i64 (L.length : Int), .int .i64 ((i + 1 : Nat) : Int)] s3 := by
        simp only [itF, probe_bad_fn1I.Pw, probe_bad_fn1I.Pu, probe_bad_fn1I.Qw, probe_bad_fn1I.Qu, sy, reduceIte, Nat.reduceAdd, Nat.reduceLeDiff, Nat.reduceLT, Nat.reduceEqDiff, Int.reduceEq, Int.reduceLT, Int.reduceLE, Int.reduceNe, ly, e1, a1, lda_row a2, a3, al, st, ld, hr, e5]
      rw [key]
      exact fin
    · rw [if_neg ok] at hr
      rw [if_neg fun h => ok (h p (List.mem_of_getElem? hj))]
      refine ⟨s3, ?_, hm.trans m3, f3⟩
      simp only [itF, probe_bad_fn1I.Pw, probe_bad_fn1I.Pu, sy, reduceIte, Nat.reduceAdd, Nat.reduceLeDiff, Nat.reduceLT, Nat.reduceEqDiff, Int.reduceEq, Int.reduceLT, Int.reduceLE, Int.reduceNe, ly, e1, a1, lda_row a2, a3, al, st, ld, hr]
end Go.Proofs.Ytogcfnhbacglfaa
