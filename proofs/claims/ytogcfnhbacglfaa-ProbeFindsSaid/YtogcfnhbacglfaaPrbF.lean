/-
  A stable sort of what is sorted; the breaks of a probe.
-/
import Derived.Test.YtogcfnhbacglfaaPrbE
set_option linter.unusedSimpArgs false
set_option linter.unusedVariables false
set_option maxRecDepth 100000
set_option maxHeartbeats 4000000
namespace Go.Proofs.Ytogcfnhbacglfaa
open Go.Sim Go.Sim.Bt
attribute [local congr] bdc cndc itec gdc gdSc gdUc

theorem sym_v {s : St} {v : Value} {L : List Bk} (h : Srt s v L) : ∀ (k : Nat) {a m b : Nat}, a < m → m < b → b ≤ L.length → b - a ≤ 2 ^ k →
    slices_symMergeCmpFunc_probe_broken.lev k [v, .int .i64 (a : Int), .int .i64 (m : Int), .int .i64 (b : Int), CMP] s = some (unitB, s)
  | 0, a, m, b, h1, h2, h3, h4 => by simp at h4; omega
  | k + 1, a, m, b, h1, h2, h3, h4 => by
    have hn := h.n
    have ih := fun {a m b} => sym_v h k (a := a) (m := m) (b := b)
    have hp : 2 ^ (k + 1) = 2 * 2 ^ k := by rw [Nat.pow_succ]; omega
    rw [hp] at h4
    show slices_symMergeCmpFunc_probe_broken.v (slices_symMergeCmpFunc_probe_broken.lev k) v _ _ _ CMP s = _
    generalize slices_symMergeCmpFunc_probe_broken.lev k = rc at *
    unfold slices_symMergeCmpFunc_probe_broken.v
    have s1 : IntKind.i64.wrap ((m : Int) - (a : Int)) = ((m - a : Nat) : Int) := by rw [wrap64 (by omega) (by omega)]; omega
    have s2 : IntKind.i64.wrap ((b : Int) - (m : Int)) = ((b - m : Nat) : Int) := by rw [wrap64 (by omega) (by omega)]; omega
    by_cases c1 : m - a = 1
    · have c1' : (((m - a : Nat) : Int) = 1) = True := by simp [c1]
      have i3 := sym3 (rc := rc) h h1 (b - m) b (by omega) h3 (Nat.le_refl _) (BIG - (b - m) - 1)
      rw [show BIG - (b - m) - 1 + (b - m) + 1 = BIG by unfold BIG; omega] at i3
      have i9 : iter (slices_symMergeCmpFunc_probe_broken.l9 std rc) BIG [v, .int .i64 (m : Int), .int .i64 (a : Int)] s = some ((0, [], s) : Cut) := by
        have e0 : IntKind.i64.wrap ((m : Int) - 1) = ((m - 1 : Nat) : Int) := by rw [wrap64 (by omega) (by omega)]; omega
        have e1 : ¬ (a : Int) < ((m - 1 : Nat) : Int) := by omega
        rw [show BIG = (BIG - 1) + 1 from rfl, iter_succ]
        simp only [slices_symMergeCmpFunc_probe_broken.l9, sy, reduceIte, Nat.reduceAdd, Nat.reduceLeDiff, Nat.reduceLT, Nat.reduceEqDiff, Int.reduceEq, Int.reduceLT, Int.reduceLE, Int.reduceNe, ly, e0, e1]
      simp only [slices_symMergeCmpFunc_probe_broken.t, sy, reduceIte, Nat.reduceAdd, Nat.reduceLeDiff, Nat.reduceLT, Nat.reduceEqDiff, Int.reduceEq, Int.reduceLT, Int.reduceLE, Int.reduceNe, ly, s1, c1', i3, i9]
    · have c1' : (((m - a : Nat) : Int) = 1) = False := by simp; omega
      by_cases c2 : b - m = 1
      · have c2' : (((b - m : Nat) : Int) = 1) = True := by simp [c2]
        have i3 := sym15 (rc := rc) h (m := m) (by omega) (m - a) a (by omega) (Nat.le_refl _) (BIG - (m - a) - 1)
        rw [show BIG - (m - a) - 1 + (m - a) + 1 = BIG by unfold BIG; omega] at i3
        have i9 : iter (slices_symMergeCmpFunc_probe_broken.l21 std rc) BIG [v, .int .i64 (m : Int), .int .i64 (m : Int)] s = some ((0, [], s) : Cut) := by
          have e1 : ¬ (m : Int) < (m : Int) := by omega
          rw [show BIG = (BIG - 1) + 1 from rfl, iter_succ]
          simp only [slices_symMergeCmpFunc_probe_broken.l21, sy, reduceIte, Nat.reduceAdd, Nat.reduceLeDiff, Nat.reduceLT, Nat.reduceEqDiff, Int.reduceEq, Int.reduceLT, Int.reduceLE, Int.reduceNe, ly, e1]
        simp only [slices_symMergeCmpFunc_probe_broken.t, sy, reduceIte, Nat.reduceAdd, Nat.reduceLeDiff, Nat.reduceLT, Nat.reduceEqDiff, Int.reduceEq, Int.reduceLT, Int.reduceLE, Int.reduceNe, ly, s1, c1', s2, c2', i3, i9]
      · have c2' : (((b - m : Nat) : Int) = 1) = False := by simp; omega
        obtain ⟨q1, q2, q3, q4⟩ := hlf (i := a) (j := b) (by omega)
        obtain ⟨t, ht⟩ : ∃ t, t = (a + b) / 2 := ⟨_, rfl⟩
        rw [← ht] at q3 q4
        obtain ⟨u, hu⟩ : ∃ u, u = a + b := ⟨_, rfl⟩
        rw [← hu] at q1 q2 q3 ht
        have e3 : IntKind.i64.wrap ((t : Int) + (m : Int)) = ((t + m : Nat) : Int) := by rw [wrap64 (by omega) (by omega)]; omega
        have e4 : IntKind.i64.wrap (((t + m : Nat) : Int) - 1) = ((t + m - 1 : Nat) : Int) := by rw [wrap64 (by omega) (by omega)]; omega
        by_cases c3 : t < m
        · -- the middle lies ahead of m
          have c3' : (t : Int) < (m : Int) := by omega
          have e5 : IntKind.i64.wrap (((t + m : Nat) : Int) - (b : Int)) = ((t + m - b : Nat) : Int) := by rw [wrap64 (by omega) (by omega)]; omega
          have e6 : IntKind.i64.wrap (((t + m : Nat) : Int) - (t : Int)) = (m : Int) := by rw [wrap64 (by omega) (by omega)]; omega
          have i3 := sym33 (rc := rc) (a := a) (m := m) (b := b) (mid := t) (r := t) (p := t + m - 1) (n := .int .i64 ((t + m : Nat) : Int)) h (by omega) (by omega) (lo := t + m - b) (by omega) t (t + m - b) (Nat.le_refl _) (by omega) (by omega) (BIG - t - 1)
          rw [show BIG - t - 1 + t + 1 = BIG by unfold BIG; omega] at i3
          have g1 : ¬ (m : Int) < (m : Int) := by omega
          have g2 : (a : Int) < (t : Int) := by omega
          have g3 : ¬ (t : Int) < (t : Int) := by omega
          have g4 : (m : Int) < (b : Int) := by omega
          have hr := ih (a := t) (m := m) (b := b) c3 h2 h3 (by omega)
          simp only [slices_symMergeCmpFunc_probe_broken.t, slices_symMergeCmpFunc_probe_broken.t.p1, sy, reduceIte, Nat.reduceAdd, Nat.reduceLeDiff, Nat.reduceLT, Nat.reduceEqDiff, Int.reduceEq, Int.reduceLT, Int.reduceLE, Int.reduceNe, ly, s1, c1', s2, c2', q1, q2, q3, q4, e3, c3', e5, e4, i3, e6, g1, g2, g3, g4, hr]
        · have c3' : ¬ (t : Int) < (m : Int) := by omega
          have e6 : IntKind.i64.wrap (((t + m : Nat) : Int) - (m : Int)) = (t : Int) := by rw [wrap64 (by omega) (by omega)]; omega
          have i3 := sym33 (rc := rc) (a := a) (m := m) (b := b) (mid := t) (r := m) (p := t + m - 1) (n := .int .i64 ((t + m : Nat) : Int)) h (by omega) (by omega) (lo := a) (by omega) m a (Nat.le_refl _) (by omega) (by omega) (BIG - m - 1)
          rw [show BIG - m - 1 + m + 1 = BIG by unfold BIG; omega] at i3
          have g1 : ¬ (m : Int) < (m : Int) := by omega
          have g2 : (a : Int) < (m : Int) := by omega
          have g4 : ¬ (t : Int) < (t : Int) := by omega
          by_cases c4 : m < t
          · have g3 : (m : Int) < (t : Int) := by omega
            have hr := ih (a := a) (m := m) (b := t) h1 c4 (by omega) (by omega)
            simp only [slices_symMergeCmpFunc_probe_broken.t, slices_symMergeCmpFunc_probe_broken.t.p1, sy, reduceIte, Nat.reduceAdd, Nat.reduceLeDiff, Nat.reduceLT, Nat.reduceEqDiff, Int.reduceEq, Int.reduceLT, Int.reduceLE, Int.reduceNe, ly, s1, c1', s2, c2', q1, q2, q3, q4, e3, c3', e4, i3, e6, g1, g2, g3, g4, hr]
          · have g3 : ¬ (m : Int) < (t : Int) := by omega
            simp only [slices_symMergeCmpFunc_probe_broken.t, slices_symMergeCmpFunc_probe_broken.t.p1, sy, reduceIte, Nat.reduceAdd, Nat.reduceLeDiff, Nat.reduceLT, Nat.reduceEqDiff, Int.reduceEq, Int.reduceLT, Int.reduceLE, Int.reduceNe, ly, s1, c1', s2, c2', q1, q2, q3, q4, e3, c3', e4, i3, e6, g1, g2, g3, g4]
theorem symL_v {s : St} {v : Value} {L : List Bk} (h : Srt s v L) {a m b : Nat} (h1 : a < m) (h2 : m < b) (h3 : b ≤ L.length) :
    slices_symMergeCmpFunc_probe_brokenL.v v (.int .i64 (a : Int)) (.int .i64 (m : Int)) (.int .i64 (b : Int)) CMP s = some (unitB, s) :=
  sym_v h 12 h1 h2 h3 (by have := h.n; omega)
theorem stable_v {s : St} {v : Value} {L : List Bk} (h : Srt s v L) : slices_stableCmpFunc_probe_broken.v v (.int .i64 (L.length : Int)) CMP s = some (unitB, s) := by
  have hn := h.n
  have i2 : ∃ a : Nat, a ≤ 5000 ∧ iter (slices_stableCmpFunc_probe_broken.l2 std) BIG [v, .int .i64 (L.length : Int), CMP, .int .i64 20, .int .i64 ((0 : Nat) : Int), .int .i64 ((20 : Nat) : Int)] s = some ((0, [v, .int .i64 (L.length : Int), CMP, .int .i64 20, .int .i64 (a : Int)], s) : Cut) := by
    refine iter_rel (fun d xs s' => ∃ a b : Nat, b = a + 20 ∧ a ≤ L.length ∧ L.length - a ≤ d ∧ s' = s ∧ xs = [v, .int .i64 (L.length : Int), CMP, .int .i64 20, .int .i64 (a : Int), .int .i64 (b : Int)])
      (fun y : Option Cut => ∃ a : Nat, a ≤ 5000 ∧ y = some (0, [v, .int .i64 (L.length : Int), CMP, .int .i64 20, .int .i64 (a : Int)], s)) ?_ BIG L.length _ s (by unfold BIG; omega) ⟨0, 20, rfl, by omega, by omega, rfl, rfl⟩
    rintro d xs s' rec ⟨a, b, hb, ha, hd, rfl, rfl⟩ ih
    by_cases c : b ≤ L.length
    · have e1 : (b : Int) ≤ (L.length : Int) := by omega
      have e5 : IntKind.i64.wrap ((b : Int) + 20) = ((b + 20 : Nat) : Int) := by rw [wrap64 (by omega) (by omega)]; omega
      have hi := ins_v h (a := a) c (by omega)
      obtain ⟨x, hx, fin⟩ := ih (d - 1) [v, .int .i64 (L.length : Int), CMP, .int .i64 20, .int .i64 (b : Int), .int .i64 ((b + 20 : Nat) : Int)] s' (by omega) ⟨b, b + 20, rfl, c, by omega, rfl, rfl⟩
      refine ⟨x, hx, ?_⟩
      rw [← fin]
      simp only [slices_stableCmpFunc_probe_broken.l2, sy, reduceIte, Nat.reduceAdd, Nat.reduceLeDiff, Nat.reduceLT, Nat.reduceEqDiff, Int.reduceEq, Int.reduceLT, Int.reduceLE, Int.reduceNe, ly, e1, hi, e5]
    · have e1 : ¬ (b : Int) ≤ (L.length : Int) := by omega
      exact ⟨a, by omega, by simp only [slices_stableCmpFunc_probe_broken.l2, sy, reduceIte, Nat.reduceAdd, Nat.reduceLeDiff, Nat.reduceLT, Nat.reduceEqDiff, Int.reduceEq, Int.reduceLT, Int.reduceLE, Int.reduceNe, ly, e1]⟩
  obtain ⟨a0, ha0, i2⟩ := i2
  have i2 : iter (slices_stableCmpFunc_probe_broken.l2 std) BIG [v, .int .i64 (L.length : Int), CMP, .int .i64 20, .int .i64 0, .int .i64 20] s = _ := i2
  have hi0 := ins_v h (a := a0) (b := L.length) (Nat.le_refl _) ha0
  have i7 : iter (slices_stableCmpFunc_probe_broken.l7 std) BIG [v, .int .i64 (L.length : Int), CMP, .int .i64 ((20 : Nat) : Int)] s = some ((0, [], s) : Cut) := by
    refine iter_rel (fun d xs s' => ∃ k : Nat, 20 ≤ k ∧ k ≤ 4000 ∧ L.length - k ≤ d ∧ s' = s ∧ xs = [v, .int .i64 (L.length : Int), CMP, .int .i64 (k : Int)])
      (fun y : Option Cut => y = some (0, [], s)) ?_ BIG L.length _ s (by unfold BIG; omega) ⟨20, by omega, by omega, by omega, rfl, rfl⟩
    rintro d xs s' rec ⟨k, hk, hk2, hd, rfl, rfl⟩ ih
    by_cases c : k < L.length
    · have e1 : (k : Int) < (L.length : Int) := by omega
      have e2 : IntKind.i64.wrap (2 * (k : Int)) = ((2 * k : Nat) : Int) := by rw [wrap64 (by omega) (by omega)]; omega
      have e2' : IntKind.i64.wrap ((k : Int) * 2) = ((2 * k : Nat) : Int) := by rw [wrap64 (by omega) (by omega)]; omega
      have i9 : ∃ a : Nat, a ≤ L.length ∧ iter (slices_stableCmpFunc_probe_broken.l9 std) BIG [v, .int .i64 (L.length : Int), CMP, .int .i64 (k : Int), .int .i64 ((0 : Nat) : Int), .int .i64 ((2 * k : Nat) : Int)] s' = some ((0, [v, .int .i64 (L.length : Int), CMP, .int .i64 (k : Int), .int .i64 (a : Int)], s') : Cut) := by
        refine iter_rel (fun d xs s2 => ∃ a b : Nat, b = a + 2 * k ∧ a ≤ L.length ∧ L.length - a ≤ d ∧ s2 = s' ∧ xs = [v, .int .i64 (L.length : Int), CMP, .int .i64 (k : Int), .int .i64 (a : Int), .int .i64 (b : Int)])
          (fun y : Option Cut => ∃ a : Nat, a ≤ L.length ∧ y = some (0, [v, .int .i64 (L.length : Int), CMP, .int .i64 (k : Int), .int .i64 (a : Int)], s')) ?_ BIG L.length _ s' (by unfold BIG; omega) ⟨0, 2 * k, by omega, by omega, by omega, rfl, rfl⟩
        rintro d2 xs s2 rec2 ⟨a, b, hb, ha, hd2, rfl, rfl⟩ ih2
        by_cases c2 : b ≤ L.length
        · have f1 : (b : Int) ≤ (L.length : Int) := by omega
          have f2 : IntKind.i64.wrap ((a : Int) + (k : Int)) = ((a + k : Nat) : Int) := by rw [wrap64 (by omega) (by omega)]; omega
          have f3 : IntKind.i64.wrap ((b : Int) + ((2 * k : Nat) : Int)) = ((b + 2 * k : Nat) : Int) := by rw [wrap64 (by omega) (by omega)]; omega
          have hs := symL_v h (a := a) (m := a + k) (b := b) (by omega) (by omega) c2
          obtain ⟨x, hx, fin⟩ := ih2 (d2 - 1) [v, .int .i64 (L.length : Int), CMP, .int .i64 (k : Int), .int .i64 (b : Int), .int .i64 ((b + 2 * k : Nat) : Int)] s2 (by omega) ⟨b, b + 2 * k, rfl, c2, by omega, rfl, rfl⟩
          refine ⟨x, hx, ?_⟩
          rw [← fin]
          simp only [slices_stableCmpFunc_probe_broken.l9, sy, reduceIte, Nat.reduceAdd, Nat.reduceLeDiff, Nat.reduceLT, Nat.reduceEqDiff, Int.reduceEq, Int.reduceLT, Int.reduceLE, Int.reduceNe, ly, f1, f2, hs, e2, f3]
        · have f1 : ¬ (b : Int) ≤ (L.length : Int) := by omega
          exact ⟨a, ha, by simp only [slices_stableCmpFunc_probe_broken.l9, sy, reduceIte, Nat.reduceAdd, Nat.reduceLeDiff, Nat.reduceLT, Nat.reduceEqDiff, Int.reduceEq, Int.reduceLT, Int.reduceLE, Int.reduceNe, ly, f1]⟩
      obtain ⟨a, ha, i9⟩ := i9
      have i9 : iter (slices_stableCmpFunc_probe_broken.l9 std) BIG [v, .int .i64 (L.length : Int), CMP, .int .i64 (k : Int), .int .i64 0, .int .i64 ((2 * k : Nat) : Int)] s' = _ := i9
      have f2 : IntKind.i64.wrap ((a : Int) + (k : Int)) = ((a + k : Nat) : Int) := by rw [wrap64 (by omega) (by omega)]; omega
      have fin := ih (d - 1) [v, .int .i64 (L.length : Int), CMP, .int .i64 ((2 * k : Nat) : Int)] s' (by omega) ⟨2 * k, by omega, by omega, by omega, rfl, rfl⟩
      rw [← fin]
      by_cases c3 : a + k < L.length
      · have f1 : ((a + k : Nat) : Int) < (L.length : Int) := by omega
        have hs := symL_v h (a := a) (m := a + k) (b := L.length) (by omega) c3 (Nat.le_refl _)
        simp only [slices_stableCmpFunc_probe_broken.l7, sy, reduceIte, Nat.reduceAdd, Nat.reduceLeDiff, Nat.reduceLT, Nat.reduceEqDiff, Int.reduceEq, Int.reduceLT, Int.reduceLE, Int.reduceNe, ly, e1, e2, i9, f2, f1, hs, e2']
      · have f1 : ¬ ((a + k : Nat) : Int) < (L.length : Int) := by omega
        simp only [slices_stableCmpFunc_probe_broken.l7, sy, reduceIte, Nat.reduceAdd, Nat.reduceLeDiff, Nat.reduceLT, Nat.reduceEqDiff, Int.reduceEq, Int.reduceLT, Int.reduceLE, Int.reduceNe, ly, e1, e2, i9, f2, f1, e2']
    · have e1 : ¬ (k : Int) < (L.length : Int) := by omega
      simp only [slices_stableCmpFunc_probe_broken.l7, sy, reduceIte, Nat.reduceAdd, Nat.reduceLeDiff, Nat.reduceLT, Nat.reduceEqDiff, Int.reduceEq, Int.reduceLT, Int.reduceLE, Int.reduceNe, ly, e1]
  have i7 : iter (slices_stableCmpFunc_probe_broken.l7 std) BIG [v, .int .i64 (L.length : Int), CMP, .int .i64 20] s = _ := i7
  simp only [slices_stableCmpFunc_probe_broken.v, slices_stableCmpFunc_probe_broken.t, sy, reduceIte, Nat.reduceAdd, Nat.reduceLeDiff, Nat.reduceLT, Nat.reduceEqDiff, Int.reduceEq, Int.reduceLT, Int.reduceLE, Int.reduceNe, ly, i2, hi0, i7]
theorem sort_v {s : St} {v : Value} {L : List Bk} (h : Srt s v L) : slices_SortStableFunc_probe_broken_probe_broken.v v CMP s = some (unitB, s) := by
  have hlen := h.r.len
  rw [List.length_map] at hlen
  have hs := stable_v h
  simp only [slices_SortStableFunc_probe_broken_probe_broken.v, slices_SortStableFunc_probe_broken_probe_broken.t, sy, reduceIte, Nat.reduceAdd, Nat.reduceLeDiff, Nat.reduceLT, Nat.reduceEqDiff, Int.reduceEq, Int.reduceLT, Int.reduceLE, Int.reduceNe, ly, hlen, hs]
/-- slices.Clone of breaks. -/
theorem cloneB_v {s : St} {v : Value} {L : List Bk} (f : Fresh s) (h : IsR s 9 v (L.map Bk.c9)) (hl : L.length ≤ 1000000) :
    ∃ w s', slices_Clone_probe_broken_probe_broken.v v s = some (w, s') ∧ More s s' ∧ Fresh s' ∧ Ful s.n s' 9 w (L.map Bk.c9) := by
  obtain ⟨w, s', e1, e2, e3, e4⟩ := app_clone (by_ := 72) f h (by rw [List.length_map]; omega) (by rw [List.length_map]; omega)
  have rp0 : List.replicate 0 [Value.int .i64 0, Value.int .u64 0, Value.int .i64 0, Value.int .i64 0, Value.int .i64 0, Value.int .u64 0, Value.int .i64 0, Value.int .u64 0, Value.int .i64 0] = [] := rfl
  have z0 : 2 * 0 = 0 := rfl
  have h' := h
  rcases h' with ⟨rfl, hr⟩ | ⟨b, e, all, ro, rfl, _⟩
  · have q : eqb [4] false false (.slice none 0 0) (.slice none 0 0) = some (.bool true) := rfl
    exact ⟨.slice none 0 0, s, by simp only [slices_Clone_probe_broken_probe_broken.v, slices_Clone_probe_broken_probe_broken.t, sy, reduceIte, Nat.reduceAdd, Nat.reduceLeDiff, Nat.reduceLT, Nat.reduceEqDiff, Int.reduceEq, Int.reduceLT, Int.reduceLE, Int.reduceNe, ly, q], .refl _, f, .inl ⟨rfl, hr⟩⟩
  · have q : ∀ n, eqb [4] false false (.slice (some ⟨b, 0, some 0⟩) n e) (.slice none 0 0) = some (.bool false) := fun _ => rfl
    exact ⟨w, s', by simp only [slices_Clone_probe_broken_probe_broken.v, slices_Clone_probe_broken_probe_broken.t, sy, reduceIte, Nat.reduceAdd, Nat.reduceLeDiff, Nat.reduceLT, Nat.reduceEqDiff, Int.reduceEq, Int.reduceLT, Int.reduceLE, Int.reduceNe, ly, q, rp0, als_eq, z0, e1], e2, e3, e4⟩
theorem breaks_v {c : Pc} {m : Pm} {s : St} {U : Nat} (h : AtQ c m s U) (I : InvP c m) (f : Fresh s) :
    ∃ w s', probe_Probe_Breaks.v (PU U) s = some (w, s') ∧ More s s' ∧ Fresh s' ∧ IsR s' 8 w (m.L.map Bk.c8) := by
  obtain ⟨lv, bv, h1, h2, h3⟩ := h.ex
  have hi := is_r h1
  have ha := I.a
  have hl := I.l
  have hc := I.len
  obtain ⟨w, s1, e1, m1, f1, h4⟩ := cloneB_v f h3.isR (by omega)
  have hS : Srt s1 w m.L := ⟨h4.isR, by omega, I.up, fun x hx => by have := I.lt x hx; omega⟩
  have hs := sort_v hS
  have hlen := h4.isR.len
  rw [List.length_map] at hlen
  have it : ∃ (v' : Value) (s' : St), iter (probe_Probe_Breaks.l7 std) BIG [.slice none 0 0, w, .int .i64 (m.L.length : Int), .int .i64 ((0 : Nat) : Int)] s1 = some ((0, [v'], s') : Cut) ∧ More s1 s' ∧ Fresh s' ∧ Ful s1.n s' 8 v' (m.L.map Bk.c8) := by
    refine iter_rel (fun d xs s' => ∃ (i : Nat) (v' : Value), i + d = m.L.length ∧ More s1 s' ∧ Fresh s' ∧ Ful s1.n s' 8 v' ((m.L.take i).map Bk.c8) ∧ xs = [v', w, .int .i64 (m.L.length : Int), .int .i64 (i : Int)])
      (fun y : Option Cut => ∃ (v' : Value) (s' : St), y = some (0, [v'], s') ∧ More s1 s' ∧ Fresh s' ∧ Ful s1.n s' 8 v' (m.L.map Bk.c8)) ?_ BIG m.L.length _ s1 (by unfold BIG; omega) ⟨0, _, by omega, .refl _, f1, .nil, rfl⟩
    rintro d xs s2 rec ⟨i, v', hi2, hm, hf, hv, rfl⟩ ih
    cases d with
    | zero =>
      have g1 : ¬ ((i : Int) < (m.L.length : Int)) := by omega
      refine ⟨v', s2, by simp only [probe_Probe_Breaks.l7, sy, reduceIte, Nat.reduceAdd, Nat.reduceLeDiff, Nat.reduceLT, Nat.reduceEqDiff, Int.reduceEq, Int.reduceLT, Int.reduceLE, Int.reduceNe, ly, g1], hm, hf, ?_⟩
      rw [List.take_of_length_le (by omega)] at hv
      exact hv
    | succ d =>
      have g1 : (i : Int) < (m.L.length : Int) := by omega
      have e5 : IntKind.i64.wrap ((i : Int) + 1) = ((i + 1 : Nat) : Int) := by rw [wrap64 (by omega) (by omega)]; omega
      have hx : m.L[i]? = some (m.L[i]'(by omega)) := List.getElem?_eq_getElem (by omega)
      generalize m.L[i]'(by omega) = x at hx
      obtain ⟨all, ro, a1, a2, a3⟩ := (h4.isR.more hm f1).atB (r := x.c9) (by rw [List.getElem?_map, hx]; rfl)
      have ht : (m.L.take i).length = i := by rw [List.length_take]; omega
      obtain ⟨v2, s3, p1, p2, p3, p4, p5⟩ := push (s0 := s1) hf hv hm (by_ := 64) x.c8 (by rw [List.length_map]; omega) (by rw [List.length_map]; omega)
      have hv3 : Ful s1.n s3 8 v2 ((m.L.take (i + 1)).map Bk.c8) := by
        rw [List.take_add_one, hx, List.map_append]; exact p3
      have fin := ih d [v2, w, .int .i64 (m.L.length : Int), .int .i64 ((i + 1 : Nat) : Int)] s3 (by omega) ⟨i + 1, v2, by omega, p2, p4, hv3, rfl⟩
      have key : probe_Probe_Breaks.l7 std rec [v', w, .int .i64 (m.L.length : Int), .int .i64 (i : Int)] s2 = rec [v2, w, .int .i64 (m.L.length : Int), .int .i64 ((i + 1 : Nat) : Int)] s3 := by
        simp only [probe_Probe_Breaks.l7, sy, reduceIte, Nat.reduceAdd, Nat.reduceLeDiff, Nat.reduceLT, Nat.reduceEqDiff, Int.reduceEq, Int.reduceLT, Int.reduceLE, Int.reduceNe, ly, g1, a1, lda_row a2, a3, als_eq, p1, e5]
      rw [key]
      exact fin
  obtain ⟨v', s', i1, i2, i3, i4⟩ := it
  have i1 : iter (probe_Probe_Breaks.l7 std) BIG [.slice none 0 0, w, .int .i64 (m.L.length : Int), .int .i64 0] s1 = _ := i1
  refine ⟨v', s', ?_, m1.trans i2, i3, i4.isR⟩
  simp only [probe_Probe_Breaks.v, probe_Probe_Breaks.t, sy, reduceIte, Nat.reduceAdd, Nat.reduceLeDiff, Nat.reduceLT, Nat.reduceEqDiff, Int.reduceEq, Int.reduceLT, Int.reduceLE, Int.reduceNe, ly, hi, ldc_row h1, e1, hs, hlen, i1]
end Go.Proofs.Ytogcfnhbacglfaa
