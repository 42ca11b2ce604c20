/-
  Rows that are sorted already stay as they are.
-/
import Derived.Test.YtogcfnhbacglfaaPrbD
set_option linter.unusedSimpArgs false
set_option linter.unusedVariables false
set_option maxRecDepth 100000
set_option maxHeartbeats 4000000
namespace Go.Proofs.Ytogcfnhbacglfaa
open Go.Sim Go.Sim.Bt
attribute [local congr] bdc cndc itec gdc gdSc gdUc

abbrev CMP : Value := .func (.func 41) ⟨[]⟩ ⟨[]⟩
theorem cmpB_r (x y : Bk) (s : St) (h : -9223372036854775808 ≤ x.at_ - y.at_ ∧ x.at_ - y.at_ ≤ 9223372036854775807) : probe_Probe_Breaks_fn1.r (.agg ⟨x.c9⟩) (.agg ⟨y.c9⟩) s = some (.int .i64 (x.at_ - y.at_)) := by
  have e := wrap64 h.1 h.2
  simp only [probe_Probe_Breaks_fn1.r, probe_Probe_Breaks_fn1.t, sy, reduceIte, Nat.reduceAdd, Nat.reduceLeDiff, Nat.reduceLT, Nat.reduceEqDiff, Int.reduceEq, Int.reduceLT, Int.reduceLE, Int.reduceNe, ly, e]
theorem callB {C : Ctx} (hC : lookC C 41 = some (.rd probe_Probe_Breaks_fn1.w)) (x y : Bk) (s : St) (h : -9223372036854775808 ≤ x.at_ - y.at_ ∧ x.at_ - y.at_ ≤ 9223372036854775807) :
    callV C CMP [.agg ⟨x.c9⟩, .agg ⟨y.c9⟩] s = some (.int .i64 (x.at_ - y.at_), s) := by
  simp only [callV, hC]
  show (probe_Probe_Breaks_fn1.r _ _ s).map _ = _
  rw [cmpB_r x y s h]
  rfl
/-- Rows by places that rise. -/
structure Srt (s : St) (v : Value) (L : List Bk) : Prop where
  r : IsR s 9 v (L.map Bk.c9)
  n : L.length ≤ 1024
  up : ∀ (i j : Nat) x y, i < j → L[i]? = some x → L[j]? = some y → x.at_ < y.at_
  b : ∀ x ∈ L, 0 ≤ x.at_ ∧ x.at_ ≤ 2000
theorem Srt.at {s : St} {v : Value} {L : List Bk} (h : Srt s v L) {j : Nat} (hj : j < L.length) : ∃ x p, L[j]? = some x ∧ idx s 9 v (.int .i64 (j : Int)) = some p ∧ lda s 9 p = some (.agg ⟨x.c9⟩) ∧ sameV p p = true := by
  have hx : L[j]? = some L[j] := List.getElem?_eq_getElem hj
  obtain ⟨all, ro, a1, a2, a3⟩ := h.r.atB (r := L[j].c9) (by rw [List.getElem?_map, hx]; rfl)
  refine ⟨L[j], _, hx, a1, by rw [lda_row a2, a3]; rfl, samePj⟩
theorem Srt.cmp {s : St} {v : Value} {L : List Bk} (h : Srt s v L) {i j : Nat} {x y : Bk} (hij : i < j) (hx : L[i]? = some x) (hy : L[j]? = some y) {C : Ctx} (hC : lookC C 41 = some (.rd probe_Probe_Breaks_fn1.w)) :
    callV C CMP [.agg ⟨y.c9⟩, .agg ⟨x.c9⟩] s = some (.int .i64 (y.at_ - x.at_), s) ∧ ¬ (y.at_ - x.at_ < 0) := by
  have h1 := h.b x (List.mem_of_getElem? hx)
  have h2 := h.b y (List.mem_of_getElem? hy)
  have h3 := h.up i j x y hij hx hy
  exact ⟨callB hC y x s (by omega), by omega⟩
theorem ins_in {s : St} {v : Value} {L : List Bk} (h : Srt s v L) {a b i : Nat} (ha : a < i) (hi : i < L.length) :
    ∃ l, iter (slices_insertionSortCmpFunc_probe_broken.l4 std) BIG [v, .int .i64 (a : Int), .int .i64 (b : Int), CMP, .int .i64 (i : Int), .int .i64 (i : Int)] s = some ((0, v :: .int .i64 (a : Int) :: .int .i64 (b : Int) :: CMP :: .int .i64 (i : Int) :: l, s) : Cut) := by
  have hn := h.n
  obtain ⟨x, p, x1, x2, x3, x4⟩ := h.at hi
  obtain ⟨y, q, y1, y2, y3, y4⟩ := h.at (j := i - 1) (by omega)
  obtain ⟨c1, c2⟩ := h.cmp (i := i - 1) (j := i) (by omega) y1 x1 (C := slices_insertionSortCmpFunc_probe_broken.ctx) rfl
  have e1 : (a : Int) < (i : Int) := by omega
  have e2 : IntKind.i64.wrap ((i : Int) - 1) = ((i - 1 : Nat) : Int) := by rw [wrap64 (by omega) (by omega)]; omega
  rw [show BIG = (BIG - 1) + 1 from rfl, iter_succ]
  refine ⟨[CMP, v, .int .i64 (i : Int), p, .agg ⟨x.c9⟩, v, .int .i64 (i : Int), .int .i64 ((i - 1 : Nat) : Int), q, .agg ⟨y.c9⟩, .int .i64 (x.at_ - y.at_), .bool false], ?_⟩
  simp only [slices_insertionSortCmpFunc_probe_broken.l4, sy, reduceIte, Nat.reduceAdd, Nat.reduceLeDiff, Nat.reduceLT, Nat.reduceEqDiff, Int.reduceEq, Int.reduceLT, Int.reduceLE, Int.reduceNe, ly, e1, e2, x2, x3, y2, y3, c1, x4, y4, c2]
theorem ins_v {s : St} {v : Value} {L : List Bk} (h : Srt s v L) {a b : Nat} (hb : b ≤ L.length) (ha : a ≤ 5000) : slices_insertionSortCmpFunc_probe_broken.v v (.int .i64 (a : Int)) (.int .i64 (b : Int)) CMP s = some (unitB, s) := by
  have hn := h.n
  have it : iter (slices_insertionSortCmpFunc_probe_broken.l1 std) BIG [v, .int .i64 (a : Int), .int .i64 (b : Int), CMP, .int .i64 ((a + 1 : Nat) : Int)] s = some ((0, [], s) : Cut) := by
    refine iter_rel (fun d xs s' => ∃ i : Nat, a < i ∧ i + d = max b i ∧ i ≤ 6000 ∧ s' = s ∧ xs = [v, .int .i64 (a : Int), .int .i64 (b : Int), CMP, .int .i64 (i : Int)])
      (fun y : Option Cut => y = some (0, [], s)) ?_ BIG (max b (a + 1) - (a + 1)) _ s (by unfold BIG; omega) ⟨a + 1, by omega, by omega, by omega, rfl, rfl⟩
    rintro d xs s' rec ⟨i, hi1, hi2, hi3, rfl, rfl⟩ ih
    by_cases c : i < b
    · have e1 : (i : Int) < (b : Int) := by omega
      have e5 : IntKind.i64.wrap ((i : Int) + 1) = ((i + 1 : Nat) : Int) := by rw [wrap64 (by omega) (by omega)]; omega
      obtain ⟨l, hl⟩ := ins_in h (b := b) hi1 (by omega : i < L.length)
      have fin := ih (d - 1) [v, .int .i64 (a : Int), .int .i64 (b : Int), CMP, .int .i64 ((i + 1 : Nat) : Int)] s' (by omega) ⟨i + 1, by omega, by omega, by omega, rfl, rfl⟩
      rw [← fin]
      simp only [slices_insertionSortCmpFunc_probe_broken.l1, sy, reduceIte, Nat.reduceAdd, Nat.reduceLeDiff, Nat.reduceLT, Nat.reduceEqDiff, Int.reduceEq, Int.reduceLT, Int.reduceLE, Int.reduceNe, ly, e1, hl, e5]
    · have e1 : ¬ (i : Int) < (b : Int) := by omega
      simp only [slices_insertionSortCmpFunc_probe_broken.l1, sy, reduceIte, Nat.reduceAdd, Nat.reduceLeDiff, Nat.reduceLT, Nat.reduceEqDiff, Int.reduceEq, Int.reduceLT, Int.reduceLE, Int.reduceNe, ly, e1]
  have e5 : IntKind.i64.wrap ((a : Int) + 1) = ((a + 1 : Nat) : Int) := by rw [wrap64 (by omega) (by omega)]; omega
  simp only [slices_insertionSortCmpFunc_probe_broken.v, slices_insertionSortCmpFunc_probe_broken.t, sy, reduceIte, Nat.reduceAdd, Nat.reduceLeDiff, Nat.reduceLT, Nat.reduceEqDiff, Int.reduceEq, Int.reduceLT, Int.reduceLE, Int.reduceNe, ly, e5, it]

/-! ### Halves -/

theorem hlf {i j : Nat} (h : i + j ≤ 100000) : IntKind.i64.wrap ((i : Int) + (j : Int)) = ((i + j : Nat) : Int) ∧ IntKind.u64.wrap (((i + j : Nat) : Int)) = ((i + j : Nat) : Int) ∧ bin .shr (.int .u64 ((i + j : Nat) : Int)) (.int .u64 1) = some (.int .u64 (((i + j) / 2 : Nat) : Int)) ∧ IntKind.i64.wrap ((((i + j) / 2 : Nat) : Int)) = (((i + j) / 2 : Nat) : Int) := by
  refine ⟨by rw [wrap64 (by omega) (by omega)]; omega, wrapu64 (by omega) (by omega), ?_, wrap64 (by omega) (by omega)⟩
  exact shr_u64 (k := 1) (by omega)
theorem sym3 {rc : List Value → St → Option (Value × St)} {s : St} {v : Value} {L : List Bk} (h : Srt s v L) {a m : Nat} (ha : a < m) :
    ∀ (d j : Nat), m ≤ j → j ≤ L.length → j - m ≤ d → ∀ e, iter (slices_symMergeCmpFunc_probe_broken.l3 std rc) (e + d + 1) [v, .int .i64 (a : Int), CMP, .int .i64 (m : Int), .int .i64 (j : Int)] s = some ((0, [v, .int .i64 (a : Int), .int .i64 (m : Int)], s) : Cut)
  | d, j, h1, h2, h3, e => by
    have hn := h.n
    rw [iter_succ]
    by_cases c : m < j
    · have e1 : (m : Int) < (j : Int) := by omega
      obtain ⟨d, rfl⟩ : ∃ d', d = d' + 1 := ⟨d - 1, by omega⟩
      obtain ⟨q1, q2, q3, q4⟩ := hlf (i := m) (j := j) (by omega)
      obtain ⟨t, ht⟩ : ∃ t, t = (m + j) / 2 := ⟨_, rfl⟩
      rw [← ht] at q3 q4
      obtain ⟨u, hu⟩ : ∃ u, u = m + j := ⟨_, rfl⟩
      rw [← hu] at q1 q2 q3 ht
      obtain ⟨x, p, x1, x2, x3, x4⟩ := h.at (j := t) (by omega)
      obtain ⟨y, q, y1, y2, y3, y4⟩ := h.at (j := a) (by omega)
      obtain ⟨c1, c2⟩ := h.cmp (i := a) (j := t) (by omega) y1 x1 (C := slices_symMergeCmpFunc_probe_broken.ctx rc) rfl
      have fin := sym3 (rc := rc) h ha d t (by omega) (by omega) (by omega) e
      rw [show e + (d + 1) = e + d + 1 by omega]
      rw [← fin]
      simp only [slices_symMergeCmpFunc_probe_broken.l3, sy, reduceIte, Nat.reduceAdd, Nat.reduceLeDiff, Nat.reduceLT, Nat.reduceEqDiff, Int.reduceEq, Int.reduceLT, Int.reduceLE, Int.reduceNe, ly, e1, q1, q2, q3, q4, x2, x3, y2, y3, c1, x4, y4, c2]
    · have e1 : ¬ (m : Int) < (j : Int) := by omega
      simp only [slices_symMergeCmpFunc_probe_broken.l3, sy, reduceIte, Nat.reduceAdd, Nat.reduceLeDiff, Nat.reduceLT, Nat.reduceEqDiff, Int.reduceEq, Int.reduceLT, Int.reduceLE, Int.reduceNe, ly, e1]
theorem sym15 {rc : List Value → St → Option (Value × St)} {s : St} {v : Value} {L : List Bk} (h : Srt s v L) {m : Nat} (hm : m < L.length) :
    ∀ (d i : Nat), i ≤ m → m - i ≤ d → ∀ e, iter (slices_symMergeCmpFunc_probe_broken.l15 std rc) (e + d + 1) [v, .int .i64 (m : Int), CMP, .int .i64 (i : Int), .int .i64 (m : Int)] s = some ((0, [v, .int .i64 (m : Int), .int .i64 (m : Int)], s) : Cut)
  | d, i, h1, h3, e => by
    have hn := h.n
    rw [iter_succ]
    by_cases c : i < m
    · have e1 : (i : Int) < (m : Int) := by omega
      obtain ⟨d, rfl⟩ : ∃ d', d = d' + 1 := ⟨d - 1, by omega⟩
      obtain ⟨q1, q2, q3, q4⟩ := hlf (i := i) (j := m) (by omega)
      obtain ⟨t, ht⟩ : ∃ t, t = (i + m) / 2 := ⟨_, rfl⟩
      rw [← ht] at q3 q4
      obtain ⟨u, hu⟩ : ∃ u, u = i + m := ⟨_, rfl⟩
      rw [← hu] at q1 q2 q3 ht
      obtain ⟨x, p, x1, x2, x3, x4⟩ := h.at (j := m) (by omega)
      obtain ⟨y, q, y1, y2, y3, y4⟩ := h.at (j := t) (by omega)
      obtain ⟨c1, c2⟩ := h.cmp (i := t) (j := m) (by omega) y1 x1 (C := slices_symMergeCmpFunc_probe_broken.ctx rc) rfl
      have e5 : IntKind.i64.wrap ((t : Int) + 1) = ((t + 1 : Nat) : Int) := by rw [wrap64 (by omega) (by omega)]; omega
      have fin := sym15 (rc := rc) h hm d (t + 1) (by omega) (by omega) e
      rw [show e + (d + 1) = e + d + 1 by omega]
      rw [← fin]
      simp only [slices_symMergeCmpFunc_probe_broken.l15, sy, reduceIte, Nat.reduceAdd, Nat.reduceLeDiff, Nat.reduceLT, Nat.reduceEqDiff, Int.reduceEq, Int.reduceLT, Int.reduceLE, Int.reduceNe, ly, e1, q1, q2, q3, q4, x2, x3, y2, y3, c1, x4, y4, c2, e5]
    · have e0 : i = m := by omega
      subst e0
      have e1 : ¬ (i : Int) < (i : Int) := by omega
      simp only [slices_symMergeCmpFunc_probe_broken.l15, sy, reduceIte, Nat.reduceAdd, Nat.reduceLeDiff, Nat.reduceLT, Nat.reduceEqDiff, Int.reduceEq, Int.reduceLT, Int.reduceLE, Int.reduceNe, ly, e1]
theorem sym33 {rc : List Value → St → Option (Value × St)} {s : St} {v : Value} {L : List Bk} (h : Srt s v L) {a m b mid r p : Nat} {n : Value} (hr : r ≤ p + 1 - r) (hp : p < 5000) {lo : Nat} (hlo : p < L.length + lo) :
    ∀ (d i : Nat), lo ≤ i → i ≤ r → r - i ≤ d → ∀ e, iter (slices_symMergeCmpFunc_probe_broken.l33 std rc) (e + d + 1) [v, .int .i64 (a : Int), .int .i64 (m : Int), .int .i64 (b : Int), CMP, .int .i64 (mid : Int), n, .int .i64 (i : Int), .int .i64 (r : Int), .int .i64 (p : Int)] s = some ((0, [v, .int .i64 (a : Int), .int .i64 (m : Int), .int .i64 (b : Int), CMP, .int .i64 (mid : Int), n, .int .i64 (r : Int)], s) : Cut)
  | d, i, h0, h1, h3, e => by
    have hn := h.n
    rw [iter_succ]
    by_cases c : i < r
    · have e1 : (i : Int) < (r : Int) := by omega
      obtain ⟨d, rfl⟩ : ∃ d', d = d' + 1 := ⟨d - 1, by omega⟩
      obtain ⟨q1, q2, q3, q4⟩ := hlf (i := i) (j := r) (by omega)
      obtain ⟨t, ht⟩ : ∃ t, t = (i + r) / 2 := ⟨_, rfl⟩
      rw [← ht] at q3 q4
      obtain ⟨u, hu⟩ : ∃ u, u = i + r := ⟨_, rfl⟩
      rw [← hu] at q1 q2 q3 ht
      have e6 : IntKind.i64.wrap ((p : Int) - (t : Int)) = ((p - t : Nat) : Int) := by rw [wrap64 (by omega) (by omega)]; omega
      obtain ⟨x, px, x1, x2, x3, x4⟩ := h.at (j := p - t) (by omega)
      obtain ⟨y, q, y1, y2, y3, y4⟩ := h.at (j := t) (by omega)
      obtain ⟨c1, c2⟩ := h.cmp (i := t) (j := p - t) (by omega) y1 x1 (C := slices_symMergeCmpFunc_probe_broken.ctx rc) rfl
      have e5 : IntKind.i64.wrap ((t : Int) + 1) = ((t + 1 : Nat) : Int) := by rw [wrap64 (by omega) (by omega)]; omega
      have fin := sym33 (rc := rc) (a := a) (m := m) (b := b) (mid := mid) (n := n) h hr hp hlo d (t + 1) (by omega) (by omega) (by omega) e
      rw [show e + (d + 1) = e + d + 1 by omega]
      rw [← fin]
      simp only [slices_symMergeCmpFunc_probe_broken.l33, sy, reduceIte, Nat.reduceAdd, Nat.reduceLeDiff, Nat.reduceLT, Nat.reduceEqDiff, Int.reduceEq, Int.reduceLT, Int.reduceLE, Int.reduceNe, ly, e1, q1, q2, q3, q4, e6, x2, x3, y2, y3, c1, x4, y4, c2, e5]
    · have e0 : i = r := by omega
      subst e0
      have e1 : ¬ (i : Int) < (i : Int) := by omega
      simp only [slices_symMergeCmpFunc_probe_broken.l33, sy, reduceIte, Nat.reduceAdd, Nat.reduceLeDiff, Nat.reduceLT, Nat.reduceEqDiff, Int.reduceEq, Int.reduceLT, Int.reduceLE, Int.reduceNe, ly, e1]
end Go.Proofs.Ytogcfnhbacglfaa
