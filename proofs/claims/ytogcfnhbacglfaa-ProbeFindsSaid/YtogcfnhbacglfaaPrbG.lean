/-
  A probe is made: both alike.
-/
import Derived.Test.YtogcfnhbacglfaaPrbF
set_option linter.unusedSimpArgs false
set_option linter.unusedVariables false
set_option maxRecDepth 100000
set_option maxHeartbeats 4000000
namespace Go.Proofs.Ytogcfnhbacglfaa
open Go.Sim Go.Sim.Bt
attribute [local congr] bdc cndc itec gdc gdSc gdUc

abbrev ccs (c : Pc) (lv : Value) : List Value := [.int .i64 c.me.id, .int .i64 c.me.rk, .int .u64 c.me.n, .int .i64 c.me.ln, .int .u64 c.me.bt, lv]
def okP (c : Pc) : Prop := okK c.me.rk c.me.n ∧ okV c.me.ln c.me.bt ∧ c.ls.length ≤ 1024 ∧ ∀ p ∈ c.ls, okV p.1 p.2
def p0 : Pm := ⟨0, false, zR, []⟩
theorem inv_p0 {c : Pc} (h : c.ls.length ≤ 1024) : InvP c p0 := ⟨h, Nat.zero_le _, Nat.le_refl _, fun i j x y _ hx => by simp [p0] at hx, fun x hx => by simp [p0] at hx⟩
theorem alv_isR {s : St} {sz : Nat} {v : Value} {rows : List (List Value)} (h : IsR s sz v rows) (s' : St) : alv s' v = some (PU s'.n, s'.new (.row 1 [[v]] false)) := by
  rcases h with ⟨rfl, _⟩ | ⟨b, e, all, ro, rfl, _⟩ <;> rfl
/-- What New says. -/
def Made (c : Pc) (At : Pc → Pm → St → Nat → Prop) (s : St) (y : Option (Value × St)) : Prop :=
  (okP c → ∃ U s', y = some (.tuple ⟨[PU U, .int .i64 0]⟩, s') ∧ At c p0 s' U ∧ More s s' ∧ Fresh s' ∧ s.n ≤ U) ∧
  (¬ okP c → ∃ s', y = some (.tuple ⟨[.pointer none, .int .i64 190]⟩, s') ∧ More s s' ∧ Fresh s')

theorem one_stv {s : St} {b : Nat} {x v : Value} (h : s.get b = some (.row 1 [[x]] false)) (hv : bx v = some [v]) : stv s 1 (PU b) v = some (s.put b (.row 1 [[v]] false)) := by
  rw [stv_row h, hv]; rfl
theorem one_ldc {s : St} {b : Nat} {x : Value} (h : s.get b = some (.row 1 [[x]] false)) : ldc s (PU b) = some x := by
  rw [ldc_row h]; rfl
/-- Two cells of one's own are written. -/
theorem two_stv {s s4 : St} {B C : Nat} {x y u v : Value} (hB : s.n ≤ B) (hC : s.n ≤ C) (hBC : B < C) (hm : More s s4) (f : Fresh s4) (gB : s4.get B = some (.row 1 [[x]] false)) (gC : s4.get C = some (.row 1 [[y]] false)) (hu : bx u = some [u]) (hv : bx v = some [v]) :
    ∃ s5 s6, stv s4 1 (PU B) u = some s5 ∧ stv s5 1 (PU C) v = some s6 ∧ ldc s6 (PU B) = some u ∧ ldc s6 (PU C) = some v ∧ More s s6 ∧ Fresh s6 ∧ (∀ b k, b ≠ B → b ≠ C → s4.get b = some k → s6.get b = some k) := by
  have q1 := one_stv gB hu
  have gC' : (s4.put B (.row 1 [[u]] false)).get C = some (.row 1 [[y]] false) := by rw [get_put_ne (by omega)]; exact gC
  have q2 := one_stv gC' hv
  refine ⟨_, _, q1, q2, ?_, one_ldc (get_put_same gC'), (hm.put hB).put hC, f.put.put, fun b k h1 h2 hk => by rw [get_put_ne h2, get_put_ne h1]; exact hk⟩
  exact one_ldc (by rw [get_put_ne (by omega)]; exact get_put_same gB)

open Classical in
theorem new_v {c : Pc} {s : St} {lv : Value} (f : Fresh s) (h : IsR s 2 lv (c.ls.map V2)) (hp : ∀ p ∈ c.ls, 0 ≤ p.2) (hm : 0 ≤ c.me.bt) (hl : c.ls.length ≤ 1000000) :
    Made c AtQ s (probe_New.v (.agg ⟨ccs c lv⟩) s) := by
  have hbx := h.bx
  have hlen := h.len
  rw [List.length_map] at hlen
  obtain ⟨s1, hs1⟩ : ∃ s1, s1 = s.new (.row 6 [ccs c lv] false) := ⟨_, rfl⟩
  have a1 : alv s (.agg ⟨ccs c lv⟩) = some (PU s.n, s1) := by subst hs1; rfl
  have g1 : s1.get s.n = some (.row 6 [ccs c lv] false) := by subst hs1; exact get_new_same
  have m1 : More s s1 := by subst hs1; exact .new
  have n1 : s.n < s1.n := by subst hs1; rw [new_n]; omega
  have f1 := m1.fresh f
  clear hs1
  obtain ⟨s2, hs2⟩ : ∃ s2, s2 = s1.new (.row 1 [[.pointer none]] false) := ⟨_, rfl⟩
  have a2 : alv s1 (.pointer none) = some (PU s1.n, s2) := by subst hs2; rfl
  have g2 : s2.get s1.n = some (.row 1 [[.pointer none]] false) := by subst hs2; exact get_new_same
  have m2 : More s1 s2 := by subst hs2; exact .new
  have n2 : s1.n < s2.n := by subst hs2; rw [new_n]; omega
  have f2 := m2.fresh f1
  clear hs2
  obtain ⟨s3, hs3⟩ : ∃ s3, s3 = s2.new (.row 1 [[.int .i64 0]] false) := ⟨_, rfl⟩
  have a3 : alv s2 (.int .i64 0) = some (PU s2.n, s3) := by subst hs3; rfl
  have g3 : s3.get s2.n = some (.row 1 [[.int .i64 0]] false) := by subst hs3; exact get_new_same
  have m3 : More s2 s3 := by subst hs3; exact .new
  have n3 : s2.n < s3.n := by subst hs3; rw [new_n]; omega
  have f3 := m3.fresh f2
  clear hs3
  have g1 := (m2.trans m3).get f1 g1
  have g2 := m3.get f2 g2
  have mA := m1.trans (m2.trans m3)
  have h3 := h.more mA f
  obtain ⟨A, hA⟩ : ∃ A, A = s.n := ⟨_, rfl⟩
  obtain ⟨B, hB⟩ : ∃ B, B = s1.n := ⟨_, rfl⟩
  obtain ⟨C, hC⟩ : ∃ C, C = s2.n := ⟨_, rfl⟩
  rw [← hA] at a1 g1
  rw [← hB] at a2 g2
  rw [← hC] at a3 g3
  have hAB : A < B := by omega
  have hBC : B < C := by omega
  have hC3 : C < s3.n := by omega
  have hA0 : s.n ≤ A := by omega
  have hB0 : s.n ≤ B := by omega
  have hC0 : s.n ≤ C := by omega
  have hk := kcheck_r c.me.rk c.me.n s3
  have hv := right_i c.me.ln c.me.bt hm s3
  have hbe : ∀ s4 : St, probe_bad.v lv s4 = some (.func (.func 45) ⟨[]⟩ ⟨[PU s4.n]⟩, s4.new (.row 1 [[lv]] false)) := by
    intro s4
    simp only [probe_bad.v, probe_bad.t, sy, reduceIte, Nat.reduceAdd, Nat.reduceLeDiff, Nat.reduceLT, Nat.reduceEqDiff, Int.reduceEq, Int.reduceLT, Int.reduceLE, Int.reduceNe, ly, alv_isR h s4]
  obtain ⟨s5, s6, q1, q2, q3, q4, q5, q6, q7⟩ := two_stv (u := .pointer none) (v := .int .i64 190) hB0 hC0 hBC mA f3 g2 g3 rfl rfl
  have hno : probe_New.hw [.agg ⟨ccs c lv⟩] s = some (false, [.pointer none, .int .i64 190], s6) → ∃ s', probe_New.v (.agg ⟨ccs c lv⟩) s = some (.tuple ⟨[.pointer none, .int .i64 190]⟩, s') ∧ More s s' ∧ Fresh s' := by
    intro hh
    refine ⟨s6, ?_, q5, q6⟩
    unfold probe_New.v probe_New.w rnW
    rw [hh]; rfl
  have e0 : ∀ p q : Prop, True := fun _ _ => trivial
  by_cases k1 : okK c.me.rk c.me.n
  · rw [if_pos k1] at hk
    by_cases k2 : okV c.me.ln c.me.bt
    · rw [if_pos k2] at hv
      by_cases k3 : c.ls.length ≤ 1024
      · have e3 : ¬ ((1024 : Int) < (c.ls.length : Int)) := by omega
        have e3' : ¬ ((c.ls.length : Int) > 1024) := by omega
        -- the lists
        obtain ⟨s4, hs4⟩ : ∃ s4, s4 = s3.new (.row 1 [[lv]] false) := ⟨_, rfl⟩
        have hb := hbe s3
        rw [← hs4] at hb
        have m4 : More s3 s4 := by subst hs4; exact .new
        have g4 : s4.get s3.n = some (.row 1 [[lv]] false) := by subst hs4; exact get_new_same
        have f4 := m4.fresh f3
        clear hs4
        have hh : probe_New.hw [.agg ⟨ccs c lv⟩] s = some (true, [PU A, PU B, PU C, .func (.func 45) ⟨[]⟩ ⟨[PU s3.n]⟩], s4) := by
          simp only [probe_New.hw, probe_New.h, sy, reduceIte, Nat.reduceAdd, Nat.reduceLeDiff, Nat.reduceLT, Nat.reduceEqDiff, Int.reduceEq, Int.reduceLT, Int.reduceLE, Int.reduceNe, ly, a1, a2, a3, ldc_row g1, lda_row g1, hk, hv, hlen, e3, e3', hb]
        have hH : probe_bad_fn1I.Hw [PU s3.n] s4 = some ([lv, .int .i64 (c.ls.length : Int), .int .i64 ((0 : Nat) : Int)], s4) := by
          simp only [probe_bad_fn1I.Hw, probe_bad_fn1I.Hu, sy, reduceIte, Nat.reduceAdd, Nat.reduceLeDiff, Nat.reduceLT, Nat.reduceEqDiff, Int.reduceEq, Int.reduceLT, Int.reduceLE, Int.reduceNe, ly, one_ldc g4, hlen]
          rfl
        obtain ⟨s7, i1, i2, i3⟩ := scan_v f3 h3 hp hl m4 f4
        have hw : probe_New.v (.agg ⟨ccs c lv⟩) s = (if (∀ p ∈ c.ls, okV p.1 p.2) then probe_New.ew [PU A, PU B, PU C, .func (.func 45) ⟨[]⟩ ⟨[PU s3.n]⟩] s7 else probe_New.sw [PU A, PU B, PU C, .func (.func 45) ⟨[]⟩ ⟨[PU s3.n]⟩] s7) := by
          unfold probe_New.v probe_New.w rnW
          rw [hh]
          show Option.bind (probe_bad_fn1I.Hw [PU s3.n] s4) _ = _
          rw [hH]
          show Option.bind (iter (itF probe_bad_fn1I.Pw probe_bad_fn1I.Qw 0) BIG _ _) _ = _
          rw [i1]
          by_cases k4 : ∀ p ∈ c.ls, okV p.1 p.2
          · rw [if_pos k4, if_pos k4]; rfl
          · rw [if_neg k4, if_neg k4]; rfl
        have G1 := i2.get f3 g1
        have G2 := i2.get f3 g2
        have G3 := i2.get f3 g3
        have M7 := mA.trans i2
        by_cases k4 : ∀ p ∈ c.ls, okV p.1 p.2
        · rw [if_pos k4] at hw
          refine ⟨fun _ => ?_, fun e => absurd ⟨k1, k2, k3, k4⟩ e⟩
          obtain ⟨w, s8, c1, c2, c3, c4⟩ := cloneL_v i3 (h.more M7 f) hl
          have G1' := c2.get i3 G1
          have G2' := c2.get i3 G2
          have G3' := c2.get i3 G3
          have hwx := c4.isR.bx
          obtain ⟨s9, hs9⟩ : ∃ s9, s9 = s8.new (.row 15 [pcs c p0 w (.slice none 0 0)] false) := ⟨_, rfl⟩
          have a9 : alv s8 (.agg ⟨pcs c p0 w (.slice none 0 0)⟩) = some (PU s8.n, s9) := by subst hs9; rfl
          have g9 : s9.get s8.n = some (.row 15 [pcs c p0 w (.slice none 0 0)] false) := by subst hs9; exact get_new_same
          have m9 : More s8 s9 := by subst hs9; exact .new
          have f9 := m9.fresh c3
          clear hs9
          have hUC : C < s8.n := c3.lt G3'
          have hUB : B < s8.n := c3.lt G2'
          obtain ⟨sa, sb, r1, r2, r3, r4, r5, r6, r7⟩ := two_stv (u := PU s8.n) (v := .int .i64 0) hB0 hC0 hBC (M7.trans (c2.trans m9)) f9 (m9.get c3 G2') (m9.get c3 G3') rfl rfl
          have hsm : sameV (.agg ⟨[.int .i64 c.me.id, .int .i64 c.me.rk, .int .u64 c.me.n, .int .i64 c.me.ln, .int .u64 c.me.bt]⟩) (.agg ⟨[.int .i64 c.me.id, .int .i64 c.me.rk, .int .u64 c.me.n, .int .i64 c.me.ln, .int .u64 c.me.bt]⟩) = true := same5p c.me
          refine ⟨s8.n, sb, ?_, ⟨w, .slice none 0 0, r7 _ _ (by omega) (by omega) g9, ?_, .inl ⟨rfl, rfl⟩⟩, r5, r6, ?_⟩
          · rw [hw]
            simp only [pcs, p0] at a9
            have e00 : ((0 : Nat) : Int) = 0 := rfl
            rw [e00] at a9
            simp only [probe_New.ew, probe_New.e, sy, reduceIte, Nat.reduceAdd, Nat.reduceLeDiff, Nat.reduceLT, Nat.reduceEqDiff, Int.reduceEq, Int.reduceLT, Int.reduceLE, Int.reduceNe, ly, lda_row G1, ldc_row G1, lda_row G1', c1, hsm, hwx, a9, r1, r2, r3, r4]
          · refine (c4.isR.more m9 c3).keep fun b all ro hg => r7 _ _ ?_ ?_ hg
            · rintro rfl
              rw [m9.get c3 G2'] at hg; simp at hg
            · rintro rfl
              rw [m9.get c3 G3'] at hg; simp at hg
          · have := (M7.trans c2).n; omega
        · rw [if_neg k4] at hw
          refine ⟨fun e => absurd e.2.2.2 k4, fun _ => ?_⟩
          obtain ⟨sa, sb, r1, r2, r3, r4, r5, r6, r7⟩ := two_stv (u := .pointer none) (v := .int .i64 190) hB0 hC0 hBC M7 i3 G2 G3 rfl rfl
          refine ⟨sb, ?_, r5, r6⟩
          rw [hw]
          simp only [probe_New.sw, probe_New.s, sy, reduceIte, Nat.reduceAdd, Nat.reduceLeDiff, Nat.reduceLT, Nat.reduceEqDiff, Int.reduceEq, Int.reduceLT, Int.reduceLE, Int.reduceNe, ly, r1, r2, r3, r4]
      · have e3 : (1024 : Int) < (c.ls.length : Int) := by omega
        have e3' : (c.ls.length : Int) > 1024 := by omega
        refine ⟨fun e => absurd e.2.2.1 k3, fun _ => hno ?_⟩
        simp only [probe_New.hw, probe_New.h, sy, reduceIte, Nat.reduceAdd, Nat.reduceLeDiff, Nat.reduceLT, Nat.reduceEqDiff, Int.reduceEq, Int.reduceLT, Int.reduceLE, Int.reduceNe, ly, a1, a2, a3, ldc_row g1, lda_row g1, hk, hv, hlen, e3, e3', q1, q2, q3, q4]
    · rw [if_neg k2] at hv
      refine ⟨fun e => absurd e.2.1 k2, fun _ => hno ?_⟩
      simp only [probe_New.hw, probe_New.h, sy, reduceIte, Nat.reduceAdd, Nat.reduceLeDiff, Nat.reduceLT, Nat.reduceEqDiff, Int.reduceEq, Int.reduceLT, Int.reduceLE, Int.reduceNe, ly, a1, a2, a3, ldc_row g1, lda_row g1, hk, hv, hlen, q1, q2, q3, q4]
  · rw [if_neg k1] at hk
    refine ⟨fun e => absurd e.1 k1, fun _ => hno ?_⟩
    simp only [probe_New.hw, probe_New.h, sy, reduceIte, Nat.reduceAdd, Nat.reduceLeDiff, Nat.reduceLT, Nat.reduceEqDiff, Int.reduceEq, Int.reduceLT, Int.reduceLE, Int.reduceNe, ly, a1, a2, a3, ldc_row g1, lda_row g1, hk, hv, hlen, q1, q2, q3, q4]

open Classical in
theorem rcheck_r (r n : Int) (s : St) : leapfrogref02x_Check.r (KV r n) s = some (.int .i64 (if okK r n then 0 else 20)) := by
  unfold okK
  rcases Classical.propComplete (r = 2) with h1 | h1
  · have h2 : (r = 1) = False := eq_false (by have := of_eq_true h1; omega)
    have h3 : (r = 3) = False := eq_false (by have := of_eq_true h1; omega)
    rcases Classical.propComplete (n = 0) with h4 | h4 <;> simp only [leapfrogref02x_Check.r, leapfrogref02x_Check.t, sy, reduceIte, Nat.reduceAdd, Nat.reduceLeDiff, Nat.reduceLT, Nat.reduceEqDiff, Int.reduceEq, Int.reduceLT, Int.reduceLE, Int.reduceNe, ly, h1, h2, h3, h4]
  · rcases Classical.propComplete (r = 1) with h2 | h2
    · have h3 : (r = 3) = False := eq_false (by have := of_eq_true h2; omega)
      rcases Classical.propComplete (n = 0) with h4 | h4 <;> simp only [leapfrogref02x_Check.r, leapfrogref02x_Check.t, sy, reduceIte, Nat.reduceAdd, Nat.reduceLeDiff, Nat.reduceLT, Nat.reduceEqDiff, Int.reduceEq, Int.reduceLT, Int.reduceLE, Int.reduceNe, ly, h1, h2, h3, h4]
    · rcases Classical.propComplete (r = 3) with h3 | h3
      · rcases Classical.propComplete (n = 0) with h4 | h4 <;> simp only [leapfrogref02x_Check.r, leapfrogref02x_Check.t, sy, reduceIte, Nat.reduceAdd, Nat.reduceLeDiff, Nat.reduceLT, Nat.reduceEqDiff, Int.reduceEq, Int.reduceLT, Int.reduceLE, Int.reduceNe, ly, h1, h2, h3, h4]
      · rcases Classical.propComplete (n = 0) with h4 | h4 <;> simp only [leapfrogref02x_Check.r, leapfrogref02x_Check.t, sy, reduceIte, Nat.reduceAdd, Nat.reduceLeDiff, Nat.reduceLT, Nat.reduceEqDiff, Int.reduceEq, Int.reduceLT, Int.reduceLE, Int.reduceNe, ly, h1, h2, h3, h4]


-- The reference looks at the lists.
open Classical in
theorem rscan_v {c : Pc} {s : St} {lv : Value} (h : IsR s 2 lv (c.ls.map V2)) (hp : ∀ p ∈ c.ls, 0 ≤ p.2) (hl : c.ls.length ≤ 1000000) :
    iter (leapfrogref19x_New.l4 std) BIG [.int .i64 ((0 : Nat) : Int), .agg ⟨ccs c lv⟩] s = some (if (∀ p ∈ c.ls, okV p.1 p.2) then ((0, [.agg ⟨ccs c lv⟩], s) : Cut) else ((1, [.pointer none, .int .i64 190], s) : Cut)) := by
  have hlen := h.len
  rw [List.length_map] at hlen
  refine iter_rel (fun d xs s' => ∃ i : Nat, i + d = c.ls.length ∧ (∀ (j : Nat) p, j < i → c.ls[j]? = some p → okV p.1 p.2) ∧ s' = s ∧ xs = [.int .i64 (i : Int), .agg ⟨ccs c lv⟩])
    (fun y : Option Cut => y = some (if (∀ p ∈ c.ls, okV p.1 p.2) then ((0, [.agg ⟨ccs c lv⟩], s) : Cut) else ((1, [.pointer none, .int .i64 190], s) : Cut))) ?_ BIG c.ls.length _ s (by unfold BIG; omega) ⟨0, by omega, fun j p hj => by omega, rfl, rfl⟩
  rintro d xs s2 rec ⟨i, hi, hall, rfl, rfl⟩ ih
  cases d with
  | zero =>
    have e1 : ¬ ((i : Int) < (c.ls.length : Int)) := by omega
    rw [if_pos fun p hp => by
      obtain ⟨j, hj⟩ := List.getElem?_of_mem hp
      exact hall j p (by have := (List.getElem?_eq_some_iff.1 hj).1; omega) hj]
    simp only [leapfrogref19x_New.l4, sy, reduceIte, Nat.reduceAdd, Nat.reduceLeDiff, Nat.reduceLT, Nat.reduceEqDiff, Int.reduceEq, Int.reduceLT, Int.reduceLE, Int.reduceNe, ly, hlen, e1]
  | succ d =>
    have e1 : (i : Int) < (c.ls.length : Int) := by omega
    have e5 : IntKind.i64.wrap ((i : Int) + 1) = ((i + 1 : Nat) : Int) := by rw [wrap64 (by omega) (by omega)]; omega
    obtain ⟨p, hj⟩ : ∃ p, c.ls[i]? = some p := ⟨c.ls[i]'(by omega), List.getElem?_eq_getElem (by omega)⟩
    obtain ⟨b, all, ro, a1, a2, a3⟩ := h.at (v2_get hj)
    have hr := rright_i p.1 p.2 (hp p (List.mem_of_getElem? hj)) s2
    have hv : VI p.1 p.2 = .agg ⟨V2 p⟩ := rfl
    rw [hv] at hr
    by_cases ok : okV p.1 p.2
    · rw [decide_eq_true ok] at hr
      have fin := ih d [.int .i64 ((i + 1 : Nat) : Int), .agg ⟨ccs c lv⟩] s2 (by omega) ⟨i + 1, by omega, fun j q hj' hq => by
        by_cases e : j = i
        · subst e; rw [hj] at hq; cases hq; exact ok
        · exact hall j q (by omega) hq, rfl, rfl⟩
      rw [← fin]
      simp only [leapfrogref19x_New.l4, sy, reduceIte, Nat.reduceAdd, Nat.reduceLeDiff, Nat.reduceLT, Nat.reduceEqDiff, Int.reduceEq, Int.reduceLT, Int.reduceLE, Int.reduceNe, ly, hlen, e1, a1, lda_row a2, a3, hr, e5]
    · rw [decide_eq_false ok] at hr
      rw [if_neg fun h => ok (h p (List.mem_of_getElem? hj))]
      simp only [leapfrogref19x_New.l4, sy, reduceIte, Nat.reduceAdd, Nat.reduceLeDiff, Nat.reduceLT, Nat.reduceEqDiff, Int.reduceEq, Int.reduceLT, Int.reduceLE, Int.reduceNe, ly, hlen, e1, a1, lda_row a2, a3, hr]
open Classical in
theorem rnew_v {c : Pc} {s : St} {lv : Value} (f : Fresh s) (h : IsR s 2 lv (c.ls.map V2)) (hp : ∀ p ∈ c.ls, 0 ≤ p.2) (hm : 0 ≤ c.me.bt) (hl : c.ls.length ≤ 1000000) :
    Made c AtK s (leapfrogref19x_New.v (.agg ⟨ccs c lv⟩) s) := by
  have hbx := h.bx
  have hlen := h.len
  rw [List.length_map] at hlen
  have hk := rcheck_r c.me.rk c.me.n s
  have hv := rright_i c.me.ln c.me.bt hm s
  by_cases k1 : okK c.me.rk c.me.n
  · rw [if_pos k1] at hk
    by_cases k2 : okV c.me.ln c.me.bt
    · rw [decide_eq_true k2] at hv
      by_cases k3 : c.ls.length ≤ 1024
      · have e3 : ¬ ((1024 : Int) < (c.ls.length : Int)) := by omega
        have e3' : ¬ ((c.ls.length : Int) > 1024) := by omega
        have hi := rscan_v h hp hl
        have hi : iter (leapfrogref19x_New.l4 std) BIG [.int .i64 0, .agg ⟨ccs c lv⟩] s = _ := hi
        by_cases k4 : ∀ p ∈ c.ls, okV p.1 p.2
        · rw [if_pos k4] at hi
          refine ⟨fun _ => ?_, fun e => absurd ⟨k1, k2, k3, k4⟩ e⟩
          have rp0 : List.replicate 0 [Value.int .i64 0, Value.int .u64 0] = [] := rfl
          obtain ⟨w, s8, c1, c2, c3, c4⟩ := app_clone (by_ := 16) f h (by rw [List.length_map]; omega) (by rw [List.length_map]; omega)
          have hwx := c4.isR.bx
          have a9 : alv s8 (.agg ⟨rcs c p0 w (.slice none 0 0)⟩) = some (PU s8.n, s8.new (.row 14 [rcs c p0 w (.slice none 0 0)] false)) := rfl
          simp only [rcs, p0] at a9
          have e00 : ((0 : Nat) : Int) = 0 := rfl
          rw [e00] at a9
          refine ⟨s8.n, _, ?_, ⟨w, .slice none 0 0, get_new_same, c4.isR.more .new c3, .inl ⟨rfl, rfl⟩⟩, c2.trans .new, c3.new, c2.n⟩
          simp only [leapfrogref19x_New.v, leapfrogref19x_New.t, sy, reduceIte, Nat.reduceAdd, Nat.reduceLeDiff, Nat.reduceLT, Nat.reduceEqDiff, Int.reduceEq, Int.reduceLT, Int.reduceLE, Int.reduceNe, ly, hbx, hk, hv, hlen, e3, e3', hi, rp0, als_eq, c1, hwx, a9, p0]
          rfl
        · rw [if_neg k4] at hi
          refine ⟨fun e => absurd e.2.2.2 k4, fun _ => ⟨s, ?_, .refl _, f⟩⟩
          simp only [leapfrogref19x_New.v, leapfrogref19x_New.t, sy, reduceIte, Nat.reduceAdd, Nat.reduceLeDiff, Nat.reduceLT, Nat.reduceEqDiff, Int.reduceEq, Int.reduceLT, Int.reduceLE, Int.reduceNe, ly, hbx, hk, hv, hlen, e3, e3', hi]
      · have e3 : (1024 : Int) < (c.ls.length : Int) := by omega
        have e3' : (c.ls.length : Int) > 1024 := by omega
        refine ⟨fun e => absurd e.2.2.1 k3, fun _ => ⟨s, ?_, .refl _, f⟩⟩
        simp only [leapfrogref19x_New.v, leapfrogref19x_New.t, sy, reduceIte, Nat.reduceAdd, Nat.reduceLeDiff, Nat.reduceLT, Nat.reduceEqDiff, Int.reduceEq, Int.reduceLT, Int.reduceLE, Int.reduceNe, ly, hbx, hk, hv, hlen, e3, e3']
    · rw [decide_eq_false k2] at hv
      refine ⟨fun e => absurd e.2.1 k2, fun _ => ⟨s, ?_, .refl _, f⟩⟩
      simp only [leapfrogref19x_New.v, leapfrogref19x_New.t, sy, reduceIte, Nat.reduceAdd, Nat.reduceLeDiff, Nat.reduceLT, Nat.reduceEqDiff, Int.reduceEq, Int.reduceLT, Int.reduceLE, Int.reduceNe, ly, hbx, hk, hv, hlen]
  · rw [if_neg k1] at hk
    refine ⟨fun e => absurd e.1 k1, fun _ => ⟨s, ?_, .refl _, f⟩⟩
    simp only [leapfrogref19x_New.v, leapfrogref19x_New.t, sy, reduceIte, Nat.reduceAdd, Nat.reduceLeDiff, Nat.reduceLT, Nat.reduceEqDiff, Int.reduceEq, Int.reduceLT, Int.reduceLE, Int.reduceNe, ly, hbx, hk, hv, hlen]
end Go.Proofs.Ytogcfnhbacglfaa
