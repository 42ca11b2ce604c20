/-
  A probe told an answer: the reference's; what both want.
-/
import Derived.Test.YtogcfnhbacglfaaPrbC
set_option linter.unusedSimpArgs false
set_option linter.unusedVariables false
set_option maxRecDepth 100000
set_option maxHeartbeats 4000000
namespace Go.Proofs.Ytogcfnhbacglfaa
open Go.Sim Go.Sim.Bt
attribute [local congr] bdc cndc itec gdc gdSc gdUc

theorem IsR.atB {s : St} {sz : Nat} {v : Value} {rows : List (List Value)} (h : IsR s sz v rows) {j : Nat} {r : List Value} (hj : rows[j]? = some r) :
    ∃ all ro, idx s sz v (.int .i64 (j : Int)) = some (.pointer (some ⟨blkOf v, j, some 0⟩)) ∧ s.get (blkOf v) = some (.row sz all ro) ∧ all[j]? = some r := by
  obtain ⟨b, all, ro, a1, a2, a3⟩ := h.at hj
  have e := h.blk hj a1
  simp only [Value.pointer.injEq, Option.some.injEq, Addr.mk.injEq] at e
  obtain ⟨rfl, _⟩ := e
  exact ⟨all, ro, a1, a2, a3⟩
theorem same2p (p : Int × Int) : sameV (.agg ⟨[.int .i64 p.1, .int .u64 p.2]⟩) (.agg ⟨[.int .i64 p.1, .int .u64 p.2]⟩) = true := by simp [sameV, sameVs]
theorem same5p (r : Rf) : sameV (.agg ⟨[.int .i64 r.id, .int .i64 r.rk, .int .u64 r.n, .int .i64 r.ln, .int .u64 r.bt]⟩) (.agg ⟨[.int .i64 r.id, .int .i64 r.rk, .int .u64 r.n, .int .i64 r.ln, .int .u64 r.bt]⟩) = true := by simp [sameV, sameVs]
theorem rtell_v {c : Pc} {m : Pm} {s : St} {U : Nat} {a : Ans} (h : AtK c m s U) (I : InvP c m) (f : Fresh s) :
    ∃ s', leapfrogref19x_Probe_Tell.v (PU U) (.agg ⟨a.cs⟩) s = some (unitB, s') ∧ AtK c (tellC c m a) s' U ∧ StpK [14] s s' ∧ Fresh s' := by
  obtain ⟨lv, bv, h1, h2, h3⟩ := h.ex
  have hlen := h2.len
  rw [List.length_map] at hlen
  have n1 : nck (PU U) = some (PU U) := rfl
  have hI := I.a
  have hl := I.len
  cases hw : c.ls[m.at_]? with
  | none =>
    have e1 : (c.ls.length : Int) ≤ (m.at_ : Int) := by
      have := List.getElem?_eq_none_iff.1 hw
      omega
    refine ⟨s, ?_, by unfold tellC; rw [hw]; exact h, .refl _ _, f⟩
    simp only [leapfrogref19x_Probe_Tell.v, leapfrogref19x_Probe_Tell.t, sy, reduceIte, Nat.reduceAdd, Nat.reduceLeDiff, Nat.reduceLT, Nat.reduceEqDiff, Int.reduceEq, Int.reduceLT, Int.reduceLE, Int.reduceNe, ly, ldc_row h1, hlen, e1]
  | some w =>
    have hlt : m.at_ < c.ls.length := (List.getElem?_eq_some_iff.1 hw).1
    have e1 : ¬ (c.ls.length : Int) ≤ (m.at_ : Int) := by omega
    have e5 : IntKind.i64.wrap ((m.at_ : Int) + 1) = ((m.at_ + 1 : Nat) : Int) := by rw [wrap64 (by omega) (by omega)]; omega
    obtain ⟨all, ro, i1, i2, i3⟩ := h2.atB (v2_get hw)
    have hls := rless_r c.me.rk c.me.n a.r.rk a.r.n s
    have hkv : ∀ r n, KV r n = .agg ⟨[.int .i64 r, .int .u64 n]⟩ := fun _ _ => rfl
    rw [hkv, hkv] at hls
    cases hb : m.bes with
    | false =>
      have h1 : s.get U = some (.row 14 [rcs c ⟨m.at_, false, m.x, m.L⟩ lv bv] false) := by rw [h1]; simp only [rcs, hb]
      by_cases k1 : a.k = 1
      · by_cases k2 : lessK c.me.rk c.me.n a.r.rk a.r.n
        · rw [decide_eq_true k2] at hls
          refine ⟨s.put U (.row 14 [rcs c ⟨m.at_, true, a.r, m.L⟩ lv bv] false), ?_, ?_, .put h1 (by simp [kd]), f.put⟩
          · simp only [leapfrogref19x_Probe_Tell.v, leapfrogref19x_Probe_Tell.t, leapfrogref19x_Probe_Tell.t.p4, sy, reduceIte, Nat.reduceAdd, Nat.reduceLeDiff, Nat.reduceLT, Nat.reduceEqDiff, Int.reduceEq, Int.reduceLT, Int.reduceLE, Int.reduceNe, ly, ldc_row h1, lda_row h1, stv_row h1, stv_put h1, put_put, hlen, e1, k1, hls]
          · have ht : tellC c m a = ⟨m.at_, true, a.r, m.L⟩ := by unfold tellC; rw [hw]; simp only [hb]; rw [if_neg (by simp), if_pos ⟨k1, k2⟩]
            rw [ht]
            exact ⟨lv, bv, get_put_same h1, h2.keep fun b all ro hg => by rw [get_put_ne (by rintro rfl; rw [h1] at hg; cases hg)]; exact hg, h3.keep fun b all ro hg => by rw [get_put_ne (by rintro rfl; rw [h1] at hg; cases hg)]; exact hg⟩
        · rw [decide_eq_false k2] at hls
          refine ⟨s.put U (.row 14 [rcs c ⟨m.at_ + 1, false, m.x, m.L⟩ lv bv] false), ?_, ?_, .put h1 (by simp [kd]), f.put⟩
          · simp only [leapfrogref19x_Probe_Tell.v, leapfrogref19x_Probe_Tell.t, leapfrogref19x_Probe_Tell.t.p4, leapfrogref19x_Probe_Tell.t.p3, sy, reduceIte, Nat.reduceAdd, Nat.reduceLeDiff, Nat.reduceLT, Nat.reduceEqDiff, Int.reduceEq, Int.reduceLT, Int.reduceLE, Int.reduceNe, ly, ldc_row h1, lda_row h1, stv_row h1, stv_put h1, ldc_put h1, put_put, hlen, e1, k1, hls, e5]
          · have ht : tellC c m a = ⟨m.at_ + 1, false, m.x, m.L⟩ := by unfold tellC; rw [hw]; simp only [hb]; rw [if_neg (by simp), if_neg (fun e => k2 e.2)]
            rw [ht]
            exact ⟨lv, bv, get_put_same h1, h2.keep fun b all ro hg => by rw [get_put_ne (by rintro rfl; rw [h1] at hg; cases hg)]; exact hg, h3.keep fun b all ro hg => by rw [get_put_ne (by rintro rfl; rw [h1] at hg; cases hg)]; exact hg⟩
      · refine ⟨s.put U (.row 14 [rcs c ⟨m.at_ + 1, false, m.x, m.L⟩ lv bv] false), ?_, ?_, .put h1 (by simp [kd]), f.put⟩
        · simp only [leapfrogref19x_Probe_Tell.v, leapfrogref19x_Probe_Tell.t, leapfrogref19x_Probe_Tell.t.p4, leapfrogref19x_Probe_Tell.t.p3, sy, reduceIte, Nat.reduceAdd, Nat.reduceLeDiff, Nat.reduceLT, Nat.reduceEqDiff, Int.reduceEq, Int.reduceLT, Int.reduceLE, Int.reduceNe, ly, ldc_row h1, lda_row h1, stv_row h1, stv_put h1, ldc_put h1, put_put, hlen, e1, k1, e5]
        · have ht : tellC c m a = ⟨m.at_ + 1, false, m.x, m.L⟩ := by unfold tellC; rw [hw]; simp only [hb]; rw [if_neg (by simp), if_neg (fun e => k1 e.1)]
          rw [ht]
          exact ⟨lv, bv, get_put_same h1, h2.keep fun b all ro hg => by rw [get_put_ne (by rintro rfl; rw [h1] at hg; cases hg)]; exact hg, h3.keep fun b all ro hg => by rw [get_put_ne (by rintro rfl; rw [h1] at hg; cases hg)]; exact hg⟩
    | true =>
      have h1 : s.get U = some (.row 14 [rcs c ⟨m.at_, true, m.x, m.L⟩ lv bv] false) := by rw [h1]; simp only [rcs, hb]
      have ht : tellC c m a = ⟨m.at_ + 1, false, m.x, m.L ++ foundC c m a w⟩ := by unfold tellC; rw [hw]; simp only [hb, if_true]
      rw [ht]
      have hss := eqks_g a.l c.me
      have hml := I.l
      have sm := h2.same
      have s2 := same2p w
      have s5 := same5p m.x
      have rp0 : List.replicate 0 [Value.int .i64 0, Value.int .u64 0, Value.int .i64 0, Value.int .i64 0, Value.int .i64 0, Value.int .u64 0, Value.int .i64 0, Value.int .u64 0] = [] := rfl
      have z0 : 2 * 0 = 0 := rfl
      obtain ⟨cv, sC, q1, q2, q3, q4⟩ := app_clone (by_ := 64) f h3 (by rw [List.length_map]; omega) (by rw [List.length_map]; omega)
      have g1 := q2.get f h1
      have g2 := h2.more q2 f
      obtain ⟨allC, roC, j1, j2, j3⟩ := g2.atB (v2_get hw)
      have new : ∀ (k : Int), ∃ sF bv', app (sC.new (.row 8 [(⟨w.1, w.2, k, m.x, (m.at_ : Int)⟩ : Bk).c8] false)) 8 64 cv (.slice (some ⟨sC.n, 0, some 0⟩) 1 2) = some (bv', sF) ∧ sF.get U = some (.row 14 [rcs c ⟨m.at_, true, m.x, m.L⟩ lv bv] false) ∧ IsR sF 2 lv (c.ls.map V2) ∧ IsR sF 8 bv' ((m.L ++ [(⟨w.1, w.2, k, m.x, (m.at_ : Int)⟩ : Bk)]).map Bk.c8) ∧ More s sF ∧ Fresh sF := by
        intro k
        obtain ⟨bv', sF, p1, p2, p3, p4, p5⟩ := push (s0 := s) q3 q4 q2 (by_ := 64) (⟨w.1, w.2, k, m.x, (m.at_ : Int)⟩ : Bk).c8 (by rw [List.length_map]; omega) (by rw [List.length_map]; omega)
        exact ⟨sF, bv', p1, p2.get f h1, h2.more p2 f, by rw [List.map_append]; exact p3.isR, p2, p4⟩
      have keep : ∀ {sF : St} {bv' : Value} {L' : List Bk} {X : List Value}, sF.get U = some (.row 14 [rcs c ⟨m.at_, true, m.x, m.L⟩ lv bv] false) → IsR sF 2 lv (c.ls.map V2) → IsR sF 8 bv' (L'.map Bk.c8) → X = rcs c ⟨m.at_ + 1, false, m.x, L'⟩ lv bv' → AtK c ⟨m.at_ + 1, false, m.x, L'⟩ (sF.put U (.row 14 [X] false)) U := by
        rintro sF bv' L' X p2 p3 p4 rfl
        exact ⟨lv, bv', get_put_same p2, p3.keep fun b all ro hg => by rw [get_put_ne (by rintro rfl; rw [p2] at hg; cases hg)]; exact hg, p4.keep fun b all ro hg => by rw [get_put_ne (by rintro rfl; rw [p2] at hg; cases hg)]; exact hg⟩
      by_cases k3 : a.k = 3
      · have hf : foundC c m a w = [⟨w.1, w.2, 1, m.x, m.at_⟩] := by unfold foundC; rw [if_pos k3]
        obtain ⟨sF, bv', p1, p2, p3, p4, p5, p6⟩ := new 1
        obtain ⟨allF, roF, l1, l2, l3⟩ := p3.atB (v2_get hw)
        have hbx := p4.bx
        refine ⟨sF.put U (.row 14 [rcs c ⟨m.at_ + 1, false, m.x, m.L ++ foundC c m a w⟩ lv bv'] false), ?_, ?_, (StpK.more p5 f).trans (.put p2 (by simp [kd])), p6.put⟩
        · simp only [leapfrogref19x_Probe_Tell.v, leapfrogref19x_Probe_Tell.t, leapfrogref19x_Probe_Tell.t.p4, leapfrogref19x_Probe_Tell.t.p3, leapfrogref19x_Probe_Tell.t.p1, sy, reduceIte, Nat.reduceAdd, Nat.reduceLeDiff, Nat.reduceLT, Nat.reduceEqDiff, Int.reduceEq, Int.reduceLT, Int.reduceLE, Int.reduceNe, ly, ldc_row h1, lda_row h1, hlen, e1, k3, i1, lda_row i2, i3, als_eq, rp0, z0, q1, ldc_row g1, lda_row g1, j1, lda_row j2, j3, p1, ldc_row p2, lda_row p2, l1, lda_row l2, l3, sm, s2, s5, samePj, sameII, hbx, stv_row p2, stv_put p2, ldc_put p2, put_put, e5]
        · rw [hf]; exact keep p2 p3 p4 rfl
      · by_cases k1 : a.k = 1
        · by_cases hs : sameG a.l c.me = true
          · have hf : foundC c m a w = [] := by unfold foundC; rw [if_neg k3, if_neg (fun e => e.2 ((sameG_iff _ _).1 hs))]
            rw [hs] at hss
            refine ⟨s.put U (.row 14 [rcs c ⟨m.at_ + 1, false, m.x, m.L⟩ lv bv] false), ?_, ?_, .put h1 (by simp [kd]), f.put⟩
            · simp only [leapfrogref19x_Probe_Tell.v, leapfrogref19x_Probe_Tell.t, leapfrogref19x_Probe_Tell.t.p4, leapfrogref19x_Probe_Tell.t.p3, neb_agg, sy, reduceIte, Nat.reduceAdd, Nat.reduceLeDiff, Nat.reduceLT, Nat.reduceEqDiff, Int.reduceEq, Int.reduceLT, Int.reduceLE, Int.reduceNe, ly, ldc_row h1, lda_row h1, hlen, e1, k3, k1, hss, stv_row h1, stv_put h1, ldc_put h1, put_put, e5]
            · rw [hf, List.append_nil]; exact keep h1 h2 h3 rfl
          · have hs' : sameG a.l c.me = false := by simpa using hs
            rw [hs'] at hss
            have hf : foundC c m a w = [⟨w.1, w.2, 2, m.x, m.at_⟩] := by unfold foundC; rw [if_neg k3, if_pos ⟨k1, fun e => hs ((sameG_iff _ _).2 e)⟩]
            obtain ⟨sF, bv', p1, p2, p3, p4, p5, p6⟩ := new 2
            obtain ⟨allF, roF, l1, l2, l3⟩ := p3.atB (v2_get hw)
            have hbx := p4.bx
            refine ⟨sF.put U (.row 14 [rcs c ⟨m.at_ + 1, false, m.x, m.L ++ foundC c m a w⟩ lv bv'] false), ?_, ?_, (StpK.more p5 f).trans (.put p2 (by simp [kd])), p6.put⟩
            · simp only [leapfrogref19x_Probe_Tell.v, leapfrogref19x_Probe_Tell.t, leapfrogref19x_Probe_Tell.t.p4, leapfrogref19x_Probe_Tell.t.p3, leapfrogref19x_Probe_Tell.t.p2, neb_agg, sy, reduceIte, Nat.reduceAdd, Nat.reduceLeDiff, Nat.reduceLT, Nat.reduceEqDiff, Int.reduceEq, Int.reduceLT, Int.reduceLE, Int.reduceNe, ly, ldc_row h1, lda_row h1, hlen, e1, k3, k1, hss, i1, lda_row i2, i3, als_eq, rp0, z0, q1, ldc_row g1, lda_row g1, j1, lda_row j2, j3, p1, ldc_row p2, lda_row p2, l1, lda_row l2, l3, sm, s2, s5, samePj, sameII, hbx, stv_row p2, stv_put p2, ldc_put p2, put_put, e5]
            · rw [hf]; exact keep p2 p3 p4 rfl
        · have hf : foundC c m a w = [] := by unfold foundC; rw [if_neg k3, if_neg (fun e => k1 e.1)]
          refine ⟨s.put U (.row 14 [rcs c ⟨m.at_ + 1, false, m.x, m.L⟩ lv bv] false), ?_, ?_, .put h1 (by simp [kd]), f.put⟩
          · simp only [leapfrogref19x_Probe_Tell.v, leapfrogref19x_Probe_Tell.t, leapfrogref19x_Probe_Tell.t.p4, leapfrogref19x_Probe_Tell.t.p3, sy, reduceIte, Nat.reduceAdd, Nat.reduceLeDiff, Nat.reduceLT, Nat.reduceEqDiff, Int.reduceEq, Int.reduceLT, Int.reduceLE, Int.reduceNe, ly, ldc_row h1, lda_row h1, hlen, e1, k3, k1, stv_row h1, stv_put h1, ldc_put h1, put_put, e5]
          · rw [hf, List.append_nil]; exact keep h1 h2 h3 rfl

/-! ### What both want -/

def nextC (c : Pc) (m : Pm) : List Value :=
  match c.ls[m.at_]? with
  | none => stepC 3 zR zAsk ⟨0, 0, zR, zR, decide (0 < m.L.length)⟩
  | some w => stepC 1 (if m.bes = true then m.x else c.me) ⟨1, w.1, w.2, zR, zR, 0, 0⟩ zRes
theorem next_v {c : Pc} {m : Pm} {s : St} {U : Nat} (h : AtQ c m s U) (I : InvP c m) : probe_Probe_Next.r (PU U) s = some (.agg ⟨nextC c m⟩) := by
  obtain ⟨lv, bv, h1, h2, h3⟩ := h.ex
  have hi := is_r h1
  have hlen := h2.len
  have hln := h3.isR.len
  rw [List.length_map] at hlen hln
  unfold nextC
  cases hw : c.ls[m.at_]? with
  | none =>
    have e1 : (c.ls.length : Int) ≤ (m.at_ : Int) := by
      have := List.getElem?_eq_none_iff.1 hw
      omega
    by_cases z : 0 < m.L.length
    · have z' : (0 : Int) < (m.L.length : Int) := by omega
      simp only [probe_Probe_Next.r, probe_Probe_Next.t, probe_Probe_Next.t.p1, sy, reduceIte, Nat.reduceAdd, Nat.reduceLeDiff, Nat.reduceLT, Nat.reduceEqDiff, Int.reduceEq, Int.reduceLT, Int.reduceLE, Int.reduceNe, ly, hi, ldc_row h1, hlen, e1, hln, z, z']
    · have z' : ¬ (0 : Int) < (m.L.length : Int) := by omega
      simp only [probe_Probe_Next.r, probe_Probe_Next.t, probe_Probe_Next.t.p1, sy, reduceIte, Nat.reduceAdd, Nat.reduceLeDiff, Nat.reduceLT, Nat.reduceEqDiff, Int.reduceEq, Int.reduceLT, Int.reduceLE, Int.reduceNe, ly, hi, ldc_row h1, hlen, e1, hln, z, z']
  | some w =>
    have hlt : m.at_ < c.ls.length := (List.getElem?_eq_some_iff.1 hw).1
    have e1 : ¬ (c.ls.length : Int) ≤ (m.at_ : Int) := by omega
    obtain ⟨all, ro, i1, i2, i3⟩ := h2.atB (v2_get hw)
    cases hb : m.bes <;> simp only [pcs, hb] at h1
    all_goals simp only [probe_Probe_Next.r, probe_Probe_Next.t, probe_Probe_Next.t.p2, sy, reduceIte, Nat.reduceAdd, Nat.reduceLeDiff, Nat.reduceLT, Nat.reduceEqDiff, Int.reduceEq, Int.reduceLT, Int.reduceLE, Int.reduceNe, ly, hi, ldc_row h1, lda_row h1, hlen, e1, i1, lda_row i2, i3]
theorem rnext_v {c : Pc} {m : Pm} {s : St} {U : Nat} (h : AtK c m s U) (I : InvP c m) : leapfrogref19x_Probe_Next.r (PU U) s = some (.agg ⟨nextC c m⟩) := by
  obtain ⟨lv, bv, h1, h2, h3⟩ := h.ex
  have hlen := h2.len
  have hln := h3.len
  rw [List.length_map] at hlen hln
  unfold nextC
  cases hw : c.ls[m.at_]? with
  | none =>
    have e1 : (c.ls.length : Int) ≤ (m.at_ : Int) := by
      have := List.getElem?_eq_none_iff.1 hw
      omega
    by_cases z : 0 < m.L.length
    · have z' : (0 : Int) < (m.L.length : Int) := by omega
      simp only [leapfrogref19x_Probe_Next.r, leapfrogref19x_Probe_Next.t, leapfrogref19x_Probe_Next.t.p1, sy, reduceIte, Nat.reduceAdd, Nat.reduceLeDiff, Nat.reduceLT, Nat.reduceEqDiff, Int.reduceEq, Int.reduceLT, Int.reduceLE, Int.reduceNe, ly, ldc_row h1, hlen, e1, hln, z, z']
    · have z' : ¬ (0 : Int) < (m.L.length : Int) := by omega
      simp only [leapfrogref19x_Probe_Next.r, leapfrogref19x_Probe_Next.t, leapfrogref19x_Probe_Next.t.p1, sy, reduceIte, Nat.reduceAdd, Nat.reduceLeDiff, Nat.reduceLT, Nat.reduceEqDiff, Int.reduceEq, Int.reduceLT, Int.reduceLE, Int.reduceNe, ly, ldc_row h1, hlen, e1, hln, z, z']
  | some w =>
    have hlt : m.at_ < c.ls.length := (List.getElem?_eq_some_iff.1 hw).1
    have e1 : ¬ (c.ls.length : Int) ≤ (m.at_ : Int) := by omega
    obtain ⟨all, ro, i1, i2, i3⟩ := h2.atB (v2_get hw)
    cases hb : m.bes <;> simp only [rcs, hb] at h1
    all_goals simp only [leapfrogref19x_Probe_Next.r, leapfrogref19x_Probe_Next.t, leapfrogref19x_Probe_Next.t.p2, sy, reduceIte, Nat.reduceAdd, Nat.reduceLeDiff, Nat.reduceLT, Nat.reduceEqDiff, Int.reduceEq, Int.reduceLT, Int.reduceLE, Int.reduceNe, ly, ldc_row h1, lda_row h1, hlen, e1, i1, lda_row i2, i3]
end Go.Proofs.Ytogcfnhbacglfaa
