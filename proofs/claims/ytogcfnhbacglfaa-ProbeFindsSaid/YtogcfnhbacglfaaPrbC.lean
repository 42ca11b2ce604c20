/-
  A probe told an answer: the program's, in memory.
-/
import Derived.Test.YtogcfnhbacglfaaPrbB
set_option linter.unusedSimpArgs false
set_option linter.unusedVariables false
set_option maxRecDepth 100000
set_option maxHeartbeats 4000000
namespace Go.Proofs.Ytogcfnhbacglfaa
open Go.Sim Go.Sim.Bt
attribute [local congr] bdc cndc itec gdc gdSc gdUc

abbrev unitB : Value := .tuple ⟨[]⟩
theorem more0 {s : St} : More ⟨s.h, 0⟩ s := ⟨Nat.zero_le _, fun _ _ => rfl, fun f b _ => f b (Nat.zero_le _)⟩
theorem tell_v {c : Pc} {m : Pm} {s : St} {U : Nat} {a : Ans} (h : AtQ c m s U) (I : InvP c m) (f : Fresh s) :
    ∃ s', probe_Probe_Tell.v (PU U) (.agg ⟨a.cs⟩) s = some (unitB, s') ∧ AtQ c (tellC c m a) s' U ∧ StpK [15, 9] s s' ∧ Fresh s' := by
  obtain ⟨lv, bv, h1, h2, h3⟩ := h.ex
  have hi := is_r h1
  have hlen := h2.len
  rw [List.length_map] at hlen
  have n1 : nck (PU U) = some (PU U) := rfl
  have nt : un .not (.bool true) = some (.bool false) := rfl
  have nf : un .not (.bool false) = some (.bool true) := rfl
  have hI := I.a
  have hl := I.len
  cases hw : c.ls[m.at_]? with
  | none =>
    have e1 : (c.ls.length : Int) ≤ (m.at_ : Int) := by
      have := List.getElem?_eq_none_iff.1 hw
      omega
    refine ⟨s, ?_, by unfold tellC; rw [hw]; exact h, .refl _ _, f⟩
    simp only [probe_Probe_Tell.v, probe_Probe_Tell.t, probe_Probe_Tell.t.p1, sy, reduceIte, Nat.reduceAdd, Nat.reduceLeDiff, Nat.reduceLT, Nat.reduceEqDiff, Int.reduceEq, Int.reduceLT, Int.reduceLE, Int.reduceNe, ly, hi, ldc_row h1, hlen, e1]
  | some w =>
    have hlt : m.at_ < c.ls.length := (List.getElem?_eq_some_iff.1 hw).1
    have e1 : ¬ (c.ls.length : Int) ≤ (m.at_ : Int) := by omega
    have e5 : IntKind.i64.wrap ((m.at_ : Int) + 1) = ((m.at_ + 1 : Nat) : Int) := by rw [wrap64 (by omega) (by omega)]; omega
    obtain ⟨lb, all, ro, i1, i2, i3⟩ := h2.at (v2_get hw)
    have hls := less_r c.me.rk c.me.n a.r.rk a.r.n s
    have hkv : ∀ r n, KV r n = .agg ⟨[.int .i64 r, .int .u64 n]⟩ := fun _ _ => rfl
    rw [hkv, hkv] at hls
    cases hb : m.bes with
    | false =>
      have h1 : s.get U = some (.row 15 [pcs c ⟨m.at_, false, m.x, m.L⟩ lv bv] false) := by rw [h1]; simp only [pcs, hb]
      by_cases k1 : a.k = 1
      · by_cases k2 : lessK c.me.rk c.me.n a.r.rk a.r.n
        · rw [decide_eq_true k2] at hls
          refine ⟨s.put U (.row 15 [pcs c ⟨m.at_, true, a.r, m.L⟩ lv bv] false), ?_, ?_, .put h1 (by simp [kd]), f.put⟩
          · simp only [probe_Probe_Tell.v, probe_Probe_Tell.t, probe_Probe_Tell.t.p1, sy, reduceIte, Nat.reduceAdd, Nat.reduceLeDiff, Nat.reduceLT, Nat.reduceEqDiff, Int.reduceEq, Int.reduceLT, Int.reduceLE, Int.reduceNe, ly, hi, ldc_row h1, lda_row h1, stv_row h1, stv_put h1, put_put, hlen, e1, k1, hls]
          · have ht : tellC c m a = ⟨m.at_, true, a.r, m.L⟩ := by unfold tellC; rw [hw]; simp only [hb]; rw [if_neg (by simp), if_pos ⟨k1, k2⟩]
            rw [ht]
            exact ⟨lv, bv, get_put_same h1, h2.keep fun b all ro hg => by rw [get_put_ne (by rintro rfl; rw [h1] at hg; cases hg)]; exact hg, h3.stp (.put h1 (by simp [kd] : kd _ ∈ [15])) (by simp)⟩
        · rw [decide_eq_false k2] at hls
          refine ⟨s.put U (.row 15 [pcs c ⟨m.at_ + 1, false, m.x, m.L⟩ lv bv] false), ?_, ?_, .put h1 (by simp [kd]), f.put⟩
          · simp only [probe_Probe_Tell.v, probe_Probe_Tell.t, probe_Probe_Tell.t.p1, sy, reduceIte, Nat.reduceAdd, Nat.reduceLeDiff, Nat.reduceLT, Nat.reduceEqDiff, Int.reduceEq, Int.reduceLT, Int.reduceLE, Int.reduceNe, ly, hi, ldc_row h1, lda_row h1, stv_row h1, stv_put h1, ldc_put h1, put_put, hlen, e1, k1, hls, e5]
          · have ht : tellC c m a = ⟨m.at_ + 1, false, m.x, m.L⟩ := by unfold tellC; rw [hw]; simp only [hb]; rw [if_neg (by simp), if_neg (fun e => k2 e.2)]
            rw [ht]
            exact ⟨lv, bv, get_put_same h1, h2.keep fun b all ro hg => by rw [get_put_ne (by rintro rfl; rw [h1] at hg; cases hg)]; exact hg, h3.stp (.put h1 (by simp [kd] : kd _ ∈ [15])) (by simp)⟩
      · refine ⟨s.put U (.row 15 [pcs c ⟨m.at_ + 1, false, m.x, m.L⟩ lv bv] false), ?_, ?_, .put h1 (by simp [kd]), f.put⟩
        · simp only [probe_Probe_Tell.v, probe_Probe_Tell.t, probe_Probe_Tell.t.p1, sy, reduceIte, Nat.reduceAdd, Nat.reduceLeDiff, Nat.reduceLT, Nat.reduceEqDiff, Int.reduceEq, Int.reduceLT, Int.reduceLE, Int.reduceNe, ly, hi, ldc_row h1, lda_row h1, stv_row h1, stv_put h1, ldc_put h1, put_put, hlen, e1, k1, e5]
        · have ht : tellC c m a = ⟨m.at_ + 1, false, m.x, m.L⟩ := by unfold tellC; rw [hw]; simp only [hb]; rw [if_neg (by simp), if_neg (fun e => k1 e.1)]
          rw [ht]
          exact ⟨lv, bv, get_put_same h1, h2.keep fun b all ro hg => by rw [get_put_ne (by rintro rfl; rw [h1] at hg; cases hg)]; exact hg, h3.stp (.put h1 (by simp [kd] : kd _ ∈ [15])) (by simp)⟩
    | true =>
      have h1 : s.get U = some (.row 15 [pcs c ⟨m.at_, true, m.x, m.L⟩ lv bv] false) := by rw [h1]; simp only [pcs, hb]
      have ht : tellC c m a = ⟨m.at_ + 1, false, m.x, m.L ++ foundC c m a w⟩ := by unfold tellC; rw [hw]; simp only [hb, if_true]
      rw [ht]
      have hss := eqks_g a.l c.me
      -- what is found
      have fin : ∀ {x : Bk}, foundC c m a w = [x] → (∃ sF, probe_Probe_finds.v (PU U) (.agg ⟨a.cs⟩) s = some (unitB, sF) ∧ ∃ bv', sF.get U = some (.row 15 [pcs c ⟨m.at_, true, m.x, m.L⟩ lv bv'] false) ∧ IsR sF 2 lv (c.ls.map V2) ∧ Ful 0 sF 9 bv' ((m.L ++ [x]).map Bk.c9) ∧ StpK [15, 9] s sF ∧ Fresh sF) →
          ∃ s', probe_Probe_Tell.v (PU U) (.agg ⟨a.cs⟩) s = some (unitB, s') ∧ AtQ c ⟨m.at_ + 1, false, m.x, m.L ++ foundC c m a w⟩ s' U ∧ StpK [15, 9] s s' ∧ Fresh s' := by
        rintro x hx ⟨sF, g1, bv', g2, g3, g4, g5, g6⟩
        refine ⟨sF.put U (.row 15 [pcs c ⟨m.at_ + 1, false, m.x, m.L⟩ lv bv'] false), ?_, ?_, g5.trans (.put g2 (by simp [kd])), g6.put⟩
        · simp only [probe_Probe_Tell.v, probe_Probe_Tell.t, probe_Probe_Tell.t.p1, sy, reduceIte, Nat.reduceAdd, Nat.reduceLeDiff, Nat.reduceLT, Nat.reduceEqDiff, Int.reduceEq, Int.reduceLT, Int.reduceLE, Int.reduceNe, ly, hi, ldc_row h1, lda_row h1, hlen, e1, g1, stv_row g2, stv_put g2, ldc_put g2, put_put, e5]
        · rw [hx]
          exact ⟨lv, bv', get_put_same g2, g3.keep fun b all ro hg => by rw [get_put_ne (by rintro rfl; rw [g2] at hg; cases hg)]; exact hg, g4.stp (.put g2 (by simp [kd] : kd _ ∈ [15])) (by simp)⟩
      have new : ∀ (k : Int), ∃ sF bv', app (s.new (.row 9 [(⟨w.1, w.2, k, m.x, (m.at_ : Int)⟩ : Bk).c9] false)) 9 72 bv (.slice (some ⟨s.n, 0, some 0⟩) 1 2) = some (bv', sF) ∧ sF.get U = some (.row 15 [pcs c ⟨m.at_, true, m.x, m.L⟩ lv bv] false) ∧ IsR sF 2 lv (c.ls.map V2) ∧ Ful 0 sF 9 bv' ((m.L ++ [(⟨w.1, w.2, k, m.x, (m.at_ : Int)⟩ : Bk)]).map Bk.c9) ∧ StpK [9] s sF ∧ Fresh sF := by
        intro k
        have hml := I.l
        obtain ⟨bv', sF, p1, p2, p3, p4, p5⟩ := push (s0 := ⟨s.h, 0⟩) f h3 more0 (by_ := 72) (⟨w.1, w.2, k, m.x, (m.at_ : Int)⟩ : Bk).c9 (by rw [List.length_map]; omega) (by rw [List.length_map]; omega)
        exact ⟨sF, bv', p1, p5.row h1 (by simp), h2.stp p5 (by simp), by rw [List.map_append]; exact p3, p5, p4⟩
      by_cases k3 : a.k = 3
      · refine fin (x := ⟨w.1, w.2, 1, m.x, m.at_⟩) (by unfold foundC; rw [if_pos k3]) ?_
        obtain ⟨sF, bv', p1, p2, p3, p4, p5, p6⟩ := new 1
        refine ⟨sF.put U (.row 15 [pcs c ⟨m.at_, true, m.x, m.L⟩ lv bv'] false), ?_, bv', get_put_same p2, p3.keep fun b all ro hg => by rw [get_put_ne (by rintro rfl; rw [p2] at hg; cases hg)]; exact hg, p4.stp (.put p2 (by simp [kd] : kd _ ∈ [15])) (by simp), (p5.mono (by simp)).trans (.put p2 (by simp [kd])), p6.put⟩
        have hbx := p4.isR.bx
        simp only [probe_Probe_finds.v, probe_Probe_finds.t, probe_Probe_finds.t.p1, sy, reduceIte, Nat.reduceAdd, Nat.reduceLeDiff, Nat.reduceLT, Nat.reduceEqDiff, Int.reduceEq, Int.reduceLT, Int.reduceLE, Int.reduceNe, ly, ldc_row h1, lda_row h1, i1, lda_row i2, i3, k3, als_eq, p1, stv_row p2, hbx]
      · by_cases k1 : a.k = 1
        · by_cases hs : sameG a.l c.me = true
          · have hf : foundC c m a w = [] := by unfold foundC; rw [if_neg k3, if_neg (fun e => e.2 ((sameG_iff _ _).1 hs))]
            rw [hs] at hss
            have g1 : probe_Probe_finds.v (PU U) (.agg ⟨a.cs⟩) s = some (unitB, s) := by
              simp only [probe_Probe_finds.v, probe_Probe_finds.t, probe_Probe_finds.t.p1, neb_agg, sy, reduceIte, Nat.reduceAdd, Nat.reduceLeDiff, Nat.reduceLT, Nat.reduceEqDiff, Int.reduceEq, Int.reduceLT, Int.reduceLE, Int.reduceNe, ly, ldc_row h1, lda_row h1, i1, lda_row i2, i3, k3, k1, hss]
            refine ⟨s.put U (.row 15 [pcs c ⟨m.at_ + 1, false, m.x, m.L⟩ lv bv] false), ?_, ?_, .put h1 (by simp [kd]), f.put⟩
            · simp only [probe_Probe_Tell.v, probe_Probe_Tell.t, probe_Probe_Tell.t.p1, sy, reduceIte, Nat.reduceAdd, Nat.reduceLeDiff, Nat.reduceLT, Nat.reduceEqDiff, Int.reduceEq, Int.reduceLT, Int.reduceLE, Int.reduceNe, ly, hi, ldc_row h1, lda_row h1, hlen, e1, g1, stv_row h1, stv_put h1, ldc_put h1, put_put, e5]
            · rw [hf, List.append_nil]
              exact ⟨lv, bv, get_put_same h1, h2.keep fun b all ro hg => by rw [get_put_ne (by rintro rfl; rw [h1] at hg; cases hg)]; exact hg, h3.stp (.put h1 (by simp [kd] : kd _ ∈ [15])) (by simp)⟩
          · have hs' : sameG a.l c.me = false := by simpa using hs
            rw [hs'] at hss
            refine fin (x := ⟨w.1, w.2, 2, m.x, m.at_⟩) (by unfold foundC; rw [if_neg k3, if_pos ⟨k1, fun e => hs ((sameG_iff _ _).2 e)⟩]) ?_
            obtain ⟨sF, bv', p1, p2, p3, p4, p5, p6⟩ := new 2
            refine ⟨sF.put U (.row 15 [pcs c ⟨m.at_, true, m.x, m.L⟩ lv bv'] false), ?_, bv', get_put_same p2, p3.keep fun b all ro hg => by rw [get_put_ne (by rintro rfl; rw [p2] at hg; cases hg)]; exact hg, p4.stp (.put p2 (by simp [kd] : kd _ ∈ [15])) (by simp), (p5.mono (by simp)).trans (.put p2 (by simp [kd])), p6.put⟩
            have hbx := p4.isR.bx
            simp only [probe_Probe_finds.v, probe_Probe_finds.t, probe_Probe_finds.t.p1, neb_agg, sy, reduceIte, Nat.reduceAdd, Nat.reduceLeDiff, Nat.reduceLT, Nat.reduceEqDiff, Int.reduceEq, Int.reduceLT, Int.reduceLE, Int.reduceNe, ly, ldc_row h1, lda_row h1, i1, lda_row i2, i3, k3, k1, hss, als_eq, p1, stv_row p2, hbx]
        · have hf : foundC c m a w = [] := by unfold foundC; rw [if_neg k3, if_neg (fun e => k1 e.1)]
          have g1 : probe_Probe_finds.v (PU U) (.agg ⟨a.cs⟩) s = some (unitB, s) := by
            simp only [probe_Probe_finds.v, probe_Probe_finds.t, probe_Probe_finds.t.p1, sy, reduceIte, Nat.reduceAdd, Nat.reduceLeDiff, Nat.reduceLT, Nat.reduceEqDiff, Int.reduceEq, Int.reduceLT, Int.reduceLE, Int.reduceNe, ly, ldc_row h1, lda_row h1, i1, lda_row i2, i3, k3, k1]
          refine ⟨s.put U (.row 15 [pcs c ⟨m.at_ + 1, false, m.x, m.L⟩ lv bv] false), ?_, ?_, .put h1 (by simp [kd]), f.put⟩
          · simp only [probe_Probe_Tell.v, probe_Probe_Tell.t, probe_Probe_Tell.t.p1, sy, reduceIte, Nat.reduceAdd, Nat.reduceLeDiff, Nat.reduceLT, Nat.reduceEqDiff, Int.reduceEq, Int.reduceLT, Int.reduceLE, Int.reduceNe, ly, hi, ldc_row h1, lda_row h1, hlen, e1, g1, stv_row h1, stv_put h1, ldc_put h1, put_put, e5]
          · rw [hf, List.append_nil]
            exact ⟨lv, bv, get_put_same h1, h2.keep fun b all ro hg => by rw [get_put_ne (by rintro rfl; rw [h1] at hg; cases hg)]; exact hg, h3.stp (.put h1 (by simp [kd] : kd _ ∈ [15])) (by simp)⟩
end Go.Proofs.Ytogcfnhbacglfaa
