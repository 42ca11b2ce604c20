/-
  The reference's search: keep, begin again, go right, Tell, Dead, Next, New.
-/
import Derived.Test.YteafgjpbfhjbjaaGreatSekD
set_option linter.unusedSimpArgs false
set_option linter.unusedVariables false
set_option maxRecDepth 100000
set_option maxHeartbeats 2000000
namespace Go.Proofs.YteafgjpbfhjbjaaGreat
open Go.Sim Go.Sim.Bt
attribute [local congr] bdc cndc itec gdc gdSc gdUc
theorem rkeep_r {c : Cf} {m : Mm} {s0 s : St} {d : Nat} {wv : Value} {ws : List Wl} (h : AtR c m s0 s d wv ws) (hf : Fresh s) (hcap : ws.length + 1 ≤ 100000) (r : Rf) (a : Ans) :
    ∃ s' wv' ws', r12Seek_keep.v (P d) (.agg ⟨r.cs⟩) (.agg ⟨a.cs⟩) s = some (unit', s') ∧ AtR c (keepC m r a.r) s0 s' d wv' ws' ∧ StpR d s0.n s s' ∧ ws'.length ≤ ws.length + 1 := by
  have hr := h.row
  have kn := known_r h r
  cases hi : idxW m.tab ⟨r.id, m.wl, m.wb⟩ with
  | some i =>
    rw [hi] at kn
    simp only [idI] at kn
    have hi2 := hi
    rw [h.tab] at hi2
    have hil : i < ws.length := by have := idx_lt hi2; rwa [tabW_length] at this
    obtain ⟨w, hw⟩ := get_some hil
    obtain ⟨o, o1, o2, o3, o4⟩ := own_idx h.own hw
    have rg := rowsW_get hw
    have hdo : d ≠ o := by rintro rfl; have h2 := hr; unfold RRow at h2; rw [o3] at h2; simp at h2
    have e1 : (0 : Int) ≤ (i : Int) := by omega
    refine ⟨s.put o (.row 13 ((rowsW ws).set i (Wl.cs ⟨⟨r.id, m.wl, m.wb⟩, a.l, a.r⟩)) false), wv, ws.set i ⟨⟨r.id, m.wl, m.wb⟩, a.l, a.r⟩, ?_, ⟨?_, .inr ⟨o, o1, ?_, ?_⟩, ?_, h.more.put o1, by rw [List.length_set]; exact h.big, h.dn⟩, ⟨Nat.le_refl _, fun x k hx hd hy => ?_, fun f => f.put⟩, by rw [List.length_set]; omega⟩
    · simp only [r12Seek_keep.v, r12Seek_keep.t, r12Seek_keep.t.p1, sy, reduceIte, Nat.reduceAdd, Nat.reduceLeDiff, Nat.reduceLT, Nat.reduceEqDiff, Int.reduceEq, Int.reduceLT, Int.reduceLE, Int.reduceNe, ly, ldc_row hr, lda_row hr, kn, e1, o4, stv_row o3, rg]
    · show (s.put o _).get d = _
      rw [get_put_ne hdo]; exact hr
    · rw [o2, rowsW_length, List.length_set]
    · rw [get_put_same o3]; simp [rowsW, List.map_set]
    · show upd m.tab _ _ = _
      unfold upd
      unfold idxW at hi
      rw [hi, h.tab]
      simp [tabW, List.map_set]
    · rw [get_put_ne ?_]; exact hx
      rintro rfl
      rw [o3] at hx
      rcases hy with hy | hy
      · omega
      · exact hy _ _ (Option.some.inj hx).symm
  | none =>
    rw [hi] at kn
    simp only [idI] at kn
    have e1 : ¬ ((0 : Int) ≤ -1) := by omega
    obtain ⟨v', s2, g1, g2, g3, g4⟩ := Own.app (by_ := 104) (news := [Wl.cs ⟨⟨r.id, m.wl, m.wb⟩, a.l, a.r⟩]) (x := .slice (some ⟨s.n, 0, some 0⟩) 1 2) (h.own.new (x := .row 13 [Wl.cs ⟨⟨r.id, m.wl, m.wb⟩, a.l, a.r⟩] false) hf) (h.more.trans .new) rfl rowsOf_one (by rw [rowsW_length]; simp; omega) (by rw [rowsW_length]; simp; omega)
    obtain ⟨v2, s3, f1, f2, f3⟩ := (h.own.new (x := .row 13 [Wl.cs ⟨⟨r.id, m.wl, m.wb⟩, a.l, a.r⟩] false) hf).app2 (by_ := 104) (news := [Wl.cs ⟨⟨r.id, m.wl, m.wb⟩, a.l, a.r⟩]) (x := .slice (some ⟨s.n, 0, some 0⟩) 1 2) (by rw [new_n]; have := h.more.n; omega) rfl rowsOf_one (by rw [rowsW_length]; simp; omega) (by rw [rowsW_length]; simp; omega)
    rw [g1] at f1
    obtain ⟨rfl, rfl⟩ := Prod.mk.inj (Option.some.inj f1)
    have ne : ∀ x k, s.get x = some k → (x < s0.n ∨ ∀ rows ro, k ≠ .row 13 rows ro) → s2.get x = some k := by
      intro x k hx hy
      have hxn := hf.lt hx
      rw [g4 x (by rw [new_n]; omega) ?_, get_new_ne (by omega)]
      · exact hx
      · rintro len e rfl
        rcases h.own with ⟨q1, _⟩ | ⟨o, q1, q2, q3⟩
        · cases q1
        · have : x = o := by
            have := Value.slice.inj q2
            have := (Option.some.inj this.1)
            exact (Addr.mk.inj this).1
          subst this
          rcases hy with hy | hy
          · omega
          · rw [q3] at hx; exact hy _ _ (Option.some.inj hx).symm
    have hr2 : RRow s2 d (rrow c m wv) := ne d _ hr (.inr fun rows ro => by simp)
    have e7 : rowsW ws ++ [Wl.cs ⟨⟨r.id, m.wl, m.wb⟩, a.l, a.r⟩] = rowsW (ws ++ [⟨⟨r.id, m.wl, m.wb⟩, a.l, a.r⟩]) := by simp [rowsW]
    rw [e7] at g3
    have hbx : bx v' = some [v'] := by
      rcases g3 with ⟨q, _⟩ | ⟨o, _, q, _⟩ <;> rw [q] <;> rfl
    refine ⟨RPut s2 d (rrow c (keepC m r a.r) v'), v', ws ++ [⟨⟨r.id, m.wl, m.wb⟩, a.l, a.r⟩], ?_, ⟨get_put_same hr2, own_put g3 hr2, ?_, g2.put h.dn, by simp; omega, h.dn⟩, ⟨by have := f2.n; rw [new_n] at this; show s.n ≤ s2.n; omega, fun x k hx hd hy => ?_, fun f => (f2.fresh f.new).put⟩, by simp⟩
    · simp only [r12Seek_keep.v, r12Seek_keep.t, r12Seek_keep.t.p1, sy, reduceIte, Nat.reduceAdd, Nat.reduceLeDiff, Nat.reduceLT, Nat.reduceEqDiff, Int.reduceEq, Int.reduceLT, Int.reduceLE, Int.reduceNe, ly, ldc_row hr, lda_row hr, kn, e1, als_eq, Nat.zero_lt_succ, Nat.reduceMul, g1, stv_row hr2, hbx, keepC]
    · show upd m.tab _ _ = _
      unfold upd
      unfold idxW at hi
      rw [hi, h.tab]
      simp [tabW]
    · rw [get_put_ne hd]; exact ne x k hx hy
theorem rhead_r (h : Int) (s : St) : r12Head.r (.int .i64 h) s = some (.agg ⟨(headR h).cs⟩) := by
  simp only [r12Head.r, r12Head.t, sy, reduceIte, Nat.reduceAdd, Nat.reduceLeDiff, Nat.reduceLT, Nat.reduceEqDiff, Int.reduceEq, Int.reduceLT, Int.reduceLE, Int.reduceNe, ly, headR]
theorem rcounts_r {c : Cf} {m : Mm} {s0 s : St} {d : Nat} {wv : Value} {ws : List Wl} (h : AtR c m s0 s d wv ws) (hn : 0 ≤ m.n) :
    (64 ≤ m.n ∧ r12Seek_counts.v (P d) s = some (.bool false, RPut s d (rrow c (busy m) wv))) ∨ (m.n < 64 ∧ r12Seek_counts.v (P d) s = some (.bool true, RPut s d (rrow c { m with n := m.n + 1 } wv))) := by
  have h := h.row
  by_cases h1 : 64 ≤ m.n
  · left
    refine ⟨h1, ?_⟩
    simp only [r12Seek_counts.v, r12Seek_counts.t, r12Seek_end.v, r12Seek_end.t, sy, reduceIte, Nat.reduceAdd, Nat.reduceLeDiff, Nat.reduceLT, Nat.reduceEqDiff, Int.reduceEq, Int.reduceLT, Int.reduceLE, Int.reduceNe, ly, ldc_row h, stv_row h, stv_put h, h1, busy]
  · right
    refine ⟨by omega, ?_⟩
    have e : IntKind.i64.wrap (m.n + 1) = m.n + 1 := wrap64 (by omega) (by omega)
    simp only [r12Seek_counts.v, r12Seek_counts.t, sy, reduceIte, Nat.reduceAdd, Nat.reduceLeDiff, Nat.reduceLT, Nat.reduceEqDiff, Int.reduceEq, Int.reduceLT, Int.reduceLE, Int.reduceNe, ly, ldc_row h, stv_row h, stv_put h, h1, e]
theorem ragain_r {c : Cf} {m : Mm} {s0 s : St} {d : Nat} {wv : Value} {ws : List Wl} (h : AtR c m s0 s d wv ws) (hn : 0 ≤ m.n) : ∃ s', r12Seek_again.v (P d) s = some (unit', s') ∧ AtR c (againC c m) s0 s' d wv ws ∧ StpR d s0.n s s' := by
  have hh := rhead_r c.h
  rcases rcounts_r h hn with ⟨h1, e⟩ | ⟨h1, e⟩
  · refine ⟨RPut s d (rrow c (busy m) wv), ?_, by unfold againC; rw [if_pos h1]; exact h.put rfl, .put⟩
    simp only [r12Seek_again.v, r12Seek_again.t, sy, reduceIte, Nat.reduceAdd, Nat.reduceLeDiff, Nat.reduceLT, Nat.reduceEqDiff, Int.reduceEq, Int.reduceLT, Int.reduceLE, Int.reduceNe, ly, e]
  · refine ⟨RPut s d (rrow c { m with n := m.n + 1, ap := headR c.h, wl := c.h, wb := 0, lk := false } wv), ?_, by unfold againC; rw [if_neg (by omega)]; exact h.put rfl, .put⟩
    have hr := h.row
    simp only [r12Seek_again.v, r12Seek_again.t, sy, reduceIte, Nat.reduceAdd, Nat.reduceLeDiff, Nat.reduceLT, Nat.reduceEqDiff, Int.reduceEq, Int.reduceLT, Int.reduceLE, Int.reduceNe, ly, e, ldc_put hr, stv_put hr, hh, headR]
theorem rgoes_iter {c : Cf} {m : Mm} {s0 s : St} {d : Nat} {wv : Value} {ws : List Wl} (h : AtR c m s0 s d wv ws) (hn : 0 ≤ m.n) {D : Nat} {ar an : Int} {r : Rf} {x : Option Rf} (hc : Chase m.tab m.wl m.wb D ar an r x) : ∀ k, D < k →
    (x = none → ∃ s', iter (r12Seek_right.l2 std) k [P d, .agg ⟨r.cs⟩, .agg ⟨[.int .i64 ar, .int .u64 an]⟩] s = some ((1, [], s') : Cut) ∧ AtR c (againC c m) s0 s' d wv ws ∧ StpR d s0.n s s') ∧
    (∀ r', x = some r' → iter (r12Seek_right.l2 std) k [P d, .agg ⟨r.cs⟩, .agg ⟨[.int .i64 ar, .int .u64 an]⟩] s = some ((0, [P d, .agg ⟨r'.cs⟩], s) : Cut)) := by
  have hr := h.row
  obtain ⟨s2, a1, a2, a3⟩ := ragain_r h hn
  induction hc with
  | @bad ar an r k1 =>
    intro k hk
    obtain ⟨k, rfl⟩ : ∃ j, k = j + 1 := ⟨k - 1, by omega⟩
    have kc := rcheck_r r.rk r.n s
    simp only [k1, reduceIte] at kc
    refine ⟨fun _ => ⟨s2, ?_, a2, a3⟩, fun r' e => by cases e⟩
    rw [iter_succ]
    simp only [r12Seek_right.l2, sy, reduceIte, Nat.reduceAdd, Nat.reduceLeDiff, Nat.reduceLT, Nat.reduceEqDiff, Int.reduceEq, Int.reduceLT, Int.reduceLE, Int.reduceNe, ly, kc, a1]
  | @back ar an r k1 k2 =>
    intro k hk
    obtain ⟨k, rfl⟩ : ∃ j, k = j + 1 := ⟨k - 1, by omega⟩
    have kc := rcheck_r r.rk r.n s
    have l1 := rless_r ar an r.rk r.n s
    simp only [k1, reduceIte] at kc
    rw [decide_eq_false k2] at l1
    refine ⟨fun _ => ⟨s2, ?_, a2, a3⟩, fun r' e => by cases e⟩
    rw [iter_succ]
    simp only [r12Seek_right.l2, sy, reduceIte, Nat.reduceAdd, Nat.reduceLeDiff, Nat.reduceLT, Nat.reduceEqDiff, Int.reduceEq, Int.reduceLT, Int.reduceLE, Int.reduceNe, ly, kc, l1, a1]
  | @here ar an r k1 k2 hi =>
    intro k hk
    obtain ⟨k, rfl⟩ : ∃ j, k = j + 1 := ⟨k - 1, by omega⟩
    have kc := rcheck_r r.rk r.n s
    have l1 := rless_r ar an r.rk r.n s
    have kn := known_r h r
    rw [hi] at kn
    simp only [idI] at kn
    simp only [k1, reduceIte] at kc
    rw [decide_eq_true k2] at l1
    refine ⟨(fun e => by cases e), fun r' e' => ?_⟩
    cases e'
    rw [iter_succ]
    simp only [r12Seek_right.l2, sy, reduceIte, Nat.reduceAdd, Nat.reduceLeDiff, Nat.reduceLT, Nat.reduceEqDiff, Int.reduceEq, Int.reduceLT, Int.reduceLE, Int.reduceNe, ly, kc, l1, ldc_row hr, lda_row hr, kn]
  | @next D ar an r i e x k1 k2 hi he hc ih =>
    intro k hk
    obtain ⟨k, rfl⟩ : ∃ j, k = j + 1 := ⟨k - 1, by omega⟩
    have kc := rcheck_r r.rk r.n s
    have l1 := rless_r ar an r.rk r.n s
    have kn := known_r h r
    rw [hi] at kn
    simp only [idI] at kn
    simp only [k1, reduceIte] at kc
    rw [decide_eq_true k2] at l1
    rw [h.tab] at he
    have hil : i < ws.length := by have := (List.getElem?_eq_some_iff.1 he).1; rwa [tabW_length] at this
    obtain ⟨w, hw⟩ := get_some hil
    obtain ⟨o, o1, o2, o3, o4⟩ := own_idx h.own hw
    have rg := rowsW_get hw
    have e0 : ¬ ((i : Int) < 0) := by omega
    have hew : e = (w.k, w.r) := by rw [tabW_get hw] at he; exact (Option.some.inj he).symm
    subst hew
    have fin : iter (r12Seek_right.l2 std) (k + 1) [P d, .agg ⟨r.cs⟩, .agg ⟨[.int .i64 ar, .int .u64 an]⟩] s = iter (r12Seek_right.l2 std) k [P d, .agg ⟨w.r.cs⟩, .agg ⟨[.int .i64 r.rk, .int .u64 r.n]⟩] s := by
      rw [iter_succ]
      simp only [r12Seek_right.l2, sy, reduceIte, Nat.reduceAdd, Nat.reduceLeDiff, Nat.reduceLT, Nat.reduceEqDiff, Int.reduceEq, Int.reduceLT, Int.reduceLE, Int.reduceNe, ly, kc, l1, ldc_row hr, lda_row hr, kn, e0, o4, lda_row o3, rg]
    rw [fin]
    exact ih k (by omega)
theorem same2k (a b : Int) : sameV (.agg ⟨[.int .i64 a, .int .u64 b]⟩) (.agg ⟨[.int .i64 a, .int .u64 b]⟩) = true := by simp [sameV, sameVs]
theorem same5 (r : Rf) : sameV (.agg ⟨[.int .i64 r.id, .int .i64 r.rk, .int .u64 r.n, .int .i64 r.ln, .int .u64 r.bt]⟩) (.agg ⟨[.int .i64 r.id, .int .i64 r.rk, .int .u64 r.n, .int .i64 r.ln, .int .u64 r.bt]⟩) = true := by simp [sameV, sameVs]
theorem rgoes_f {c : Cf} {m : Mm} {s0 s : St} {d0 : Nat} {wv : Value} {ws : List Wl} (hf : Fresh s) (h : AtR c m s0 s d0 wv ws) (hn : 0 ≤ m.n) (hw : okV m.wl m.wb) {r : Rf} {D : Nat} {x : Option Rf} (hc : Chase m.tab m.wl m.wb D m.ap.rk m.ap.n r x) (hD : D < BIG) :
    ∃ s', r12Seek_right.v (P d0) (.agg ⟨r.cs⟩) s = some (unit', s') ∧ AtR c (goesF c m x) s0 s' d0 wv ws ∧ StpR d0 s0.n s s' := by
  have hr := h.row
  obtain ⟨gn, gs⟩ := rgoes_iter h hn hc BIG hD
  cases x with
  | none =>
    obtain ⟨s', e, h1, h2⟩ := gn rfl
    refine ⟨s', ?_, h1, h2⟩
    simp only [r12Seek_right.v, r12Seek_right.t, sy, reduceIte, Nat.reduceAdd, Nat.reduceLeDiff, Nat.reduceLT, Nat.reduceEqDiff, Int.reduceEq, Int.reduceLT, Int.reduceLE, Int.reduceNe, ly, lda_row hr, e, Nat.one_ne_zero]
  | some r' =>
    have e := gs r' rfl
    have l1 := rless_r r'.rk r'.n c.tr c.tn s
    by_cases k1 : lessK r'.rk r'.n c.tr c.tn
    · rw [decide_eq_true k1] at l1
      refine ⟨RPut s d0 (rrow c { m with lk := true, to := r' } wv), ?_, by rw [show goesF c m (some r') = { m with lk := true, to := r' } by simp only [goesF, if_pos k1]]; exact h.put rfl, .put⟩
      simp only [r12Seek_right.v, r12Seek_right.t, sy, reduceIte, Nat.reduceAdd, Nat.reduceLeDiff, Nat.reduceLT, Nat.reduceEqDiff, Int.reduceEq, Int.reduceLT, Int.reduceLE, Int.reduceNe, ly, lda_row hr, e, l1, stv_row hr, stv_put hr]
    · rw [decide_eq_false k1] at l1
      by_cases k2 : 0 < m.wl
      · obtain ⟨n, d, e1, e2, g1, g2⟩ := id hw
        have hi : n - 1 ≤ n := by omega
        have pf : r01PrefixQ.r (.agg ⟨[.int .i64 m.wl, .int .u64 m.wb]⟩) (.int .i64 ((n - 1 : Nat) : Int)) s = some (T2 (VV (n - 1) (d / 2 ^ (n - (n - 1)))) 0) := by
          rw [e1, e2]; exact rPrefix_ok s g1 g2 hi
        have e3 : IntKind.i64.wrap (m.wl - 1) = ((n - 1 : Nat) : Int) := by rw [wrap64 (by omega) (by omega)]; omega
        have e6 : d / 2 ^ (n - (n - 1)) = m.wb.toNat / 2 := by rw [half_ok (by omega), e2]; rfl
        rw [e6] at pf
        refine ⟨RPut s d0 (rrow c { m with wl := m.wl - 1, wb := ((m.wb.toNat / 2 : Nat) : Int), lk := false } wv), ?_, by rw [show goesF c m (some r') = { m with wl := m.wl - 1, wb := ((m.wb.toNat / 2 : Nat) : Int), lk := false } by simp only [goesF, if_neg k1, if_pos k2]]; exact h.put rfl, .put⟩
        have e4 : ((n - 1 : Nat) : Int) = m.wl - 1 := by omega
        simp only [e4] at pf e3
        simp only [r12Seek_right.v, r12Seek_right.t, r12Seek_right.t.p1, r12Seek_end.v, r12Seek_end.t, sy, reduceIte, Nat.reduceAdd, Nat.reduceLeDiff, Nat.reduceLT, Nat.reduceEqDiff, Int.reduceEq, Int.reduceLT, Int.reduceLE, Int.reduceNe, ly, ldc_row hr, lda_row hr, e, l1, k2, e3, pf, e4, stv_row hr, stv_put hr]
      · rcases Classical.propComplete (r'.rk = c.tr) with k3 | k3
        · rcases Classical.propComplete (r'.n = c.tn) with k4 | k4
          · refine ⟨RPut s d0 (rrow c { m with ov := true, res := ⟨0, 0, m.ap, r', true⟩ } wv), ?_, by rw [show goesF c m (some r') = { m with ov := true, res := ⟨0, 0, m.ap, r', true⟩ } by simp only [goesF, if_neg k1, if_neg k2, k3, k4, sy, reduceIte, Nat.reduceAdd, Nat.reduceLeDiff, Nat.reduceLT, Nat.reduceEqDiff, Int.reduceEq, Int.reduceLT, Int.reduceLE, Int.reduceNe]]; exact h.put rfl, .put⟩
            simp only [r12Seek_right.v, r12Seek_right.t, r12Seek_right.t.p1, r12Seek_end.v, r12Seek_end.t, sy, reduceIte, Nat.reduceAdd, Nat.reduceLeDiff, Nat.reduceLT, Nat.reduceEqDiff, Int.reduceEq, Int.reduceLT, Int.reduceLE, Int.reduceNe, ly, ldc_row hr, lda_row hr, e, l1, k2, k3, k4, stv_row hr, stv_put hr, lda_put hr, same5 m.ap, same2k]
          · refine ⟨RPut s d0 (rrow c { m with ov := true, res := ⟨0, 0, m.ap, r', false⟩ } wv), ?_, by rw [show goesF c m (some r') = { m with ov := true, res := ⟨0, 0, m.ap, r', false⟩ } by simp only [goesF, if_neg k1, if_neg k2, k3, k4, sy, reduceIte, Nat.reduceAdd, Nat.reduceLeDiff, Nat.reduceLT, Nat.reduceEqDiff, Int.reduceEq, Int.reduceLT, Int.reduceLE, Int.reduceNe]]; exact h.put rfl, .put⟩
            simp only [r12Seek_right.v, r12Seek_right.t, r12Seek_right.t.p1, r12Seek_end.v, r12Seek_end.t, sy, reduceIte, Nat.reduceAdd, Nat.reduceLeDiff, Nat.reduceLT, Nat.reduceEqDiff, Int.reduceEq, Int.reduceLT, Int.reduceLE, Int.reduceNe, ly, ldc_row hr, lda_row hr, e, l1, k2, k3, k4, stv_row hr, stv_put hr, lda_put hr, same5 m.ap, same2k]
        · rcases Classical.propComplete (r'.n = c.tn) with k4 | k4
          · refine ⟨RPut s d0 (rrow c { m with ov := true, res := ⟨0, 0, m.ap, r', false⟩ } wv), ?_, by rw [show goesF c m (some r') = { m with ov := true, res := ⟨0, 0, m.ap, r', false⟩ } by simp only [goesF, if_neg k1, if_neg k2, k3, k4, sy, reduceIte, Nat.reduceAdd, Nat.reduceLeDiff, Nat.reduceLT, Nat.reduceEqDiff, Int.reduceEq, Int.reduceLT, Int.reduceLE, Int.reduceNe]]; exact h.put rfl, .put⟩
            simp only [r12Seek_right.v, r12Seek_right.t, r12Seek_right.t.p1, r12Seek_end.v, r12Seek_end.t, sy, reduceIte, Nat.reduceAdd, Nat.reduceLeDiff, Nat.reduceLT, Nat.reduceEqDiff, Int.reduceEq, Int.reduceLT, Int.reduceLE, Int.reduceNe, ly, ldc_row hr, lda_row hr, e, l1, k2, k3, k4, stv_row hr, stv_put hr, lda_put hr, same5 m.ap, same2k]
          · refine ⟨RPut s d0 (rrow c { m with ov := true, res := ⟨0, 0, m.ap, r', false⟩ } wv), ?_, by rw [show goesF c m (some r') = { m with ov := true, res := ⟨0, 0, m.ap, r', false⟩ } by simp only [goesF, if_neg k1, if_neg k2, k3, k4, sy, reduceIte, Nat.reduceAdd, Nat.reduceLeDiff, Nat.reduceLT, Nat.reduceEqDiff, Int.reduceEq, Int.reduceLT, Int.reduceLE, Int.reduceNe]]; exact h.put rfl, .put⟩
            simp only [r12Seek_right.v, r12Seek_right.t, r12Seek_right.t.p1, r12Seek_end.v, r12Seek_end.t, sy, reduceIte, Nat.reduceAdd, Nat.reduceLeDiff, Nat.reduceLT, Nat.reduceEqDiff, Int.reduceEq, Int.reduceLT, Int.reduceLE, Int.reduceNe, ly, ldc_row hr, lda_row hr, e, l1, k2, k3, k4, stv_row hr, stv_put hr, lda_put hr, same5 m.ap, same2k]
theorem rtell_f {c : Cf} {m : Mm} {s0 s : St} {d0 : Nat} {wv : Value} {ws : List Wl} (hf : Fresh s) (hcap : ws.length + 1 ≤ 100000) (h : AtR c m s0 s d0 wv ws) (hn : 0 ≤ m.n) (hw : okV m.wl m.wb) (a : Ans) {D : Nat} {x : Option Rf} (hc : Chase m.tab m.wl m.wb D (curF m).rk (curF m).n a.r x) (hD : D < BIG) :
    ∃ s' wv' ws', r12Seek_Tell.v (P d0) (.agg ⟨a.cs⟩) s = some (unit', s') ∧ AtR c (tellF c m a x) s0 s' d0 wv' ws' ∧ StpR d0 s0.n s s' ∧ ws'.length ≤ ws.length + 1 := by
  have hr := h.row
  cases ho : m.ov with
  | true => exact ⟨s, wv, ws, by simp only [r12Seek_Tell.v, r12Seek_Tell.t, r12Seek_Tell.t.p1, sy, reduceIte, Nat.reduceAdd, Nat.reduceLeDiff, Nat.reduceLT, Nat.reduceEqDiff, Int.reduceEq, Int.reduceLT, Int.reduceLE, Int.reduceNe, ly, ldc_row hr, ho], by rw [show tellF c m a x = m by simp only [tellF, ho, if_true]]; exact h, .refl d0 s0.n s, by omega⟩
  | false =>
    cases hk : m.lk with
    | false =>
      rcases Classical.propComplete (a.k = 1) with k1 | k1
      · have l1 := rless_r m.ap.rk m.ap.n c.tr c.tn s
        have k9 : (a.k = 3) = False := eq_false (by have := of_eq_true k1; omega)
        by_cases k2 : lessK m.ap.rk m.ap.n c.tr c.tn
        · rw [decide_eq_true k2] at l1
          obtain ⟨s', e, g1, g3⟩ := rgoes_f hf h hn hw (by rw [show curF m = m.ap by simp [curF, hk]] at hc; exact hc) hD
          refine ⟨s', wv, ws, ?_, by rw [show tellF c m a x = goesF c m x by simp only [tellF, ho, hk, k1, if_pos k2, sy, reduceIte, Nat.reduceAdd, Nat.reduceLeDiff, Nat.reduceLT, Nat.reduceEqDiff, Int.reduceEq, Int.reduceLT, Int.reduceLE, Int.reduceNe]]; exact g1, g3, by omega⟩
          simp only [r12Seek_Tell.v, r12Seek_Tell.t, r12Seek_Tell.t.p1, sy, reduceIte, Nat.reduceAdd, Nat.reduceLeDiff, Nat.reduceLT, Nat.reduceEqDiff, Int.reduceEq, Int.reduceLT, Int.reduceLE, Int.reduceNe, ly, ldc_row hr, lda_row hr, ho, hk, k1, k9, l1, e]
        · rw [decide_eq_false k2] at l1
          have kc := rcheck_r a.l.rk a.l.n s
          have l2 := rless_r a.l.rk a.l.n m.ap.rk m.ap.n s
          obtain ⟨s2, a1, a2, a3⟩ := ragain_r h hn
          by_cases k3 : okK a.l.rk a.l.n
          · simp only [k3, reduceIte] at kc
            by_cases k4 : lessK a.l.rk a.l.n m.ap.rk m.ap.n
            · rw [decide_eq_true k4] at l2
              refine ⟨RPut s d0 (rrow c { m with ap := a.l } wv), wv, ws, ?_, by rw [show tellF c m a x = { m with ap := a.l } by simp only [tellF, ho, hk, k1, if_neg k2, k3, k4, sy, reduceIte, Nat.reduceAdd, Nat.reduceLeDiff, Nat.reduceLT, Nat.reduceEqDiff, Int.reduceEq, Int.reduceLT, Int.reduceLE, Int.reduceNe]]; exact h.put rfl, .put, by omega⟩
              simp only [r12Seek_Tell.v, r12Seek_Tell.t, r12Seek_Tell.t.p1, sy, reduceIte, Nat.reduceAdd, Nat.reduceLeDiff, Nat.reduceLT, Nat.reduceEqDiff, Int.reduceEq, Int.reduceLT, Int.reduceLE, Int.reduceNe, ly, ldc_row hr, lda_row hr, ho, hk, k1, k9, l1, kc, l2, stv_row hr]
            · rw [decide_eq_false k4] at l2
              refine ⟨s2, wv, ws, ?_, by rw [show tellF c m a x = againC c m by simp only [tellF, ho, hk, k1, if_neg k2, k3, k4, sy, reduceIte, Nat.reduceAdd, Nat.reduceLeDiff, Nat.reduceLT, Nat.reduceEqDiff, Int.reduceEq, Int.reduceLT, Int.reduceLE, Int.reduceNe]]; exact a2, a3, by omega⟩
              simp only [r12Seek_Tell.v, r12Seek_Tell.t, r12Seek_Tell.t.p1, sy, reduceIte, Nat.reduceAdd, Nat.reduceLeDiff, Nat.reduceLT, Nat.reduceEqDiff, Int.reduceEq, Int.reduceLT, Int.reduceLE, Int.reduceNe, ly, ldc_row hr, lda_row hr, ho, hk, k1, k9, l1, kc, l2, a1]
          · simp only [k3, reduceIte] at kc
            refine ⟨s2, wv, ws, ?_, by rw [show tellF c m a x = againC c m by simp only [tellF, ho, hk, k1, if_neg k2, k3, sy, reduceIte, Nat.reduceAdd, Nat.reduceLeDiff, Nat.reduceLT, Nat.reduceEqDiff, Int.reduceEq, Int.reduceLT, Int.reduceLE, Int.reduceNe]]; exact a2, a3, by omega⟩
            simp only [r12Seek_Tell.v, r12Seek_Tell.t, r12Seek_Tell.t.p1, sy, reduceIte, Nat.reduceAdd, Nat.reduceLeDiff, Nat.reduceLT, Nat.reduceEqDiff, Int.reduceEq, Int.reduceLT, Int.reduceLE, Int.reduceNe, ly, ldc_row hr, lda_row hr, ho, hk, k1, k9, l1, kc, a1]
      · rcases Classical.propComplete (a.k = 3) with k3 | k3
        · obtain ⟨s1, wv1, ws1, e1, h1, st1, hl1⟩ := rkeep_r h hf hcap m.ap a
          obtain ⟨s2, e2, h2, st2⟩ := ragain_r h1 hn
          refine ⟨s2, wv1, ws1, ?_, by rw [show tellF c m a x = againC c (keepC m m.ap a.r) by simp only [tellF, ho, hk, k1, k3, sy, reduceIte, Nat.reduceAdd, Nat.reduceLeDiff, Nat.reduceLT, Nat.reduceEqDiff, Int.reduceEq, Int.reduceLT, Int.reduceLE, Int.reduceNe]]; exact h2, st1.trans st2, hl1⟩
          simp only [r12Seek_Tell.v, r12Seek_Tell.t, r12Seek_Tell.t.p1, sy, reduceIte, Nat.reduceAdd, Nat.reduceLeDiff, Nat.reduceLT, Nat.reduceEqDiff, Int.reduceEq, Int.reduceLT, Int.reduceLE, Int.reduceNe, ly, ldc_row hr, lda_row hr, ho, hk, k1, k3, e1, e2]
        · obtain ⟨s2, e2, h2, st2⟩ := ragain_r h hn
          refine ⟨s2, wv, ws, ?_, by rw [show tellF c m a x = againC c m by simp only [tellF, ho, hk, k1, k3, sy, reduceIte, Nat.reduceAdd, Nat.reduceLeDiff, Nat.reduceLT, Nat.reduceEqDiff, Int.reduceEq, Int.reduceLT, Int.reduceLE, Int.reduceNe, Bool.true_eq_false]]; exact h2, st2, by omega⟩
          simp only [r12Seek_Tell.v, r12Seek_Tell.t, r12Seek_Tell.t.p1, sy, reduceIte, Nat.reduceAdd, Nat.reduceLeDiff, Nat.reduceLT, Nat.reduceEqDiff, Int.reduceEq, Int.reduceLT, Int.reduceLE, Int.reduceNe, ly, ldc_row hr, lda_row hr, ho, hk, k1, k3, e2]
    | true =>
      rcases Classical.propComplete (a.k = 1) with k1 | k1
      · obtain ⟨sA, hsA⟩ : ∃ s1, s1 = RPut s d0 (rrow c { m with ap := m.to } wv) := ⟨_, rfl⟩
        have eA : stv s 5 (.pointer (some ⟨d0, 0, some 8⟩)) (.agg ⟨m.to.cs⟩) = some sA := by
          rw [hsA]; simp only [stv_row hr, sy, reduceIte, Nat.reduceAdd, Nat.reduceLeDiff, Nat.reduceLT, Nat.reduceEqDiff, Int.reduceEq, Int.reduceLT, Int.reduceLE, Int.reduceNe, ly]
        have hA : AtR c { m with ap := m.to } s0 sA d0 wv ws := by rw [hsA]; exact h.put rfl
        have hrA := hA.row
        obtain ⟨s1, hs1⟩ : ∃ s1, s1 = RPut sA d0 (rrow c { m with ap := m.to, lk := false } wv) := ⟨_, rfl⟩
        have eB : stv sA 1 (.pointer (some ⟨d0, 0, some 15⟩)) (.bool false) = some s1 := by
          rw [hs1]; simp only [stv_row hrA, sy, reduceIte, Nat.reduceAdd, Nat.reduceLeDiff, Nat.reduceLT, Nat.reduceEqDiff, Int.reduceEq, Int.reduceLT, Int.reduceLE, Int.reduceNe, ly]
        have h1 : AtR c { m with ap := m.to, lk := false } s0 s1 d0 wv ws := by rw [hs1]; exact hA.put rfl
        have st1 : StpR d0 s0.n s s1 := by rw [hs1, hsA]; exact StpR.put.trans .put
        obtain ⟨s', e, g1, g3⟩ := rgoes_f (st1.2.2 hf) h1 hn hw (by rw [show curF m = m.to by simp [curF, hk]] at hc; exact hc) hD
        refine ⟨s', wv, ws, ?_, by rw [show tellF c m a x = goesF c { m with ap := m.to, lk := false } x by simp only [tellF, ho, hk, k1, sy, reduceIte, Nat.reduceAdd, Nat.reduceLeDiff, Nat.reduceLT, Nat.reduceEqDiff, Int.reduceEq, Int.reduceLT, Int.reduceLE, Int.reduceNe, Bool.true_eq_false]]; exact g1, st1.trans g3, by omega⟩
        simp only [r12Seek_Tell.v, r12Seek_Tell.t, r12Seek_Tell.t.p1, r12Seek_looked.v, r12Seek_looked.t, sy, reduceIte, Nat.reduceAdd, Nat.reduceLeDiff, Nat.reduceLT, Nat.reduceEqDiff, Int.reduceEq, Int.reduceLT, Int.reduceLE, Int.reduceNe, ly, ldc_row hr, lda_row hr, ho, hk, k1, eA, eB, e]
      · rcases Classical.propComplete (a.k = 3) with k3 | k3
        · obtain ⟨s1, wv1, ws1, e1, h1, st1, hl1⟩ := rkeep_r h hf hcap m.to a
          rcases rcounts_r h1 hn with ⟨g1, e2⟩ | ⟨g1, e2⟩
          · have g1' : 64 ≤ m.n := g1
            refine ⟨RPut s1 d0 (rrow c (busy { m with tab := upd m.tab ⟨m.to.id, m.wl, m.wb⟩ a.r }) wv1), wv1, ws1, ?_, by rw [show tellF c m a x = busy (keepC m m.to a.r) by simp only [tellF, ho, hk, k1, k3, if_pos g1', sy, reduceIte, Nat.reduceAdd, Nat.reduceLeDiff, Nat.reduceLT, Nat.reduceEqDiff, Int.reduceEq, Int.reduceLT, Int.reduceLE, Int.reduceNe, Bool.true_eq_false]]; exact h1.put rfl, st1.trans .put, hl1⟩
            simp only [r12Seek_Tell.v, r12Seek_Tell.t, r12Seek_Tell.t.p1, r12Seek_looked.v, r12Seek_looked.t, sy, reduceIte, Nat.reduceAdd, Nat.reduceLeDiff, Nat.reduceLT, Nat.reduceEqDiff, Int.reduceEq, Int.reduceLT, Int.reduceLE, Int.reduceNe, ly, ldc_row hr, lda_row hr, ho, hk, k1, k3, e1, e2, keepC, busy]
          · have hr1 := h1.row
            have g1' : ¬ 64 ≤ m.n := by have : m.n < 64 := g1; omega
            refine ⟨RPut s1 d0 (rrow c { m with tab := upd m.tab ⟨m.to.id, m.wl, m.wb⟩ a.r, n := m.n + 1, lk := false } wv1), wv1, ws1, ?_, by rw [show tellF c m a x = { keepC m m.to a.r with n := m.n + 1, lk := false } by simp only [tellF, ho, hk, k1, k3, if_neg g1', sy, reduceIte, Nat.reduceAdd, Nat.reduceLeDiff, Nat.reduceLT, Nat.reduceEqDiff, Int.reduceEq, Int.reduceLT, Int.reduceLE, Int.reduceNe, Bool.true_eq_false]]; exact h1.put rfl, st1.trans .put, hl1⟩
            simp only [r12Seek_Tell.v, r12Seek_Tell.t, r12Seek_Tell.t.p1, r12Seek_looked.v, r12Seek_looked.t, sy, reduceIte, Nat.reduceAdd, Nat.reduceLeDiff, Nat.reduceLT, Nat.reduceEqDiff, Int.reduceEq, Int.reduceLT, Int.reduceLE, Int.reduceNe, ly, ldc_row hr, lda_row hr, ho, hk, k1, k3, e1, e2, stv_put hr1, keepC]
        · obtain ⟨s2, e2, h2, st2⟩ := ragain_r h hn
          refine ⟨s2, wv, ws, ?_, by rw [show tellF c m a x = againC c m by simp only [tellF, ho, hk, k1, k3, sy, reduceIte, Nat.reduceAdd, Nat.reduceLeDiff, Nat.reduceLT, Nat.reduceEqDiff, Int.reduceEq, Int.reduceLT, Int.reduceLE, Int.reduceNe, Bool.true_eq_false]]; exact h2, st2, by omega⟩
          simp only [r12Seek_Tell.v, r12Seek_Tell.t, r12Seek_Tell.t.p1, r12Seek_looked.v, r12Seek_looked.t, sy, reduceIte, Nat.reduceAdd, Nat.reduceLeDiff, Nat.reduceLT, Nat.reduceEqDiff, Int.reduceEq, Int.reduceLT, Int.reduceLE, Int.reduceNe, ly, ldc_row hr, lda_row hr, ho, hk, k1, k3, e2]
end Go.Proofs.YteafgjpbfhjbjaaGreat
