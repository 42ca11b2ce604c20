/-
  The reference's machine of package read.
-/
import Derived.Test.YtjiknclbjbfdjaaGreatRedD
set_option linter.unusedSimpArgs false
set_option linter.unusedVariables false
set_option maxRecDepth 100000
set_option maxHeartbeats 2000000
namespace Go.Proofs.YtjiknclbjbfdjaaGreat
open Go.Sim Go.Sim.Bt
attribute [local congr] bdc cndc itec gdc gdSc gdUc

abbrev rdrow (c : RC) (m : RM) (xr : Rf) (rv : Value) (d : Nat) : List Value :=
  [.int .i64 c.h, .int .i64 c.st.id, .int .i64 c.st.rk, .int .u64 c.st.n, .int .i64 c.st.ln, .int .u64 c.st.bt, .int .u64 c.key, .bool c.ceil, .int .i64 m.at', .int .i64 m.tries, P d, .int .i64 xr.id, .int .i64 xr.rk, .int .u64 xr.n, .int .i64 xr.ln, .int .u64 xr.bt,
   .int .i64 m.res.e, .int .u64 m.res.key, rv, .slice none 0 0, .int .i64 m.res.l.id, .int .i64 m.res.l.rk, .int .u64 m.res.l.n, .int .i64 m.res.l.ln, .int .u64 m.res.l.bt, .int .i64 m.res.r.id, .int .i64 m.res.r.rk, .int .u64 m.res.r.n, .int .i64 m.res.r.ln, .int .u64 m.res.r.bt, .bool m.res.found]
abbrev QRow (s : St) (p : Nat) (cs : List Value) : Prop := s.get p = some (.row 31 [cs] false)
abbrev QPut (s : St) (p : Nat) (cs : List Value) : St := s.put p (.row 31 [cs] false)
abbrev nilS : Value := .slice none 0 0
abbrev StpQ (s s' : St) : Prop := StpK [31, 39, 13] s s'
theorem put_q {s : St} {p : Nat} {X Y : List Value} (h : QRow s p X) : QRow (QPut s p Y) p Y := get_put_same h
theorem stp_q {s : St} {p : Nat} {X Y : List Value} (h : QRow s p X) : StpQ s (QPut s p Y) := .put h (by simp [kd])
theorem atR_q {c : Cf} {m : Mm} {s : St} {d p : Nat} {wv : Value} {ws : List Wl} {X Y : List Value} (hR : AtR c m E0 s d wv ws) (h : QRow s p X) (hf : Fresh s) : AtR c m E0 (QPut s p Y) d wv ws :=
  hR.stp (ks := [31]) (.put h (by simp [kd])) (by simp) (by simp) hf.put
/-- What holds of the search's result. -/
def InvF (c : Cf) (ms : Mm) : Prop := ms.ov = true → ms.res.e = 0 → ms.res.found = true → ms.res.r.rk = c.tr
theorem invF_busy {c : Cf} {m : Mm} : InvF c (busy m) := fun _ e => by simp [busy] at e
theorem invF_again {c : Cf} {m : Mm} (h : InvF c m) (ho : m.ov = false) : InvF c (againC c m) := by
  unfold againC
  split
  · exact invF_busy
  · intro e; rw [show ({ m with n := m.n + 1, ap := headR c.h, wl := c.h, wb := 0, lk := false } : Mm).ov = m.ov from rfl, ho] at e; cases e
theorem invF_no {c : Cf} {m : Mm} (ho : m.ov = false) : InvF c m := fun e => by rw [ho] at e; cases e
theorem invF_goes {c : Cf} {m : Mm} (ho : m.ov = false) (x : Option Rf) : InvF c (goesF c m x) := by
  cases x with
  | none => exact invF_again (invF_no ho) ho
  | some r =>
    simp only [goesF]
    split
    · exact invF_no ho
    · split
      · exact invF_no ho
      · intro _ _ h
        simp only [Bool.and_eq_true, decide_eq_true_eq] at h
        exact h.1
theorem invF_tell {c : Cf} {m : Mm} (h : InvF c m) (a : Ans) (x : Option Rf) : InvF c (tellF c m a x) := by
  unfold tellF
  split
  · exact h
  · rename_i ho
    have ho : m.ov = false := by cases hb : m.ov; rfl; exact absurd hb ho
    have hk : ∀ r y, (keepC m r y).ov = false := fun _ _ => ho
    split
    · split
      · split
        · exact invF_goes ho x
        · split
          · exact invF_no ho
          · exact invF_again h ho
      · split
        · exact invF_again (invF_no (hk _ _)) (hk _ _)
        · exact invF_again h ho
    · split
      · exact invF_goes (m := { m with ap := m.to, lk := false }) ho x
      · split
        · split
          · exact invF_busy
          · exact invF_no ho
        · exact invF_again h ho
theorem invF_dead {c : Cf} {m : Mm} (h : InvF c m) (a : Ans) : InvF c (deadF m a) := by
  unfold deadF
  split
  · simp only []
    split
    · exact invF_busy
    · exact invF_no rfl
  · exact h
theorem over_q {s : St} {p d : Nat} {c : RC} {m : RM} {xr : Rf} {rv : Value} (h : QRow s p (rdrow c m xr rv d)) (e : Int) : leapfrogref17x_Read_over.v (P p) (.int .i64 e) s = some (unit', QPut s p (rdrow c (failM m e) xr nilS d)) := by
  obtain ⟨s1, hs1⟩ : ∃ s1, s1 = QPut s p (rdrow c { m with at' := 4 } xr rv d) := ⟨_, rfl⟩
  have e1 : stv s 1 (.pointer (some ⟨p, 0, some 8⟩)) (.int .i64 4) = some s1 := by rw [hs1]; simp only [stv_row h, sy, reduceIte, Nat.reduceAdd, Nat.reduceLeDiff, Nat.reduceLT, Nat.reduceEqDiff, Int.reduceEq, Int.reduceLT, Int.reduceLE, Int.reduceNe, ly]
  have h1 : QRow s1 p (rdrow c { m with at' := 4 } xr rv d) := by rw [hs1]; exact put_q h
  have e2 : stv s1 15 (.pointer (some ⟨p, 0, some 16⟩)) (.agg ⟨(⟨e, 0, zR, zR, false⟩ : Res).cs⟩) = some (QPut s p (rdrow c (failM m e) xr nilS d)) := by
    simp only [stv_row h1, sy, reduceIte, Nat.reduceAdd, Nat.reduceLeDiff, Nat.reduceLT, Nat.reduceEqDiff, Int.reduceEq, Int.reduceLT, Int.reduceLE, Int.reduceNe, ly]
    rw [hs1, put_put]
    rfl
  simp only [leapfrogref17x_Read_over.v, leapfrogref17x_Read_over.t, sy, reduceIte, Nat.reduceAdd, Nat.reduceLeDiff, Nat.reduceLT, Nat.reduceEqDiff, Int.reduceEq, Int.reduceLT, Int.reduceLE, Int.reduceNe, ly, e1, e2]
/-- What the end of the search makes of it. -/
theorem settle_q {s : St} {p d : Nat} {c : RC} {m : RM} {ms : Mm} {xr : Rf} {rv : Value} {wv : Value} {ws : List Wl} (h : QRow s p (rdrow c m xr rv d)) (hR : AtR c.sk ms E0 s d wv ws) (hF : InvF c.sk ms) (hm : m.at' ≠ 2) :
    ∃ s' xr' rv', leapfrogref17x_Read_settle.v (P p) s = some (unit', s') ∧ QRow s' p (rdrow c (soughtM c m ms) xr' rv' d) ∧ (s' = s ∨ ∃ X, s' = QPut s p X) ∧ ((soughtM c m ms).at' = 2 → xr' = (soughtM c m ms).x) ∧ ((rv' = rv ∧ (soughtM c m ms).res = m.res) ∨ (rv' = nilS ∧ (soughtM c m ms).res.v = nilS)) := by
  have n1 := rnext_r hR
  cases ho : ms.ov with
  | false =>
    rw [show nextC ms = stepC 1 (if ms.lk = true then ms.to else ms.ap) ⟨1, ms.wl, ms.wb, zR, zR, 0, 0⟩ zRes by simp [nextC, ho]] at n1
    generalize (if ms.lk = true then ms.to else ms.ap) = t at n1
    have hs : soughtM c m ms = m := by simp [soughtM, ho]
    rw [hs]
    exact ⟨s, xr, rv, by simp only [leapfrogref17x_Read_settle.v, leapfrogref17x_Read_settle.t, sy, reduceIte, Nat.reduceAdd, Nat.reduceLeDiff, Nat.reduceLT, Nat.reduceEqDiff, Int.reduceEq, Int.reduceLT, Int.reduceLE, Int.reduceNe, ly, ldc_row h, n1, stepC], h, .inl rfl, fun e => absurd e hm, .inl ⟨rfl, rfl⟩⟩
  | true =>
    rw [show nextC ms = stepC 3 zR zAsk ms.res by simp [nextC, ho]] at n1
    have so : ∀ {s'}, leapfrogref17x_Read_sought.v (P p) (.agg ⟨ms.res.cs⟩) s = some (unit', s') → leapfrogref17x_Read_settle.v (P p) s = some (unit', s') := by
      intro s' hs'
      simp only [leapfrogref17x_Read_settle.v, leapfrogref17x_Read_settle.t, sy, reduceIte, Nat.reduceAdd, Nat.reduceLeDiff, Nat.reduceLT, Nat.reduceEqDiff, Int.reduceEq, Int.reduceLT, Int.reduceLE, Int.reduceNe, ly, ldc_row h, n1, stepC, hs']
    have f1 := over_q h ms.res.e
    have f2 := over_q h 101
    obtain ⟨s1, hs1⟩ : ∃ s1, s1 = QPut s p (rdrow c m ms.res.r rv d) := ⟨_, rfl⟩
    have e1 : stv s 5 (.pointer (some ⟨p, 0, some 11⟩)) (.agg ⟨ms.res.r.cs⟩) = some s1 := by rw [hs1]; simp only [stv_row h, sy, reduceIte, Nat.reduceAdd, Nat.reduceLeDiff, Nat.reduceLT, Nat.reduceEqDiff, Int.reduceEq, Int.reduceLT, Int.reduceLE, Int.reduceNe, ly]
    have h1 : QRow s1 p (rdrow c m ms.res.r rv d) := by rw [hs1]; exact put_q h
    have e2 : stv s1 1 (.pointer (some ⟨p, 0, some 8⟩)) (.int .i64 2) = some (QPut s p (rdrow c { m with x := ms.res.r, at' := 2 } ms.res.r rv d)) := by
      simp only [stv_row h1, sy, reduceIte, Nat.reduceAdd, Nat.reduceLeDiff, Nat.reduceLT, Nat.reduceEqDiff, Int.reduceEq, Int.reduceLT, Int.reduceLE, Int.reduceNe, ly]
      rw [hs1, put_put]
    have get : soughtM c m ms = { m with x := ms.res.r, at' := 2 } → leapfrogref17x_Read_sought.v (P p) (.agg ⟨ms.res.cs⟩) s = some (unit', QPut s p (rdrow c { m with x := ms.res.r, at' := 2 } ms.res.r rv d)) → ∃ s' xr' rv', leapfrogref17x_Read_settle.v (P p) s = some (unit', s') ∧ QRow s' p (rdrow c (soughtM c m ms) xr' rv' d) ∧ (s' = s ∨ ∃ X, s' = QPut s p X) ∧ ((soughtM c m ms).at' = 2 → xr' = (soughtM c m ms).x) ∧ ((rv' = rv ∧ (soughtM c m ms).res = m.res) ∨ (rv' = nilS ∧ (soughtM c m ms).res.v = nilS)) := by
      intro g1 g2
      rw [g1]
      exact ⟨_, ms.res.r, rv, so g2, put_q h, .inr ⟨_, rfl⟩, fun _ => rfl, .inl ⟨rfl, rfl⟩⟩
    have fail : ∀ e, soughtM c m ms = failM { m with x := ms.res.r } e → leapfrogref17x_Read_sought.v (P p) (.agg ⟨ms.res.cs⟩) s = some (unit', QPut s p (rdrow c (failM m e) xr nilS d)) → ∃ s' xr' rv', leapfrogref17x_Read_settle.v (P p) s = some (unit', s') ∧ QRow s' p (rdrow c (soughtM c m ms) xr' rv' d) ∧ (s' = s ∨ ∃ X, s' = QPut s p X) ∧ ((soughtM c m ms).at' = 2 → xr' = (soughtM c m ms).x) ∧ ((rv' = rv ∧ (soughtM c m ms).res = m.res) ∨ (rv' = nilS ∧ (soughtM c m ms).res.v = nilS)) := by
      intro e g1 g2
      rw [g1]
      exact ⟨_, xr, nilS, so g2, put_q h, .inr ⟨_, rfl⟩, fun e => by simp [failM] at e, .inr ⟨rfl, rfl⟩⟩
    rcases Classical.propComplete (ms.res.e = 0) with k0 | k0
    · cases k2 : c.ceil with
      | true =>
        rcases Classical.propComplete (ms.res.r.rk = 3) with k3 | k3
        · have k1 : ms.res.found = false := by
            cases hb : ms.res.found
            · rfl
            · have := hF ho (of_eq_true k0) hb
              have := of_eq_true k3
              simp only [RC.sk] at *
              omega
          refine fail 101 (by simp [soughtM, ho, of_eq_true k0, k1, k2, of_eq_true k3]) ?_
          simp only [leapfrogref17x_Read_sought.v, leapfrogref17x_Read_sought.t, sy, reduceIte, Nat.reduceAdd, Nat.reduceLeDiff, Nat.reduceLT, Nat.reduceEqDiff, Int.reduceEq, Int.reduceLT, Int.reduceLE, Int.reduceNe, ly, ldc_row h, k0, k2, k3, f2]
        · refine get (by simp [soughtM, ho, of_eq_true k0, k2, of_eq_false k3]) ?_
          simp only [leapfrogref17x_Read_sought.v, leapfrogref17x_Read_sought.t, sy, reduceIte, Nat.reduceAdd, Nat.reduceLeDiff, Nat.reduceLT, Nat.reduceEqDiff, Int.reduceEq, Int.reduceLT, Int.reduceLE, Int.reduceNe, ly, ldc_row h, k0, k2, k3, e1, e2]
      | false =>
        cases k1 : ms.res.found with
        | true =>
          refine get (by simp [soughtM, ho, of_eq_true k0, k1, k2]) ?_
          simp only [leapfrogref17x_Read_sought.v, leapfrogref17x_Read_sought.t, sy, reduceIte, Nat.reduceAdd, Nat.reduceLeDiff, Nat.reduceLT, Nat.reduceEqDiff, Int.reduceEq, Int.reduceLT, Int.reduceLE, Int.reduceNe, ly, ldc_row h, k0, k1, k2, e1, e2]
        | false =>
          refine fail 101 (by simp [soughtM, ho, of_eq_true k0, k1, k2]) ?_
          simp only [leapfrogref17x_Read_sought.v, leapfrogref17x_Read_sought.t, sy, reduceIte, Nat.reduceAdd, Nat.reduceLeDiff, Nat.reduceLT, Nat.reduceEqDiff, Int.reduceEq, Int.reduceLT, Int.reduceLE, Int.reduceNe, ly, ldc_row h, k0, k1, k2, f2]
    · refine fail ms.res.e (by simp [soughtM, ho, of_eq_false k0]) ?_
      simp only [leapfrogref17x_Read_sought.v, leapfrogref17x_Read_sought.t, sy, reduceIte, Nat.reduceAdd, Nat.reduceLeDiff, Nat.reduceLT, Nat.reduceEqDiff, Int.reduceEq, Int.reduceLT, Int.reduceLE, Int.reduceNe, ly, k0, f1]
/-- The machine in the heap. -/
structure AtQ (c : RC) (m : RM) (ms : Mm) (s : St) (p d : Nat) (N : Nat) : Prop where
  ex : ∃ xr rv wv ws, QRow s p (rdrow c m xr rv d) ∧ AtR c.sk ms E0 s d wv ws ∧ ws.length ≤ N ∧ SameB s m.res.v rv ∧ (m.at' = 2 → xr = m.x)
  inv : InvS ms
  invF : InvF c.sk ms
theorem AtQ.stp {c : RC} {m : RM} {ms : Mm} {s s' : St} {p d N : Nat} {ks : List Nat} (h : AtQ c m ms s p d N) (k : StpK ks s s') (h1 : 31 ∉ ks) (h2 : 39 ∉ ks) (h3 : 13 ∉ ks) (h4 : 1 ∉ ks) (hf : Fresh s) : AtQ c m ms s' p d N := by
  obtain ⟨xr, rv, wv, ws, g1, g2, g3, g4, g5⟩ := h.ex
  exact ⟨⟨xr, rv, wv, ws, k.row g1 h1, g2.stp k h2 h3 (k.2.2 hf), g3, g4.stp k h4, g5⟩, h.inv, h.invF⟩
theorem AtQ.le {c : RC} {m : RM} {ms : Mm} {s : St} {p d N N' : Nat} (h : AtQ c m ms s p d N) (hn : N ≤ N') : AtQ c m ms s p d N' := by
  obtain ⟨xr, rv, wv, ws, g1, g2, g3, g4, g5⟩ := h.ex
  exact ⟨⟨xr, rv, wv, ws, g1, g2, by omega, g4, g5⟩, h.inv, h.invF⟩
theorem stp_or {s s' : St} {p : Nat} {X : List Value} (h : QRow s p X) (k : s' = s ∨ ∃ Y, s' = QPut s p Y) : StpQ s s' := by
  rcases k with rfl | ⟨Y, rfl⟩
  · exact .refl _ _
  · exact stp_q h
theorem stp31_or {s s' : St} {p : Nat} {X : List Value} (h : QRow s p X) (k : s' = s ∨ ∃ Y, s' = QPut s p Y) : StpK [31] s s' := by
  rcases k with rfl | ⟨Y, rfl⟩
  · exact .refl _ _
  · exact .put h (by simp [kd])
theorem got_q {c : RC} {m : RM} {ms : Mm} {s : St} {p d N : Nat} (hf : Fresh s) (hN : N ≤ 9000) (h : AtQ c m ms s p d N) (h2 : m.at' = 2) (a : Ans) {bl : List (List Value)} (hb : Byt s a.v bl) (hbl : bl.length ≤ 100000) :
    ∃ s', leapfrogref17x_Read_got.v (P p) (.agg ⟨a.cs⟩) s = some (unit', s') ∧ AtQ c (gotM c m ms a).1 (gotM c m ms a).2 s' p d (N + 1) ∧ StpQ s s' := by
  obtain ⟨xr, rv, wv, ws, g1, g2, g3, g4, g5⟩ := h.ex
  have hx := g5 h2
  subst hx
  have bxv := hb.bx
  by_cases hyes : a.k = 1 ∧ a.f = false
  · have k1 : (a.k = 1) = True := eq_true hyes.1
    have k2 := hyes.2
    rw [show gotM c m ms a = ({ m with at' := 4, res := ⟨0, m.x.n, a.v, zR, zR, true⟩ }, ms) by unfold gotM; rw [if_pos hyes]]
    obtain ⟨s1, hs1⟩ : ∃ s1, s1 = QPut s p (rdrow c { m with at' := 4 } m.x rv d) := ⟨_, rfl⟩
    have e1 : stv s 1 (.pointer (some ⟨p, 0, some 8⟩)) (.int .i64 4) = some s1 := by rw [hs1]; simp only [stv_row g1, sy, reduceIte, Nat.reduceAdd, Nat.reduceLeDiff, Nat.reduceLT, Nat.reduceEqDiff, Int.reduceEq, Int.reduceLT, Int.reduceLE, Int.reduceNe, ly]
    have r1 : QRow s1 p (rdrow c { m with at' := 4 } m.x rv d) := by rw [hs1]; exact put_q g1
    have k31 : StpK [31] s s1 := by rw [hs1]; exact .put g1 (by simp [kd])
    have f1 := k31.2.2 hf
    obtain ⟨w, s2, q1, q2, q3⟩ := clone_r f1 (hb.stp k31 (by simp)) (by omega)
    have r2 : QRow s2 p (rdrow c { m with at' := 4 } m.x rv d) := q2.get f1 r1
    have bxw := q3.bx
    obtain ⟨s3, hs3⟩ : ∃ s3, s3 = QPut s2 p (rdrow c { m with at' := 4, res := ⟨0, m.x.n, a.v, zR, zR, true⟩ } m.x w d) := ⟨_, rfl⟩
    have e3 : stv s2 15 (.pointer (some ⟨p, 0, some 16⟩)) (.agg ⟨[.int .i64 0, .int .u64 m.x.n, w, nilS, .int .i64 0, .int .i64 0, .int .u64 0, .int .i64 0, .int .u64 0, .int .i64 0, .int .i64 0, .int .u64 0, .int .i64 0, .int .u64 0, .bool true]⟩) = some s3 := by
      rw [hs3]; simp only [stv_row r2, sy, reduceIte, Nat.reduceAdd, Nat.reduceLeDiff, Nat.reduceLT, Nat.reduceEqDiff, Int.reduceEq, Int.reduceLT, Int.reduceLE, Int.reduceNe, ly]
    have k2' : StpK [] s1 s2 := .more q2 f1
    have k3 : StpK [31] s2 s3 := by rw [hs3]; exact .put r2 (by simp [kd])
    have kk : StpK [31] s s3 := (k31.trans (k2'.mono (by simp))).trans k3
    refine ⟨s3, ?_, ⟨⟨m.x, w, wv, ws, by rw [hs3]; exact put_q r2, g2.stp kk (by simp) (by simp) (kk.2.2 hf), by omega, ⟨bl, (hb.stp kk (by simp)), q3.stp k3 (by simp)⟩, fun _ => rfl⟩, h.inv, h.invF⟩, kk.mono (by simp)⟩
    have ea : ∀ rows, als s1 1 0 rows = some (.slice (some ⟨s1.n, 0, some 0⟩) 0 (2 * rows.length), s1.new (.row 1 rows false)) := fun _ => rfl
    have z0 : 2 * 0 = 0 := rfl
    have rp0 : List.replicate 0 [Value.int .u8 0] = [] := rfl
    simp only [leapfrogref17x_Read_got.v, leapfrogref17x_Read_got.t, sy, reduceIte, Nat.reduceAdd, Nat.reduceLeDiff, Nat.reduceLT, Nat.reduceEqDiff, Int.reduceEq, Int.reduceLT, Int.reduceLE, Int.reduceNe, ly, k1, k2, e1, ldc_row r1, rp0, ea, z0, q1, ldc_row r2, sameI, bxw, e3]
  · have hno : ∀ {α : Type} {x y : Option α}, True := fun {_ _ _} => trivial
    have pk : (a.k = 1 ∧ a.f = true) ∨ (a.k = 1) = False := by
      by_cases g : a.k = 1
      · left; refine ⟨g, ?_⟩; cases hb' : a.f; exact absurd ⟨g, hb'⟩ hyes; rfl
      · right; exact eq_false g
    have hg : gotM c m ms a = if c.ceil = true then fnM c m ms a else (failM m 101, ms) := by unfold gotM; rw [if_neg hyes]
    rw [hg]
    cases hc : c.ceil with
    | false =>
      simp only [Bool.false_eq_true, if_false]
      have e1 := over_q g1 101
      refine ⟨_, ?_, ⟨⟨m.x, nilS, wv, ws, put_q g1, atR_q g2 g1 hf, by omega, sameB_nil _, fun _ => rfl⟩, h.inv, h.invF⟩, stp_q g1⟩
      rcases pk with ⟨p1, p2⟩ | p1
      · have p1 : (a.k = 1) = True := eq_true p1
        simp only [leapfrogref17x_Read_got.v, leapfrogref17x_Read_got.t, sy, reduceIte, Nat.reduceAdd, Nat.reduceLeDiff, Nat.reduceLT, Nat.reduceEqDiff, Int.reduceEq, Int.reduceLT, Int.reduceLE, Int.reduceNe, ly, bxv, p1, p2, ldc_row g1, hc, e1]
      · simp only [leapfrogref17x_Read_got.v, leapfrogref17x_Read_got.t, sy, reduceIte, Nat.reduceAdd, Nat.reduceLeDiff, Nat.reduceLT, Nat.reduceEqDiff, Int.reduceEq, Int.reduceLT, Int.reduceLE, Int.reduceNe, ly, bxv, p1, ldc_row g1, hc, e1]
    | true =>
      simp only [if_true]
      unfold fnM
      rcases Classical.propComplete (a.k = 3) with k3 | k3
      · rw [if_pos (of_eq_true k3)]
        have k1 : (a.k = 1) = False := eq_false (by have := of_eq_true k3; omega)
        obtain ⟨s1, wv1, ws1, e1, r1, st1, l1⟩ := rdead_f hf (by omega) g2 h.inv.n0 h.inv.lki a
        have kA := StpR.stp g2.row st1
        have gA : QRow s1 p (rdrow c m m.x rv d) := kA.row g1 (by simp)
        have fA := kA.2.2 hf
        obtain ⟨s2, hs2⟩ : ∃ s2, s2 = QPut s1 p (rdrow c { m with at' := 1 } m.x rv d) := ⟨_, rfl⟩
        have e2 : stv s1 1 (.pointer (some ⟨p, 0, some 8⟩)) (.int .i64 1) = some s2 := by rw [hs2]; simp only [stv_row gA, sy, reduceIte, Nat.reduceAdd, Nat.reduceLeDiff, Nat.reduceLT, Nat.reduceEqDiff, Int.reduceEq, Int.reduceLT, Int.reduceLE, Int.reduceNe, ly]
        have gB : QRow s2 p (rdrow c { m with at' := 1 } m.x rv d) := by rw [hs2]; exact put_q gA
        have kB : StpK [31] s1 s2 := by rw [hs2]; exact .put gA (by simp [kd])
        have fB := kB.2.2 fA
        have rB := r1.stp kB (by simp) (by simp) fB
        obtain ⟨s3, xr', rv', e3, gC, ho, hx, hv⟩ := settle_q gB rB (invF_dead h.invF a) (by simp)
        have kC := stp31_or gB ho
        have fC := kC.2.2 fB
        refine ⟨s3, ?_, ⟨⟨xr', rv', wv1, ws1, gC, rB.stp kC (by simp) (by simp) fC, by omega, ?_, hx⟩, inv_deadF h.inv a, invF_dead h.invF a⟩, ((kA.mono (by simp)).trans (kB.mono (by simp))).trans (kC.mono (by simp))⟩
        · simp only [leapfrogref17x_Read_got.v, leapfrogref17x_Read_got.t, sy, reduceIte, Nat.reduceAdd, Nat.reduceLeDiff, Nat.reduceLT, Nat.reduceEqDiff, Int.reduceEq, Int.reduceLT, Int.reduceLE, Int.reduceNe, ly, bxv, k1, k3, ldc_row g1, hc, e1, e2, e3]
        · rcases hv with ⟨rfl, hv⟩ | ⟨rfl, hv⟩
          · rw [hv]; exact ((g4.stp kA (by simp)).stp kB (by simp)).stp kC (by simp)
          · rw [hv]; exact sameB_nil _
      · rw [if_neg (of_eq_false k3)]
        obtain ⟨s2, hs2⟩ : ∃ s2, s2 = QPut s p (rdrow c { m with at' := 3 } m.x rv d) := ⟨_, rfl⟩
        have e2 : stv s 1 (.pointer (some ⟨p, 0, some 8⟩)) (.int .i64 3) = some s2 := by rw [hs2]; simp only [stv_row g1, sy, reduceIte, Nat.reduceAdd, Nat.reduceLeDiff, Nat.reduceLT, Nat.reduceEqDiff, Int.reduceEq, Int.reduceLT, Int.reduceLE, Int.reduceNe, ly]
        have gB : QRow s2 p (rdrow c { m with at' := 3 } m.x rv d) := by rw [hs2]; exact put_q g1
        have kB : StpK [31] s s2 := by rw [hs2]; exact .put g1 (by simp [kd])
        refine ⟨s2, ?_, ⟨⟨m.x, rv, wv, ws, gB, g2.stp kB (by simp) (by simp) (kB.2.2 hf), by omega, g4.stp kB (by simp), fun _ => rfl⟩, h.inv, h.invF⟩, kB.mono (by simp)⟩
        rcases pk with ⟨p1, p2⟩ | p1
        · have p1 : (a.k = 1) = True := eq_true p1
          simp only [leapfrogref17x_Read_got.v, leapfrogref17x_Read_got.t, sy, reduceIte, Nat.reduceAdd, Nat.reduceLeDiff, Nat.reduceLT, Nat.reduceEqDiff, Int.reduceEq, Int.reduceLT, Int.reduceLE, Int.reduceNe, ly, bxv, p1, p2, k3, ldc_row g1, hc, e2]
        · simp only [leapfrogref17x_Read_got.v, leapfrogref17x_Read_got.t, sy, reduceIte, Nat.reduceAdd, Nat.reduceLeDiff, Nat.reduceLT, Nat.reduceEqDiff, Int.reduceEq, Int.reduceLT, Int.reduceLE, Int.reduceNe, ly, bxv, p1, k3, ldc_row g1, hc, e2]
theorem tell_q {c : RC} {m : RM} {ms : Mm} {s : St} {p d N : Nat} (hf : Fresh s) (hC : okC c.sk) (hN : N ≤ 9000) (h : AtQ c m ms s p d N) (a : Ans) {bl : List (List Value)} (hb : Byt s a.v bl) (hbl : bl.length ≤ 100000) {D : Nat} {x : Option Rf} (hc : Chase ms.tab ms.wl ms.wb D (curF ms).rk (curF ms).n a.r x) (hD : D < BIG) :
    ∃ s', leapfrogref17x_Read_Tell.v (P p) (.agg ⟨a.cs⟩) s = some (unit', s') ∧ AtQ c (tellD c m ms a x).1 (tellD c m ms a x).2 s' p d (N + 1) ∧ StpQ s s' := by
  obtain ⟨xr, rv, wv, ws, g1, g2, g3, g4, g5⟩ := h.ex
  have bxv := hb.bx
  unfold tellD
  rcases Classical.propComplete (m.at' = 1) with k1 | k1
  · rw [if_pos (of_eq_true k1)]
    obtain ⟨s1, wv1, ws1, e1, r1, st1, l1⟩ := rtell_f hf (by omega) g2 h.inv.n0 h.inv.okw a hc hD
    have kA := StpR.stp g2.row st1
    have gA : QRow s1 p (rdrow c m xr rv d) := kA.row g1 (by simp)
    have fA := kA.2.2 hf
    obtain ⟨s3, xr', rv', e3, gC, ho, hx, hv⟩ := settle_q gA r1 (invF_tell h.invF a x) (by rw [of_eq_true k1]; decide)
    have kC := stp31_or gA ho
    have fC := kC.2.2 fA
    refine ⟨s3, ?_, ⟨⟨xr', rv', wv1, ws1, gC, r1.stp kC (by simp) (by simp) fC, by omega, ?_, hx⟩, inv_tellF hC h.inv a x, invF_tell h.invF a x⟩, (kA.mono (by simp)).trans (kC.mono (by simp))⟩
    · simp only [leapfrogref17x_Read_Tell.v, leapfrogref17x_Read_Tell.t, sy, reduceIte, Nat.reduceAdd, Nat.reduceLeDiff, Nat.reduceLT, Nat.reduceEqDiff, Int.reduceEq, Int.reduceLT, Int.reduceLE, Int.reduceNe, ly, bxv, ldc_row g1, k1, e1, e3]
    · rcases hv with ⟨rfl, hv⟩ | ⟨rfl, hv⟩
      · rw [hv]; exact (g4.stp kA (by simp)).stp kC (by simp)
      · rw [hv]; exact sameB_nil _
  · rw [if_neg (of_eq_false k1)]
    rcases Classical.propComplete (m.at' = 2) with k2 | k2
    · rw [if_pos (of_eq_true k2)]
      obtain ⟨s1, e1, h1, st1⟩ := got_q hf hN h (of_eq_true k2) a hb hbl
      exact ⟨s1, by simp only [leapfrogref17x_Read_Tell.v, leapfrogref17x_Read_Tell.t, sy, reduceIte, Nat.reduceAdd, Nat.reduceLeDiff, Nat.reduceLT, Nat.reduceEqDiff, Int.reduceEq, Int.reduceLT, Int.reduceLE, Int.reduceNe, ly, bxv, ldc_row g1, k1, k2, e1], h1, st1⟩
    · rw [if_neg (of_eq_false k2)]
      exact ⟨s, by simp only [leapfrogref17x_Read_Tell.v, leapfrogref17x_Read_Tell.t, sy, reduceIte, Nat.reduceAdd, Nat.reduceLeDiff, Nat.reduceLT, Nat.reduceEqDiff, Int.reduceEq, Int.reduceLT, Int.reduceLE, Int.reduceNe, ly, bxv, ldc_row g1, k1, k2], h.le (by omega), .refl _ _⟩
theorem rkey_q {s : St} {p d : Nat} {c : RC} {m : RM} {xr : Rf} {rv : Value} (h : QRow s p (rdrow c m xr rv d)) : leapfrogref17x_Read_key.r (P p) s = some (KV 2 c.key) := by
  simp only [leapfrogref17x_Read_key.r, leapfrogref17x_Read_key.t, sy, reduceIte, Nat.reduceAdd, Nat.reduceLeDiff, Nat.reduceLT, Nat.reduceEqDiff, Int.reduceEq, Int.reduceLT, Int.reduceLE, Int.reduceNe, ly, ldc_row h]
theorem wake_q {c : RC} {m : RM} {ms : Mm} {s : St} {p d N : Nat} (hf : Fresh s) (hC : okC c.sk) (hb : 0 ≤ c.st.bt) (ht : 0 ≤ m.tries) (h : AtQ c m ms s p d N) :
    ∃ s' d', leapfrogref17x_Read_Wake.v (P p) s = some (unit', s') ∧ AtQ c (wakeD c m ms).1 (wakeD c m ms).2 s' p d' N ∧ StpQ s s' := by
  obtain ⟨xr, rv, wv, ws, g1, g2, g3, g4, g5⟩ := h.ex
  unfold wakeD
  rcases Classical.propComplete (m.at' = 3) with k1 | k1
  · rw [if_pos (of_eq_true k1)]
    unfold againM
    rcases Classical.propComplete (64 ≤ m.tries) with k2 | k2
    · rw [if_pos (of_eq_true k2)]
      have e1 := over_q g1 121
      refine ⟨_, d, ?_, ⟨⟨xr, nilS, wv, ws, put_q g1, atR_q g2 g1 hf, g3, sameB_nil _, fun e => by simp [failM] at e⟩, h.inv, h.invF⟩, stp_q g1⟩
      simp only [leapfrogref17x_Read_Wake.v, leapfrogref17x_Read_Wake.t, leapfrogref17x_Read_again.v, leapfrogref17x_Read_again.t, sy, reduceIte, Nat.reduceAdd, Nat.reduceLeDiff, Nat.reduceLT, Nat.reduceEqDiff, Int.reduceEq, Int.reduceLT, Int.reduceLE, Int.reduceNe, ly, ldc_row g1, k1, k2, e1]
    · rw [if_neg (of_eq_false k2)]
      have k2' : m.tries < 64 := by have := of_eq_false k2; omega
      have ew : IntKind.i64.wrap (m.tries + 1) = m.tries + 1 := wrap64 (by omega) (by omega)
      obtain ⟨s1, hs1⟩ : ∃ s1, s1 = QPut s p (rdrow c { m with tries := m.tries + 1 } xr rv d) := ⟨_, rfl⟩
      have e1 : stv s 1 (.pointer (some ⟨p, 0, some 9⟩)) (.int .i64 (m.tries + 1)) = some s1 := by rw [hs1]; simp only [stv_row g1, sy, reduceIte, Nat.reduceAdd, Nat.reduceLeDiff, Nat.reduceLT, Nat.reduceEqDiff, Int.reduceEq, Int.reduceLT, Int.reduceLE, Int.reduceNe, ly]
      have gA : QRow s1 p (rdrow c { m with tries := m.tries + 1 } xr rv d) := by rw [hs1]; exact put_q g1
      have kA : StpK [31] s s1 := by rw [hs1]; exact .put g1 (by simp [kd])
      have fA := kA.2.2 hf
      have rk := rkey_q gA
      rcases rnew_r s1 c.sk hb with ⟨g, _⟩ | ⟨_, e2⟩
      · exact absurd hC g
      have mo : More s1 (s1.new (.row 39 [rrow c.sk (m0 c.sk) (.slice none 0 0)] false)) := .new
      have rN : RRow (s1.new (.row 39 [rrow c.sk (m0 c.sk) (.slice none 0 0)] false)) s1.n (rrow c.sk (m0 c.sk) (.slice none 0 0)) := get_new_same
      have gB : QRow (s1.new (.row 39 [rrow c.sk (m0 c.sk) (.slice none 0 0)] false)) p (rdrow c { m with tries := m.tries + 1 } xr rv d) := mo.get fA gA
      have kB : StpK [] s1 (s1.new (.row 39 [rrow c.sk (m0 c.sk) (.slice none 0 0)] false)) := .more mo fA
      generalize s1.new (.row 39 [rrow c.sk (m0 c.sk) (.slice none 0 0)] false) = s2 at *
      have fB := kB.2.2 fA
      have hR2 : AtR c.sk (m0 c.sk) E0 s2 s1.n (.slice none 0 0) [] := ⟨rN, .inl ⟨rfl, rfl⟩, rfl, more_E0 fB, by simp, Nat.zero_le _⟩
      obtain ⟨s3, hs3⟩ : ∃ s3, s3 = QPut s2 p (rdrow c { m with tries := m.tries + 1 } xr rv s1.n) := ⟨_, rfl⟩
      have e3 : stv s2 1 (.pointer (some ⟨p, 0, some 10⟩)) (P s1.n) = some s3 := by rw [hs3]; simp only [stv_row gB, sy, reduceIte, Nat.reduceAdd, Nat.reduceLeDiff, Nat.reduceLT, Nat.reduceEqDiff, Int.reduceEq, Int.reduceLT, Int.reduceLE, Int.reduceNe, ly]
      have gC : QRow s3 p (rdrow c { m with tries := m.tries + 1 } xr rv s1.n) := by rw [hs3]; exact put_q gB
      have kC : StpK [31] s2 s3 := by rw [hs3]; exact .put gB (by simp [kd])
      have fC := kC.2.2 fB
      obtain ⟨s4, hs4⟩ : ∃ s4, s4 = QPut s3 p (rdrow c { m with tries := m.tries + 1, at' := 1 } xr rv s1.n) := ⟨_, rfl⟩
      have e4 : stv s3 1 (.pointer (some ⟨p, 0, some 8⟩)) (.int .i64 1) = some s4 := by rw [hs4]; simp only [stv_row gC, sy, reduceIte, Nat.reduceAdd, Nat.reduceLeDiff, Nat.reduceLT, Nat.reduceEqDiff, Int.reduceEq, Int.reduceLT, Int.reduceLE, Int.reduceNe, ly]
      have gD : QRow s4 p (rdrow c { m with tries := m.tries + 1, at' := 1 } xr rv s1.n) := by rw [hs4]; exact put_q gC
      have kD : StpK [31] s3 s4 := by rw [hs4]; exact .put gC (by simp [kd])
      have kall : StpK [31] s s4 := ((kA.trans (kB.mono (by simp))).trans kC).trans kD
      refine ⟨s4, s1.n, ?_, ⟨⟨xr, rv, _, [], gD, (hR2.stp kC (by simp) (by simp) fC).stp kD (by simp) (by simp) (kD.2.2 fC), Nat.zero_le _, g4.stp kall (by simp), fun e => by simp at e⟩, inv_m0 hC, fun e => by simp [m0] at e⟩, kall.mono (by simp)⟩
      simp only [leapfrogref17x_Read_Wake.v, leapfrogref17x_Read_Wake.t, leapfrogref17x_Read_again.v, leapfrogref17x_Read_again.t, sy, reduceIte, Nat.reduceAdd, Nat.reduceLeDiff, Nat.reduceLT, Nat.reduceEqDiff, Int.reduceEq, Int.reduceLT, Int.reduceLE, Int.reduceNe, ly, ldc_row g1, k1, k2, ew, e1, ldc_row gA, lda_row gA, rk, e2, ldc_row gB, lda_row gB, sameI, same5, e3, e4]
  · rw [if_neg (of_eq_false k1)]
    exact ⟨s, d, by simp only [leapfrogref17x_Read_Wake.v, leapfrogref17x_Read_Wake.t, sy, reduceIte, Nat.reduceAdd, Nat.reduceLeDiff, Nat.reduceLT, Nat.reduceEqDiff, Int.reduceEq, Int.reduceLT, Int.reduceLE, Int.reduceNe, ly, ldc_row g1, k1], h, .refl _ _⟩
def nextQ (m : RM) (ms : Mm) (rv : Value) : List Value :=
  if m.at' = 1 then nextC ms else if m.at' = 2 then stepC 1 m.x ⟨2, 0, 0, zR, zR, 0, 0⟩ zRes else if m.at' = 3 then stepC 2 zR zAsk zRes else stepV 3 zR zAsk m.res rv
theorem next_q {c : RC} {m : RM} {ms : Mm} {s : St} {p d N : Nat} (h : AtQ c m ms s p d N) (ha : 1 ≤ m.at' ∧ m.at' ≤ 4) : ∃ rv, SameB s m.res.v rv ∧ leapfrogref17x_Read_Next.r (P p) s = some (.agg ⟨nextQ m ms rv⟩) := by
  obtain ⟨xr, rv, wv, ws, g1, g2, g3, g4, g5⟩ := h.ex
  refine ⟨rv, g4, ?_⟩
  have n1 := rnext_r g2
  have bxr : bx rv = some [rv] := by obtain ⟨l, _, b⟩ := g4; exact b.bx
  unfold nextQ
  rcases Classical.propComplete (m.at' = 1) with k1 | k1
  · rw [if_pos (of_eq_true k1)]
    have nc : (∃ k t a r, nextC ms = stepC k t a r) := by unfold nextC; split <;> exact ⟨_, _, _, _, rfl⟩
    obtain ⟨k, t, a, r, g⟩ := nc
    rw [g] at n1 ⊢
    simp only [leapfrogref17x_Read_Next.r, leapfrogref17x_Read_Next.t, sy, reduceIte, Nat.reduceAdd, Nat.reduceLeDiff, Nat.reduceLT, Nat.reduceEqDiff, Int.reduceEq, Int.reduceLT, Int.reduceLE, Int.reduceNe, ly, ldc_row g1, k1, n1]
  · rw [if_neg (of_eq_false k1)]
    rcases Classical.propComplete (m.at' = 2) with k2 | k2
    · rw [if_pos (of_eq_true k2)]
      have hx := g5 (of_eq_true k2)
      subst hx
      simp only [leapfrogref17x_Read_Next.r, leapfrogref17x_Read_Next.t, leapfrogref17x_Read_Next.t.p1, sy, reduceIte, Nat.reduceAdd, Nat.reduceLeDiff, Nat.reduceLT, Nat.reduceEqDiff, Int.reduceEq, Int.reduceLT, Int.reduceLE, Int.reduceNe, ly, ldc_row g1, lda_row g1, k1, k2]
    · rw [if_neg (of_eq_false k2)]
      rcases Classical.propComplete (m.at' = 3) with k3 | k3
      · rw [if_pos (of_eq_true k3)]
        simp only [leapfrogref17x_Read_Next.r, leapfrogref17x_Read_Next.t, leapfrogref17x_Read_Next.t.p2, sy, reduceIte, Nat.reduceAdd, Nat.reduceLeDiff, Nat.reduceLT, Nat.reduceEqDiff, Int.reduceEq, Int.reduceLT, Int.reduceLE, Int.reduceNe, ly, ldc_row g1, lda_row g1, k1, k2, k3]
      · rw [if_neg (of_eq_false k3)]
        simp only [leapfrogref17x_Read_Next.r, leapfrogref17x_Read_Next.t, leapfrogref17x_Read_Next.t.p2, sy, reduceIte, Nat.reduceAdd, Nat.reduceLeDiff, Nat.reduceLT, Nat.reduceEqDiff, Int.reduceEq, Int.reduceLT, Int.reduceLE, Int.reduceNe, ly, ldc_row g1, lda_row g1, k1, k2, k3]
theorem new_q {s : St} (hf : Fresh s) (c : RC) (hb : 0 ≤ c.st.bt) :
    (¬ okC c.sk ∧ ∃ s', leapfrogref17x_New.v (.agg ⟨c.cs⟩) s = some (T2 (.pointer none) 170, s')) ∨
    (okC c.sk ∧ ∃ s', leapfrogref17x_New.v (.agg ⟨c.cs⟩) s = some (T2 (P s.n) 0, s') ∧ AtQ c mD (m0 c.sk) s' s.n (s.n + 1) 0 ∧ StpK [31] s s') := by
  obtain ⟨X, hX⟩ : ∃ X : List Value, X = (rdrow c mD zR nilS 0).set 10 (.pointer none) := ⟨_, rfl⟩
  simp only [rdrow, mD, zRV, ly] at hX
  have e1 : alv s (.agg ⟨X⟩) = some (P s.n, s.new (.row 31 [X] false)) := by rw [hX]; rfl
  have g1 : QRow (s.new (.row 31 [X] false)) s.n X := get_new_same
  have mo : More s (s.new (.row 31 [X] false)) := .new
  have n1 : (s.new (.row 31 [X] false)).n = s.n + 1 := rfl
  generalize s.new (.row 31 [X] false) = s1 at *
  rw [hX] at e1 g1
  have f1 := mo.fresh hf
  have rk : leapfrogref17x_Read_key.r (P s.n) s1 = some (KV 2 c.key) := by
    simp only [leapfrogref17x_Read_key.r, leapfrogref17x_Read_key.t, sy, reduceIte, Nat.reduceAdd, Nat.reduceLeDiff, Nat.reduceLT, Nat.reduceEqDiff, Int.reduceEq, Int.reduceLT, Int.reduceLE, Int.reduceNe, ly, ldc_row g1]
  rcases rnew_r s1 c.sk hb with ⟨hC, e2⟩ | ⟨hC, e2⟩
  · exact .inl ⟨hC, s1, by simp only [leapfrogref17x_New.v, leapfrogref17x_New.t, sy, reduceIte, Nat.reduceAdd, Nat.reduceLeDiff, Nat.reduceLT, Nat.reduceEqDiff, Int.reduceEq, Int.reduceLT, Int.reduceLE, Int.reduceNe, ly, e1, rk, e2]⟩
  · right
    have mo2 : More s1 (s1.new (.row 39 [rrow c.sk (m0 c.sk) (.slice none 0 0)] false)) := .new
    have rN : RRow (s1.new (.row 39 [rrow c.sk (m0 c.sk) (.slice none 0 0)] false)) s1.n (rrow c.sk (m0 c.sk) (.slice none 0 0)) := get_new_same
    have g2 := mo2.get f1 g1
    generalize s1.new (.row 39 [rrow c.sk (m0 c.sk) (.slice none 0 0)] false) = s2 at *
    have f2 := mo2.fresh f1
    have hR2 : AtR c.sk (m0 c.sk) E0 s2 s1.n (.slice none 0 0) [] := ⟨rN, .inl ⟨rfl, rfl⟩, rfl, more_E0 f2, by simp, Nat.zero_le _⟩
    obtain ⟨s3, hs3⟩ : ∃ s3, s3 = QPut s2 s.n (rdrow c mD zR nilS s1.n) := ⟨_, rfl⟩
    have e3 : stv s2 1 (.pointer (some ⟨s.n, 0, some 10⟩)) (P s1.n) = some s3 := by rw [hs3]; simp only [stv_row g2, sy, reduceIte, Nat.reduceAdd, Nat.reduceLeDiff, Nat.reduceLT, Nat.reduceEqDiff, Int.reduceEq, Int.reduceLT, Int.reduceLE, Int.reduceNe, ly, rdrow, mD]
    have kC : StpK [31] s2 s3 := by rw [hs3]; exact .put g2 (by simp [kd])
    have gC : QRow s3 s.n (rdrow c mD zR nilS s1.n) := by rw [hs3]; exact put_q g2
    refine ⟨hC, s3, by simp only [leapfrogref17x_New.v, leapfrogref17x_New.t, sy, reduceIte, Nat.reduceAdd, Nat.reduceLeDiff, Nat.reduceLT, Nat.reduceEqDiff, Int.reduceEq, Int.reduceLT, Int.reduceLE, Int.reduceNe, ly, e1, rk, e2, e3], ⟨⟨zR, nilS, _, [], by rw [← n1]; exact gC, by rw [← n1]; exact hR2.stp kC (by simp) (by simp) (kC.2.2 f2), Nat.zero_le _, sameB_nil _, fun e => by simp [mD] at e⟩, inv_m0 hC, fun e => by simp [m0] at e⟩, ((StpK.more mo hf).trans (.more mo2 f1)).trans kC⟩
end Go.Proofs.YtjiknclbjbfdjaaGreat
