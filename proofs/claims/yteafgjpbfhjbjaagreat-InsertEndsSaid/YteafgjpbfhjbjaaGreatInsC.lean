/-
  The machine of package insert: Tell, Wake, Next, New.
-/
import Derived.Test.YteafgjpbfhjbjaaGreatInsB
set_option linter.unusedSimpArgs false
set_option linter.unusedVariables false
set_option maxRecDepth 100000
set_option maxHeartbeats 2000000
namespace Go.Proofs.YteafgjpbfhjbjaaGreat
open Go.Sim Go.Sim.Bt
attribute [local congr] bdc cndc itec gdc gdSc gdUc
theorem wN_s (b : Nat) (s : St) : kS_Next.w [P b] s = kS_Next.r (P b) s := id rfl
theorem wN_p (b : Nat) (s : St) : pS_Next.w [P b] s = pS_Next.r (P b) s := id rfl
theorem wT_s (b : Nat) (a : Value) (s : St) : kS_Tell.w [P b, a] s = kS_Tell.v (P b) a s := id rfl
theorem wT_p (b : Nat) (a : Value) (s : St) : pS_Tell.w [P b, a] s = pS_Tell.v (P b) a s := id rfl
theorem wW_s (b : Nat) (s : St) : kS_Wake.w [P b] s = kS_Wake.r (P b) s := id rfl
theorem wW_p (b : Nat) (s : St) : pS_Wake.w [P b] s = pS_Wake.v (P b) s := id rfl
theorem mapr {v : Value} {s : St} : (some v).map (fun r => (r, s)) = some (v, s) := id rfl
theorem eqs_f (x y : Rf) : eqks [1, 1, 1, 1, 1] x.cs y.cs = some (sameI5 x y) := by
  simp only [sy, reduceIte, Nat.reduceAdd, Nat.reduceLeDiff, Nat.reduceLT, Nat.reduceEqDiff, Int.reduceEq, Int.reduceLT, Int.reduceLE, Int.reduceNe, ly, sameI5]
theorem played_s {s : St} {p b q U N : Nat} {c : IC} {cf : Cf} {ms : Mm} {on : Rf} {n : Int} (f : Fresh s) (hC : okI c) (h : IRow s p (irow c 1 (tS b) 0 on n 0)) (hA : At cf ms s b q) (hl : LowS cf ms) (htr : cf.tr = c.me.rk) (htn : cf.tn = c.me.n) :
    ∃ s' U', iI_played.v (P p) s = some (unit', s') ∧ AtI c s' p b q U' (soughtI c n cf ms) ∧ StpK [23] s s' := by
  have n1 := next_r hA
  have n2 := np_s b s
  rw [wN_s, n1, mapr] at n2
  have t1 := tas_s b
  unfold soughtI
  cases ho : ms.ov with
  | false =>
    rw [show nextC ms = stepC 1 (if ms.lk = true then ms.to else ms.ap) ⟨1, ms.wl, ms.wb, zR, zR, 0, 0⟩ zRes by simp [nextC, ho]] at n2
    generalize (if ms.lk = true then ms.to else ms.ap) = t at n2
    exact ⟨s, U, by simp only [iI_played.v, iI_played.t, sy, reduceIte, Nat.reduceAdd, Nat.reduceLeDiff, Nat.reduceLT, Nat.reduceEqDiff, Int.reduceEq, Int.reduceLT, Int.reduceLE, Int.reduceNe, ly, ldc_row h, n2, stepC], ⟨on, h, hA⟩, .refl _ _⟩
  | true =>
    rw [show nextC ms = stepC 3 zR zAsk ms.res by simp [nextC, ho]] at n2
    rw [if_pos rfl]
    rcases Classical.propComplete (ms.res.e = 0) with k0 | k0
    · rw [if_pos (of_eq_true k0)]
      obtain ⟨g1, g2⟩ := hl.res ho (of_eq_true k0)
      rw [htr, htn] at g2
      obtain ⟨s', v1, v2, v3⟩ := splice_i (b := b) (q := q) (lv := 0) f hC (by have := hC.1.1; show ((0 : Nat) : Int) ≤ c.h; omega) h g1 g2
      exact ⟨s', s.n, by simp only [iI_played.v, iI_played.t, sy, reduceIte, Nat.reduceAdd, Nat.reduceLeDiff, Nat.reduceLT, Nat.reduceEqDiff, Int.reduceEq, Int.reduceLT, Int.reduceLE, Int.reduceNe, ly, ldc_row h, n2, stepC, t1, k0, v1], v2, v3⟩
    · rw [if_neg (of_eq_false k0)]
      have en := end_i h ms.res.e
      obtain ⟨g3, g4⟩ := over_i (b := b) (q := q) (U := U) (e := ms.res.e) h
      exact ⟨_, U, by simp only [iI_played.v, iI_played.t, sy, reduceIte, Nat.reduceAdd, Nat.reduceLeDiff, Nat.reduceLT, Nat.reduceEqDiff, Int.reduceEq, Int.reduceLT, Int.reduceLE, Int.reduceNe, ly, ldc_row h, n2, stepC, t1, k0, en], g3, g4⟩
theorem pnext_k {c : Sp.Cf} {m : Sp.Mm} (h : m.at' ≠ 10) (hi : Sp.InvM m) : ∃ k t a, Sp.nextC c m = stepC k t a zRes ∧ k ≠ 3 := by
  have hp : m.at' = 1 ∨ m.at' = 2 ∨ m.at' = 3 ∨ m.at' = 4 ∨ m.at' = 5 ∨ m.at' = 6 ∨ m.at' = 7 ∨ m.at' = 8 ∨ m.at' = 9 := by unfold Sp.InvM at hi; omega
  rcases hp with hp | hp | hp | hp | hp | hp | hp | hp | hp <;> simp only [Sp.nextC, hp, Sp.askC] <;> exact ⟨_, _, _, rfl, by decide⟩
theorem played_p {s : St} {p b q U lv : Nat} {c : IC} {cf : Sp.Cf} {mp : Sp.Mm} {on : Rf} {n : Int} (f : Fresh s) (hC : okI c) (hn : 0 ≤ n) (hl : (lv : Int) ≤ c.h) (h : IRow s p (irow c 1 (tP U) lv on n 0)) (hA : Sp.At cf mp s U) (hi : Sp.InvM mp) :
    ∃ s' b' q' U', iI_played.v (P p) s = some (unit', s') ∧ AtI c s' p b' q' U' (settleI c lv cf n mp) ∧ StpK [23] s s' := by
  have n1 := Sp.next_r hA hi
  have n2 := np_p U s
  rw [wN_p, n1, mapr] at n2
  have t1 := tas_p U
  unfold settleI
  rcases Classical.propComplete (mp.at' = 10) with k1 | k1
  · rw [if_pos (of_eq_true k1)]
    rw [show Sp.nextC cf mp = stepC 3 zR zAsk mp.res by simp [Sp.nextC, of_eq_true k1]] at n2
    obtain ⟨s', b', q', U', v1, v2, v3⟩ := spliced_i (b := b) (q := q) (U := U) f hC hn hl h mp.res.e
    exact ⟨s', b', q', U', by simp only [iI_played.v, iI_played.t, sy, reduceIte, Nat.reduceAdd, Nat.reduceLeDiff, Nat.reduceLT, Nat.reduceEqDiff, Int.reduceEq, Int.reduceLT, Int.reduceLE, Int.reduceNe, ly, ldc_row h, n2, stepC, t1, v1], v2, v3⟩
  · rw [if_neg (of_eq_false k1)]
    obtain ⟨k, t, a, g1, g2⟩ := pnext_k (c := cf) (of_eq_false k1) hi
    rw [g1] at n2
    exact ⟨s, b, q, U, by simp only [iI_played.v, iI_played.t, sy, reduceIte, Nat.reduceAdd, Nat.reduceLeDiff, Nat.reduceLT, Nat.reduceEqDiff, Int.reduceEq, Int.reduceLT, Int.reduceLE, Int.reduceNe, ly, ldc_row h, n2, stepC, g2], ⟨on, h, hA⟩, .refl _ _⟩
open Classical in
theorem walked_i {s : St} {p b q U lv : Nat} {c : IC} {on : Rf} {n : Int} {pl : Value} (f : Fresh s) (hC : okI c) (hl : (lv : Int) ≤ c.h) (hon : on = c.me ∨ lessK on.rk on.n c.me.rk c.me.n) (h : IRow s p (irow c 2 pl lv on n 0)) (a : Ans) (hb : 0 ≤ a.l.bt) :
    ∃ s' U', iI_walked.v (P p) (.agg ⟨a.cs⟩) s = some (unit', s') ∧ AtI c s' p b q U' (walkedI c lv on n a) ∧ StpK [23] s s' := by
  have hd := head_i h
  have ls := list_i h hC hl
  have kc := kcheck_r a.l.rk a.l.n s
  have le := less_r a.l.rk a.l.n on.rk on.n s
  have bg := begins_i a.l.ln a.l.bt lv (bitsI c lv) hb (bits_nn c lv) s
  have eq := eqs_f on c.me
  simp only [Rf.cs] at eq
  obtain ⟨w1, w2⟩ := head_ok (c := c) hC.2.1
  obtain ⟨s1, v1, v2, v3⟩ := splice_i (b := b) (q := q) f hC hl h w1 w2
  unfold walkedI
  -- behind the first case
  have rest : ¬ (a.k = 3 ∧ sameI5 on c.me = true) → (∀ X : St, (∀ (u : Option (Value × St)), True) → True) → (a.k = 1 → a.k ≠ 3) := fun _ _ e => by omega
  rcases Classical.propComplete (a.k = 3) with k3 | k3
  · have k1 : (a.k = 1) = False := eq_false (by have := of_eq_true k3; omega)
    cases hs : sameI5 on c.me with
    | true =>
      rw [hs] at eq
      rw [if_pos ⟨of_eq_true k3, rfl⟩]
      have en := end_i h 132
      obtain ⟨g3, g4⟩ := over_i (b := b) (q := q) (U := U) (e := 132) h
      exact ⟨_, U, by simp only [iI_walked.v, iI_walked.t, iI_walked.t.p1, eqb_agg, sy, reduceIte, Nat.reduceAdd, Nat.reduceLeDiff, Nat.reduceLT, Nat.reduceEqDiff, Int.reduceEq, Int.reduceLT, Int.reduceLE, Int.reduceNe, ly, k3, lda_row h, eq, en], g3, g4⟩
    | false =>
      rw [hs] at eq
      rw [if_neg (by simp), if_neg (fun g => of_eq_false k1 g.1)]
      exact ⟨s1, s.n, by simp only [iI_walked.v, iI_walked.t, iI_walked.t.p1, eqb_agg, sy, reduceIte, Nat.reduceAdd, Nat.reduceLeDiff, Nat.reduceLT, Nat.reduceEqDiff, Int.reduceEq, Int.reduceLT, Int.reduceLE, Int.reduceNe, ly, k3, k1, lda_row h, eq, hd, v1], v2, v3⟩
  · rw [if_neg (fun g => of_eq_false k3 g.1)]
    rcases Classical.propComplete (a.k = 1) with k1 | k1
    · by_cases k4 : okK a.l.rk a.l.n
      · rw [if_pos k4] at kc
        by_cases k5 : lessK a.l.rk a.l.n on.rk on.n
        · rw [decide_eq_true k5] at le
          rw [if_pos ⟨of_eq_true k1, k4, k5⟩]
          have hlm : lessK a.l.rk a.l.n c.me.rk c.me.n := by
            rcases hon with rfl | hon
            · exact k5
            · exact lessK_trans k5 hon
          obtain ⟨s2, u1, u2, u3⟩ := splice_i (b := b) (q := q) f hC hl h k4 hlm
          rcases Classical.propComplete (a.l.rk = 1) with k6 | k6
          · rw [if_pos (.inl (of_eq_true k6))]
            exact ⟨s2, s.n, by simp only [iI_walked.v, iI_walked.t, iI_walked.t.p1, sy, reduceIte, Nat.reduceAdd, Nat.reduceLeDiff, Nat.reduceLT, Nat.reduceEqDiff, Int.reduceEq, Int.reduceLT, Int.reduceLE, Int.reduceNe, ly, k3, k1, lda_row h, kc, le, k6, u1], u2, u3⟩
          · by_cases k7 : BG a.l.ln a.l.bt lv (bitsI c lv)
            · rw [decide_eq_true k7] at bg
              rw [if_pos (.inr k7)]
              exact ⟨s2, s.n, by simp only [iI_walked.v, iI_walked.t, iI_walked.t.p1, sy, reduceIte, Nat.reduceAdd, Nat.reduceLeDiff, Nat.reduceLT, Nat.reduceEqDiff, Int.reduceEq, Int.reduceLT, Int.reduceLE, Int.reduceNe, ly, k3, k1, ldc_row h, lda_row h, kc, le, k6, ls, bg, u1], u2, u3⟩
            · rw [decide_eq_false k7] at bg
              rw [if_neg (by rintro (g | g); exact of_eq_false k6 g; exact k7 g)]
              have e1 : stv s 5 (.pointer (some ⟨p, 0, some 16⟩)) (.agg ⟨a.l.cs⟩) = some (IPut s p (irow c 2 pl lv a.l n 0)) := by simp only [stv_row h, sy, reduceIte, Nat.reduceAdd, Nat.reduceLeDiff, Nat.reduceLT, Nat.reduceEqDiff, Int.reduceEq, Int.reduceLT, Int.reduceLE, Int.reduceNe, ly]
              exact ⟨_, U, by simp only [iI_walked.v, iI_walked.t, iI_walked.t.p1, sy, reduceIte, Nat.reduceAdd, Nat.reduceLeDiff, Nat.reduceLT, Nat.reduceEqDiff, Int.reduceEq, Int.reduceLT, Int.reduceLE, Int.reduceNe, ly, k3, k1, ldc_row h, lda_row h, kc, le, k6, ls, bg, e1], ⟨pl, put_i h⟩, stp_i h⟩
        · rw [decide_eq_false k5] at le
          rw [if_neg (fun g => k5 g.2.2)]
          exact ⟨s1, s.n, by simp only [iI_walked.v, iI_walked.t, iI_walked.t.p1, sy, reduceIte, Nat.reduceAdd, Nat.reduceLeDiff, Nat.reduceLT, Nat.reduceEqDiff, Int.reduceEq, Int.reduceLT, Int.reduceLE, Int.reduceNe, ly, k3, k1, lda_row h, kc, le, hd, v1], v2, v3⟩
      · rw [if_neg k4] at kc
        rw [if_neg (fun g => k4 g.2.1)]
        exact ⟨s1, s.n, by simp only [iI_walked.v, iI_walked.t, iI_walked.t.p1, sy, reduceIte, Nat.reduceAdd, Nat.reduceLeDiff, Nat.reduceLT, Nat.reduceEqDiff, Int.reduceEq, Int.reduceLT, Int.reduceLE, Int.reduceNe, ly, k3, k1, lda_row h, kc, hd, v1], v2, v3⟩
    · rw [if_neg (fun g => of_eq_false k1 g.1)]
      exact ⟨s1, s.n, by simp only [iI_walked.v, iI_walked.t, iI_walked.t.p1, sy, reduceIte, Nat.reduceAdd, Nat.reduceLeDiff, Nat.reduceLT, Nat.reduceEqDiff, Int.reduceEq, Int.reduceLT, Int.reduceLE, Int.reduceNe, ly, k3, k1, lda_row h, hd, v1], v2, v3⟩
def HasC (m : IS) (a : Ans) (xo : Option Rf) : Prop := ∀ cf ms n, m = .seek cf ms n → ∃ D, Chase ms.tab ms.wl ms.wb D (curF ms).rk (curF ms).n a.r xo ∧ D < BIG
theorem tell_i {s : St} {p b q U N : Nat} {c : IC} {m : IS} (f : Fresh s) (hC : okI c) (h : AtI c s p b q U m) (hi : InvI c N m) (a : Ans) (hb : 0 ≤ a.l.bt) {xo : Option Rf} (hx : HasC m a xo) :
    ∃ s' b' q' U', iI_Tell.v (P p) (.agg ⟨a.cs⟩) s = some (unit', s') ∧ AtI c s' p b' q' U' (tellI c a xo m) ∧ StpK KI s s' := by
  have hP : ∀ x : Nat, eqb [3] false false (P x) (.pointer none) = some (.bool false) := fun _ => rfl
  cases m with
  | seek cf ms n =>
    obtain ⟨on, h1, h2⟩ := h
    obtain ⟨a1, a2, a3, a4, a5, a6, a7, a8⟩ := hi
    obtain ⟨D, hc, hD⟩ := hx cf ms n rfl
    obtain ⟨s1, e1, hA1, st1⟩ := tell_f h2 a4.n0 a4.okw a hc hD
    have k1 := Stq.stp h2 st1
    have r1 : IRow s1 p (irow c 1 (tS b) 0 on n 0) := k1.row h1 (by simp)
    obtain ⟨s2, U', e2, g1, g2⟩ := played_s (U := U) (N := N) (k1.2.2 f) hC r1 hA1 (low_tell a7 a (chase_ok hc)) a2 a3
    have t1 := te_s b (.agg ⟨a.cs⟩) s
    rw [wT_s, e1] at t1
    exact ⟨s2, b, q, U', by simp only [iI_Tell.v, iI_Tell.t, sy, reduceIte, Nat.reduceAdd, Nat.reduceLeDiff, Nat.reduceLT, Nat.reduceEqDiff, Int.reduceEq, Int.reduceLT, Int.reduceLE, Int.reduceNe, ly, hP, ldc_row h1, t1, e2], g1, (k1.mono (by simp)).trans (g2.mono (by simp))⟩
  | splice lv cf mp n =>
    obtain ⟨on, h1, h2⟩ := h
    obtain ⟨a1, a2, a3, a4, a5⟩ := hi
    obtain ⟨s1, e1, hA1, st1⟩ := Sp.tell_r f h2 a1 a
    have k1 := Sp.Stp.stk h2 f st1
    have r1 : IRow s1 p (irow c 1 (tP U) lv on n 0) := k1.row h1 (by simp)
    obtain ⟨s2, b', q', U', e2, g1, g2⟩ := played_p (b := b) (q := q) (k1.2.2 f) hC a4 a3 r1 hA1 (Sp.inv_tell a1 a)
    have t1 := te_p U (.agg ⟨a.cs⟩) s
    rw [wT_p, e1] at t1
    exact ⟨s2, b', q', U', by simp only [iI_Tell.v, iI_Tell.t, sy, reduceIte, Nat.reduceAdd, Nat.reduceLeDiff, Nat.reduceLT, Nat.reduceEqDiff, Int.reduceEq, Int.reduceLT, Int.reduceLE, Int.reduceNe, ly, hP, ldc_row h1, t1, e2], g1, (k1.mono (by simp)).trans (g2.mono (by simp))⟩
  | walk lv on n =>
    obtain ⟨pl, h1⟩ := h
    obtain ⟨a1, a2, a3, a4⟩ := hi
    obtain ⟨s2, U', e2, g1, g2⟩ := walked_i (b := b) (q := q) (U := U) f hC a2 a3 h1 a hb
    exact ⟨s2, b, q, U', by simp only [iI_Tell.v, iI_Tell.t, sy, reduceIte, Nat.reduceAdd, Nat.reduceLeDiff, Nat.reduceLT, Nat.reduceEqDiff, Int.reduceEq, Int.reduceLT, Int.reduceLE, Int.reduceNe, ly, hP, ldc_row h1, e2], g1, g2.mono (by simp)⟩
  | join =>
    obtain ⟨pl, lv, on, n, h1⟩ := h
    unfold tellI
    simp only []
    rcases Classical.propComplete (a.k = 3) with k3 | k3
    · rw [if_pos (of_eq_true k3)]
      have en := end_i h1 132
      obtain ⟨g3, g4⟩ := over_i (b := b) (q := q) (U := U) (e := 132) h1
      exact ⟨_, b, q, U, by simp only [iI_Tell.v, iI_Tell.t, sy, reduceIte, Nat.reduceAdd, Nat.reduceLeDiff, Nat.reduceLT, Nat.reduceEqDiff, Int.reduceEq, Int.reduceLT, Int.reduceLE, Int.reduceNe, ly, hP, ldc_row h1, k3, en], g3, g4.mono (by simp)⟩
    · rw [if_neg (of_eq_false k3)]
      have en := end_i h1 0
      obtain ⟨g3, g4⟩ := over_i (b := b) (q := q) (U := U) (e := 0) h1
      exact ⟨_, b, q, U, by simp only [iI_Tell.v, iI_Tell.t, sy, reduceIte, Nat.reduceAdd, Nat.reduceLeDiff, Nat.reduceLT, Nat.reduceEqDiff, Int.reduceEq, Int.reduceLT, Int.reduceLE, Int.reduceNe, ly, hP, ldc_row h1, k3, en], g3, g4.mono (by simp)⟩
  | over e =>
    obtain ⟨pl, lv, on, n, h1⟩ := h
    exact ⟨s, b, q, U, by simp only [iI_Tell.v, iI_Tell.t, sy, reduceIte, Nat.reduceAdd, Nat.reduceLeDiff, Nat.reduceLT, Nat.reduceEqDiff, Int.reduceEq, Int.reduceLT, Int.reduceLE, Int.reduceNe, ly, hP, ldc_row h1], ⟨pl, lv, on, n, h1⟩, .refl _ _⟩
theorem wake_i {s : St} {p b q U N : Nat} {c : IC} {m : IS} (f : Fresh s) (h : AtI c s p b q U m) (hi : InvI c N m) :
    ∃ s', iI_Wake.v (P p) s = some (unit', s') ∧ AtI c s' p b q U (wakeI m) ∧ StpK KI s s' := by
  have hP : ∀ x : Nat, eqb [3] false true (P x) (.pointer none) = some (.bool true) := fun _ => rfl
  cases m with
  | seek cf ms n =>
    obtain ⟨on, h1, h2⟩ := h
    obtain ⟨a1, a2, a3, a4, a5, a6, a7, a8⟩ := hi
    have t1 := wa_s b s
    have w1 : kS_Wake.r (P b) s = some unit' := by simp only [kS_Wake.r, kS_Wake.t, sy, reduceIte, Nat.reduceAdd, Nat.reduceLeDiff, Nat.reduceLT, Nat.reduceEqDiff, Int.reduceEq, Int.reduceLT, Int.reduceLE, Int.reduceNe, ly]
    rw [wW_s, w1, mapr] at t1
    have n1 := next_r h2
    have n2 := np_s b s
    rw [wN_s, n1, mapr] at n2
    rw [show nextC ms = stepC 1 (if ms.lk = true then ms.to else ms.ap) ⟨1, ms.wl, ms.wb, zR, zR, 0, 0⟩ zRes by simp [nextC, a5]] at n2
    generalize (if ms.lk = true then ms.to else ms.ap) = t at n2
    have e2 : iI_played.v (P p) s = some (unit', s) := by simp only [iI_played.v, iI_played.t, sy, reduceIte, Nat.reduceAdd, Nat.reduceLeDiff, Nat.reduceLT, Nat.reduceEqDiff, Int.reduceEq, Int.reduceLT, Int.reduceLE, Int.reduceNe, ly, ldc_row h1, n2, stepC]
    exact ⟨s, by simp only [iI_Wake.v, iI_Wake.t, sy, reduceIte, Nat.reduceAdd, Nat.reduceLeDiff, Nat.reduceLT, Nat.reduceEqDiff, Int.reduceEq, Int.reduceLT, Int.reduceLE, Int.reduceNe, ly, hP, ldc_row h1, t1, e2], ⟨on, h1, h2⟩, .refl _ _⟩
  | splice lv cf mp n =>
    obtain ⟨on, h1, h2⟩ := h
    obtain ⟨i1, i2, i3, i4, i5⟩ := inv_wakeI (c := c) (N := N) (m := .splice lv cf mp n) hi
    obtain ⟨s1, e1, u1, st1⟩ := Sp.wake_r f h2
    have k1 := Sp.Stp.stk h2 f st1
    have r1 : IRow s1 p (irow c 1 (tP U) lv on n 0) := k1.row h1 (by simp)
    have t1 := wa_p U s
    rw [wW_p, e1] at t1
    have n1 := Sp.next_r u1 i1
    have n2 := np_p U s1
    rw [wN_p, n1, mapr] at n2
    obtain ⟨k, t, a, g1, g2⟩ := pnext_k (c := cf) i2 i1
    rw [g1] at n2
    have e2 : iI_played.v (P p) s1 = some (unit', s1) := by simp only [iI_played.v, iI_played.t, sy, reduceIte, Nat.reduceAdd, Nat.reduceLeDiff, Nat.reduceLT, Nat.reduceEqDiff, Int.reduceEq, Int.reduceLT, Int.reduceLE, Int.reduceNe, ly, ldc_row r1, n2, stepC, g2]
    exact ⟨s1, by simp only [iI_Wake.v, iI_Wake.t, sy, reduceIte, Nat.reduceAdd, Nat.reduceLeDiff, Nat.reduceLT, Nat.reduceEqDiff, Int.reduceEq, Int.reduceLT, Int.reduceLE, Int.reduceNe, ly, hP, ldc_row h1, t1, e2], ⟨on, r1, u1⟩, k1.mono (by simp)⟩
  | walk lv on n =>
    obtain ⟨pl, h1⟩ := h
    exact ⟨s, by simp only [iI_Wake.v, iI_Wake.t, sy, reduceIte, Nat.reduceAdd, Nat.reduceLeDiff, Nat.reduceLT, Nat.reduceEqDiff, Int.reduceEq, Int.reduceLT, Int.reduceLE, Int.reduceNe, ly, hP, ldc_row h1], ⟨pl, h1⟩, .refl _ _⟩
  | join =>
    obtain ⟨pl, lv, on, n, h1⟩ := h
    exact ⟨s, by simp only [iI_Wake.v, iI_Wake.t, sy, reduceIte, Nat.reduceAdd, Nat.reduceLeDiff, Nat.reduceLT, Nat.reduceEqDiff, Int.reduceEq, Int.reduceLT, Int.reduceLE, Int.reduceNe, ly, hP, ldc_row h1], ⟨pl, lv, on, n, h1⟩, .refl _ _⟩
  | over e =>
    obtain ⟨pl, lv, on, n, h1⟩ := h
    exact ⟨s, by simp only [iI_Wake.v, iI_Wake.t, sy, reduceIte, Nat.reduceAdd, Nat.reduceLeDiff, Nat.reduceLT, Nat.reduceEqDiff, Int.reduceEq, Int.reduceLT, Int.reduceLE, Int.reduceNe, ly, hP, ldc_row h1], ⟨pl, lv, on, n, h1⟩, .refl _ _⟩
theorem next_i {s : St} {p b q U N : Nat} {c : IC} {m : IS} (hC : okI c) (h : AtI c s p b q U m) (hi : InvI c N m) : iI_Next.v (P p) s = some (.agg ⟨nextI c m⟩, s) := by
  have hP : ∀ x : Nat, eqb [3] false false (P x) (.pointer none) = some (.bool false) := fun _ => rfl
  cases m with
  | seek cf ms n =>
    obtain ⟨on, h1, h2⟩ := h
    have n1 := next_r h2
    have n2 := nx_s b s
    rw [wN_s, n1, mapr] at n2
    obtain ⟨k, t, a, r, g⟩ : ∃ k t a r, nextC ms = stepC k t a r := by unfold nextC; split <;> exact ⟨_, _, _, _, rfl⟩
    show iI_Next.v (P p) s = some (Value.agg ⟨nextC ms⟩, s)
    rw [g] at n2 ⊢
    simp only [iI_Next.v, iI_Next.t, iI_Next.t.p1, iI_Next.t.p2, iI_Next.t.p3, iI_Next.t.p4, sy, reduceIte, Nat.reduceAdd, Nat.reduceLeDiff, Nat.reduceLT, Nat.reduceEqDiff, Int.reduceEq, Int.reduceLT, Int.reduceLE, Int.reduceNe, ly, hP, ldc_row h1, n2, stepC]
  | splice lv cf mp n =>
    obtain ⟨on, h1, h2⟩ := h
    have n1 := Sp.next_r h2 hi.1
    have n2 := nx_p U s
    rw [wN_p, n1, mapr] at n2
    obtain ⟨k, t, a, g1, g2⟩ := pnext_k (c := cf) hi.2.1 hi.1
    show iI_Next.v (P p) s = some (Value.agg ⟨Sp.nextC cf mp⟩, s)
    rw [g1] at n2 ⊢
    simp only [iI_Next.v, iI_Next.t, iI_Next.t.p1, iI_Next.t.p2, iI_Next.t.p3, iI_Next.t.p4, sy, reduceIte, Nat.reduceAdd, Nat.reduceLeDiff, Nat.reduceLT, Nat.reduceEqDiff, Int.reduceEq, Int.reduceLT, Int.reduceLE, Int.reduceNe, ly, hP, ldc_row h1, n2, stepC]
  | walk lv on n =>
    obtain ⟨pl, h1⟩ := h
    obtain ⟨a1, a2, a3, a4⟩ := hi
    have h32 : c.h ≤ 32 := hC.1.2.1
    have ew : IntKind.i64.wrap ((lv : Int) - 1) = ((lv - 1 : Nat) : Int) := by rw [wrap64 (by omega) (by omega)]; omega
    have ls := list_i h1 hC (lv := lv - 1) (by omega)
    simp only [iI_Next.v, iI_Next.t, iI_Next.t.p1, iI_Next.t.p2, iI_Next.t.p3, iI_Next.t.p4, sy, reduceIte, Nat.reduceAdd, Nat.reduceLeDiff, Nat.reduceLT, Nat.reduceEqDiff, Int.reduceEq, Int.reduceLT, Int.reduceLE, Int.reduceNe, ly, hP, ldc_row h1, lda_row h1, ew, ls, nextI, stepC]
  | join =>
    obtain ⟨pl, lv, on, n, h1⟩ := h
    simp only [iI_Next.v, iI_Next.t, iI_Next.t.p1, iI_Next.t.p2, iI_Next.t.p3, iI_Next.t.p4, sy, reduceIte, Nat.reduceAdd, Nat.reduceLeDiff, Nat.reduceLT, Nat.reduceEqDiff, Int.reduceEq, Int.reduceLT, Int.reduceLE, Int.reduceNe, ly, hP, ldc_row h1, lda_row h1, nextI, stepC]
  | over e =>
    obtain ⟨pl, lv, on, n, h1⟩ := h
    simp only [iI_Next.v, iI_Next.t, iI_Next.t.p1, iI_Next.t.p2, iI_Next.t.p3, iI_Next.t.p4, sy, reduceIte, Nat.reduceAdd, Nat.reduceLeDiff, Nat.reduceLT, Nat.reduceEqDiff, Int.reduceEq, Int.reduceLT, Int.reduceLE, Int.reduceNe, ly, hP, ldc_row h1, lda_row h1, nextI, stepC]
theorem c0_ok {c : IC} (h1 : c.me.rk = 2) (h2 : okV c.me.ln c.me.bt) (h3 : okO c.oa c.oo) : Sp.okC ⟨0, 0, c.me, headR c.h, c.oa, c.oo⟩ := by
  obtain ⟨w1, w2⟩ := head_ok (c := c) h1
  have h2' := h2
  obtain ⟨n, b, e1, e2, g1, g2⟩ := h2'
  refine ⟨h1, ⟨h2, ⟨0, 0, rfl, rfl, by omega, by decide⟩, by show (0 : Int) ≤ c.me.ln; omega, ?_⟩, w1, w2, h3⟩
  show c.me.bt.toNat / 2 ^ (c.me.ln.toNat - (0 : Int).toNat) = (0 : Int).toNat
  rw [e1, e2]
  exact Nat.div_eq_of_lt (by simpa using g2)
open Classical in
theorem new_i {s : St} (f : Fresh s) (c : IC) (hb : 0 ≤ c.st.bt) (hm : 0 ≤ c.me.bt) :
    (¬ okI c ∧ ∃ s', insert_New.v (.agg ⟨c.cs⟩) s = some (T2 (.pointer none) 150, s') ∧ More s s') ∨
    (okI c ∧ ∃ s' b q, insert_New.v (.agg ⟨c.cs⟩) s = some (T2 (P s.n) 0, s') ∧ AtI c s' s.n b q 0 (.seek c.sk (m0 c.sk) 1) ∧ More s s') := by
  have m1 : More s (s.new (.row 23 [irow c 1 .nilIface 0 zR 0 0] false)) := .new
  have r1 : IRow (s.new (.row 23 [irow c 1 .nilIface 0 zR 0 0] false)) s.n (irow c 1 .nilIface 0 zR 0 0) := get_new_same
  have e1 : alv s (.agg ⟨irow c 1 .nilIface 0 zR 0 0⟩) = some (P s.n, s.new (.row 23 [irow c 1 .nilIface 0 zR 0 0] false)) := rfl
  have hn1 : (s.new (.row 23 [irow c 1 .nilIface 0 zR 0 0] false)).n = s.n + 1 := rfl
  have f1 := m1.fresh f
  generalize s.new (.row 23 [irow c 1 .nilIface 0 zR 0 0] false) = s1 at *
  simp only [irow] at e1
  rcases new_r f1 c.sk hb with ⟨hC, e2⟩ | ⟨hC, e2⟩
  · exact .inl ⟨fun g => hC g.1, s1, by simp only [insert_New.v, insert_New.t, insert_New.t.p1, sy, reduceIte, Nat.reduceAdd, Nat.reduceLeDiff, Nat.reduceLT, Nat.reduceEqDiff, Int.reduceEq, Int.reduceLT, Int.reduceLE, Int.reduceNe, ly, e1, e2], m1⟩
  · have hA2 := at_new f1 c.sk
    have mo : More s1 (N2 s1 c.sk) := More.new.trans .new
    have f2 := mo.fresh f1
    generalize N2 s1 c.sk = s2 at *
    have r2 : IRow s2 s.n (irow c 1 .nilIface 0 zR 0 0) := mo.get f1 r1
    have vr := right_i c.me.ln c.me.bt hm s2
    have hd := head_i r2
    rcases Classical.propComplete (c.me.rk = 2) with k1 | k1
    · by_cases k2 : okV c.me.ln c.me.bt
      · rw [if_pos k2] at vr
        rcases Classical.propComplete (c.me.ln = c.h) with k3 | k3
        · by_cases k4 : okO c.oa c.oo
          · right
            have ok0 := c0_ok (of_eq_true k1) k2 k4
            have q1 := Sp.new_yes (c := ⟨0, 0, c.me, headR c.h, c.oa, c.oo⟩) f2 hm (Int.le_refl 0) ok0
            have m3 : More s2 (s2.new (.row 44 [Sp.urow ⟨0, 0, c.me, headR c.h, c.oa, c.oo⟩ (Sp.m0 ⟨0, 0, c.me, headR c.h, c.oa, c.oo⟩) (.pointer none) .nilFunc] false)) := .new
            generalize s2.new (.row 44 [Sp.urow ⟨0, 0, c.me, headR c.h, c.oa, c.oo⟩ (Sp.m0 ⟨0, 0, c.me, headR c.h, c.oa, c.oo⟩) (.pointer none) .nilFunc] false) = s3 at *
            have f3 := m3.fresh f2
            have r3 : IRow s3 s.n (irow c 1 .nilIface 0 zR 0 0) := m3.get f2 r2
            obtain ⟨s4, hs4⟩ : ∃ s4, s4 = IPut s3 s.n (irow c 1 (tS (s1.n + 1)) 0 zR 0 0) := ⟨_, rfl⟩
            have e4 : stv s3 1 (.pointer (some ⟨s.n, 0, some 14⟩)) (tS (s1.n + 1)) = some s4 := by rw [hs4]; simp only [stv_row r3, bx_if, sy, reduceIte, Nat.reduceAdd, Nat.reduceLeDiff, Nat.reduceLT, Nat.reduceEqDiff, Int.reduceEq, Int.reduceLT, Int.reduceLE, Int.reduceNe, ly]
            have r4 : IRow s4 s.n (irow c 1 (tS (s1.n + 1)) 0 zR 0 0) := by rw [hs4]; exact put_i r3
            have e5 : stv s4 1 (.pointer (some ⟨s.n, 0, some 21⟩)) (.int .i64 1) = some (IPut s3 s.n (irow c 1 (tS (s1.n + 1)) 0 zR 1 0)) := by
              simp only [stv_row r4, sy, reduceIte, Nat.reduceAdd, Nat.reduceLeDiff, Nat.reduceLT, Nat.reduceEqDiff, Int.reduceEq, Int.reduceLT, Int.reduceLE, Int.reduceNe, ly]
              rw [hs4, put_put]
            have hA3 : At c.sk (m0 c.sk) s3 (s1.n + 1) s1.n := ⟨m3.get f2 hA2.row, m3.get f2 hA2.map⟩
            refine ⟨⟨hC, of_eq_true k1, k2, of_eq_true k3, k4⟩, _, s1.n + 1, s1.n, ?_, ⟨zR, put_i r3, hA3.stp (stp_i r3) (by simp) (by simp)⟩, ((m1.trans mo).trans m3).put (Nat.le_refl _)⟩
            simp only [Sp.Cf.cs, headR] at q1 hd
            simp only [insert_New.v, insert_New.t, insert_New.t.p1, sy, reduceIte, Nat.reduceAdd, Nat.reduceLeDiff, Nat.reduceLT, Nat.reduceEqDiff, Int.reduceEq, Int.reduceLT, Int.reduceLE, Int.reduceNe, ly, e1, e2, k1, vr, k3, hd, q1, e4, e5]
          · left
            have q1 := (Sp.new_no (c := ⟨0, 0, c.me, headR c.h, c.oa, c.oo⟩) f2 hm (Int.le_refl 0) fun g => k4 g.2.2.2.2).1
            refine ⟨fun g => k4 g.2.2.2.2, s2, ?_, m1.trans mo⟩
            simp only [Sp.Cf.cs, headR, Sp.Bad] at q1 hd
            simp only [insert_New.v, insert_New.t, insert_New.t.p1, sy, reduceIte, Nat.reduceAdd, Nat.reduceLeDiff, Nat.reduceLT, Nat.reduceEqDiff, Int.reduceEq, Int.reduceLT, Int.reduceLE, Int.reduceNe, ly, e1, e2, k1, vr, k3, hd, q1]
        · exact .inl ⟨fun g => of_eq_false k3 g.2.2.2.1, s2, by simp only [insert_New.v, insert_New.t, insert_New.t.p1, sy, reduceIte, Nat.reduceAdd, Nat.reduceLeDiff, Nat.reduceLT, Nat.reduceEqDiff, Int.reduceEq, Int.reduceLT, Int.reduceLE, Int.reduceNe, ly, e1, e2, k1, vr, k3], m1.trans mo⟩
      · rw [if_neg k2] at vr
        exact .inl ⟨fun g => k2 g.2.2.1, s2, by simp only [insert_New.v, insert_New.t, insert_New.t.p1, sy, reduceIte, Nat.reduceAdd, Nat.reduceLeDiff, Nat.reduceLT, Nat.reduceEqDiff, Int.reduceEq, Int.reduceLT, Int.reduceLE, Int.reduceNe, ly, e1, e2, k1, vr], m1.trans mo⟩
    · exact .inl ⟨fun g => of_eq_false k1 g.2.1, s2, by simp only [insert_New.v, insert_New.t, insert_New.t.p1, sy, reduceIte, Nat.reduceAdd, Nat.reduceLeDiff, Nat.reduceLT, Nat.reduceEqDiff, Int.reduceEq, Int.reduceLT, Int.reduceLE, Int.reduceNe, ly, e1, e2, k1], m1.trans mo⟩
end Go.Proofs.YteafgjpbfhjbjaaGreat
