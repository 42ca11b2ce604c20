/-
  The machine of package remove: Tell, Wake, Next, New.
-/
import Derived.Test.YtdppefkjoeefnaaRemB
set_option linter.unusedSimpArgs false
set_option linter.unusedVariables false
set_option maxRecDepth 100000
set_option maxHeartbeats 2000000
namespace Go.Proofs.Ytdppefkjoeefnaa
open Go.Sim Go.Sim.Bt
attribute [local congr] bdc cndc itec gdc gdSc gdUc

theorem ris_p {s : St} {p : Nat} {c : RC} {pl : Value} {x : Rf} {lv : Int} {mk ov : Bool} {e0 : Int} (h : PRow s p (pmrow c pl x lv mk ov e0)) : remove_Remove_is.r (P p) s = some (.bool true) := by
  simp only [remove_Remove_is.r, remove_Remove_is.t, sy, reduceIte, Nat.reduceAdd, Nat.reduceLeDiff, Nat.reduceLT, Nat.reduceEqDiff, Int.reduceEq, Int.reduceLT, Int.reduceLE, Int.reduceNe, ly, ldc_row h]
theorem wN_s (b : Nat) (s : St) : seek_Seek_Next.w [P b] s = seek_Seek_Next.r (P b) s := id rfl
theorem wN_u (b : Nat) (s : St) : unsplice_Unsplice_Next.w [P b] s = unsplice_Unsplice_Next.r (P b) s := id rfl
theorem wT_s (b : Nat) (a : Value) (s : St) : seek_Seek_Tell.w [P b, a] s = seek_Seek_Tell.v (P b) a s := id rfl
theorem wT_u (b : Nat) (a : Value) (s : St) : unsplice_Unsplice_Tell.w [P b, a] s = unsplice_Unsplice_Tell.v (P b) a s := id rfl
theorem wW_s (b : Nat) (s : St) : seek_Seek_Wake.w [P b] s = seek_Seek_Wake.r (P b) s := id rfl
theorem wW_u (b : Nat) (s : St) : unsplice_Unsplice_Wake.w [P b] s = unsplice_Unsplice_Wake.v (P b) s := id rfl
theorem mapr {v : Value} {s : St} : (some v).map (fun r => (r, s)) = some (v, s) := id rfl
/-- The search's step is over. -/
theorem settles_s {s : St} {p b q U : Nat} {c : RC} {ms : Mm} (h : PRow s p (pmrow c (tS b) zR (-1) false false 0)) (hA : At c.sk ms s b q) :
    ∃ s', remove_Remove_settles.v (P p) s = some (unit', s') ∧ AtP c s' p b q U (soughtS ms) ∧ StpX (B0 p) s s' := by
  have n1 := next_r hA
  have n2 := ns_s b s
  rw [wN_s, n1, mapr] at n2
  unfold soughtS
  cases ho : ms.ov with
  | false =>
    rw [show nextC ms = stepC 1 (if ms.lk = true then ms.to else ms.ap) ⟨1, ms.wl, ms.wb, zR, zR, 0, 0⟩ zRes by simp [nextC, ho]] at n2
    generalize (if ms.lk = true then ms.to else ms.ap) = t at n2
    exact ⟨s, by simp only [remove_Remove_settles.v, remove_Remove_settles.t, sy, reduceIte, Nat.reduceAdd, Nat.reduceLeDiff, Nat.reduceLT, Nat.reduceEqDiff, Int.reduceEq, Int.reduceLT, Int.reduceLE, Int.reduceNe, ly, ldc_row h, n2, stepC], ⟨h, hA⟩, .refl _ _⟩
  | true =>
    rw [show nextC ms = stepC 3 zR zAsk ms.res by simp [nextC, ho]] at n2
    rw [if_pos rfl]
    obtain ⟨s1, hs1⟩ : ∃ s1, s1 = PPut s p (pmrow c .nilIface zR (-1) false false 0) := ⟨_, rfl⟩
    have e1 : stv s 1 (.pointer (some ⟨p, 0, some 9⟩)) .nilIface = some s1 := by rw [hs1]; simp only [stv_row h, bx_ni, sy, reduceIte, Nat.reduceAdd, Nat.reduceLeDiff, Nat.reduceLT, Nat.reduceEqDiff, Int.reduceEq, Int.reduceLT, Int.reduceLE, Int.reduceNe, ly]
    have r1 : PRow s1 p (pmrow c .nilIface zR (-1) false false 0) := by rw [hs1]; exact put_p h
    obtain ⟨s2, hs2⟩ : ∃ s2, s2 = PPut s1 p (pmrow c .nilIface ms.res.r (-1) false false 0) := ⟨_, rfl⟩
    have e2 : stv s1 5 (.pointer (some ⟨p, 0, some 10⟩)) (.agg ⟨ms.res.r.cs⟩) = some s2 := by rw [hs2]; simp only [stv_row r1, sy, reduceIte, Nat.reduceAdd, Nat.reduceLeDiff, Nat.reduceLT, Nat.reduceEqDiff, Int.reduceEq, Int.reduceLT, Int.reduceLE, Int.reduceNe, ly]
    have r2 : PRow s2 p (pmrow c .nilIface ms.res.r (-1) false false 0) := by rw [hs2]; exact put_p r1
    have ka : StpX (B0 p) s s1 := by rw [hs1]; exact .put h ⟨rfl, rfl⟩
    have kb : StpX (B0 p) s1 s2 := by rw [hs2]; exact .put r1 ⟨rfl, rfl⟩
    have k2 := ka.trans kb
    rcases Classical.propComplete (ms.res.e = 0) with k0 | k0
    · rw [if_pos (of_eq_true k0)]
      cases hf : ms.res.found with
      | true =>
        rw [if_pos rfl]
        exact ⟨s2, by simp only [remove_Remove_settles.v, remove_Remove_settles.t, sy, reduceIte, Nat.reduceAdd, Nat.reduceLeDiff, Nat.reduceLT, Nat.reduceEqDiff, Int.reduceEq, Int.reduceLT, Int.reduceLE, Int.reduceNe, ly, ldc_row h, n2, stepC, e1, e2, k0, hf], r2, k2⟩
      | false =>
        rw [if_neg (by simp)]
        have en := ends_r r2 101
        obtain ⟨g3, g4⟩ := over_at (b := b) (q := q) (U := U) (e := 101) r2
        exact ⟨_, by simp only [remove_Remove_settles.v, remove_Remove_settles.t, sy, reduceIte, Nat.reduceAdd, Nat.reduceLeDiff, Nat.reduceLT, Nat.reduceEqDiff, Int.reduceEq, Int.reduceLT, Int.reduceLE, Int.reduceNe, ly, ldc_row h, n2, stepC, e1, e2, k0, hf, en], g3, k2.trans g4⟩
    · rw [if_neg (of_eq_false k0)]
      have en := ends_r r2 ms.res.e
      obtain ⟨g3, g4⟩ := over_at (b := b) (q := q) (U := U) (e := ms.res.e) r2
      exact ⟨_, by simp only [remove_Remove_settles.v, remove_Remove_settles.t, sy, reduceIte, Nat.reduceAdd, Nat.reduceLeDiff, Nat.reduceLT, Nat.reduceEqDiff, Int.reduceEq, Int.reduceLT, Int.reduceLE, Int.reduceNe, ly, ldc_row h, n2, stepC, e1, e2, k0, en], g3, k2.trans g4⟩
theorem unext_k {c : Un.Cf} {m : Un.Mm} (h : m.at' ≠ 10) (hi : Un.InvM m) : ∃ k t a, Un.nextC c m = stepC k t a zRes ∧ k ≠ 3 := by
  have hp : m.at' = 1 ∨ m.at' = 2 ∨ m.at' = 3 ∨ m.at' = 4 ∨ m.at' = 5 ∨ m.at' = 6 ∨ m.at' = 7 ∨ m.at' = 8 ∨ m.at' = 9 := by unfold Un.InvM at hi; omega
  rcases hp with hp | hp | hp | hp | hp | hp | hp | hp | hp <;> simp only [Un.nextC, hp, Un.askC] <;> exact ⟨_, _, _, rfl, by decide⟩
/-- A list's step is over. -/
theorem settles_u {s : St} {p b q U lv : Nat} {c : RC} {x : Rf} {mu : Un.Mm} (f : Fresh s) (hO : okO c.oa c.oo) (hb : 0 ≤ x.bt) (hlv : (lv : Int) ≤ x.ln) (h32 : lv ≤ 32) (h : PRow s p (pmrow c (tU U) x lv true false 0)) (hu : Un.Row s U (Un.urow (cuC c x lv) mu)) (hi : Un.InvM mu) :
    ∃ s' U', remove_Remove_settles.v (P p) s = some (unit', s') ∧ AtP c s' p b q U' (leftS x lv mu) ∧ StpX (B0 p) s s' ∧ (U' = U ∨ s.n ≤ U') := by
  have n1 := Un.next_r hu hi.1 hi.2.1
  have n2 := ns_u U s
  rw [wN_u, n1, mapr] at n2
  have em : ¬ ((lv : Int) = -1) := by omega
  unfold leftS
  rcases Classical.propComplete (mu.at' = 10) with k1 | k1
  · rw [if_pos (of_eq_true k1)]
    rw [show Un.nextC (cuC c x lv) mu = stepC 3 zR zAsk ⟨mu.e, 0, zR, zR, false⟩ by simp [Un.nextC, of_eq_true k1]] at n2
    have en := ends_r h 0
    obtain ⟨g3, g4⟩ := over_at (b := b) (q := q) (U := U) (e := 0) h
    by_cases k2 : lv = 0
    · rw [if_pos k2]
      subst k2
      have em : ¬ (((0 : Nat) : Int) = -1) := by omega
      have e0 : (((0 : Nat) : Int) = 0) := rfl
      exact ⟨_, U, by simp only [remove_Remove_settles.v, remove_Remove_settles.t, sy, reduceIte, Nat.reduceAdd, Nat.reduceLeDiff, Nat.reduceLT, Nat.reduceEqDiff, Int.reduceEq, Int.reduceLT, Int.reduceLE, Int.reduceNe, ly, ldc_row h, n2, stepC, em, e0, en], g3, g4, .inl rfl⟩
    · rw [if_neg k2]
      have e0 : ¬ ((lv : Int) = 0) := by omega
      rcases Classical.propComplete (mu.e = 0) with k3 | k3
      · rw [if_pos (of_eq_true k3)]
        have ew : IntKind.i64.wrap ((lv : Int) - 1) = ((lv - 1 : Nat) : Int) := by rw [wrap64 (by omega) (by omega)]; omega
        obtain ⟨s', l1, l2, l3⟩ := leaves_r (b := b) (q := q) f hO hb h ((lv - 1 : Nat) : Int) (lv - 1) (fun _ => ⟨rfl, by omega⟩)
        exact ⟨s', s.n, by simp only [remove_Remove_settles.v, remove_Remove_settles.t, sy, reduceIte, Nat.reduceAdd, Nat.reduceLeDiff, Nat.reduceLT, Nat.reduceEqDiff, Int.reduceEq, Int.reduceLT, Int.reduceLE, Int.reduceNe, ly, ldc_row h, n2, stepC, em, e0, k3, ew, l1], l2, l3, .inr (Nat.le_refl _)⟩
      · rw [if_neg (of_eq_false k3)]
        exact ⟨_, U, by simp only [remove_Remove_settles.v, remove_Remove_settles.t, sy, reduceIte, Nat.reduceAdd, Nat.reduceLeDiff, Nat.reduceLT, Nat.reduceEqDiff, Int.reduceEq, Int.reduceLT, Int.reduceLE, Int.reduceNe, ly, ldc_row h, n2, stepC, em, e0, k3, en], g3, g4, .inl rfl⟩
  · rw [if_neg (of_eq_false k1)]
    obtain ⟨k, t, a, g1, g2⟩ := unext_k (c := cuC c x lv) (of_eq_false k1) hi
    rw [g1] at n2
    exact ⟨s, U, by simp only [remove_Remove_settles.v, remove_Remove_settles.t, sy, reduceIte, Nat.reduceAdd, Nat.reduceLeDiff, Nat.reduceLT, Nat.reduceEqDiff, Int.reduceEq, Int.reduceLT, Int.reduceLE, Int.reduceNe, ly, ldc_row h, n2, stepC, g2], ⟨h, hu⟩, .refl _ _, .inl rfl⟩
theorem b0p {p U x n : Nat} (h : B0 p x n) : Bp p U x n := .inl h
theorem stq_x {c : Cf} {m : Mm} {s s' : St} {p U b q : Nat} (h : At c m s b q) (k : Stq b q s s') : StpX (Bp p U) s s' := StpX.of (Stq.stp h k) fun x n hn => by
  simp only [List.mem_cons, List.not_mem_nil, or_false] at hn
  rcases hn with rfl | rfl
  · exact .inr (.inr (.inl rfl))
  · exact .inr (.inr (.inr rfl))
/-- What the chase needs. -/
def HasC (m : RS) (a : Ans) (xo : Option Rf) : Prop := ∀ ms, m = .seek ms → ∃ D, Chase ms.tab ms.wl ms.wb D (curF ms).rk (curF ms).n a.r xo ∧ D < BIG
theorem tell_p {s : St} {p b q U N : Nat} {c : RC} {m : RS} (f : Fresh s) (hC : okC c.sk) (hO : okO c.oa c.oo) (h : AtP c s p b q U m) (hi : InvR c N m) (a : Ans) {xo : Option Rf} (hx : HasC m a xo) :
    ∃ s' U', remove_Remove_Tell.v (P p) (.agg ⟨a.cs⟩) s = some (unit', s') ∧ AtP c s' p b q U' (tellS c a xo m) ∧ StpX (Bp p U) s s' ∧ (U' = U ∨ s.n ≤ U') := by
  cases m with
  | seek ms =>
    obtain ⟨h1, h2⟩ := h
    obtain ⟨i1, i2, i3, i4⟩ := hi
    obtain ⟨D, hc, hD⟩ := hx ms rfl
    obtain ⟨s1, e1, hA1, st1⟩ := tell_f h2 i1.n0 i1.okw a hc hD
    have k1 : StpX (Bp p U) s s1 := stq_x h2 st1
    have r1 : PRow s1 p (pmrow c (tS b) zR (-1) false false 0) := (StpX.of (B := fun _ n => n = 40 ∨ n = 1000) (Stq.stp h2 st1) (fun x n hn => by simpa using hn)).2.1 _ _ h1 (by simp [kd])
    obtain ⟨s2, e2, g1, g2⟩ := settles_s (U := U) r1 hA1
    have is := ris_p h1
    have t1 := te_s b (.agg ⟨a.cs⟩) s
    rw [wT_s, e1] at t1
    exact ⟨s2, U, by simp only [remove_Remove_Tell.v, remove_Remove_Tell.t, sy, reduceIte, Nat.reduceAdd, Nat.reduceLeDiff, Nat.reduceLT, Nat.reduceEqDiff, Int.reduceEq, Int.reduceLT, Int.reduceLE, Int.reduceNe, ly, is, ldc_row h1, eqI_if, t1, e2], g1, k1.trans (g2.mono fun _ _ => b0p), .inl rfl⟩
  | ask x =>
    have h1 : PRow s p (pmrow c .nilIface x (-1) false false 0) := h
    obtain ⟨i1, i2, i3⟩ := hi
    have is := ris_p h1
    unfold tellS
    simp only []
    rcases Classical.propComplete (a.k = 1) with k1 | k1
    · rw [if_pos (of_eq_true k1)]
      obtain ⟨s1, hs1⟩ : ∃ s1, s1 = PPut s p (pmrow c .nilIface x (-1) true false 0) := ⟨_, rfl⟩
      have e1 : stv s 1 (.pointer (some ⟨p, 0, some 16⟩)) (.bool true) = some s1 := by rw [hs1]; simp only [stv_row h1, sy, reduceIte, Nat.reduceAdd, Nat.reduceLeDiff, Nat.reduceLT, Nat.reduceEqDiff, Int.reduceEq, Int.reduceLT, Int.reduceLE, Int.reduceNe, ly]
      have r1 : PRow s1 p (pmrow c .nilIface x (-1) true false 0) := by rw [hs1]; exact put_p h1
      have kk : StpX (B0 p) s s1 := by rw [hs1]; exact .put h1 ⟨rfl, rfl⟩
      have f1 := kk.2.2 f
      have hn : s1.n = s.n := by rw [hs1]; rfl
      obtain ⟨s2, l1, l2, l3⟩ := leaves_r (b := b) (q := q) f1 hO i3 r1 x.ln x.ln.toNat (fun g => by obtain ⟨n, d, q1, _⟩ := g; omega)
      exact ⟨s2, s1.n, by simp only [remove_Remove_Tell.v, remove_Remove_Tell.t, sy, reduceIte, Nat.reduceAdd, Nat.reduceLeDiff, Nat.reduceLT, Nat.reduceEqDiff, Int.reduceEq, Int.reduceLT, Int.reduceLE, Int.reduceNe, ly, is, ldc_row h1, eqI_ni, k1, e1, ldc_row r1, l1], l2, (kk.trans l3).mono fun _ _ => b0p, .inr (by omega)⟩
    · rw [if_neg (of_eq_false k1)]
      rcases Classical.propComplete (a.k = 3) with k3 | k3
      · rw [if_pos (of_eq_true k3)]
        have en := ends_r h1 132
        obtain ⟨g3, g4⟩ := over_at (b := b) (q := q) (U := U) (e := 132) h1
        exact ⟨_, U, by simp only [remove_Remove_Tell.v, remove_Remove_Tell.t, sy, reduceIte, Nat.reduceAdd, Nat.reduceLeDiff, Nat.reduceLT, Nat.reduceEqDiff, Int.reduceEq, Int.reduceLT, Int.reduceLE, Int.reduceNe, ly, is, ldc_row h1, eqI_ni, k1, k3, en], g3, g4.mono fun _ _ => b0p, .inl rfl⟩
      · rw [if_neg (of_eq_false k3)]
        have en := ends_r h1 101
        obtain ⟨g3, g4⟩ := over_at (b := b) (q := q) (U := U) (e := 101) h1
        exact ⟨_, U, by simp only [remove_Remove_Tell.v, remove_Remove_Tell.t, sy, reduceIte, Nat.reduceAdd, Nat.reduceLeDiff, Nat.reduceLT, Nat.reduceEqDiff, Int.reduceEq, Int.reduceLT, Int.reduceLE, Int.reduceNe, ly, is, ldc_row h1, eqI_ni, k1, k3, en], g3, g4.mono fun _ _ => b0p, .inl rfl⟩
  | leave x lv mu =>
    obtain ⟨h1, h2⟩ := h
    obtain ⟨i1, i2, i3, i4, i5⟩ := hi
    have is := ris_p h1
    obtain ⟨s1, e1, u1, bu⟩ := Un.tell_r h2 i1 a
    have hpu : p ≠ U := by rintro rfl; unfold Un.Row at h2; rw [h1] at h2; simp at h2
    have r1 : PRow s1 p (pmrow c (tU U) x lv true false 0) := by show s1.get p = _; rw [bu.1 p hpu]; exact h1
    have f1 := bu.2.2 f
    have hb : 0 ≤ x.bt := by obtain ⟨n, d, q1, q2, _⟩ := i4; omega
    have h32 : lv ≤ 32 := by obtain ⟨n, d, q1, q2, _⟩ := i4; omega
    obtain ⟨s2, U', e2, g1, g2, g3⟩ := settles_u (b := b) (q := q) f1 hO hb i5 h32 r1 u1 (Un.inv_tell i1 a)
    have t1 := te_u U (.agg ⟨a.cs⟩) s
    rw [wT_u, e1] at t1
    have ku : StpX (Bp p U) s s1 := .but bu h2 (.inr (.inl ⟨rfl, rfl⟩))
    exact ⟨s2, U', by simp only [remove_Remove_Tell.v, remove_Remove_Tell.t, sy, reduceIte, Nat.reduceAdd, Nat.reduceLeDiff, Nat.reduceLT, Nat.reduceEqDiff, Int.reduceEq, Int.reduceLT, Int.reduceLE, Int.reduceNe, ly, is, ldc_row h1, eqI_if, t1, e2], g1, ku.trans (g2.mono fun _ _ => b0p), by rw [← bu.2.1]; exact g3⟩
  | over mk e =>
    obtain ⟨pl, x, lv, h1⟩ := h
    have is := ris_p h1
    exact ⟨s, U, by simp only [remove_Remove_Tell.v, remove_Remove_Tell.t, sy, reduceIte, Nat.reduceAdd, Nat.reduceLeDiff, Nat.reduceLT, Nat.reduceEqDiff, Int.reduceEq, Int.reduceLT, Int.reduceLE, Int.reduceNe, ly, is, ldc_row h1], ⟨pl, x, lv, h1⟩, .refl _ _, .inl rfl⟩
theorem wake_p {s : St} {p b q U N : Nat} {c : RC} {m : RS} (f : Fresh s) (hO : okO c.oa c.oo) (h : AtP c s p b q U m) (hi : InvR c N m) :
    ∃ s', remove_Remove_Wake.v (P p) s = some (unit', s') ∧ AtP c s' p b q U (wakeS m) ∧ StpX (Bp p U) s s' ∧ s'.n = s.n := by
  cases m with
  | seek ms =>
    obtain ⟨h1, h2⟩ := h
    obtain ⟨i1, i2, i3, i4⟩ := hi
    have is := ris_p h1
    have t1 := wa_s b s
    have w1 : seek_Seek_Wake.r (P b) s = some unit' := by simp only [seek_Seek_Wake.r, seek_Seek_Wake.t, sy, reduceIte, Nat.reduceAdd, Nat.reduceLeDiff, Nat.reduceLT, Nat.reduceEqDiff, Int.reduceEq, Int.reduceLT, Int.reduceLE, Int.reduceNe, ly]
    rw [wW_s, w1, mapr] at t1
    have n1 := next_r h2
    have n2 := ns_s b s
    rw [wN_s, n1, mapr] at n2
    rw [show nextC ms = stepC 1 (if ms.lk = true then ms.to else ms.ap) ⟨1, ms.wl, ms.wb, zR, zR, 0, 0⟩ zRes by simp [nextC, i2]] at n2
    generalize (if ms.lk = true then ms.to else ms.ap) = t at n2
    have e2 : remove_Remove_settles.v (P p) s = some (unit', s) := by simp only [remove_Remove_settles.v, remove_Remove_settles.t, sy, reduceIte, Nat.reduceAdd, Nat.reduceLeDiff, Nat.reduceLT, Nat.reduceEqDiff, Int.reduceEq, Int.reduceLT, Int.reduceLE, Int.reduceNe, ly, ldc_row h1, n2, stepC]
    exact ⟨s, by simp only [remove_Remove_Wake.v, remove_Remove_Wake.t, sy, reduceIte, Nat.reduceAdd, Nat.reduceLeDiff, Nat.reduceLT, Nat.reduceEqDiff, Int.reduceEq, Int.reduceLT, Int.reduceLE, Int.reduceNe, ly, is, ldc_row h1, eqI_if, t1, e2], ⟨h1, h2⟩, .refl _ _, rfl⟩
  | ask x =>
    have h1 : PRow s p (pmrow c .nilIface x (-1) false false 0) := h
    have is := ris_p h1
    exact ⟨s, by simp only [remove_Remove_Wake.v, remove_Remove_Wake.t, sy, reduceIte, Nat.reduceAdd, Nat.reduceLeDiff, Nat.reduceLT, Nat.reduceEqDiff, Int.reduceEq, Int.reduceLT, Int.reduceLE, Int.reduceNe, ly, is, ldc_row h1, eqI_ni], h1, .refl _ _, rfl⟩
  | leave x lv mu =>
    obtain ⟨h1, h2⟩ := h
    obtain ⟨i1, i2, i3, i4, i5⟩ := inv_wakeS (c := c) (N := N) (m := .leave x lv mu) hi
    have is := ris_p h1
    obtain ⟨s1, e1, u1, bu⟩ := Un.wake_r h2 hi.1
    have hpu : p ≠ U := by rintro rfl; unfold Un.Row at h2; rw [h1] at h2; simp at h2
    have r1 : PRow s1 p (pmrow c (tU U) x lv true false 0) := by show s1.get p = _; rw [bu.1 p hpu]; exact h1
    have t1 := wa_u U s
    rw [wW_u, e1] at t1
    have n1 := Un.next_r u1 i1.1 i1.2.1
    have n2 := ns_u U s1
    rw [wN_u, n1, mapr] at n2
    obtain ⟨k, t, a, g1, g2⟩ := unext_k (c := cuC c x lv) i2 i1
    rw [g1] at n2
    have e2 : remove_Remove_settles.v (P p) s1 = some (unit', s1) := by simp only [remove_Remove_settles.v, remove_Remove_settles.t, sy, reduceIte, Nat.reduceAdd, Nat.reduceLeDiff, Nat.reduceLT, Nat.reduceEqDiff, Int.reduceEq, Int.reduceLT, Int.reduceLE, Int.reduceNe, ly, ldc_row r1, n2, stepC, g2]
    exact ⟨s1, by simp only [remove_Remove_Wake.v, remove_Remove_Wake.t, sy, reduceIte, Nat.reduceAdd, Nat.reduceLeDiff, Nat.reduceLT, Nat.reduceEqDiff, Int.reduceEq, Int.reduceLT, Int.reduceLE, Int.reduceNe, ly, is, ldc_row h1, eqI_if, t1, e2], ⟨r1, u1⟩, .but bu h2 (.inr (.inl ⟨rfl, rfl⟩)), bu.2.1⟩
  | over mk e =>
    obtain ⟨pl, x, lv, h1⟩ := h
    have is := ris_p h1
    exact ⟨s, by simp only [remove_Remove_Wake.v, remove_Remove_Wake.t, sy, reduceIte, Nat.reduceAdd, Nat.reduceLeDiff, Nat.reduceLT, Nat.reduceEqDiff, Int.reduceEq, Int.reduceLT, Int.reduceLE, Int.reduceNe, ly, is, ldc_row h1], ⟨pl, x, lv, h1⟩, .refl _ _, rfl⟩
theorem next_p {s : St} {p b q U N : Nat} {c : RC} {m : RS} (h : AtP c s p b q U m) (hi : InvR c N m) : remove_Remove_Next.v (P p) s = some (.agg ⟨nextS c m⟩, s) := by
  cases m with
  | seek ms =>
    obtain ⟨h1, h2⟩ := h
    have is := ris_p h1
    have n1 := next_r h2
    have n2 := nx_s b s
    rw [wN_s, n1, mapr] at n2
    obtain ⟨k, t, a, r, g⟩ : ∃ k t a r, nextC ms = stepC k t a r := by unfold nextC; split <;> exact ⟨_, _, _, _, rfl⟩
    show remove_Remove_Next.v (P p) s = some (Value.agg ⟨nextC ms⟩, s)
    rw [g] at n2 ⊢
    simp only [remove_Remove_Next.v, remove_Remove_Next.t, remove_Remove_Next.t.p1, remove_Remove_Next.t.p2, sy, reduceIte, Nat.reduceAdd, Nat.reduceLeDiff, Nat.reduceLT, Nat.reduceEqDiff, Int.reduceEq, Int.reduceLT, Int.reduceLE, Int.reduceNe, ly, is, ldc_row h1, eqI_if, n2, stepC]
  | ask x =>
    have h1 : PRow s p (pmrow c .nilIface x (-1) false false 0) := h
    have is := ris_p h1
    simp only [remove_Remove_Next.v, remove_Remove_Next.t, remove_Remove_Next.t.p1, remove_Remove_Next.t.p2, sy, reduceIte, Nat.reduceAdd, Nat.reduceLeDiff, Nat.reduceLT, Nat.reduceEqDiff, Int.reduceEq, Int.reduceLT, Int.reduceLE, Int.reduceNe, ly, is, ldc_row h1, lda_row h1, eqI_ni, nextS, stepC]
  | leave x lv mu =>
    obtain ⟨h1, h2⟩ := h
    have is := ris_p h1
    have n1 := Un.next_r h2 hi.1.1 hi.1.2.1
    have n2 := nx_u U s
    rw [wN_u, n1, mapr] at n2
    obtain ⟨k, t, a, g1, g2⟩ := unext_k (c := cuC c x lv) hi.2.1 hi.1
    show remove_Remove_Next.v (P p) s = some (Value.agg ⟨Un.nextC (cuC c x lv) mu⟩, s)
    rw [g1] at n2 ⊢
    simp only [remove_Remove_Next.v, remove_Remove_Next.t, remove_Remove_Next.t.p1, remove_Remove_Next.t.p2, sy, reduceIte, Nat.reduceAdd, Nat.reduceLeDiff, Nat.reduceLT, Nat.reduceEqDiff, Int.reduceEq, Int.reduceLT, Int.reduceLE, Int.reduceNe, ly, is, ldc_row h1, eqI_if, n2, stepC]
  | over mk e =>
    obtain ⟨pl, x, lv, h1⟩ := h
    have is := ris_p h1
    simp only [remove_Remove_Next.v, remove_Remove_Next.t, remove_Remove_Next.t.p1, remove_Remove_Next.t.p2, sy, reduceIte, Nat.reduceAdd, Nat.reduceLeDiff, Nat.reduceLT, Nat.reduceEqDiff, Int.reduceEq, Int.reduceLT, Int.reduceLE, Int.reduceNe, ly, is, ldc_row h1, lda_row h1, nextS, stepC]
theorem marked_p {s : St} {p b q U : Nat} {c : RC} {m : RS} (h : AtP c s p b q U m) : remove_Remove_Marked.r (P p) s = some (.bool (markS m)) := by
  cases m with
  | seek ms =>
    have h1 := h.1
    have is := ris_p h1
    simp only [remove_Remove_Marked.r, remove_Remove_Marked.t, sy, reduceIte, Nat.reduceAdd, Nat.reduceLeDiff, Nat.reduceLT, Nat.reduceEqDiff, Int.reduceEq, Int.reduceLT, Int.reduceLE, Int.reduceNe, ly, is, ldc_row h1, markS]
  | ask x =>
    have h1 : PRow s p (pmrow c .nilIface x (-1) false false 0) := h
    have is := ris_p h1
    simp only [remove_Remove_Marked.r, remove_Remove_Marked.t, sy, reduceIte, Nat.reduceAdd, Nat.reduceLeDiff, Nat.reduceLT, Nat.reduceEqDiff, Int.reduceEq, Int.reduceLT, Int.reduceLE, Int.reduceNe, ly, is, ldc_row h1, markS]
  | leave x lv mu =>
    have h1 := h.1
    have is := ris_p h1
    simp only [remove_Remove_Marked.r, remove_Remove_Marked.t, sy, reduceIte, Nat.reduceAdd, Nat.reduceLeDiff, Nat.reduceLT, Nat.reduceEqDiff, Int.reduceEq, Int.reduceLT, Int.reduceLE, Int.reduceNe, ly, is, ldc_row h1, markS]
  | over mk e =>
    obtain ⟨pl, x, lv, h1⟩ := h
    have is := ris_p h1
    simp only [remove_Remove_Marked.r, remove_Remove_Marked.t, sy, reduceIte, Nat.reduceAdd, Nat.reduceLeDiff, Nat.reduceLT, Nat.reduceEqDiff, Int.reduceEq, Int.reduceLT, Int.reduceLE, Int.reduceNe, ly, is, ldc_row h1, markS]
theorem new_p {s : St} (hf : Fresh s) (c : RC) (hb : 0 ≤ c.st.bt) :
    (¬ (okC c.sk ∧ okO c.oa c.oo) ∧ ∃ s', remove_New.v (.agg ⟨c.cs⟩) s = some (T2 (.pointer none) 160, s') ∧ More s s') ∨
    ((okC c.sk ∧ okO c.oa c.oo) ∧ ∃ s', remove_New.v (.agg ⟨c.cs⟩) s = some (T2 (P (s.n + 2)) 0, s') ∧ AtP c s' (s.n + 2) (s.n + 1) s.n 0 (.seek (m0 c.sk)) ∧ More s s' ∧ s'.n = s.n + 3) := by
  have ck := check_r c.oa c.oo
  rcases new_r hf c.sk hb with ⟨hC, e1⟩ | ⟨hC, e1⟩
  · exact .inl ⟨fun g => hC g.1, s, by simp only [remove_New.v, remove_New.t, sy, reduceIte, Nat.reduceAdd, Nat.reduceLeDiff, Nat.reduceLT, Nat.reduceEqDiff, Int.reduceEq, Int.reduceLT, Int.reduceLE, Int.reduceNe, ly, e1], .refl _⟩
  · have hA2 := at_new hf c.sk
    have mo : More s (N2 s c.sk) := More.new.trans .new
    have n2 : (N2 s c.sk).n = s.n + 2 := rfl
    have f2 := mo.fresh hf
    generalize N2 s c.sk = s2 at *
    by_cases hO : okO c.oa c.oo
    · right
      have m3 : More s2 (s2.new (.row 20 [pmrow c (tS (s.n + 1)) zR (-1) false false 0] false)) := .new
      refine ⟨⟨hC, hO⟩, s2.new (.row 20 [pmrow c (tS (s.n + 1)) zR (-1) false false 0] false), ?_, ⟨by rw [← n2]; exact get_new_same, ⟨m3.get f2 hA2.row, m3.get f2 hA2.map⟩⟩, mo.trans m3, by show s2.n + 1 = _; omega⟩
      have := ck s2
      rw [if_pos hO] at this
      simp only [remove_New.v, remove_New.t, sy, reduceIte, Nat.reduceAdd, Nat.reduceLeDiff, Nat.reduceLT, Nat.reduceEqDiff, Int.reduceEq, Int.reduceLT, Int.reduceLE, Int.reduceNe, ly, e1, this, bx_if, alv_eq, n2]
    · left
      have := ck s2
      rw [if_neg hO] at this
      exact ⟨fun g => hO g.2, s2, by simp only [remove_New.v, remove_New.t, sy, reduceIte, Nat.reduceAdd, Nat.reduceLeDiff, Nat.reduceLT, Nat.reduceEqDiff, Int.reduceEq, Int.reduceLT, Int.reduceLE, Int.reduceNe, ly, e1, this], mo⟩
end Go.Proofs.Ytdppefkjoeefnaa
