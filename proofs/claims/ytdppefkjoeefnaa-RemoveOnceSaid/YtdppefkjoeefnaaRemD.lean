/-
  The reference's machine of package remove.
-/
import Derived.Test.YtdppefkjoeefnaaRemC
import Derived.Test.YtdppefkjoeefnaaMachO
set_option linter.unusedSimpArgs false
set_option linter.unusedVariables false
set_option maxRecDepth 100000
set_option maxHeartbeats 2000000
namespace Go.Proofs.Ytdppefkjoeefnaa
open Go.Sim Go.Sim.Bt
attribute [local congr] bdc cndc itec gdc gdSc gdUc

/-! ### The reference's search above a number -/

def truncS (s : St) (n0 : Nat) : St := ⟨s.h.filter fun e => decide (e.1 < n0), n0⟩
theorem getH_trunc (n0 : Nat) : ∀ (h : List (Nat × Blk)) (b : Nat), b < n0 → getH (h.filter fun e => decide (e.1 < n0)) b = getH h b
  | [], _, _ => rfl
  | (i, k) :: r, b, hb => by
    by_cases hi : i < n0
    · rw [List.filter_cons_of_pos (by simpa using hi)]
      simp only [getH, getH_trunc n0 r b hb]
    · rw [List.filter_cons_of_neg (by simpa using hi), getH_trunc n0 r b hb]
      simp only [getH]
      rw [if_neg (by omega)]
theorem more_trunc {s : St} {n0 : Nat} (f : Fresh s) (hn : n0 ≤ s.n) : More (truncS s n0) s := ⟨hn, fun b hb => (getH_trunc n0 s.h b hb).symm, fun _ => f⟩
/-- What does not lean on the heap's past. -/
structure AtN (n0 : Nat) (cf : Cf) (ms : Mm) (s : St) (d : Nat) (ws : List Wl) : Prop where
  ex : ∃ wv, RRow s d (rrow cf ms wv) ∧ Own n0 s 13 wv (rowsW ws)
  tab : ms.tab = tabW ws
  big : ws.length ≤ 100000
  dn : n0 ≤ d
theorem AtN.base {n0 : Nat} {cf : Cf} {ms : Mm} {s : St} {d : Nat} {ws : List Wl} (h : AtN n0 cf ms s d ws) (f : Fresh s) : ∃ wv, AtR cf ms (truncS s n0) s d wv ws := by
  obtain ⟨wv, h1, h2⟩ := h.ex
  have : n0 ≤ s.n := by have := f.lt h1; have := h.dn; omega
  exact ⟨wv, h1, h2, h.tab, more_trunc f this, h.big, h.dn⟩
theorem AtN.of {n0 : Nat} {cf : Cf} {ms : Mm} {s0 s : St} {d : Nat} {wv : Value} {ws : List Wl} (h : AtR cf ms s0 s d wv ws) (hn : s0.n = n0) : AtN n0 cf ms s d ws := by
  subst hn
  exact ⟨⟨wv, h.row, h.own⟩, h.tab, h.big, h.dn⟩
theorem AtN.stx {B : Nat → Nat → Prop} {n0 : Nat} {cf : Cf} {ms : Mm} {s s' : St} {d : Nat} {ws : List Wl} (h : AtN n0 cf ms s d ws) (k : StpX B s s') (h1 : ¬ B d 39) (h2 : ∀ x, ¬ B x 13) : AtN n0 cf ms s' d ws := by
  obtain ⟨wv, g1, g2⟩ := h.ex
  refine ⟨⟨wv, k.2.1 _ _ g1 h1, ?_⟩, h.tab, h.big, h.dn⟩
  rcases g2 with ⟨q1, q2⟩ | ⟨o, q1, q2, q3⟩
  · exact .inl ⟨q1, q2⟩
  · exact .inr ⟨o, q1, q2, k.2.1 _ _ q3 (h2 o)⟩

/-! ### The machine -/

abbrev rmrow (c : RC) (sp : Value) (x : Rf) (asks mk : Bool) (up : Value) (ov : Bool) (e : Int) : List Value :=
  [.int .i64 c.h, .int .i64 c.st.id, .int .i64 c.st.rk, .int .u64 c.st.n, .int .i64 c.st.ln, .int .u64 c.st.bt, .int .u64 c.key, .int .i64 c.oa, .int .i64 c.oo, sp,
   .int .i64 x.id, .int .i64 x.rk, .int .u64 x.n, .int .i64 x.ln, .int .u64 x.bt, .bool asks, .bool mk, up, .bool ov, .int .i64 e]
abbrev nilP : Value := .pointer none
def AtQ (c : RC) (s : St) (n0 p d V N : Nat) : RS → Prop
  | .seek ms => ∃ ws, PRow s p (rmrow c (P d) zR false false nilP false 0) ∧ AtN n0 c.sk ms s d ws ∧ ws.length ≤ N
  | .ask x => ∃ sp, PRow s p (rmrow c sp x true false nilP false 0)
  | .leave x lv mu => ∃ sp mr, PRow s p (rmrow c sp x false true (P V) false 0) ∧ Un.Row s V (Un.rrow (cuC c x lv) mr) ∧ Un.RelM mu mr
  | .over mk e => ∃ sp x asks up, PRow s p (rmrow c sp x asks mk up true e)
abbrev Bq (n0 p V : Nat) : Nat → Nat → Prop := fun y k => (k = 20 ∧ y = p) ∨ (k = 22 ∧ y = V) ∨ k = 39 ∨ (k = 13 ∧ n0 ≤ y)
theorem end_q {s : St} {p : Nat} {c : RC} {sp up : Value} {x : Rf} {asks mk ov : Bool} {e0 : Int} (h : PRow s p (rmrow c sp x asks mk up ov e0)) (e : Int) :
    leapfrogref16x_Remove_end.v (P p) (.int .i64 e) s = some (unit', PPut s p (rmrow c sp x asks mk up true e)) := by
  obtain ⟨s1, hs1⟩ : ∃ s1, s1 = PPut s p (rmrow c sp x asks mk up true e0) := ⟨_, rfl⟩
  have e1 : stv s 1 (.pointer (some ⟨p, 0, some 18⟩)) (.bool true) = some s1 := by rw [hs1]; simp only [stv_row h, sy, reduceIte, Nat.reduceAdd, Nat.reduceLeDiff, Nat.reduceLT, Nat.reduceEqDiff, Int.reduceEq, Int.reduceLT, Int.reduceLE, Int.reduceNe, ly]
  have r1 : PRow s1 p (rmrow c sp x asks mk up true e0) := by rw [hs1]; exact put_p h
  have e2 : stv s1 1 (.pointer (some ⟨p, 0, some 19⟩)) (.int .i64 e) = some (PPut s p (rmrow c sp x asks mk up true e)) := by
    simp only [stv_row r1, sy, reduceIte, Nat.reduceAdd, Nat.reduceLeDiff, Nat.reduceLT, Nat.reduceEqDiff, Int.reduceEq, Int.reduceLT, Int.reduceLE, Int.reduceNe, ly]
    rw [hs1, put_put]
  simp only [leapfrogref16x_Remove_end.v, leapfrogref16x_Remove_end.t, sy, reduceIte, Nat.reduceAdd, Nat.reduceLeDiff, Nat.reduceLT, Nat.reduceEqDiff, Int.reduceEq, Int.reduceLT, Int.reduceLE, Int.reduceNe, ly, e1, e2]
theorem over_q {s : St} {n0 p d V N : Nat} {c : RC} {sp up : Value} {x : Rf} {asks mk ov : Bool} {e0 e : Int} (h : PRow s p (rmrow c sp x asks mk up ov e0)) : AtQ c (PPut s p (rmrow c sp x asks mk up true e)) n0 p d V N (.over mk e) ∧ StpX (B0 p) s (PPut s p (rmrow c sp x asks mk up true e)) :=
  ⟨⟨sp, x, asks, up, put_p h⟩, .put h ⟨rfl, rfl⟩⟩
theorem rel_m0 : Un.RelM Un.m0 Un.m0 := ⟨rfl, rfl, rfl, fun _ => rfl, fun _ => rfl⟩
/-- The list of so many bits is left. -/
theorem leave_q {s : St} {n0 p d N : Nat} {c : RC} {sp up : Value} {x : Rf} (f : Fresh s) (hO : okO c.oa c.oo) (hb : 0 ≤ x.bt) (h : PRow s p (rmrow c sp x false true up false 0)) (wl wb : Int) (hwb : 0 ≤ wb) (lv : Nat) (hi : okV x.ln x.bt → wl = lv ∧ wb = ((x.bt.toNat / 2 ^ (x.ln.toNat - lv) : Nat) : Int) ∧ (lv : Int) ≤ x.ln) :
    ∃ s', leapfrogref16x_Remove_leave.v (P p) (.agg ⟨[.int .i64 wl, .int .u64 wb]⟩) s = some (unit', s') ∧ AtQ c s' n0 p d s.n N (leaveS x lv) ∧ StpX (B0 p) s s' := by
  have sm := same5 x
  have so := same2o c.oa c.oo
  unfold leaveS
  by_cases k1 : x.rk = 2 ∧ okV x.ln x.bt
  · obtain ⟨rfl, rfl, h3⟩ := hi k1.2
    have ok := ok_cu (c := c) hO k1.1 k1.2 h3
    rw [if_pos k1]
    rcases Un.new_r (s := s) f (cuC c x lv) hb (Int.natCast_nonneg _) with ⟨_, _, no⟩ | ⟨_, q1, _⟩
    · exact absurd ok no
    · have q1 := q1 s f
      have f2 : Fresh (s.new (.row 22 [Un.rrow (cuC c x lv) Un.m0] false)) := f.new
      have m2 : More s (s.new (.row 22 [Un.rrow (cuC c x lv) Un.m0] false)) := .new
      have u2 : Un.Row (s.new (.row 22 [Un.rrow (cuC c x lv) Un.m0] false)) s.n (Un.rrow (cuC c x lv) Un.m0) := get_new_same
      generalize s.new (.row 22 [Un.rrow (cuC c x lv) Un.m0] false) = s2 at *
      have r2 : PRow s2 p (rmrow c sp x false true up false 0) := m2.get f h
      have e3 : stv s2 1 (.pointer (some ⟨p, 0, some 17⟩)) (P s.n) = some (PPut s2 p (rmrow c sp x false true (P s.n) false 0)) := by simp only [stv_row r2, sy, reduceIte, Nat.reduceAdd, Nat.reduceLeDiff, Nat.reduceLT, Nat.reduceEqDiff, Int.reduceEq, Int.reduceLT, Int.reduceLE, Int.reduceNe, ly]
      have k4 : StpX (B0 p) s2 (PPut s2 p (rmrow c sp x false true (P s.n) false 0)) := .put r2 ⟨rfl, rfl⟩
      refine ⟨_, ?_, ⟨sp, Un.m0, put_p r2, k4.2.1 _ _ u2 (by simp [kd]), rel_m0⟩, (StpX.more m2 f).trans k4⟩
      simp only [cuC, Un.Cf.cs] at q1
      simp only [leapfrogref16x_Remove_leave.v, leapfrogref16x_Remove_leave.t, sy, reduceIte, Nat.reduceAdd, Nat.reduceLeDiff, Nat.reduceLT, Nat.reduceEqDiff, Int.reduceEq, Int.reduceLT, Int.reduceLE, Int.reduceNe, ly, lda_row h, q1, lda_row r2, sm, so, e3]
  · rw [if_neg k1]
    rcases Un.new_r (s := s) f ⟨wl, wb, x, c.oa, c.oo⟩ hb hwb with ⟨_, q1, _⟩ | ⟨_, _, ok⟩
    · have en := end_q h 0
      obtain ⟨g3, g4⟩ := over_q (n0 := n0) (d := d) (V := s.n) (N := N) (e := 0) h
      refine ⟨_, ?_, g3, g4⟩
      simp only [Un.Cf.cs] at q1
      simp only [leapfrogref16x_Remove_leave.v, leapfrogref16x_Remove_leave.t, sy, reduceIte, Nat.reduceAdd, Nat.reduceLeDiff, Nat.reduceLT, Nat.reduceEqDiff, Int.reduceEq, Int.reduceLT, Int.reduceLE, Int.reduceNe, ly, lda_row h, q1, sm, so, en]
    · exact absurd ⟨ok.1, ok.2.1⟩ k1
theorem half_bits {n b l : Nat} (h : 0 < l) (hl : l ≤ n) : b / 2 ^ (n - l) / 2 = b / 2 ^ (n - (l - 1)) := by
  rw [Nat.div_div_eq_div_mul, ← Nat.pow_succ]
  congr 2
  omega
/-- A list is left. -/
theorem left_q {s : St} {n0 p d V N lv : Nat} {c : RC} {sp : Value} {x : Rf} {mu mr : Un.Mm} (f : Fresh s) (hO : okO c.oa c.oo) (hx : okV x.ln x.bt) (hlv : (lv : Int) ≤ x.ln) (h : PRow s p (rmrow c sp x false true (P V) false 0)) (hu : Un.Row s V (Un.rrow (cuC c x lv) mr)) (hr : Un.RelM mu mr) (h10 : mu.at' = 10) :
    ∃ s' V', leapfrogref16x_Remove_left.v (P p) s = some (unit', s') ∧ AtQ c s' n0 p d V' N (leftS x lv mu) ∧ StpX (B0 p) s s' ∧ (V' = V ∨ s.n ≤ V') := by
  obtain ⟨n, b, e1, e2, g1, g2⟩ := id hx
  have hln : lv ≤ n := by omega
  have hme : mr.e = mu.e := hr.2.2.1
  have en := end_q h 0
  obtain ⟨g3, g4⟩ := over_q (n0 := n0) (d := d) (V := V) (N := N) (e := 0) h
  have hu' : s.get V = some (.row 22 [Un.rrow (cuC c x lv) mr] false) := hu
  unfold leftS
  rw [if_pos h10]
  rcases Classical.propComplete (mu.e = 0) with k3 | k3
  · have k3' : (mr.e = 0) = True := by rw [hme]; exact k3
    by_cases k2 : lv = 0
    · rw [if_pos k2]
      subst k2
      have e0 : (((0 : Nat) : Int) = 0) := rfl
      refine ⟨_, V, ?_, g3, g4, .inl rfl⟩
      simp only [cuC] at hu'
      simp only [leapfrogref16x_Remove_left.v, leapfrogref16x_Remove_left.t, sy, reduceIte, Nat.reduceAdd, Nat.reduceLeDiff, Nat.reduceLT, Nat.reduceEqDiff, Int.reduceEq, Int.reduceLT, Int.reduceLE, Int.reduceNe, ly, ldc_row h, lda_row hu', ldc_row hu', k3', e0, en]
    · rw [if_neg k2, if_pos (of_eq_true k3)]
      have e0 : ¬ ((lv : Int) = 0) := by omega
      have ew : IntKind.i64.wrap ((lv : Int) - 1) = ((lv - 1 : Nat) : Int) := by rw [wrap64 (by omega) (by omega)]; omega
      have hd : b / 2 ^ (n - lv) < 2 ^ lv := by
        rw [Nat.div_lt_iff_lt_mul (Nat.two_pow_pos _), ← Nat.pow_add, show lv + (n - lv) = n by omega]
        exact g2
      have hcu : ((x.bt.toNat / 2 ^ (x.ln.toNat - lv) : Nat) : Int) = ((b / 2 ^ (n - lv) : Nat) : Int) := by rw [e1, e2]; rfl
      have pf : leapfrogref01x_PrefixQ.r (.agg ⟨[.int .i64 (lv : Int), .int .u64 ((x.bt.toNat / 2 ^ (x.ln.toNat - lv) : Nat) : Int)]⟩) (.int .i64 ((lv - 1 : Nat) : Int)) s = some (T2 (.agg ⟨[.int .i64 ((lv - 1 : Nat) : Int), .int .u64 ((b / 2 ^ (n - lv) / 2 ^ (lv - (lv - 1)) : Nat) : Int)]⟩) 0) := by
        rw [hcu]
        exact rPrefix_ok s (by omega) hd (by omega)
      obtain ⟨s', l1, l2, l3⟩ := leave_q (n0 := n0) (d := d) (N := N) f hO (by rw [e2]; exact Int.natCast_nonneg _) h ((lv - 1 : Nat) : Int) ((b / 2 ^ (n - lv) / 2 ^ (lv - (lv - 1)) : Nat) : Int) (Int.natCast_nonneg _) (lv - 1) (fun _ => ⟨rfl, by
        rw [e1, e2, show lv - (lv - 1) = 1 by omega, Nat.pow_one, half_bits (by omega) hln]; rfl, by omega⟩)
      refine ⟨s', s.n, ?_, l2, l3, .inr (Nat.le_refl _)⟩
      simp only [cuC] at hu'
      simp only [leapfrogref16x_Remove_left.v, leapfrogref16x_Remove_left.t, sy, reduceIte, Nat.reduceAdd, Nat.reduceLeDiff, Nat.reduceLT, Nat.reduceEqDiff, Int.reduceEq, Int.reduceLT, Int.reduceLE, Int.reduceNe, ly, ldc_row h, lda_row hu', ldc_row hu', k3', e0, ew, pf, l1]
  · have k3' : (mr.e = 0) = False := by rw [hme]; exact k3
    have ov : (if lv = 0 then RS.over true 0 else if mu.e = 0 then leaveS x (lv - 1) else .over true 0) = .over true 0 := by rw [if_neg (of_eq_false k3)]; split <;> rfl
    rw [ov]
    refine ⟨_, V, ?_, g3, g4, .inl rfl⟩
    simp only [cuC] at hu'
    simp only [leapfrogref16x_Remove_left.v, leapfrogref16x_Remove_left.t, sy, reduceIte, Nat.reduceAdd, Nat.reduceLeDiff, Nat.reduceLT, Nat.reduceEqDiff, Int.reduceEq, Int.reduceLT, Int.reduceLE, Int.reduceNe, ly, ldc_row h, lda_row hu', ldc_row hu', k3', en]
theorem sought_q {s : St} {n0 p d V N : Nat} {c : RC} {ms : Mm} {wv : Value} (h : PRow s p (rmrow c (P d) zR false false nilP false 0)) (hR : RRow s d (rrow c.sk ms wv)) (ho : ms.ov = true) :
    ∃ s', leapfrogref16x_Remove_sought.v (P p) s = some (unit', s') ∧ AtQ c s' n0 p d V N (soughtS ms) ∧ StpX (B0 p) s s' := by
  unfold soughtS
  rw [if_pos ho]
  have hR' : s.get d = some (.row 39 [rrow c.sk ms wv] false) := hR
  rcases Classical.propComplete (ms.res.e = 0) with k0 | k0
  · rw [if_pos (of_eq_true k0)]
    cases hf : ms.res.found with
    | true =>
      rw [if_pos rfl]
      obtain ⟨s1, hs1⟩ : ∃ s1, s1 = PPut s p (rmrow c (P d) ms.res.r false false nilP false 0) := ⟨_, rfl⟩
      have e1 : stv s 5 (.pointer (some ⟨p, 0, some 10⟩)) (.agg ⟨ms.res.r.cs⟩) = some s1 := by rw [hs1]; simp only [stv_row h, sy, reduceIte, Nat.reduceAdd, Nat.reduceLeDiff, Nat.reduceLT, Nat.reduceEqDiff, Int.reduceEq, Int.reduceLT, Int.reduceLE, Int.reduceNe, ly]
      have r1 : PRow s1 p (rmrow c (P d) ms.res.r false false nilP false 0) := by rw [hs1]; exact put_p h
      have ka : StpX (B0 p) s s1 := by rw [hs1]; exact .put h ⟨rfl, rfl⟩
      have e2 : stv s1 1 (.pointer (some ⟨p, 0, some 15⟩)) (.bool true) = some (PPut s1 p (rmrow c (P d) ms.res.r true false nilP false 0)) := by simp only [stv_row r1, sy, reduceIte, Nat.reduceAdd, Nat.reduceLeDiff, Nat.reduceLT, Nat.reduceEqDiff, Int.reduceEq, Int.reduceLT, Int.reduceLE, Int.reduceNe, ly]
      exact ⟨_, by simp only [leapfrogref16x_Remove_sought.v, leapfrogref16x_Remove_sought.t, sy, reduceIte, Nat.reduceAdd, Nat.reduceLeDiff, Nat.reduceLT, Nat.reduceEqDiff, Int.reduceEq, Int.reduceLT, Int.reduceLE, Int.reduceNe, ly, ldc_row h, lda_row hR', k0, hf, e1, e2], ⟨P d, put_p r1⟩, ka.trans (.put r1 ⟨rfl, rfl⟩)⟩
    | false =>
      rw [if_neg (by simp)]
      have en := end_q h 101
      obtain ⟨g3, g4⟩ := over_q (n0 := n0) (d := d) (V := V) (N := N) (e := 101) h
      exact ⟨_, by simp only [leapfrogref16x_Remove_sought.v, leapfrogref16x_Remove_sought.t, sy, reduceIte, Nat.reduceAdd, Nat.reduceLeDiff, Nat.reduceLT, Nat.reduceEqDiff, Int.reduceEq, Int.reduceLT, Int.reduceLE, Int.reduceNe, ly, ldc_row h, lda_row hR', k0, hf, en], g3, g4⟩
  · rw [if_neg (of_eq_false k0)]
    have en := end_q h ms.res.e
    obtain ⟨g3, g4⟩ := over_q (n0 := n0) (d := d) (V := V) (N := N) (e := ms.res.e) h
    exact ⟨_, by simp only [leapfrogref16x_Remove_sought.v, leapfrogref16x_Remove_sought.t, sy, reduceIte, Nat.reduceAdd, Nat.reduceLeDiff, Nat.reduceLT, Nat.reduceEqDiff, Int.reduceEq, Int.reduceLT, Int.reduceLE, Int.reduceNe, ly, ldc_row h, lda_row hR', k0, en], g3, g4⟩
theorem b0q {n0 p V x n : Nat} (h : B0 p x n) : Bq n0 p V x n := .inl h
theorem tell_q {s : St} {n0 p d V N : Nat} {c : RC} {m : RS} (f : Fresh s) (hN : N ≤ 90000) (hO : okO c.oa c.oo) (h : AtQ c s n0 p d V N m) (hi : InvR c N m) (a : Ans) {xo : Option Rf} (hx : HasC m a xo) :
    ∃ s' V', leapfrogref16x_Remove_Tell.v (P p) (.agg ⟨a.cs⟩) s = some (unit', s') ∧ AtQ c s' n0 p d V' (N + 1) (tellS c a xo m) ∧ StpX (Bq n0 p V) s s' ∧ (V' = V ∨ s.n ≤ V') := by
  cases m with
  | seek ms =>
    obtain ⟨ws, h1, h2, h3⟩ := h
    obtain ⟨i1, i2, i3, i4⟩ := hi
    obtain ⟨D, hc, hD⟩ := hx ms rfl
    obtain ⟨wv, hR⟩ := h2.base f
    obtain ⟨s1, wv1, ws1, e1, hR1, st1, hl1⟩ := rtell_f f (by omega) hR i1.n0 i1.okw a hc hD
    have k1 : StpX (Bq n0 p V) s s1 := ⟨st1.1, fun x k hx hk => by
      refine st1.2.1 x k hx ?_ ?_
      · rintro rfl
        have := hR.row; unfold RRow at this; rw [hx] at this; cases this
        exact hk (.inr (.inr (.inl rfl)))
      · by_cases hxn : x < n0
        · exact .inl hxn
        · refine .inr fun rows ro e => ?_
          subst e
          exact hk (.inr (.inr (.inr ⟨rfl, by omega⟩))), st1.2.2⟩
    have f1 := k1.2.2 f
    have hpd : p ≠ d := by rintro rfl; have := h2.ex; obtain ⟨_, g, _⟩ := this; unfold RRow at g; rw [h1] at g; simp at g
    have r1 : PRow s1 p (rmrow c (P d) zR false false nilP false 0) := st1.2.1 p _ h1 hpd (.inr fun rows ro => by simp)
    have hN1 : AtN n0 c.sk (tellF c.sk ms a xo) s1 d ws1 := .of hR1 rfl
    have hR1' : s1.get d = some (.row 39 [rrow c.sk (tellF c.sk ms a xo) wv1] false) := hR1.row
    show ∃ s' V', _ ∧ AtQ c s' n0 p d V' (N + 1) (soughtS (tellF c.sk ms a xo)) ∧ _ ∧ _
    generalize tellF c.sk ms a xo = m2 at *
    cases ho : m2.ov with
    | true =>
      obtain ⟨s2, e2, g1, g2⟩ := sought_q (n0 := n0) (V := V) (N := N + 1) r1 hR1' ho
      exact ⟨s2, V, by simp only [leapfrogref16x_Remove_Tell.v, leapfrogref16x_Remove_Tell.t, leapfrogref16x_Remove_Tell.t.p1, sy, reduceIte, Nat.reduceAdd, Nat.reduceLeDiff, Nat.reduceLT, Nat.reduceEqDiff, Int.reduceEq, Int.reduceLT, Int.reduceLE, Int.reduceNe, ly, ldc_row h1, e1, ldc_row r1, ldc_row hR1', ho, e2], g1, k1.trans (g2.mono fun _ _ => b0q), .inl rfl⟩
    | false =>
      refine ⟨s1, V, by simp only [leapfrogref16x_Remove_Tell.v, leapfrogref16x_Remove_Tell.t, leapfrogref16x_Remove_Tell.t.p1, sy, reduceIte, Nat.reduceAdd, Nat.reduceLeDiff, Nat.reduceLT, Nat.reduceEqDiff, Int.reduceEq, Int.reduceLT, Int.reduceLE, Int.reduceNe, ly, ldc_row h1, e1, ldc_row r1, ldc_row hR1', ho], ?_, k1, .inl rfl⟩
      unfold soughtS
      rw [if_neg (by rw [ho]; simp)]
      exact ⟨ws1, r1, hN1, by omega⟩
  | ask x =>
    obtain ⟨sp, h1⟩ := h
    obtain ⟨i1, i2, i3⟩ := hi
    obtain ⟨s1, hs1⟩ : ∃ s1, s1 = PPut s p (rmrow c sp x false false nilP false 0) := ⟨_, rfl⟩
    have e1 : stv s 1 (.pointer (some ⟨p, 0, some 15⟩)) (.bool false) = some s1 := by rw [hs1]; simp only [stv_row h1, sy, reduceIte, Nat.reduceAdd, Nat.reduceLeDiff, Nat.reduceLT, Nat.reduceEqDiff, Int.reduceEq, Int.reduceLT, Int.reduceLE, Int.reduceNe, ly]
    have r1 : PRow s1 p (rmrow c sp x false false nilP false 0) := by rw [hs1]; exact put_p h1
    have ka : StpX (B0 p) s s1 := by rw [hs1]; exact .put h1 ⟨rfl, rfl⟩
    unfold tellS
    simp only []
    rcases Classical.propComplete (a.k = 1) with k1 | k1
    · rw [if_pos (of_eq_true k1)]
      have k3 : (a.k = 3) = False := eq_false (by have := of_eq_true k1; omega)
      obtain ⟨s2, hs2⟩ : ∃ s2, s2 = PPut s1 p (rmrow c sp x false true nilP false 0) := ⟨_, rfl⟩
      have e2 : stv s1 1 (.pointer (some ⟨p, 0, some 16⟩)) (.bool true) = some s2 := by rw [hs2]; simp only [stv_row r1, sy, reduceIte, Nat.reduceAdd, Nat.reduceLeDiff, Nat.reduceLT, Nat.reduceEqDiff, Int.reduceEq, Int.reduceLT, Int.reduceLE, Int.reduceNe, ly]
      have r2 : PRow s2 p (rmrow c sp x false true nilP false 0) := by rw [hs2]; exact put_p r1
      have kb : StpX (B0 p) s1 s2 := by rw [hs2]; exact .put r1 ⟨rfl, rfl⟩
      have f2 := (ka.trans kb).2.2 f
      have hn : s2.n = s.n := by rw [hs2, hs1]; rfl
      obtain ⟨s3, l1, l2, l3⟩ := leave_q (n0 := n0) (d := d) (N := N + 1) f2 hO i3 r2 x.ln x.bt i3 x.ln.toNat (fun g => by
        obtain ⟨n, b, q1, q2, _⟩ := g
        refine ⟨by omega, ?_, by omega⟩
        rw [Nat.sub_self, Nat.pow_zero, Nat.div_one]; omega)
      refine ⟨s3, s2.n, ?_, l2, ((ka.trans kb).trans l3).mono fun _ _ => b0q, .inr (by omega)⟩
      have hk1 := of_eq_true k1
      simp only [leapfrogref16x_Remove_Tell.v, leapfrogref16x_Remove_Tell.t, leapfrogref16x_Remove_Tell.t.p1, sy, reduceIte, Nat.reduceAdd, Nat.reduceLeDiff, Nat.reduceLT, Nat.reduceEqDiff, Int.reduceEq, Int.reduceLT, Int.reduceLE, Int.reduceNe, ly, ldc_row h1, e1, k3, k1, e2, lda_row r2, l1]
    · rw [if_neg (of_eq_false k1)]
      rcases Classical.propComplete (a.k = 3) with k3 | k3
      · rw [if_pos (of_eq_true k3)]
        have en := end_q r1 132
        obtain ⟨g3, g4⟩ := over_q (n0 := n0) (d := d) (V := V) (N := N + 1) (e := 132) r1
        exact ⟨_, V, by simp only [leapfrogref16x_Remove_Tell.v, leapfrogref16x_Remove_Tell.t, leapfrogref16x_Remove_Tell.t.p1, sy, reduceIte, Nat.reduceAdd, Nat.reduceLeDiff, Nat.reduceLT, Nat.reduceEqDiff, Int.reduceEq, Int.reduceLT, Int.reduceLE, Int.reduceNe, ly, ldc_row h1, e1, k1, k3, en], g3, (ka.trans g4).mono fun _ _ => b0q, .inl rfl⟩
      · rw [if_neg (of_eq_false k3)]
        have en := end_q r1 101
        obtain ⟨g3, g4⟩ := over_q (n0 := n0) (d := d) (V := V) (N := N + 1) (e := 101) r1
        exact ⟨_, V, by simp only [leapfrogref16x_Remove_Tell.v, leapfrogref16x_Remove_Tell.t, leapfrogref16x_Remove_Tell.t.p1, sy, reduceIte, Nat.reduceAdd, Nat.reduceLeDiff, Nat.reduceLT, Nat.reduceEqDiff, Int.reduceEq, Int.reduceLT, Int.reduceLE, Int.reduceNe, ly, ldc_row h1, e1, k1, k3, en], g3, (ka.trans g4).mono fun _ _ => b0q, .inl rfl⟩
  | leave x lv mu =>
    obtain ⟨sp, mr, h1, h2, h3⟩ := h
    obtain ⟨i1, i2, i3, i4, i5⟩ := hi
    have hat : mr.at' = mu.at' := h3.1
    obtain ⟨s1, e1, u1, bu⟩ := Un.rtell_r h2 (by rw [hat]; exact i1.1) (by rw [hat]; exact i1.2.1) a
    have hpu : p ≠ V := by rintro rfl; unfold Un.Row at h2; rw [h1] at h2; simp at h2
    have r1 : PRow s1 p (rmrow c sp x false true (P V) false 0) := by show s1.get p = _; rw [bu.1 p hpu]; exact h1
    have f1 := bu.2.2 f
    have ku : StpX (Bq n0 p V) s s1 := .but bu h2 (.inr (.inl ⟨rfl, rfl⟩))
    have rel := Un.rel_tell (c := cuC c x lv) i1 h3 a
    have u1' : s1.get V = some (.row 22 [Un.rrow (cuC c x lv) (Un.tellR (cuC c x lv) mr a)] false) := u1
    show ∃ s' V', _ ∧ AtQ c s' n0 p d V' (N + 1) (leftS x lv (Un.tellC (cuC c x lv) mu a)) ∧ _ ∧ _
    generalize Un.tellC (cuC c x lv) mu a = m2 at *
    generalize Un.tellR (cuC c x lv) mr a = q2 at *
    have hat2 : q2.at' = m2.at' := rel.1
    rcases Classical.propComplete (m2.at' = 10) with k1 | k1
    · have k1' : (q2.at' = 10) = True := by rw [hat2]; exact k1
      obtain ⟨s2, V', e2, g1, g2, g3⟩ := left_q (n0 := n0) (d := d) (N := N + 1) f1 hO i4 i5 r1 u1 rel (of_eq_true k1)
      exact ⟨s2, V', by simp only [leapfrogref16x_Remove_Tell.v, leapfrogref16x_Remove_Tell.t, leapfrogref16x_Remove_Tell.t.p1, sy, reduceIte, Nat.reduceAdd, Nat.reduceLeDiff, Nat.reduceLT, Nat.reduceEqDiff, Int.reduceEq, Int.reduceLT, Int.reduceLE, Int.reduceNe, ly, ldc_row h1, e1, ldc_row r1, ldc_row u1', k1', e2], g1, ku.trans (g2.mono fun _ _ => b0q), by rw [← bu.2.1]; exact g3⟩
    · have k1' : (q2.at' = 10) = False := by rw [hat2]; exact k1
      refine ⟨s1, V, by simp only [leapfrogref16x_Remove_Tell.v, leapfrogref16x_Remove_Tell.t, leapfrogref16x_Remove_Tell.t.p1, sy, reduceIte, Nat.reduceAdd, Nat.reduceLeDiff, Nat.reduceLT, Nat.reduceEqDiff, Int.reduceEq, Int.reduceLT, Int.reduceLE, Int.reduceNe, ly, ldc_row h1, e1, ldc_row r1, ldc_row u1', k1'], ?_, ku, .inl rfl⟩
      unfold leftS
      rw [if_neg (of_eq_false k1)]
      exact ⟨sp, q2, r1, u1, rel⟩
  | over mk e =>
    obtain ⟨sp, x, asks, up, h1⟩ := h
    exact ⟨s, V, by simp only [leapfrogref16x_Remove_Tell.v, leapfrogref16x_Remove_Tell.t, leapfrogref16x_Remove_Tell.t.p1, sy, reduceIte, Nat.reduceAdd, Nat.reduceLeDiff, Nat.reduceLT, Nat.reduceEqDiff, Int.reduceEq, Int.reduceLT, Int.reduceLE, Int.reduceNe, ly, ldc_row h1], ⟨sp, x, asks, up, h1⟩, .refl _ _, .inl rfl⟩
theorem wake_q {s : St} {n0 p d V N : Nat} {c : RC} {m : RS} (f : Fresh s) (h : AtQ c s n0 p d V N m) (hi : InvR c N m) :
    ∃ s', leapfrogref16x_Remove_Wake.v (P p) s = some (unit', s') ∧ AtQ c s' n0 p d V N (wakeS m) ∧ StpX (Bq n0 p V) s s' ∧ s'.n = s.n := by
  cases m with
  | seek ms =>
    obtain ⟨ws, h1, h2, h3⟩ := h
    exact ⟨s, by simp only [leapfrogref16x_Remove_Wake.v, leapfrogref16x_Remove_Wake.t, sy, reduceIte, Nat.reduceAdd, Nat.reduceLeDiff, Nat.reduceLT, Nat.reduceEqDiff, Int.reduceEq, Int.reduceLT, Int.reduceLE, Int.reduceNe, ly, ldc_row h1], ⟨ws, h1, h2, h3⟩, .refl _ _, rfl⟩
  | ask x =>
    obtain ⟨sp, h1⟩ := h
    exact ⟨s, by simp only [leapfrogref16x_Remove_Wake.v, leapfrogref16x_Remove_Wake.t, sy, reduceIte, Nat.reduceAdd, Nat.reduceLeDiff, Nat.reduceLT, Nat.reduceEqDiff, Int.reduceEq, Int.reduceLT, Int.reduceLE, Int.reduceNe, ly, ldc_row h1], ⟨sp, h1⟩, .refl _ _, rfl⟩
  | leave x lv mu =>
    obtain ⟨sp, mr, h1, h2, h3⟩ := h
    obtain ⟨s1, e1, u1, bu⟩ := Un.rwake_r h2
    have hpu : p ≠ V := by rintro rfl; unfold Un.Row at h2; rw [h1] at h2; simp at h2
    have r1 : PRow s1 p (rmrow c sp x false true (P V) false 0) := by show s1.get p = _; rw [bu.1 p hpu]; exact h1
    exact ⟨s1, by simp only [leapfrogref16x_Remove_Wake.v, leapfrogref16x_Remove_Wake.t, sy, reduceIte, Nat.reduceAdd, Nat.reduceLeDiff, Nat.reduceLT, Nat.reduceEqDiff, Int.reduceEq, Int.reduceLT, Int.reduceLE, Int.reduceNe, ly, ldc_row h1, e1], ⟨sp, _, r1, u1, Un.rel_wake h3⟩, .but bu h2 (.inr (.inl ⟨rfl, rfl⟩)), bu.2.1⟩
  | over mk e =>
    obtain ⟨sp, x, asks, up, h1⟩ := h
    exact ⟨s, by simp only [leapfrogref16x_Remove_Wake.v, leapfrogref16x_Remove_Wake.t, sy, reduceIte, Nat.reduceAdd, Nat.reduceLeDiff, Nat.reduceLT, Nat.reduceEqDiff, Int.reduceEq, Int.reduceLT, Int.reduceLE, Int.reduceNe, ly, ldc_row h1], ⟨sp, x, asks, up, h1⟩, .refl _ _, rfl⟩
theorem next_q {s : St} {n0 p d V N : Nat} {c : RC} {m : RS} (f : Fresh s) (h : AtQ c s n0 p d V N m) (hi : InvR c N m) : leapfrogref16x_Remove_Next.r (P p) s = some (.agg ⟨nextS c m⟩) := by
  cases m with
  | seek ms =>
    obtain ⟨ws, h1, h2, h3⟩ := h
    obtain ⟨wv, hR⟩ := h2.base f
    have n2 := rnext_r hR
    obtain ⟨k, t, a, r, g⟩ : ∃ k t a r, nextC ms = stepC k t a r := by unfold nextC; split <;> exact ⟨_, _, _, _, rfl⟩
    show leapfrogref16x_Remove_Next.r (P p) s = some (Value.agg ⟨nextC ms⟩)
    rw [g] at n2 ⊢
    simp only [leapfrogref16x_Remove_Next.r, leapfrogref16x_Remove_Next.t, leapfrogref16x_Remove_Next.t.p1, leapfrogref16x_Remove_Next.t.p2, sy, reduceIte, Nat.reduceAdd, Nat.reduceLeDiff, Nat.reduceLT, Nat.reduceEqDiff, Int.reduceEq, Int.reduceLT, Int.reduceLE, Int.reduceNe, ly, ldc_row h1, n2, stepC]
  | ask x =>
    obtain ⟨sp, h1⟩ := h
    simp only [leapfrogref16x_Remove_Next.r, leapfrogref16x_Remove_Next.t, leapfrogref16x_Remove_Next.t.p1, leapfrogref16x_Remove_Next.t.p2, sy, reduceIte, Nat.reduceAdd, Nat.reduceLeDiff, Nat.reduceLT, Nat.reduceEqDiff, Int.reduceEq, Int.reduceLT, Int.reduceLE, Int.reduceNe, ly, ldc_row h1, lda_row h1, nextS, stepC]
  | leave x lv mu =>
    obtain ⟨sp, mr, h1, h2, h3⟩ := h
    obtain ⟨i1, i2, i3, i4, i5⟩ := hi
    have hat : mr.at' = mu.at' := h3.1
    have n2 := Un.rnext_r h2 (by rw [hat]; exact i1.1) (by rw [hat]; exact i1.2.1)
    rw [Un.rel_next i1 h3] at n2
    obtain ⟨k, t, a, g1, g2⟩ := unext_k (c := cuC c x lv) i2 i1
    show leapfrogref16x_Remove_Next.r (P p) s = some (Value.agg ⟨Un.nextC (cuC c x lv) mu⟩)
    rw [g1] at n2 ⊢
    simp only [leapfrogref16x_Remove_Next.r, leapfrogref16x_Remove_Next.t, leapfrogref16x_Remove_Next.t.p1, leapfrogref16x_Remove_Next.t.p2, sy, reduceIte, Nat.reduceAdd, Nat.reduceLeDiff, Nat.reduceLT, Nat.reduceEqDiff, Int.reduceEq, Int.reduceLT, Int.reduceLE, Int.reduceNe, ly, ldc_row h1, n2, stepC]
  | over mk e =>
    obtain ⟨sp, x, asks, up, h1⟩ := h
    simp only [leapfrogref16x_Remove_Next.r, leapfrogref16x_Remove_Next.t, leapfrogref16x_Remove_Next.t.p1, leapfrogref16x_Remove_Next.t.p2, sy, reduceIte, Nat.reduceAdd, Nat.reduceLeDiff, Nat.reduceLT, Nat.reduceEqDiff, Int.reduceEq, Int.reduceLT, Int.reduceLE, Int.reduceNe, ly, ldc_row h1, lda_row h1, nextS, stepC]
theorem mark_q {s : St} {n0 p d V N : Nat} {c : RC} {m : RS} (h : AtQ c s n0 p d V N m) : ldc s (.pointer (some ⟨p, 0, some 16⟩)) = some (.bool (markS m)) := by
  cases m with
  | seek ms => obtain ⟨ws, h1, h2, h3⟩ := h; simp only [ldc_row h1, sy, reduceIte, Nat.reduceAdd, Nat.reduceLeDiff, Nat.reduceLT, Nat.reduceEqDiff, Int.reduceEq, Int.reduceLT, Int.reduceLE, Int.reduceNe, ly, markS]
  | ask x => obtain ⟨sp, h1⟩ := h; simp only [ldc_row h1, sy, reduceIte, Nat.reduceAdd, Nat.reduceLeDiff, Nat.reduceLT, Nat.reduceEqDiff, Int.reduceEq, Int.reduceLT, Int.reduceLE, Int.reduceNe, ly, markS]
  | leave x lv mu => obtain ⟨sp, mr, h1, h2, h3⟩ := h; simp only [ldc_row h1, sy, reduceIte, Nat.reduceAdd, Nat.reduceLeDiff, Nat.reduceLT, Nat.reduceEqDiff, Int.reduceEq, Int.reduceLT, Int.reduceLE, Int.reduceNe, ly, markS]
  | over mk e => obtain ⟨sp, x, asks, up, h1⟩ := h; simp only [ldc_row h1, sy, reduceIte, Nat.reduceAdd, Nat.reduceLeDiff, Nat.reduceLT, Nat.reduceEqDiff, Int.reduceEq, Int.reduceLT, Int.reduceLE, Int.reduceNe, ly, markS]
theorem rnew_q {s : St} (hf : Fresh s) (c : RC) (hb : 0 ≤ c.st.bt) :
    (¬ (okC c.sk ∧ okO c.oa c.oo) ∧ ∃ s', leapfrogref16x_New.v (.agg ⟨c.cs⟩) s = some (T2 (.pointer none) 160, s') ∧ More s s') ∨
    ((okC c.sk ∧ okO c.oa c.oo) ∧ ∃ s', leapfrogref16x_New.v (.agg ⟨c.cs⟩) s = some (T2 (P (s.n + 1)) 0, s') ∧ AtQ c s' s.n (s.n + 1) s.n 0 0 (.seek (m0 c.sk)) ∧ More s s' ∧ s'.n = s.n + 2) := by
  have ck := isOwner_r c.oa c.oo
  have at2 : leapfrogref02x_At.r (.int .u64 c.key) s = some (KV 2 c.key) := by simp only [leapfrogref02x_At.r, leapfrogref02x_At.t, sy, reduceIte, Nat.reduceAdd, Nat.reduceLeDiff, Nat.reduceLT, Nat.reduceEqDiff, Int.reduceEq, Int.reduceLT, Int.reduceLE, Int.reduceNe, ly]
  rcases rnew_r s c.sk hb with ⟨hC, e1⟩ | ⟨hC, e1⟩
  · exact .inl ⟨fun g => hC g.1, s, by simp only [leapfrogref16x_New.v, leapfrogref16x_New.t, sy, reduceIte, Nat.reduceAdd, Nat.reduceLeDiff, Nat.reduceLT, Nat.reduceEqDiff, Int.reduceEq, Int.reduceLT, Int.reduceLE, Int.reduceNe, ly, at2, e1], .refl _⟩
  · have mo : More s (s.new (.row 39 [rrow c.sk (m0 c.sk) (.slice none 0 0)] false)) := .new
    have hR : RRow (s.new (.row 39 [rrow c.sk (m0 c.sk) (.slice none 0 0)] false)) s.n (rrow c.sk (m0 c.sk) (.slice none 0 0)) := get_new_same
    have n2 : (s.new (.row 39 [rrow c.sk (m0 c.sk) (.slice none 0 0)] false)).n = s.n + 1 := rfl
    have f2 := mo.fresh hf
    generalize s.new (.row 39 [rrow c.sk (m0 c.sk) (.slice none 0 0)] false) = s2 at *
    by_cases hO : okO c.oa c.oo
    · right
      have m3 : More s2 (s2.new (.row 20 [rmrow c (P s.n) zR false false nilP false 0] false)) := .new
      refine ⟨⟨hC, hO⟩, s2.new (.row 20 [rmrow c (P s.n) zR false false nilP false 0] false), ?_, ⟨[], by rw [← n2]; exact get_new_same, ⟨⟨_, m3.get f2 hR, .inl ⟨rfl, rfl⟩⟩, rfl, Nat.zero_le _, Nat.le_refl _⟩, Nat.le_refl _⟩, mo.trans m3, by show s2.n + 1 = _; omega⟩
      have := ck s2
      rw [decide_eq_true hO] at this
      simp only [leapfrogref16x_New.v, leapfrogref16x_New.t, sy, reduceIte, Nat.reduceAdd, Nat.reduceLeDiff, Nat.reduceLT, Nat.reduceEqDiff, Int.reduceEq, Int.reduceLT, Int.reduceLE, Int.reduceNe, ly, at2, e1, this, alv_eq, n2]
    · left
      have := ck s2
      rw [decide_eq_false hO] at this
      exact ⟨fun g => hO g.2, s2, by simp only [leapfrogref16x_New.v, leapfrogref16x_New.t, sy, reduceIte, Nat.reduceAdd, Nat.reduceLeDiff, Nat.reduceLT, Nat.reduceEqDiff, Int.reduceEq, Int.reduceLT, Int.reduceLE, Int.reduceNe, ly, at2, e1, this], mo⟩
end Go.Proofs.Ytdppefkjoeefnaa
