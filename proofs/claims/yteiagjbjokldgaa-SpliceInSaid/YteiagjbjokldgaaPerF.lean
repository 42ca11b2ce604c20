/-
  The document's peer in memory: new ones; a law's reading of one.
-/
import Derived.Test.YteiagjbjokldgaaPerE
set_option linter.unusedSimpArgs false
set_option linter.unusedVariables false
set_option maxRecDepth 100000
set_option maxHeartbeats 2000000
namespace Go.Proofs.Yteiagjbjokldgaa
open Go.Sim Go.Sim.Bt
attribute [local congr] bdc cndc itec gdc gdSc gdUc

theorem app0 {s : St} {b sz by_ : Nat} {x : Value} (hn : lenV x = some 0) (hr : rowsOf s sz 0 x = some []) (hg : s.get b = some (.row sz [] false)) : app s sz by_ (.slice (some ⟨b, 0, some 0⟩) 0 0) x = some (.slice (some ⟨b, 0, some 0⟩) 0 0, s.put b (.row sz [] false)) := by
  unfold app
  rw [hn]
  simp [hr, hg]
/-- A new one, of no value. -/
theorem new_p {s : St} (f : Fresh s) {me : Rf} (hk : me.rk = 2) (hm : okV me.ln me.bt) (h1 : 2 ≤ me.id) (h2 : me.id < 1024) :
    ∃ b s', leapfrogref09x_New.v (.agg ⟨me.cs⟩) (.slice none 0 0) s = some (.tuple ⟨[PP b, .int .i64 0]⟩, s') ∧ AtP ⟨me, false, false, false, [], .slice (some ⟨s.n, 0, some 0⟩) 0 0, []⟩ s' b ∧ More s s' ∧ Fresh s' ∧ s.n ≤ b := by
  have r1 := rright_i me.ln me.bt (okV_in hm).2.2 s
  have r1 : leapfrogref01x_Right.r (VI me.ln me.bt) s = some (.bool true) := vright_r hm s
  have c1 : ¬ (me.id < 2) := by omega
  have c2 : ¬ (1024 ≤ me.id) := by omega
  have c3 : ¬ ((1024 : Int) < ((0 : Nat) : Int)) := by omega
  have g1 : (s.new (.row 1 [] false)).get s.n = some (.row 1 [] false) := get_new_same
  have m1 : More s (s.new (.row 1 [] false)) := .new
  have f1 := m1.fresh f
  have a0 : app (s.new (.row 1 [] false)) 1 1 (.slice (some ⟨s.n, 0, some 0⟩) 0 0) (.slice none 0 0) = _ := app0 (x := .slice none 0 0) rfl rfl g1
  obtain ⟨s2, hs2⟩ : ∃ s2, s2 = (s.new (.row 1 [] false)).put s.n (.row 1 [] false) := ⟨_, rfl⟩
  have g2 : s2.get s.n = some (.row 1 [] false) := by rw [hs2]; exact get_put_same g1
  have m2 : More s s2 := by rw [hs2]; exact m1.put (Nat.le_refl _)
  rw [← hs2] at a0
  have f2 := m2.fresh f
  obtain ⟨X, hX⟩ : ∃ X, X = prow ⟨me, false, false, false, [], .slice (some ⟨s.n, 0, some 0⟩) 0 0, []⟩ (.slice (some ⟨s.n, 0, some 0⟩) 0 0) (.slice none 0 0) := ⟨_, rfl⟩
  have e0 : alv s2 (.agg ⟨X⟩) = some (PP s2.n, s2.new (.row 11 [X] false)) := by rw [hX]; rfl
  have b0 : Byt s2 (.slice (some ⟨s.n, 0, some 0⟩) 0 0) [] := ⟨⟨_, _, _, rfl⟩, rfl, by simp [rowsOf, g2], ⟨[], rfl⟩⟩
  have m3 : More s2 (s2.new (.row 11 [X] false)) := .new
  have hA : AtP ⟨me, false, false, false, [], .slice (some ⟨s.n, 0, some 0⟩) 0 0, []⟩ (s2.new (.row 11 [X] false)) s2.n := ⟨⟨_, _, by rw [hX]; exact get_new_same, .nil, ⟨b0.stp (StpK.more (ks := []) m3 f2) (by simp), rfl⟩⟩, by simp, (fun r hr => by simp at hr), hm, by simp⟩
  refine ⟨s2.n, _, ?_, hA, m2.trans m3, m3.fresh f2, m2.n⟩
  simp only [prow, hk] at hX
  rw [hX] at e0
  simp only [leapfrogref09x_New.v, leapfrogref09x_New.t, sy, reduceIte, Nat.reduceAdd, Nat.reduceLeDiff, Nat.reduceLT, Nat.reduceEqDiff, Int.reduceEq, Int.reduceLT, Int.reduceLE, Int.reduceNe, ly, hk, r1, c1, c2, c3, als_eq, Nat.reduceMul, List.replicate_zero, a0, e0, hX]
/-- One that is not: an end. -/
theorem new_end {s : St} {me : Rf} {v : Value} (hk : me.rk ≠ 2) : leapfrogref09x_New.v (.agg ⟨me.cs⟩) v s = some (.tuple ⟨[.pointer none, .int .i64 90]⟩, s) := by
  simp only [leapfrogref09x_New.v, leapfrogref09x_New.t, sy, reduceIte, Nat.reduceAdd, Nat.reduceLeDiff, Nat.reduceLT, Nat.reduceEqDiff, Int.reduceEq, Int.reduceLT, Int.reduceLE, Int.reduceNe, ly, hk]
theorem end_p {s : St} (f : Fresh s) (hi : Bool) {h : Int} (h0 : 0 ≤ h) (h1 : h ≤ 32) :
    ∃ b s', leapfrogref09x_NewEnd.v (.bool hi) (.int .i64 h) s = some (.tuple ⟨[PP b, .int .i64 0]⟩, s') ∧ AtP ⟨if hi then endR h else endL h, true, true, false, [], .slice none 0 0, []⟩ s' b ∧ More s s' ∧ Fresh s' ∧ s.n ≤ b := by
  have hd := r9head_r h h0 h1 s
  have tl := r9tail_r h h0 h1 s
  obtain ⟨X, hX⟩ : ∃ X, X = prow ⟨if hi then endR h else endL h, true, true, false, [], .slice none 0 0, []⟩ (.slice none 0 0) (.slice none 0 0) := ⟨_, rfl⟩
  have m3 : More s (s.new (.row 11 [X] false)) := .new
  have ok : okV (if hi then endR h else endL h).ln (if hi then endR h else endL h).bt := by
    cases hi
    · exact ⟨h.toNat, 0, by show h = _; omega, rfl, by omega, Nat.pow_pos (by decide)⟩
    · exact ⟨h.toNat, 0, by show h = _; omega, rfl, by omega, Nat.pow_pos (by decide)⟩
  have hA : AtP ⟨if hi then endR h else endL h, true, true, false, [], .slice none 0 0, []⟩ (s.new (.row 11 [X] false)) s.n := ⟨⟨_, _, by rw [hX]; exact get_new_same, .nil, ⟨byt_nil _, rfl⟩⟩, by simp, (fun r hr => by simp at hr), ok, by simp⟩
  have e0 : alv s (.agg ⟨X⟩) = some (PP s.n, s.new (.row 11 [X] false)) := by rw [hX]; rfl
  refine ⟨s.n, _, ?_, hA, m3, f.new, Nat.le_refl _⟩
  cases hi with
  | false =>
    simp only [prow, Bool.false_eq_true, if_false] at hX
    rw [hX] at e0
    simp only [leapfrogref09x_NewEnd.v, leapfrogref09x_NewEnd.t, sy, reduceIte, Nat.reduceAdd, Nat.reduceLeDiff, Nat.reduceLT, Nat.reduceEqDiff, Int.reduceEq, Int.reduceLT, Int.reduceLE, Int.reduceNe, ly, hd, e0, hX]
  | true =>
    simp only [prow, if_true] at hX
    rw [hX] at e0
    simp only [leapfrogref09x_NewEnd.v, leapfrogref09x_NewEnd.t, sy, reduceIte, Nat.reduceAdd, Nat.reduceLeDiff, Nat.reduceLT, Nat.reduceEqDiff, Int.reduceEq, Int.reduceLT, Int.reduceLE, Int.reduceNe, ly, hd, tl, e0, hX]
/-- A slice of one answer is read. -/
theorem Told.at {s : St} {v : Value} {t : Int} {a : Ans} (h : Told s v t a) : lenL v = some (.int .i64 1) ∧ ∃ x, idx s 14 v (.int .i64 0) = some (.pointer (some ⟨x, 0, some 0⟩)) ∧ s.get x = some (.row 14 [.int .i64 t :: a.cs] false) := by
  obtain ⟨x, rfl, hx⟩ := h
  refine ⟨rfl, x, ?_, hx⟩
  have := idx_row (k := .i64) (i := 0) (n := (0 : Int)) (len := 1) (e := 2) hx (by omega) (by omega)
  exact this
end Go.Proofs.Yteiagjbjokldgaa
