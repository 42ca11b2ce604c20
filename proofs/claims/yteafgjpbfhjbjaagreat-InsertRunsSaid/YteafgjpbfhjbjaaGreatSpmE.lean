/-
  The reference's splice: what each step makes of it; and that the two go side by side.
-/
import Derived.Test.YteafgjpbfhjbjaaGreatSpmD
set_option linter.unusedSimpArgs false
set_option linter.unusedVariables false
set_option maxRecDepth 100000
set_option maxHeartbeats 2000000
namespace Go.Proofs.YteafgjpbfhjbjaaGreat.Sp
open Go.Sim Go.Sim.Bt
attribute [local congr] bdc cndc itec gdc gdSc gdUc
structure Rm where
  at' : Int
  th : Int
  p : Rf
  last : Rf
  has : Bool
  r : Rf
  pd : Bool
  res : Res
abbrev rrow (c : Cf) (m : Rm) : List Value :=
  [.int .i64 c.wl, .int .u64 c.wb, .int .i64 c.me.id, .int .i64 c.me.rk, .int .u64 c.me.n, .int .i64 c.me.ln, .int .u64 c.me.bt, .int .i64 c.fr.id, .int .i64 c.fr.rk, .int .u64 c.fr.n, .int .i64 c.fr.ln, .int .u64 c.fr.bt, .int .i64 c.oa, .int .i64 c.oo, .int .i64 m.at', .int .i64 m.th, .int .i64 m.p.id, .int .i64 m.p.rk, .int .u64 m.p.n, .int .i64 m.p.ln, .int .u64 m.p.bt, .int .i64 m.last.id, .int .i64 m.last.rk, .int .u64 m.last.n, .int .i64 m.last.ln, .int .u64 m.last.bt, .bool m.has, .int .i64 m.r.id, .int .i64 m.r.rk, .int .u64 m.r.n, .int .i64 m.r.ln, .int .u64 m.r.bt, .bool m.pd,
   .int .i64 m.res.e, .int .u64 m.res.key, .slice none 0 0, .slice none 0 0, .int .i64 m.res.l.id, .int .i64 m.res.l.rk, .int .u64 m.res.l.n, .int .i64 m.res.l.ln, .int .u64 m.res.l.bt, .int .i64 m.res.r.id, .int .i64 m.res.r.rk, .int .u64 m.res.r.n, .int .i64 m.res.r.ln, .int .u64 m.res.r.bt, .bool m.res.found]
abbrev RRow (s : St) (b : Nat) (cs : List Value) : Prop := s.get b = some (.row 48 [cs] false)
abbrev RPut (s : St) (b : Nat) (cs : List Value) : St := s.put b (.row 48 [cs] false)
def thenR (m : Rm) : Rm :=
  if m.th = 3 then { m with at' := 11 }
  else if m.th = 2 then { m with at' := 10, th := 1 }
  else if m.th = 4 then { m with last := m.p, has := true, p := m.r, at' := 1 }
  else if m.th = 5 then { m with p := m.last, has := false, at' := 1 }
  else { m with at' := 1 }
def freeR (m : Rm) (t : Int) : Rm := if m.pd = true then thenR { m with th := t } else { m with th := t, at' := 9 }
def resR (m : Rm) (e : Int) : Res := if e = 0 ∨ e = 100 then ⟨e, 0, m.p, m.r, false⟩ else ⟨e, 0, zR, zR, false⟩
def endR (m : Rm) (e : Int) : Rm := freeR { m with res := resR m e } 3
def lookR (c : Cf) (m : Rm) : Rm :=
  if ¬ lessR m.p m.r then endR m 131
  else if lessR m.r c.me then freeR m 4
  else if sameK m.r c.me ∧ 0 < c.wl then freeR m 2
  else if sameK m.r c.me then { m with at' := 3 }
  else { m with at' := 4 }
def tellR (c : Cf) (m : Rm) (a : Ans) : Rm :=
  if m.at' = 1 then
    if a.k = 1 then lookR c { m with r := a.r }
    else if a.k ≠ 2 ∧ a.k ≠ 3 then { m with at' := 10, th := 1 }
    else if m.has = true then { m with at' := 10, th := 5 }
    else { m with res := finR 131, at' := 11 }
  else if m.at' = 3 then (if a.k = 1 ∧ a.f = false then endR m 100 else freeR m 2)
  else if m.at' = 4 then (if a.k = 1 then { m with at' := 5 } else if a.k = 3 then endR m 132 else endR m 133)
  else if m.at' = 5 then
    if a.k = 1 ∨ (a.k = 3 ∧ a.r.id = c.me.id) then { m with pd := decide (a.k = 3), at' := 6 } else { m with pd := decide (a.k = 3), at' := 8 }
  else if m.at' = 6 then { m with at' := 7 }
  else if m.at' = 7 then (if a.k = 3 then endR m 132 else endR m 0)
  else if m.at' = 8 then (if a.k = 3 then endR m 132 else endR m 131)
  else if m.at' = 9 then thenR m
  else m
def rwakeC (m : Rm) : Rm := if m.at' = 10 then thenR m else m
def rnextC (c : Cf) (m : Rm) : List Value :=
  if m.at' = 10 then stepC 2 zR zAsk zRes
  else if m.at' = 11 then stepC 3 zR zAsk m.res
  else if m.at' = 1 then askC c 3 m.p zR zR true
  else if m.at' = 3 then askC c 1 m.r zR zR false
  else if m.at' = 4 then askC c 7 c.me m.p m.r true
  else if m.at' = 5 then askC c 5 m.p c.me zR true
  else if m.at' = 6 then askC c 6 m.r c.me zR false
  else if m.at' = 7 then askC c 4 c.me zR zR true
  else if m.at' = 8 then askC c 8 c.me zR zR true
  else askC c 4 m.p zR zR true
theorem rput {s : St} {b : Nat} {X Y : List Value} (h : RRow s b X) : RRow (RPut s b Y) b Y := get_put_same h
theorem rthen_r {s : St} {b : Nat} {c : Cf} {m : Rm} (h : RRow s b (rrow c m)) : r13Splice_then.v (P b) s = some (unit', RPut s b (rrow c (thenR m))) := by
  by_cases h3 : m.th = 3
  · simp only [r13Splice_then.v, r13Splice_then.t, sy, reduceIte, Nat.reduceAdd, Nat.reduceLeDiff, Nat.reduceLT, Nat.reduceEqDiff, Int.reduceEq, Int.reduceLT, Int.reduceLE, Int.reduceNe, ly, ldc_row h, stv_row h, h3, thenR]
  · by_cases h2 : m.th = 2
    · simp only [r13Splice_then.v, r13Splice_then.t, sy, reduceIte, Nat.reduceAdd, Nat.reduceLeDiff, Nat.reduceLT, Nat.reduceEqDiff, Int.reduceEq, Int.reduceLT, Int.reduceLE, Int.reduceNe, ly, ldc_row h, stv_row h, stv_put h, h2, thenR]
    · by_cases h4 : m.th = 4
      · simp only [r13Splice_then.v, r13Splice_then.t, sy, reduceIte, Nat.reduceAdd, Nat.reduceLeDiff, Nat.reduceLT, Nat.reduceEqDiff, Int.reduceEq, Int.reduceLT, Int.reduceLE, Int.reduceNe, ly, ldc_row h, lda_row h, stv_row h, lda_put h, stv_put h, h4, thenR]
      · by_cases h5 : m.th = 5
        · simp only [r13Splice_then.v, r13Splice_then.t, sy, reduceIte, Nat.reduceAdd, Nat.reduceLeDiff, Nat.reduceLT, Nat.reduceEqDiff, Int.reduceEq, Int.reduceLT, Int.reduceLE, Int.reduceNe, ly, ldc_row h, lda_row h, stv_row h, lda_put h, stv_put h, h5, thenR]
        · simp only [r13Splice_then.v, r13Splice_then.t, sy, reduceIte, Nat.reduceAdd, Nat.reduceLeDiff, Nat.reduceLT, Nat.reduceEqDiff, Int.reduceEq, Int.reduceLT, Int.reduceLE, Int.reduceNe, ly, ldc_row h, lda_row h, stv_row h, lda_put h, stv_put h, h2, h3, h4, h5, thenR]
theorem rfree_r {s : St} {b : Nat} {c : Cf} {m : Rm} (h : RRow s b (rrow c m)) (t : Int) : r13Splice_free.v (P b) (.int .i64 t) s = some (unit', RPut s b (rrow c (freeR m t))) := by
  have e := rthen_r (c := c) (m := { m with th := t }) (rput (Y := rrow c { m with th := t }) h)
  rw [show RPut (RPut s b (rrow c { m with th := t })) b (rrow c (thenR { m with th := t })) = RPut s b (rrow c (thenR { m with th := t })) from put_put] at e
  cases hp : m.pd
  · simp only [r13Splice_free.v, r13Splice_free.t, sy, reduceIte, Nat.reduceAdd, Nat.reduceLeDiff, Nat.reduceLT, Nat.reduceEqDiff, Int.reduceEq, Int.reduceLT, Int.reduceLE, Int.reduceNe, ly, ldc_row h, stv_row h, ldc_put h, stv_put h, hp, freeR]
  · simp only [r13Splice_free.v, r13Splice_free.t, sy, reduceIte, Nat.reduceAdd, Nat.reduceLeDiff, Nat.reduceLT, Nat.reduceEqDiff, Int.reduceEq, Int.reduceLT, Int.reduceLE, Int.reduceNe, ly, ldc_row h, stv_row h, ldc_put h, stv_put h, hp, freeR] at e ⊢
    simp only [e, sy, reduceIte, Nat.reduceAdd, Nat.reduceLeDiff, Nat.reduceLT, Nat.reduceEqDiff, Int.reduceEq, Int.reduceLT, Int.reduceLE, Int.reduceNe]
theorem rend_r {s : St} {b : Nat} {c : Cf} {m : Rm} (h : RRow s b (rrow c m)) (e : Int) : r13Splice_end.v (P b) (.int .i64 e) s = some (unit', RPut s b (rrow c (endR m e))) := by
  have f := rfree_r (c := c) (m := { m with res := resR m e }) (rput (Y := rrow c { m with res := resR m e }) h) 3
  rw [show RPut (RPut s b (rrow c { m with res := resR m e })) b (rrow c (freeR { m with res := resR m e } 3)) = RPut s b (rrow c (freeR { m with res := resR m e } 3)) from put_put] at f
  unfold endR
  generalize freeR { m with res := resR m e } 3 = fr at *
  rcases Classical.propComplete (e = 0) with k0 | k0
  · simp only [resR, k0, sy, reduceIte, Nat.reduceAdd, Nat.reduceLeDiff, Nat.reduceLT, Nat.reduceEqDiff, Int.reduceEq, Int.reduceLT, Int.reduceLE, Int.reduceNe] at f
    simp only [r13Splice_end.v, r13Splice_end.t, sy, reduceIte, Nat.reduceAdd, Nat.reduceLeDiff, Nat.reduceLT, Nat.reduceEqDiff, Int.reduceEq, Int.reduceLT, Int.reduceLE, Int.reduceNe, ly, ldc_row h, lda_row h, stv_row h, ldc_put h, lda_put h, stv_put h, k0, f]
  · rcases Classical.propComplete (e = 100) with k1 | k1
    · simp only [resR, k0, k1, sy, reduceIte, Nat.reduceAdd, Nat.reduceLeDiff, Nat.reduceLT, Nat.reduceEqDiff, Int.reduceEq, Int.reduceLT, Int.reduceLE, Int.reduceNe] at f
      simp only [r13Splice_end.v, r13Splice_end.t, sy, reduceIte, Nat.reduceAdd, Nat.reduceLeDiff, Nat.reduceLT, Nat.reduceEqDiff, Int.reduceEq, Int.reduceLT, Int.reduceLE, Int.reduceNe, ly, ldc_row h, lda_row h, stv_row h, ldc_put h, lda_put h, stv_put h, k0, k1, f]
    · simp only [resR, k0, k1, sy, reduceIte, Nat.reduceAdd, Nat.reduceLeDiff, Nat.reduceLT, Nat.reduceEqDiff, Int.reduceEq, Int.reduceLT, Int.reduceLE, Int.reduceNe] at f
      simp only [r13Splice_end.v, r13Splice_end.t, sy, reduceIte, Nat.reduceAdd, Nat.reduceLeDiff, Nat.reduceLT, Nat.reduceEqDiff, Int.reduceEq, Int.reduceLT, Int.reduceLE, Int.reduceNe, ly, ldc_row h, lda_row h, stv_row h, ldc_put h, lda_put h, stv_put h, k0, k1, f]
theorem rlook_r {s : St} {b : Nat} {c : Cf} {m : Rm} (h : RRow s b (rrow c m)) : r13Splice_look.v (P b) s = some (unit', RPut s b (rrow c (lookR c m))) := by
  have l1 := r9less_r m.p.rk m.p.n m.r.rk m.r.n s
  have l2 := r9less_r m.r.rk m.r.n c.me.rk c.me.n s
  have e1 := rend_r h 131
  have f4 := rfree_r h 4
  have f2 := rfree_r h 2
  unfold lookR
  by_cases k1 : lessR m.p m.r
  · rw [if_neg (not_not_intro k1)]
    rw [decide_eq_true (show lessK m.p.rk m.p.n m.r.rk m.r.n from k1)] at l1
    by_cases k2 : lessR m.r c.me
    · rw [if_pos k2]
      rw [decide_eq_true (show lessK m.r.rk m.r.n c.me.rk c.me.n from k2)] at l2
      simp only [r13Splice_look.v, r13Splice_look.t, r13Splice_look.t.p1, sy, reduceIte, Nat.reduceAdd, Nat.reduceLeDiff, Nat.reduceLT, Nat.reduceEqDiff, Int.reduceEq, Int.reduceLT, Int.reduceLE, Int.reduceNe, ly, lda_row h, l1, l2, f4]
    · rw [if_neg k2]
      rw [decide_eq_false (show ¬ lessK m.r.rk m.r.n c.me.rk c.me.n from k2)] at l2
      by_cases k3 : sameK m.r c.me
      · have k3a : (m.r.rk = c.me.rk) = True := eq_true k3.1
        have k3b : (m.r.n = c.me.n) = True := eq_true k3.2
        by_cases k4 : 0 < c.wl
        · rw [if_pos ⟨k3, k4⟩]
          simp only [r13Splice_look.v, r13Splice_look.t, r13Splice_look.t.p1, sy, reduceIte, Nat.reduceAdd, Nat.reduceLeDiff, Nat.reduceLT, Nat.reduceEqDiff, Int.reduceEq, Int.reduceLT, Int.reduceLE, Int.reduceNe, ly, ldc_row h, lda_row h, l1, l2, k3a, k3b, k4, f2]
        · rw [if_neg (fun g => k4 g.2), if_pos k3]
          simp only [r13Splice_look.v, r13Splice_look.t, r13Splice_look.t.p1, sy, reduceIte, Nat.reduceAdd, Nat.reduceLeDiff, Nat.reduceLT, Nat.reduceEqDiff, Int.reduceEq, Int.reduceLT, Int.reduceLE, Int.reduceNe, ly, ldc_row h, lda_row h, stv_row h, l1, l2, k3a, k3b, k4]
      · rw [if_neg (fun g => k3 g.1), if_neg k3]
        rcases Classical.propComplete (m.r.rk = c.me.rk) with k3a | k3a
        · have k3b : (m.r.n = c.me.n) = False := eq_false fun e => k3 ⟨of_eq_true k3a, e⟩
          simp only [r13Splice_look.v, r13Splice_look.t, r13Splice_look.t.p1, sy, reduceIte, Nat.reduceAdd, Nat.reduceLeDiff, Nat.reduceLT, Nat.reduceEqDiff, Int.reduceEq, Int.reduceLT, Int.reduceLE, Int.reduceNe, ly, ldc_row h, lda_row h, stv_row h, l1, l2, k3a, k3b]
        · rcases Classical.propComplete (m.r.n = c.me.n) with k3b | k3b
          · simp only [r13Splice_look.v, r13Splice_look.t, r13Splice_look.t.p1, sy, reduceIte, Nat.reduceAdd, Nat.reduceLeDiff, Nat.reduceLT, Nat.reduceEqDiff, Int.reduceEq, Int.reduceLT, Int.reduceLE, Int.reduceNe, ly, ldc_row h, lda_row h, stv_row h, l1, l2, k3a, k3b]
          · simp only [r13Splice_look.v, r13Splice_look.t, r13Splice_look.t.p1, sy, reduceIte, Nat.reduceAdd, Nat.reduceLeDiff, Nat.reduceLT, Nat.reduceEqDiff, Int.reduceEq, Int.reduceLT, Int.reduceLE, Int.reduceNe, ly, ldc_row h, lda_row h, stv_row h, l1, l2, k3a, k3b]
  · rw [if_pos k1]
    rw [decide_eq_false (show ¬ lessK m.p.rk m.p.n m.r.rk m.r.n from k1)] at l1
    simp only [r13Splice_look.v, r13Splice_look.t, r13Splice_look.t.p1, sy, reduceIte, Nat.reduceAdd, Nat.reduceLeDiff, Nat.reduceLT, Nat.reduceEqDiff, Int.reduceEq, Int.reduceLT, Int.reduceLE, Int.reduceNe, ly, lda_row h, l1, e1]
theorem rlocked_r {s : St} {b : Nat} {c : Cf} {m : Rm} (h : RRow s b (rrow c m)) (hp : m.at' = 1) (a : Ans) : r13Splice_locked.v (P b) (.agg ⟨a.cs⟩) s = some (unit', RPut s b (rrow c (tellR c m a))) := by
  rcases Classical.propComplete (a.k = 1) with k1 | k1
  · obtain ⟨s1, hs1⟩ : ∃ s1, s1 = RPut s b (rrow c { m with r := a.r }) := ⟨_, rfl⟩
    have e3 : stv s 5 (.pointer (some ⟨b, 0, some 27⟩)) (.agg ⟨a.r.cs⟩) = some s1 := by
      rw [hs1]; simp only [stv_row h, sy, reduceIte, Nat.reduceAdd, Nat.reduceLeDiff, Nat.reduceLT, Nat.reduceEqDiff, Int.reduceEq, Int.reduceLT, Int.reduceLE, Int.reduceNe, ly]
    have f := rlook_r (c := c) (m := { m with r := a.r }) (s := s1) (b := b) (by rw [hs1]; exact rput h)
    have ht : tellR c m a = lookR c { m with r := a.r } := by simp only [tellR, hp, k1, if_true]
    rw [ht]
    simp only [r13Splice_locked.v, r13Splice_locked.t, sy, reduceIte, Nat.reduceAdd, Nat.reduceLeDiff, Nat.reduceLT, Nat.reduceEqDiff, Int.reduceEq, Int.reduceLT, Int.reduceLE, Int.reduceNe, ly, k1, e3, f]
    rw [hs1]
    exact put_put
  · rcases Classical.propComplete (a.k = 2) with k2 | k2
    · cases hh : m.has
      · simp only [r13Splice_locked.v, r13Splice_locked.t, sy, reduceIte, Nat.reduceAdd, Nat.reduceLeDiff, Nat.reduceLT, Nat.reduceEqDiff, Int.reduceEq, Int.reduceLT, Int.reduceLE, Int.reduceNe, ly, k1, k2, ldc_row h, stv_row h, stv_put h, hh, tellR, hp, finR]
      · simp only [r13Splice_locked.v, r13Splice_locked.t, sy, reduceIte, Nat.reduceAdd, Nat.reduceLeDiff, Nat.reduceLT, Nat.reduceEqDiff, Int.reduceEq, Int.reduceLT, Int.reduceLE, Int.reduceNe, ly, k1, k2, ldc_row h, stv_row h, stv_put h, hh, tellR, hp]
    · rcases Classical.propComplete (a.k = 3) with k3 | k3
      · cases hh : m.has
        · simp only [r13Splice_locked.v, r13Splice_locked.t, sy, reduceIte, Nat.reduceAdd, Nat.reduceLeDiff, Nat.reduceLT, Nat.reduceEqDiff, Int.reduceEq, Int.reduceLT, Int.reduceLE, Int.reduceNe, ly, k1, k2, k3, ldc_row h, stv_row h, stv_put h, hh, tellR, hp, finR]
        · simp only [r13Splice_locked.v, r13Splice_locked.t, sy, reduceIte, Nat.reduceAdd, Nat.reduceLeDiff, Nat.reduceLT, Nat.reduceEqDiff, Int.reduceEq, Int.reduceLT, Int.reduceLE, Int.reduceNe, ly, k1, k2, k3, ldc_row h, stv_row h, stv_put h, hh, tellR, hp]
      · simp only [r13Splice_locked.v, r13Splice_locked.t, sy, reduceIte, Nat.reduceAdd, Nat.reduceLeDiff, Nat.reduceLT, Nat.reduceEqDiff, Int.reduceEq, Int.reduceLT, Int.reduceLE, Int.reduceNe, ly, k1, k2, k3, ldc_row h, stv_row h, stv_put h, tellR, hp]
def InvR (m : Rm) : Prop := m.at' = 1 ∨ (3 ≤ m.at' ∧ m.at' ≤ 11)
theorem rtell_r {s : St} {b : Nat} {c : Cf} {m : Rm} (h : RRow s b (rrow c m)) (hi : InvR m) (a : Ans) : ∃ s', r13Splice_Tell.v (P b) (.agg ⟨a.cs⟩) s = some (unit', s') ∧ RRow s' b (rrow c (tellR c m a)) ∧ But b s s' := by
  have go : ∀ {x : Option (Value × St)}, x = some (unit', RPut s b (rrow c (tellR c m a))) → ∃ s', x = some (unit', s') ∧ RRow s' b (rrow c (tellR c m a)) ∧ But b s s' := fun e => ⟨_, e, rput h, .put⟩
  have e100 := rend_r h 100
  have e132 := rend_r h 132
  have e133 := rend_r h 133
  have e131 := rend_r h 131
  have e0 := rend_r h 0
  have f2 := rfree_r h 2
  have tn := rthen_r h
  have hp : m.at' = 1 ∨ m.at' = 3 ∨ m.at' = 4 ∨ m.at' = 5 ∨ m.at' = 6 ∨ m.at' = 7 ∨ m.at' = 8 ∨ m.at' = 9 ∨ m.at' = 10 ∨ m.at' = 11 := by unfold InvR at hi; omega
  rcases Classical.propComplete (a.k = 1) with k1 | k1
  · have k3 : (a.k = 3) = False := eq_false (by have := of_eq_true k1; omega)
    rcases hp with hp | hp | hp | hp | hp | hp | hp | hp | hp | hp
    · have lk := rlocked_r h hp a
      exact go (by simp only [r13Splice_Tell.v, r13Splice_Tell.t, r13Splice_Tell.t.p1, sy, reduceIte, Nat.reduceAdd, Nat.reduceLeDiff, Nat.reduceLT, Nat.reduceEqDiff, Int.reduceEq, Int.reduceLT, Int.reduceLE, Int.reduceNe, ly, k1, k3, ldc_row h, hp, lk])
    · cases hf : a.f
      · exact go (by simp only [r13Splice_Tell.v, r13Splice_Tell.t, r13Splice_Tell.t.p1, sy, reduceIte, Nat.reduceAdd, Nat.reduceLeDiff, Nat.reduceLT, Nat.reduceEqDiff, Int.reduceEq, Int.reduceLT, Int.reduceLE, Int.reduceNe, ly, k1, k3, ldc_row h, hp, hf, e100, tellR])
      · exact go (by simp only [r13Splice_Tell.v, r13Splice_Tell.t, r13Splice_Tell.t.p1, sy, reduceIte, Nat.reduceAdd, Nat.reduceLeDiff, Nat.reduceLT, Nat.reduceEqDiff, Int.reduceEq, Int.reduceLT, Int.reduceLE, Int.reduceNe, ly, k1, k3, ldc_row h, hp, hf, f2, tellR, Bool.true_eq_false])
    · exact go (by simp only [r13Splice_Tell.v, r13Splice_Tell.t, r13Splice_Tell.t.p1, sy, reduceIte, Nat.reduceAdd, Nat.reduceLeDiff, Nat.reduceLT, Nat.reduceEqDiff, Int.reduceEq, Int.reduceLT, Int.reduceLE, Int.reduceNe, ly, k1, k3, ldc_row h, hp, stv_row h, tellR])
    · exact go (by simp only [r13Splice_Tell.v, r13Splice_Tell.t, r13Splice_Tell.t.p1, sy, reduceIte, Nat.reduceAdd, Nat.reduceLeDiff, Nat.reduceLT, Nat.reduceEqDiff, Int.reduceEq, Int.reduceLT, Int.reduceLE, Int.reduceNe, ly, k1, k3, ldc_row h, hp, stv_row h, ldc_put h, stv_put h, tellR])
    · exact go (by simp only [r13Splice_Tell.v, r13Splice_Tell.t, r13Splice_Tell.t.p1, sy, reduceIte, Nat.reduceAdd, Nat.reduceLeDiff, Nat.reduceLT, Nat.reduceEqDiff, Int.reduceEq, Int.reduceLT, Int.reduceLE, Int.reduceNe, ly, k1, k3, ldc_row h, hp, stv_row h, tellR])
    · exact go (by simp only [r13Splice_Tell.v, r13Splice_Tell.t, r13Splice_Tell.t.p1, sy, reduceIte, Nat.reduceAdd, Nat.reduceLeDiff, Nat.reduceLT, Nat.reduceEqDiff, Int.reduceEq, Int.reduceLT, Int.reduceLE, Int.reduceNe, ly, k1, k3, ldc_row h, hp, e0, tellR])
    · exact go (by simp only [r13Splice_Tell.v, r13Splice_Tell.t, r13Splice_Tell.t.p1, sy, reduceIte, Nat.reduceAdd, Nat.reduceLeDiff, Nat.reduceLT, Nat.reduceEqDiff, Int.reduceEq, Int.reduceLT, Int.reduceLE, Int.reduceNe, ly, k1, k3, ldc_row h, hp, e131, tellR])
    · exact go (by simp only [r13Splice_Tell.v, r13Splice_Tell.t, r13Splice_Tell.t.p1, sy, reduceIte, Nat.reduceAdd, Nat.reduceLeDiff, Nat.reduceLT, Nat.reduceEqDiff, Int.reduceEq, Int.reduceLT, Int.reduceLE, Int.reduceNe, ly, k1, k3, ldc_row h, hp, tn, tellR])
    · exact ⟨s, by simp only [r13Splice_Tell.v, r13Splice_Tell.t, r13Splice_Tell.t.p1, sy, reduceIte, Nat.reduceAdd, Nat.reduceLeDiff, Nat.reduceLT, Nat.reduceEqDiff, Int.reduceEq, Int.reduceLT, Int.reduceLE, Int.reduceNe, ly, k1, k3, ldc_row h, hp], by rw [show tellR c m a = m by simp only [tellR, hp, sy, reduceIte, Nat.reduceAdd, Nat.reduceLeDiff, Nat.reduceLT, Nat.reduceEqDiff, Int.reduceEq, Int.reduceLT, Int.reduceLE, Int.reduceNe]]; exact h, .refl b s⟩
    · exact ⟨s, by simp only [r13Splice_Tell.v, r13Splice_Tell.t, r13Splice_Tell.t.p1, sy, reduceIte, Nat.reduceAdd, Nat.reduceLeDiff, Nat.reduceLT, Nat.reduceEqDiff, Int.reduceEq, Int.reduceLT, Int.reduceLE, Int.reduceNe, ly, k1, k3, ldc_row h, hp], by rw [show tellR c m a = m by simp only [tellR, hp, sy, reduceIte, Nat.reduceAdd, Nat.reduceLeDiff, Nat.reduceLT, Nat.reduceEqDiff, Int.reduceEq, Int.reduceLT, Int.reduceLE, Int.reduceNe]]; exact h, .refl b s⟩
  · rcases Classical.propComplete (a.k = 3) with k3 | k3
    · rcases hp with hp | hp | hp | hp | hp | hp | hp | hp | hp | hp
      · have lk := rlocked_r h hp a
        exact go (by simp only [r13Splice_Tell.v, r13Splice_Tell.t, r13Splice_Tell.t.p1, sy, reduceIte, Nat.reduceAdd, Nat.reduceLeDiff, Nat.reduceLT, Nat.reduceEqDiff, Int.reduceEq, Int.reduceLT, Int.reduceLE, Int.reduceNe, ly, k1, k3, ldc_row h, hp, lk])
      · exact go (by simp only [r13Splice_Tell.v, r13Splice_Tell.t, r13Splice_Tell.t.p1, sy, reduceIte, Nat.reduceAdd, Nat.reduceLeDiff, Nat.reduceLT, Nat.reduceEqDiff, Int.reduceEq, Int.reduceLT, Int.reduceLE, Int.reduceNe, ly, k1, k3, ldc_row h, hp, f2, tellR])
      · exact go (by simp only [r13Splice_Tell.v, r13Splice_Tell.t, r13Splice_Tell.t.p1, sy, reduceIte, Nat.reduceAdd, Nat.reduceLeDiff, Nat.reduceLT, Nat.reduceEqDiff, Int.reduceEq, Int.reduceLT, Int.reduceLE, Int.reduceNe, ly, k1, k3, ldc_row h, hp, e132, tellR])
      · rcases Classical.propComplete (a.r.id = c.me.id) with k4 | k4
        · exact go (by simp only [r13Splice_Tell.v, r13Splice_Tell.t, r13Splice_Tell.t.p1, sy, reduceIte, Nat.reduceAdd, Nat.reduceLeDiff, Nat.reduceLT, Nat.reduceEqDiff, Int.reduceEq, Int.reduceLT, Int.reduceLE, Int.reduceNe, ly, k1, k3, k4, ldc_row h, hp, stv_row h, ldc_put h, stv_put h, tellR])
        · exact go (by simp only [r13Splice_Tell.v, r13Splice_Tell.t, r13Splice_Tell.t.p1, sy, reduceIte, Nat.reduceAdd, Nat.reduceLeDiff, Nat.reduceLT, Nat.reduceEqDiff, Int.reduceEq, Int.reduceLT, Int.reduceLE, Int.reduceNe, ly, k1, k3, k4, ldc_row h, hp, stv_row h, ldc_put h, stv_put h, tellR])
      · exact go (by simp only [r13Splice_Tell.v, r13Splice_Tell.t, r13Splice_Tell.t.p1, sy, reduceIte, Nat.reduceAdd, Nat.reduceLeDiff, Nat.reduceLT, Nat.reduceEqDiff, Int.reduceEq, Int.reduceLT, Int.reduceLE, Int.reduceNe, ly, k1, k3, ldc_row h, hp, stv_row h, tellR])
      · exact go (by simp only [r13Splice_Tell.v, r13Splice_Tell.t, r13Splice_Tell.t.p1, sy, reduceIte, Nat.reduceAdd, Nat.reduceLeDiff, Nat.reduceLT, Nat.reduceEqDiff, Int.reduceEq, Int.reduceLT, Int.reduceLE, Int.reduceNe, ly, k1, k3, ldc_row h, hp, e132, tellR])
      · exact go (by simp only [r13Splice_Tell.v, r13Splice_Tell.t, r13Splice_Tell.t.p1, sy, reduceIte, Nat.reduceAdd, Nat.reduceLeDiff, Nat.reduceLT, Nat.reduceEqDiff, Int.reduceEq, Int.reduceLT, Int.reduceLE, Int.reduceNe, ly, k1, k3, ldc_row h, hp, e132, tellR])
      · exact go (by simp only [r13Splice_Tell.v, r13Splice_Tell.t, r13Splice_Tell.t.p1, sy, reduceIte, Nat.reduceAdd, Nat.reduceLeDiff, Nat.reduceLT, Nat.reduceEqDiff, Int.reduceEq, Int.reduceLT, Int.reduceLE, Int.reduceNe, ly, k1, k3, ldc_row h, hp, tn, tellR])
      · exact ⟨s, by simp only [r13Splice_Tell.v, r13Splice_Tell.t, r13Splice_Tell.t.p1, sy, reduceIte, Nat.reduceAdd, Nat.reduceLeDiff, Nat.reduceLT, Nat.reduceEqDiff, Int.reduceEq, Int.reduceLT, Int.reduceLE, Int.reduceNe, ly, k1, k3, ldc_row h, hp], by rw [show tellR c m a = m by simp only [tellR, hp, sy, reduceIte, Nat.reduceAdd, Nat.reduceLeDiff, Nat.reduceLT, Nat.reduceEqDiff, Int.reduceEq, Int.reduceLT, Int.reduceLE, Int.reduceNe]]; exact h, .refl b s⟩
      · exact ⟨s, by simp only [r13Splice_Tell.v, r13Splice_Tell.t, r13Splice_Tell.t.p1, sy, reduceIte, Nat.reduceAdd, Nat.reduceLeDiff, Nat.reduceLT, Nat.reduceEqDiff, Int.reduceEq, Int.reduceLT, Int.reduceLE, Int.reduceNe, ly, k1, k3, ldc_row h, hp], by rw [show tellR c m a = m by simp only [tellR, hp, sy, reduceIte, Nat.reduceAdd, Nat.reduceLeDiff, Nat.reduceLT, Nat.reduceEqDiff, Int.reduceEq, Int.reduceLT, Int.reduceLE, Int.reduceNe]]; exact h, .refl b s⟩
    · rcases hp with hp | hp | hp | hp | hp | hp | hp | hp | hp | hp
      · have lk := rlocked_r h hp a
        exact go (by simp only [r13Splice_Tell.v, r13Splice_Tell.t, r13Splice_Tell.t.p1, sy, reduceIte, Nat.reduceAdd, Nat.reduceLeDiff, Nat.reduceLT, Nat.reduceEqDiff, Int.reduceEq, Int.reduceLT, Int.reduceLE, Int.reduceNe, ly, k1, k3, ldc_row h, hp, lk])
      · exact go (by simp only [r13Splice_Tell.v, r13Splice_Tell.t, r13Splice_Tell.t.p1, sy, reduceIte, Nat.reduceAdd, Nat.reduceLeDiff, Nat.reduceLT, Nat.reduceEqDiff, Int.reduceEq, Int.reduceLT, Int.reduceLE, Int.reduceNe, ly, k1, k3, ldc_row h, hp, f2, tellR])
      · exact go (by simp only [r13Splice_Tell.v, r13Splice_Tell.t, r13Splice_Tell.t.p1, sy, reduceIte, Nat.reduceAdd, Nat.reduceLeDiff, Nat.reduceLT, Nat.reduceEqDiff, Int.reduceEq, Int.reduceLT, Int.reduceLE, Int.reduceNe, ly, k1, k3, ldc_row h, hp, e133, tellR])
      · exact go (by simp only [r13Splice_Tell.v, r13Splice_Tell.t, r13Splice_Tell.t.p1, sy, reduceIte, Nat.reduceAdd, Nat.reduceLeDiff, Nat.reduceLT, Nat.reduceEqDiff, Int.reduceEq, Int.reduceLT, Int.reduceLE, Int.reduceNe, ly, k1, k3, ldc_row h, hp, stv_row h, ldc_put h, stv_put h, tellR])
      · exact go (by simp only [r13Splice_Tell.v, r13Splice_Tell.t, r13Splice_Tell.t.p1, sy, reduceIte, Nat.reduceAdd, Nat.reduceLeDiff, Nat.reduceLT, Nat.reduceEqDiff, Int.reduceEq, Int.reduceLT, Int.reduceLE, Int.reduceNe, ly, k1, k3, ldc_row h, hp, stv_row h, tellR])
      · exact go (by simp only [r13Splice_Tell.v, r13Splice_Tell.t, r13Splice_Tell.t.p1, sy, reduceIte, Nat.reduceAdd, Nat.reduceLeDiff, Nat.reduceLT, Nat.reduceEqDiff, Int.reduceEq, Int.reduceLT, Int.reduceLE, Int.reduceNe, ly, k1, k3, ldc_row h, hp, e0, tellR])
      · exact go (by simp only [r13Splice_Tell.v, r13Splice_Tell.t, r13Splice_Tell.t.p1, sy, reduceIte, Nat.reduceAdd, Nat.reduceLeDiff, Nat.reduceLT, Nat.reduceEqDiff, Int.reduceEq, Int.reduceLT, Int.reduceLE, Int.reduceNe, ly, k1, k3, ldc_row h, hp, e131, tellR])
      · exact go (by simp only [r13Splice_Tell.v, r13Splice_Tell.t, r13Splice_Tell.t.p1, sy, reduceIte, Nat.reduceAdd, Nat.reduceLeDiff, Nat.reduceLT, Nat.reduceEqDiff, Int.reduceEq, Int.reduceLT, Int.reduceLE, Int.reduceNe, ly, k1, k3, ldc_row h, hp, tn, tellR])
      · exact ⟨s, by simp only [r13Splice_Tell.v, r13Splice_Tell.t, r13Splice_Tell.t.p1, sy, reduceIte, Nat.reduceAdd, Nat.reduceLeDiff, Nat.reduceLT, Nat.reduceEqDiff, Int.reduceEq, Int.reduceLT, Int.reduceLE, Int.reduceNe, ly, k1, k3, ldc_row h, hp], by rw [show tellR c m a = m by simp only [tellR, hp, sy, reduceIte, Nat.reduceAdd, Nat.reduceLeDiff, Nat.reduceLT, Nat.reduceEqDiff, Int.reduceEq, Int.reduceLT, Int.reduceLE, Int.reduceNe]]; exact h, .refl b s⟩
      · exact ⟨s, by simp only [r13Splice_Tell.v, r13Splice_Tell.t, r13Splice_Tell.t.p1, sy, reduceIte, Nat.reduceAdd, Nat.reduceLeDiff, Nat.reduceLT, Nat.reduceEqDiff, Int.reduceEq, Int.reduceLT, Int.reduceLE, Int.reduceNe, ly, k1, k3, ldc_row h, hp], by rw [show tellR c m a = m by simp only [tellR, hp, sy, reduceIte, Nat.reduceAdd, Nat.reduceLeDiff, Nat.reduceLT, Nat.reduceEqDiff, Int.reduceEq, Int.reduceLT, Int.reduceLE, Int.reduceNe]]; exact h, .refl b s⟩
theorem rwake_r {s : St} {b : Nat} {c : Cf} {m : Rm} (h : RRow s b (rrow c m)) : ∃ s', r13Splice_Wake.v (P b) s = some (unit', s') ∧ RRow s' b (rrow c (rwakeC m)) ∧ But b s s' := by
  unfold rwakeC
  have tn := rthen_r h
  by_cases hp : m.at' = 10
  · exact ⟨RPut s b (rrow c (thenR m)), by simp only [r13Splice_Wake.v, r13Splice_Wake.t, sy, reduceIte, Nat.reduceAdd, Nat.reduceLeDiff, Nat.reduceLT, Nat.reduceEqDiff, Int.reduceEq, Int.reduceLT, Int.reduceLE, Int.reduceNe, ly, ldc_row h, hp, tn], by rw [if_pos hp]; exact rput h, .put⟩
  · exact ⟨s, by simp only [r13Splice_Wake.v, r13Splice_Wake.t, sy, reduceIte, Nat.reduceAdd, Nat.reduceLeDiff, Nat.reduceLT, Nat.reduceEqDiff, Int.reduceEq, Int.reduceLT, Int.reduceLE, Int.reduceNe, ly, ldc_row h, hp], by rw [if_neg hp]; exact h, .refl b s⟩
theorem rnext_r {s : St} {b : Nat} {c : Cf} {m : Rm} (h : RRow s b (rrow c m)) (hi : InvR m) : r13Splice_Next.r (P b) s = some (.agg ⟨rnextC c m⟩) := by
  have hp : m.at' = 1 ∨ m.at' = 3 ∨ m.at' = 4 ∨ m.at' = 5 ∨ m.at' = 6 ∨ m.at' = 7 ∨ m.at' = 8 ∨ m.at' = 9 ∨ m.at' = 10 ∨ m.at' = 11 := by unfold InvR at hi; omega
  rcases hp with hp | hp | hp | hp | hp | hp | hp | hp | hp | hp <;> simp only [r13Splice_Next.r, r13Splice_Next.t, r13Splice_Next.t.p1, r13Splice_Next.t.p2, r13Splice_Next.t.p3, sy, reduceIte, Nat.reduceAdd, Nat.reduceLeDiff, Nat.reduceLT, Nat.reduceEqDiff, Int.reduceEq, Int.reduceLT, Int.reduceLE, Int.reduceNe, ly, ldc_row h, lda_row h, rnextC, hp, askC, stepC]
open Classical in
theorem rnew_yes {s : St} {c : Cf} (hf : Fresh s) (hm : 0 ≤ c.me.bt) (hw : 0 ≤ c.wb) (h : okC c) : r13New.v (.agg ⟨c.cs⟩) s = some (T2 (P s.n) 0, s.new (.row 48 [rrow c ⟨1, 0, c.fr, zR, false, zR, false, zRes⟩] false)) := by
  obtain ⟨k1, k2, k3, k4, k5⟩ := h
  have rr1 := rright_i c.wl c.wb hw s
  have rb1 := rbegins_i c.me.ln c.me.bt c.wl c.wb hm hw s hf
  have rkc := isKey_r c.fr.rk c.fr.n s
  have rl1 := r9less_r c.fr.rk c.fr.n c.me.rk c.me.n s
  have row := isOwner_r c.oa c.oo s
  have k6 : okV c.wl c.wb := k2.2.1
  have k1' : (c.me.rk = 2) = True := eq_true k1
  rw [decide_eq_true k6] at rr1
  rw [decide_eq_true k2] at rb1
  rw [decide_eq_true k3] at rkc
  rw [decide_eq_true k4] at rl1
  rw [decide_eq_true k5] at row
  simp only [r13New.v, r13New.t, r13New.t.p1, sy, reduceIte, Nat.reduceAdd, Nat.reduceLeDiff, Nat.reduceLT, Nat.reduceEqDiff, Int.reduceEq, Int.reduceLT, Int.reduceLE, Int.reduceNe, ly, rr1, rb1, rkc, rl1, row, k1', alv_eq]
end Go.Proofs.YteafgjpbfhjbjaaGreat.Sp
