/-
  The document's peer in memory: QRead, QLock, QFree.
-/
import Derived.Test.YteiagjbjokldgaaPerC
set_option linter.unusedSimpArgs false
set_option linter.unusedVariables false
set_option maxRecDepth 100000
set_option maxHeartbeats 2000000
namespace Go.Proofs.Yteiagjbjokldgaa
open Go.Sim Go.Sim.Bt
attribute [local congr] bdc cndc itec gdc gdSc gdUc

/-- One answer that is told at once. -/
def Told (s : St) (v : Value) (t : Int) (a : Ans) : Prop := ∃ x, v = .slice (some ⟨x, 0, some 0⟩) 1 2 ∧ s.get x = some (.row 14 [.int .i64 t :: a.cs] false)
theorem told_t (t : Int) (a : Ans) (s : St) (f : Fresh s) : ∃ v s', leapfrogref09x_told.v (.int .i64 t) (.agg ⟨a.cs⟩) s = some (v, s') ∧ Told s' v t a ∧ More s s' ∧ Fresh s' :=
  ⟨_, _, told_r t a s, ⟨s.n, rfl, get_new_same⟩, .new, f.new⟩
theorem more_but {s s2 s3 : St} {c : Nat} (m : More s s2) (k : But c s2 s3) (hc : s.n ≤ c) : More s s3 :=
  ⟨by rw [k.2.1]; exact m.n, fun x hx => by rw [k.1 x (by omega)]; exact m.old x hx, fun f => k.2.2 (m.fresh f)⟩
theorem getC_w {p : Pr} {wl wb : Int} {r : Rc} (h : getC p wl wb = some r) : r.wl = wl ∧ r.wb = wb := by
  unfold getC at h
  split at h
  · rename_i x hf
    cases h
    have := List.find?_some hf
    unfold isW at this
    exact of_decide_eq_true this
  · split at h
    · cases h
      unfold firstC
      split <;> exact ⟨rfl, rfl⟩
    · cases h
theorem box_r {s : St} (f : Fresh s) (r : Rc) : ∃ s1 s2, alv s (.agg ⟨[.int .i64 0, .int .u64 0, .int .i64 0, .int .i64 0, .int .u64 0, .int .i64 0, .int .u64 0, .int .i64 0, .int .i64 0, .int .u64 0, .int .i64 0, .int .u64 0, .bool false, .int .i64 0, .int .i64 0, .slice none 0 0]⟩) = some (PP s.n, s1) ∧
    stv s1 16 (PP s.n) (.agg ⟨r.cs⟩) = some s2 ∧ BRow s2 s.n r ∧ More s s2 ∧ Fresh s2 := by
  have h0 : BRow (s.new (.row 16 [zRc.cs] false)) s.n zRc := get_new_same
  have m0 : More s (s.new (.row 16 [zRc.cs] false)) := .new
  refine ⟨_, (s.new (.row 16 [zRc.cs] false)).put s.n (.row 16 [r.cs] false), rfl, ?_, get_put_same h0, m0.put (Nat.le_refl _), f.new.put⟩
  show stv (s.new (.row 16 [zRc.cs] false)) 16 (PP s.n) (.agg ⟨r.cs⟩) = _
  simp only [stv_row h0, sy, reduceIte, Nat.reduceAdd, Nat.reduceLeDiff, Nat.reduceLT, Nat.reduceEqDiff, Int.reduceEq, Int.reduceLT, Int.reduceLE, Int.reduceNe, ly]
/-- QRead. -/
theorem read_p {p : Pr} {s : St} {b : Nat} (f : Fresh s) (h : AtP p s b) {wl wb t : Int} (hw : okV wl wb) :
    ∃ v s', leapfrogref09x_Peer_Ask.v (PP b) (.int .i64 t) (.agg ⟨(⟨1, wl, wb, zR, zR, 0, 0⟩ : AskP).cs⟩) s = some (.tuple ⟨[v, .int .i64 0]⟩, s') ∧ Told s' v t (match getC p wl wb with | some r => ofC p r | none => ⟨2, false, zR, zR, .slice none 0 0⟩) ∧ More s s' ∧ Fresh s' := by
  obtain ⟨vv, lv, h1, h2, h3⟩ := h.ex
  have ck := ask1_r hw s
  have rc := rec_r f h wl wb (okV_in hw).2.2
  cases hg : getC p wl wb with
  | none =>
    rw [hg] at rc
    obtain ⟨v, s', t1, t2, t3, t4⟩ := told_t t ⟨2, false, zR, zR, .slice none 0 0⟩ s f
    refine ⟨v, s', ?_, t2, t3, t4⟩
    simp only [gotC, Option.getD_none, Option.isSome_none] at rc
    simp only [leapfrogref09x_Peer_Ask.v, leapfrogref09x_Peer_Ask.t, leapfrogref09x_Peer_Ask.t.p1, leapfrogref09x_gone.r, leapfrogref09x_gone.t, sy, reduceIte, Nat.reduceAdd, Nat.reduceLeDiff, Nat.reduceLT, Nat.reduceEqDiff, Int.reduceEq, Int.reduceLT, Int.reduceLE, Int.reduceNe, ly, ck, rc, t1]
  | some r =>
    rw [hg] at rc
    have o := ofp_r h1 r
    obtain ⟨v, s', t1, t2, t3, t4⟩ := told_t t (ofC p r) s f
    refine ⟨v, s', ?_, t2, t3, t4⟩
    simp only [gotC, Option.getD_some, Option.isSome_some] at rc
    simp only [ofC] at o t1
    simp only [leapfrogref09x_Peer_Ask.v, leapfrogref09x_Peer_Ask.t, leapfrogref09x_Peer_Ask.t.p1, sy, reduceIte, Nat.reduceAdd, Nat.reduceLeDiff, Nat.reduceLT, Nat.reduceEqDiff, Int.reduceEq, Int.reduceLT, Int.reduceLE, Int.reduceNe, ly, ck, rc, o, t1]
/-- QLock. -/
theorem lock_p {p : Pr} {s : St} {b : Nat} (f : Fresh s) (h : AtP p s b) {wl wb oa oo t : Int} (hw : okV wl wb) (ho : okO oa oo) {r : Rc} (hg : getC p wl wb = some r) (hr : r.held = false ∨ (r.ha = oa ∧ r.ho = oo))
    (hn : (setL p (lockd r oa oo)).length ≤ 1000) (hok : ∀ y ∈ setL p (lockd r oa oo), okV y.wl y.wb) :
    ∃ v s', leapfrogref09x_Peer_Ask.v (PP b) (.int .i64 t) (.agg ⟨(⟨3, wl, wb, zR, zR, oa, oo⟩ : AskP).cs⟩) s = some (.tuple ⟨[v, .int .i64 0]⟩, s') ∧ Told s' v t (ofC p r) ∧ AtP { p with L := setL p (lockd r oa oo) } s' b ∧ StB b s s' := by
  have ck := ask3_r (oa := oa) (oo := oo) (.inl rfl) hw s
  have rc := rec_r f h wl wb (okV_in hw).2.2
  rw [hg] at rc
  simp only [gotC, Option.getD_some, Option.isSome_some] at rc
  obtain ⟨w1, w2⟩ := getC_w hg
  obtain ⟨s1, s2, e1, e2, h2, m2, f2⟩ := box_r f r
  obtain ⟨s3, e3, h3, b3⟩ := lockask_r h2 ho hr
  have m3 : More s s3 := more_but m2 b3 (Nat.le_refl _)
  have f3 := m3.fresh f
  have lz : ((0 : Nat) : Int) = 0 := rfl
  obtain ⟨s4, e4, h4, k4⟩ := set_r f3 (h.more m3 f) (lockd r oa oo) (by show okV r.wl r.wb; rw [w1, w2]; exact hw) hn hok
  have h3' : BRow s4 s.n (lockd r oa oo) := k4.old _ _ h3 (by
    obtain ⟨vv, lv, g1, _⟩ := h.ex
    have := f.lt g1
    omega)
  obtain ⟨vv, lv, g1, _⟩ := h4.ex
  have o := ofp_r g1 (lockd r oa oo)
  obtain ⟨v, s5, t1, t2, t3, t4⟩ := told_t t (ofC p r) s4 (k4.fr f3)
  refine ⟨v, s5, ?_, t2, h4.more t3 (k4.fr f3), ((StB.more m3 f).trans k4).trans (.more t3 (k4.fr f3))⟩
  simp only [lockd] at e4 h3 h3' o
  simp only [ofC] at o t1
  simp only [leapfrogref09x_Peer_Ask.v, leapfrogref09x_Peer_Ask.t, leapfrogref09x_Peer_lock.v, leapfrogref09x_Peer_lock.t, leapfrogref09x_Peer_lock.t.p1, sy, reduceIte, Nat.reduceAdd, Nat.reduceLeDiff, Nat.reduceLT, Nat.reduceEqDiff, Int.reduceEq, Int.reduceLT, Int.reduceLE, Int.reduceNe, ly, ck, rc, e1, e2, ldc_row h2, e3, ldc_row h3, lda_row h3, e4, lda_row h3', o, t1]
/-- QFree, by who holds it. -/
theorem free_p {p : Pr} {s : St} {b : Nat} (f : Fresh s) (h : AtP p s b) {wl wb t : Int} (hw : okV wl wb) {r : Rc} (hg : getC p wl wb = some r) (ho : okO r.ha r.ho) (hr : r.held = true)
    (hn : (setL p (freed r)).length ≤ 1000) (hok : ∀ y ∈ setL p (freed r), okV y.wl y.wb) :
    ∃ v s', leapfrogref09x_Peer_Ask.v (PP b) (.int .i64 t) (.agg ⟨(⟨4, wl, wb, zR, zR, r.ha, r.ho⟩ : AskP).cs⟩) s = some (.tuple ⟨[v, .int .i64 0]⟩, s') ∧ Told s' v t ⟨1, false, zR, zR, .slice none 0 0⟩ ∧ AtP { p with L := setL p (freed r) } s' b ∧ StB b s s' := by
  have ck := ask3_r (oa := r.ha) (oo := r.ho) (.inr (.inl rfl)) hw s
  have rc := rec_r f h wl wb (okV_in hw).2.2
  rw [hg] at rc
  simp only [gotC, Option.getD_some, Option.isSome_some] at rc
  obtain ⟨w1, w2⟩ := getC_w hg
  obtain ⟨s1, s2, e1, e2, h2, m2, f2⟩ := box_r f r
  obtain ⟨s3, e3, h3, b3⟩ := lockfree_r h2 ho hr
  have m3 : More s s3 := more_but m2 b3 (Nat.le_refl _)
  have f3 := m3.fresh f
  obtain ⟨s4, e4, h4, k4⟩ := set_r f3 (h.more m3 f) (freed r) (by show okV r.wl r.wb; rw [w1, w2]; exact hw) hn hok
  obtain ⟨v, s5, t1, t2, t3, t4⟩ := told_t t ⟨1, false, zR, zR, .slice none 0 0⟩ s4 (k4.fr f3)
  refine ⟨v, s5, ?_, t2, h4.more t3 (k4.fr f3), ((StB.more m3 f).trans k4).trans (.more t3 (k4.fr f3))⟩
  simp only [freed] at e4 h3
  simp only [leapfrogref09x_Peer_Ask.v, leapfrogref09x_Peer_Ask.t, leapfrogref09x_Peer_free.v, leapfrogref09x_Peer_free.t, leapfrogref09x_ok.r, leapfrogref09x_ok.t, sy, reduceIte, Nat.reduceAdd, Nat.reduceLeDiff, Nat.reduceLT, Nat.reduceEqDiff, Int.reduceEq, Int.reduceLT, Int.reduceLE, Int.reduceNe, ly, ck, rc, e1, e2, e3, lda_row h3, e4, t1]
end Go.Proofs.Yteiagjbjokldgaa
