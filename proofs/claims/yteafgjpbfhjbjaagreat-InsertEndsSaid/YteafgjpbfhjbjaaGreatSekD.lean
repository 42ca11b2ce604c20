/-
  The reference's search: what each step makes of it.
-/
import Derived.Test.YteafgjpbfhjbjaaGreatSekC
set_option linter.unusedSimpArgs false
set_option linter.unusedVariables false
set_option maxRecDepth 100000
set_option maxHeartbeats 2000000
namespace Go.Proofs.YteafgjpbfhjbjaaGreat
open Go.Sim Go.Sim.Bt
attribute [local congr] bdc cndc itec gdc gdSc gdUc
structure Wl where
  k : Wk
  l : Rf
  r : Rf
abbrev Wl.cs (w : Wl) : List Value := [.int .i64 w.k.id, .int .i64 w.k.l, .int .u64 w.k.b, .int .i64 w.l.id, .int .i64 w.l.rk, .int .u64 w.l.n, .int .i64 w.l.ln, .int .u64 w.l.bt, .int .i64 w.r.id, .int .i64 w.r.rk, .int .u64 w.r.n, .int .i64 w.r.ln, .int .u64 w.r.bt]
def rowsW (ws : List Wl) : List (List Value) := ws.map Wl.cs
def tabW (ws : List Wl) : List (Wk × Rf) := ws.map fun w => (w.k, w.r)
abbrev rrow (c : Cf) (m : Mm) (wv : Value) : List Value :=
  [.int .i64 c.h, .int .i64 c.st.id, .int .i64 c.st.rk, .int .u64 c.st.n, .int .i64 c.st.ln, .int .u64 c.st.bt, .int .i64 c.tr, .int .u64 c.tn, .int .i64 m.ap.id, .int .i64 m.ap.rk, .int .u64 m.ap.n, .int .i64 m.ap.ln, .int .u64 m.ap.bt, .int .i64 m.wl, .int .u64 m.wb, .bool m.lk, .int .i64 m.to.id, .int .i64 m.to.rk, .int .u64 m.to.n, .int .i64 m.to.ln, .int .u64 m.to.bt, wv, .int .i64 m.n, .bool m.ov,
   .int .i64 m.res.e, .int .u64 m.res.key, .slice none 0 0, .slice none 0 0, .int .i64 m.res.l.id, .int .i64 m.res.l.rk, .int .u64 m.res.l.n, .int .i64 m.res.l.ln, .int .u64 m.res.l.bt, .int .i64 m.res.r.id, .int .i64 m.res.r.rk, .int .u64 m.res.r.n, .int .i64 m.res.r.ln, .int .u64 m.res.r.bt, .bool m.res.found]
abbrev RRow (s : St) (d : Nat) (cs : List Value) : Prop := s.get d = some (.row 39 [cs] false)
abbrev RPut (s : St) (d : Nat) (cs : List Value) : St := s.put d (.row 39 [cs] false)
def StpR (d n0 : Nat) (s s' : St) : Prop := s.n ≤ s'.n ∧ (∀ x k, s.get x = some k → x ≠ d → (x < n0 ∨ ∀ rows ro, k ≠ .row 13 rows ro) → s'.get x = some k) ∧ (Fresh s → Fresh s')
theorem StpR.refl (d n0 : Nat) (s : St) : StpR d n0 s s := ⟨Nat.le_refl _, fun _ _ h _ _ => h, id⟩
theorem StpR.trans {d n0 : Nat} {s s1 s2 : St} (h : StpR d n0 s s1) (k : StpR d n0 s1 s2) : StpR d n0 s s2 :=
  ⟨Nat.le_trans h.1 k.1, fun x y hx hd hy => k.2.1 x y (h.2.1 x y hx hd hy) hd hy, fun f => k.2.2 (h.2.2 f)⟩
theorem StpR.put {d n0 : Nat} {s : St} {x : Blk} : StpR d n0 s (s.put d x) := ⟨Nat.le_refl _, fun y k h hd _ => by rw [get_put_ne hd]; exact h, fun f => f.put⟩
structure AtR (c : Cf) (m : Mm) (s0 s : St) (d : Nat) (wv : Value) (ws : List Wl) : Prop where
  row : RRow s d (rrow c m wv)
  own : Own s0.n s 13 wv (rowsW ws)
  tab : m.tab = tabW ws
  more : More s0 s
  big : ws.length ≤ 100000
  dn : s0.n ≤ d
theorem own_put {n0 d : Nat} {s : St} {wv : Value} {rows : List (List Value)} {X Y : List Value} (h : Own n0 s 13 wv rows) (hr : RRow s d X) : Own n0 (RPut s d Y) 13 wv rows := by
  rcases h with ⟨h1, h2⟩ | ⟨o, h1, h2, h3⟩
  · exact .inl ⟨h1, h2⟩
  · refine .inr ⟨o, h1, h2, ?_⟩
    rw [get_put_ne (by rintro rfl; unfold RRow at hr; rw [h3] at hr; simp at hr)]
    exact h3
theorem AtR.put {c : Cf} {m m' : Mm} {s0 s : St} {d : Nat} {wv : Value} {ws : List Wl} (h : AtR c m s0 s d wv ws) (ht : m'.tab = m.tab) : AtR c m' s0 (RPut s d (rrow c m' wv)) d wv ws :=
  ⟨get_put_same h.row, own_put h.own h.row, by rw [ht]; exact h.tab, h.more.put h.dn, h.big, h.dn⟩
theorem rcheck_r (r n : Int) (s : St) : r02Check.r (KV r n) s = some (.int .i64 (if okK r n then 0 else 20)) := by
  unfold okK
  rcases Classical.propComplete (r = 2) with h1 | h1
  · have h2 : (r = 1) = False := eq_false (by have := of_eq_true h1; omega)
    have h3 : (r = 3) = False := eq_false (by have := of_eq_true h1; omega)
    rcases Classical.propComplete (n = 0) with h4 | h4 <;> simp only [r02Check.r, r02Check.t, sy, reduceIte, Nat.reduceAdd, Nat.reduceLeDiff, Nat.reduceLT, Nat.reduceEqDiff, Int.reduceEq, Int.reduceLT, Int.reduceLE, Int.reduceNe, ly, h1, h2, h3, h4]
  · rcases Classical.propComplete (r = 1) with h2 | h2
    · have h3 : (r = 3) = False := eq_false (by have := of_eq_true h2; omega)
      rcases Classical.propComplete (n = 0) with h4 | h4 <;> simp only [r02Check.r, r02Check.t, sy, reduceIte, Nat.reduceAdd, Nat.reduceLeDiff, Nat.reduceLT, Nat.reduceEqDiff, Int.reduceEq, Int.reduceLT, Int.reduceLE, Int.reduceNe, ly, h1, h2, h3, h4]
    · rcases Classical.propComplete (r = 3) with h3 | h3
      · rcases Classical.propComplete (n = 0) with h4 | h4 <;> simp only [r02Check.r, r02Check.t, sy, reduceIte, Nat.reduceAdd, Nat.reduceLeDiff, Nat.reduceLT, Nat.reduceEqDiff, Int.reduceEq, Int.reduceLT, Int.reduceLE, Int.reduceNe, ly, h1, h2, h3, h4]
      · rcases Classical.propComplete (n = 0) with h4 | h4 <;> simp only [r02Check.r, r02Check.t, sy, reduceIte, Nat.reduceAdd, Nat.reduceLeDiff, Nat.reduceLT, Nat.reduceEqDiff, Int.reduceEq, Int.reduceLT, Int.reduceLE, Int.reduceNe, ly, h1, h2, h3, h4]
end Go.Proofs.YteafgjpbfhjbjaaGreat
