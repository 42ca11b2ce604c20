/-
  The document's peer in memory: its state, copied; whether a lock of it is held.
-/
import Derived.Test.YteiagjbjokldgaaPerF
set_option linter.unusedSimpArgs false
set_option linter.unusedVariables false
set_option maxRecDepth 100000
set_option maxHeartbeats 2000000
namespace Go.Proofs.Yteiagjbjokldgaa
open Go.Sim Go.Sim.Bt
attribute [local congr] bdc cndc itec gdc gdSc gdUc

theorem same5r (r : Rf) : sameV (.agg ⟨[.int .i64 r.id, .int .i64 r.rk, .int .u64 r.n, .int .i64 r.ln, .int .u64 r.bt]⟩) (.agg ⟨[.int .i64 r.id, .int .i64 r.rk, .int .u64 r.n, .int .i64 r.ln, .int .u64 r.bt]⟩) = true := by simp [sameV, sameVs]
/-- A record's copy: its waits are a new slice. -/
abbrev Rc.st (x : Rc) (w : Value) : List Value :=
  [.int .i64 x.wl, .int .u64 x.wb, .int .i64 x.l.id, .int .i64 x.l.rk, .int .u64 x.l.n, .int .i64 x.l.ln, .int .u64 x.l.bt, .int .i64 x.r.id, .int .i64 x.r.rk, .int .u64 x.r.n, .int .i64 x.r.ln, .int .u64 x.r.bt, .bool x.held, .int .i64 x.ha, .int .i64 x.ho, w]
def RcR (rows : List (List Value)) (l : List Rc) : Prop := rows.length = l.length ∧ ∀ (j : Nat) r x, rows[j]? = some r → l[j]? = some x → ∃ b : Nat, r = x.st (.slice (some ⟨b, 0, some 0⟩) 0 0)
theorem RcR.nil : RcR [] [] := ⟨rfl, fun j r x h => by simp at h⟩
theorem RcR.push {rows : List (List Value)} {l : List Rc} (h : RcR rows l) (x : Rc) (b : Nat) : RcR (rows ++ [x.st (.slice (some ⟨b, 0, some 0⟩) 0 0)]) (l ++ [x]) := by
  refine ⟨by simp [h.1], fun j r y hr hy => ?_⟩
  by_cases hj : j < rows.length
  · rw [List.getElem?_append_left hj] at hr
    rw [List.getElem?_append_left (by rw [← h.1]; exact hj)] at hy
    exact h.2 j r y hr hy
  · rw [List.getElem?_append_right (by omega)] at hr
    rw [List.getElem?_append_right (by rw [← h.1]; omega), ← h.1] at hy
    have : j - rows.length = 0 := by
      have := (List.getElem?_eq_some_iff.1 hr).1
      simp at this; omega
    rw [this] at hr hy
    simp only [List.getElem?_cons_zero, Option.some.injEq] at hr hy
    subst hr hy
    exact ⟨b, rfl⟩
/-- A state's cells. -/
abbrev stC (p : Pr) (vv lv : Value) : List Value :=
  [.int .i64 p.me.id, .int .i64 p.me.rk, .int .u64 p.me.n, .int .i64 p.me.ln, .int .u64 p.me.bt, vv, .bool p.jo, .bool p.ma, lv]
abbrev SRw (s : St) (c : Nat) (X : List Value) : Prop := s.get c = some (.row 9 [X] false)
/-- One round of the copying. -/
theorem state_step {p : Pr} {s0 s : St} {b c : Nat} {vv vw lv v : Value} {rows : List (List Value)} {z : List Value} {i : Nat} (f0 : Fresh s0) (m : More s0 s) (f : Fresh s) (hc : s0.n ≤ c) (g1 : PRow s b (prow p vv lv)) (g2 : IsR s 16 lv (p.L.map Rc.cs)) (h9 : SRw s c (stC p vw v)) (hv : Ful s0.n s 16 v rows) (hr : RcR rows (p.L.take i)) (hN : p.L.length ≤ 1000) {x : Rc} (hx : p.L[i]? = some x) (rec : List Value → St → Option Cut) :
    ∃ v' rows' s', leapfrogref09x_Peer_State.l3 std rec [PP b, PP c, .int .i64 (i : Int), .agg ⟨z⟩] s = rec [PP b, PP c, .int .i64 ((i + 1 : Nat) : Int), .agg ⟨z⟩] s' ∧ More s0 s' ∧ Fresh s' ∧ SRw s' c (stC p vw v') ∧ Ful s0.n s' 16 v' rows' ∧ RcR rows' (p.L.take (i + 1)) := by
  have hil : i < p.L.length := (List.getElem?_eq_some_iff.1 hx).1
  have e1 : (i : Int) < p.L.length := by omega
  have e5 : IntKind.i64.wrap ((i : Int) + 1) = ((i + 1 : Nat) : Int) := by rw [wrap64 (by omega) (by omega)]; omega
  have hlen := g2.len
  rw [List.length_map] at hlen
  obtain ⟨o, al, ro, a1, a2, a3⟩ := g2.at (rc_get hx)
  have hrl : rows.length = i := by have := hr.1; rw [List.length_take] at this; omega
  have q1 : (s.new (.row 2 [] false)).get s.n = some (.row 2 [] false) := get_new_same
  have a0 : app (s.new (.row 2 [] false)) 2 16 (.slice (some ⟨s.n, 0, some 0⟩) 0 0) (.slice none 0 0) = _ := app0 (x := .slice none 0 0) rfl rfl q1
  obtain ⟨s2, hs2⟩ : ∃ s2, s2 = (s.new (.row 2 [] false)).put s.n (.row 2 [] false) := ⟨_, rfl⟩
  have m2 : More s s2 := by rw [hs2]; exact More.new.put (Nat.le_refl _)
  rw [← hs2] at a0
  have f2 := m2.fresh f
  have h92 : SRw s2 c (stC p vw v) := m2.get f h9
  obtain ⟨v', s3, p1, p2, p3, p4, p5⟩ := push f2 (hv.more m2 f) (m.trans m2) (by_ := 144) (x.st (.slice (some ⟨s.n, 0, some 0⟩) 0 0)) (by omega) (by omega)
  have h93 : SRw s3 c (stC p vw v) := p5.row h92 (by simp)
  have bxv := p3.isR.bx
  have bx0 := hv.isR.bx
  have smv : sameV v v = true := hv.isR.same
  have k9 : StpK [9] s3 (s3.put c (.row 9 [stC p vw v'] false)) := .put h93 (by simp [kd])
  refine ⟨v', _, s3.put c (.row 9 [stC p vw v'] false), ?_, p2.put hc, p4.put, get_put_same h93, p3.stp k9 (by simp), by rw [List.take_add_one, hx]; exact hr.push x s.n⟩
  simp only [leapfrogref09x_Peer_State.l3, leapfrogref09x_Peer_State.l3.p1, sy, reduceIte, Nat.reduceAdd, Nat.reduceLeDiff, Nat.reduceLT, Nat.reduceEqDiff, Int.reduceEq, Int.reduceLT, Int.reduceLE, Int.reduceNe, ly, ldc_row g1, hlen, e1, a1, lda_row a2, a3, ldc_row h9, als_eq, Nat.reduceMul, List.replicate_zero, a0, ldc_row h92, smv, p1, bxv, bx0, stv_row h93, e5]
theorem state_r {p : Pr} {s : St} {b : Nat} (f : Fresh s) (h : AtP p s b) :
    ∃ vw v rows s', leapfrogref09x_Peer_State.v (PP b) s = some (.agg ⟨stC p vw v⟩, s') ∧ More s s' ∧ Fresh s' ∧ Byt s' vw p.val ∧ IsR s' 16 v rows ∧ RcR rows p.L := by
  obtain ⟨vv, lv, h1, h2, h3⟩ := h.ex
  have hN := h.n
  obtain ⟨vw, s1, c1, m1, b1⟩ := clone_r f h3.b (by have := h.hv; omega)
  have f1 := m1.fresh f
  have g1 : PRow s1 b (prow p vv lv) := m1.get f h1
  have g2 := h2.more m1 f
  have hlen := g2.len
  rw [List.length_map] at hlen
  have bxw := b1.bx
  have smb : ∀ x : Bool, sameV (.bool x) (.bool x) = true := fun x => sameB
  obtain ⟨Z, hZ⟩ : ∃ Z : List Value, Z = [.int .i64 0, .int .i64 0, .int .u64 0, .int .i64 0, .int .u64 0, .slice none 0 0, .bool false, .bool false, .slice none 0 0] := ⟨_, rfl⟩
  have e0 : ∀ s : St, alv s (.agg ⟨Z⟩) = some (PP s.n, s.new (.row 9 [Z] false)) := fun s => by rw [hZ]; rfl
  have r0 : SRw (s1.new (.row 9 [Z] false)) s1.n Z := get_new_same
  have m2 : More s1 (s1.new (.row 9 [Z] false)) := .new
  obtain ⟨s3, hs3⟩ : ∃ s3, s3 = (s1.new (.row 9 [Z] false)).put s1.n (.row 9 [stC p vw (.slice none 0 0)] false) := ⟨_, rfl⟩
  have e3 : stv (s1.new (.row 9 [Z] false)) 9 (PP s1.n) (.agg ⟨stC p vw (.slice none 0 0)⟩) = some s3 := by
    rw [hs3]
    rw [hZ] at r0
    rw [hZ]
    simp only [stv_row r0, sy, reduceIte, Nat.reduceAdd, Nat.reduceLeDiff, Nat.reduceLT, Nat.reduceEqDiff, Int.reduceEq, Int.reduceLT, Int.reduceLE, Int.reduceNe, ly]
  have m3 : More s1 s3 := by rw [hs3]; exact m2.put (Nat.le_refl _)
  have f3 := m3.fresh f1
  have q9 : SRw s3 s1.n (stC p vw (.slice none 0 0)) := by rw [hs3]; exact get_put_same r0
  have main : ∃ v rows s', iter (leapfrogref09x_Peer_State.l3 std) BIG [PP b, PP s1.n, .int .i64 ((0 : Nat) : Int), .agg ⟨Z⟩] s3 = some ((0, [PP s1.n, .agg ⟨Z⟩], s') : Cut) ∧ More s1 s' ∧ Fresh s' ∧ SRw s' s1.n (stC p vw v) ∧ Ful s1.n s' 16 v rows ∧ RcR rows p.L := by
    refine iter_rel (fun d xs s' => ∃ i v rows, i + d = p.L.length ∧ More s1 s' ∧ Fresh s' ∧ SRw s' s1.n (stC p vw v) ∧ Ful s1.n s' 16 v rows ∧ RcR rows (p.L.take i) ∧ xs = [PP b, PP s1.n, .int .i64 (i : Int), .agg ⟨Z⟩])
      (fun y : Option Cut => ∃ v rows s', y = some ((0, [PP s1.n, .agg ⟨Z⟩], s') : Cut) ∧ More s1 s' ∧ Fresh s' ∧ SRw s' s1.n (stC p vw v) ∧ Ful s1.n s' 16 v rows ∧ RcR rows p.L) ?_ BIG p.L.length _ s3 (by unfold BIG; omega) ⟨0, _, [], by omega, m3, f3, q9, .nil, by rw [List.take_zero]; exact .nil, rfl⟩
    rintro d xs s' rec ⟨i, v, rows, hi, hm, hf, h9, hv, hr, rfl⟩ ih
    have g1' : PRow s' b (prow p vv lv) := hm.get f1 g1
    cases d with
    | zero =>
      have e1 : ¬ ((i : Int) < p.L.length) := by omega
      rw [List.take_of_length_le (by omega)] at hr
      exact ⟨v, rows, s', by simp only [leapfrogref09x_Peer_State.l3, sy, reduceIte, Nat.reduceAdd, Nat.reduceLeDiff, Nat.reduceLT, Nat.reduceEqDiff, Int.reduceEq, Int.reduceLT, Int.reduceLE, Int.reduceNe, ly, ldc_row g1', hlen, e1], hm, hf, h9, hv, hr⟩
    | succ d =>
      obtain ⟨x, hx⟩ := get_some (l := p.L) (j := i) (by omega)
      obtain ⟨v', rows', s4, e, t1, t2, t3, t4, t5⟩ := state_step (z := Z) f1 hm hf (Nat.le_refl _) g1' (g2.more hm f1) h9 hv hr hN hx rec
      rw [e]
      exact ih d _ _ (by omega) ⟨i + 1, v', rows', by omega, t1, t2, t3, t4, t5, rfl⟩
  obtain ⟨v, rows, s4, e4, m4, f4, h9, hv, hr⟩ := main
  rw [show ((0 : Nat) : Int) = 0 from rfl] at e4
  have bxv := hv.isR.bx
  have s5 := same5r p.me
  refine ⟨vw, v, rows, s4, ?_, m1.trans m4, f4, b1.stp (StpK.more (ks := []) m4 f1) (by simp), hv.isR, hr⟩
  rw [hZ] at e0 e3 e4
  simp only [leapfrogref09x_Peer_State.v, leapfrogref09x_Peer_State.t, leapfrogref09x_Peer_State.t.p1, sy, reduceIte, Nat.reduceAdd, Nat.reduceLeDiff, Nat.reduceLT, Nat.reduceEqDiff, Int.reduceEq, Int.reduceLT, Int.reduceLE, Int.reduceNe, ly, ldc_row h1, lda_row h1, als_eq, Nat.reduceMul, List.replicate_zero, e0, c1, lda_row g1, ldc_row g1, s5, smb, bxw, e3, e4, lda_row h9]
end Go.Proofs.Yteiagjbjokldgaa
