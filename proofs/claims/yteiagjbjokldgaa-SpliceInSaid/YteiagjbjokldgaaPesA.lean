/-
  A peer that has a record of one list at most: what each ask makes of it.
-/
import Derived.Test.YteiagjbjokldgaaPerS
set_option linter.unusedSimpArgs false
set_option linter.unusedVariables false
set_option maxRecDepth 100000
set_option maxHeartbeats 2000000
namespace Go.Proofs.Yteiagjbjokldgaa
open Go.Sim Go.Sim.Bt

/-- The same peer, with other records. -/
def LikeP (p q : Pr) : Prop := q.me = p.me ∧ q.en = p.en ∧ q.jo = p.jo ∧ q.ma = p.ma ∧ q.val = p.val ∧ q.vv = p.vv
theorem LikeP.refl (p : Pr) : LikeP p p := ⟨rfl, rfl, rfl, rfl, rfl, rfl⟩
theorem LikeP.trans {p q r : Pr} (h : LikeP p q) (k : LikeP q r) : LikeP p r :=
  ⟨k.1.trans h.1, k.2.1.trans h.2.1, k.2.2.1.trans h.2.2.1, k.2.2.2.1.trans h.2.2.2.1, k.2.2.2.2.1.trans h.2.2.2.2.1, k.2.2.2.2.2.trans h.2.2.2.2.2⟩
abbrev QW (k wl wb : Int) (r r2 : Rf) (oa oo : Int) : Value := .agg ⟨(⟨k, wl, wb, r, r2, oa, oo⟩ : AskP).cs⟩
def Zv (wl wb : Int) (r : Rc) : Prop := r.wl = wl ∧ r.wb = wb
theorem one_setV {wl wb : Int} {p : Pr} {r : Rc} (hw : okV wl wb) (hr : Zv wl wb r) (hp : p.L = [] ∨ ∃ x, p.L = [x] ∧ Zv wl wb x) : setL p r = if plainC p r = true then [] else [r] := by
  rcases hp with hp | ⟨x, hp, hx⟩
  · unfold setL
    rw [hp]
    cases plainC p r <;> rfl
  · have c : cmpW x r = 0 := (cmpW_zero (by rw [hx.1, hx.2]; exact hw) (by rw [hr.1, hr.2]; exact hw)).2 ⟨by rw [hx.1, hr.1], by rw [hx.2, hr.2]⟩
    unfold setL
    rw [hp]
    simp only [List.foldl_cons, List.foldl_nil, setStep, c]
    cases plainC p r <;> simp
theorem setV_ok {wl wb : Int} {p : Pr} {r : Rc} (hw : okV wl wb) (hr : Zv wl wb r) (hp : p.L = [] ∨ ∃ x, p.L = [x] ∧ Zv wl wb x) : (setL p r).length ≤ 1000 ∧ ∀ y ∈ setL p r, okV y.wl y.wb := by
  rw [one_setV hw hr hp]
  split
  · simp
  · refine ⟨by simp, fun y hy => ?_⟩
    rw [List.mem_singleton] at hy
    subst hy
    rw [hr.1, hr.2]
    exact hw
/-- What a peer shows as its record of the list. -/
structure Vv (wl wb : Int) (p : Pr) (r : Rc) : Prop where
  z : Zv wl wb r
  l : p.L = [r] ∨ (p.L = [] ∧ p.en = true ∧ firstC p wl wb = r)
  b : hasC p wl wb
  h0 : r.held = false → r.ha = 0 ∧ r.ho = 0
theorem Vv.one {wl wb : Int} {p : Pr} {r : Rc} (h : Vv wl wb p r) : p.L = [] ∨ ∃ x, p.L = [x] ∧ Zv wl wb x := by
  rcases h.l with g | ⟨g, _⟩
  · exact .inr ⟨r, g, h.z⟩
  · exact .inl g
theorem Vv.get {wl wb : Int} {p : Pr} {r : Rc} (h : Vv wl wb p r) : getC p wl wb = some r := by
  unfold getC
  rcases h.l with g | ⟨g, g2, g3⟩
  · rw [g]
    have : isW wl wb r = true := isW_iff.2 h.z
    simp only [List.find?_cons, this]
  · rw [g]
    simp only [List.find?_nil]
    rw [if_pos ⟨g2, h.b⟩, g3]
theorem Vv.set {wl wb : Int} {p : Pr} {r q : Rc} (hw : okV wl wb) (h : Vv wl wb p r) (hq : Zv wl wb q) (h0 : q.held = false → q.ha = 0 ∧ q.ho = 0) : Vv wl wb { p with L := setL p q } q := by
  refine ⟨hq, ?_, h.b, h0⟩
  show setL p q = [q] ∨ (setL p q = [] ∧ p.en = true ∧ firstC p wl wb = q)
  rw [one_setV hw hq h.one]
  split
  · rename_i k
    right
    unfold plainC at k
    simp only [Bool.and_eq_true, Bool.not_eq_true'] at k
    obtain ⟨k1, k2, k3, k4⟩ := k
    rw [hq.1, hq.2] at k2 k3
    have e1 := sameF_eq k2
    have e2 := sameF_eq k3
    obtain ⟨a1, a2⟩ := h0 k4
    refine ⟨rfl, k1, ?_⟩
    obtain ⟨ql, qb, l, r', held, ha, ho⟩ := q
    obtain ⟨z1, z2⟩ := hq
    simp only at z1 z2 e1 e2 a1 a2 k4
    subst z1 z2 e1 e2 a1 a2 k4
    unfold firstC
    split <;> rfl
  · exact .inl rfl
theorem Vv.end {wl wb : Int} {p : Pr} (he : p.en = true) (hl : p.L = []) (hw : okV wl wb) (hm : wl ≤ p.me.ln) : Vv wl wb p (firstC p wl wb) := by
  refine ⟨?_, .inr ⟨hl, he, rfl⟩, ?_, fun _ => ?_⟩
  · unfold firstC Zv; split <;> exact ⟨rfl, rfl⟩
  · unfold hasC; rw [if_pos he]; exact ⟨hw, hm⟩
  · unfold firstC; split <;> exact ⟨rfl, rfl⟩
theorem Vv.free {wl wb : Int} {p : Pr} {r : Rc} (h : Vv wl wb p r) (hr : r.held = false) : p.L.any Rc.held = false := by
  rcases h.l with g | ⟨g, _⟩
  · rw [g]; simp [hr]
  · rw [g]; rfl
theorem getV_none {wl wb : Int} {p : Pr} (he : p.en = false) (hl : p.L = []) : getC p wl wb = none := by
  unfold getC
  rw [hl]
  simp only [List.find?_nil]
  rw [if_neg (by rw [he]; simp)]
theorem Vv.first {wl wb : Int} {p : Pr} {q : Rc} (hw : okV wl wb) (he : p.en = false) (hl : p.L = []) (hq : Zv wl wb q) (hb : hasC p wl wb) (h0 : q.held = false → q.ha = 0 ∧ q.ho = 0) : Vv wl wb { p with L := setL p q } q := by
  refine ⟨hq, .inl ?_, hb, h0⟩
  show setL p q = [q]
  rw [one_setV hw hq (.inl hl), if_neg]
  unfold plainC
  rw [he]
  simp

/-! ### Asks -/

theorem glock {wl wb : Int} {p : Pr} {r : Rc} {s : St} {b : Nat} {t oa oo : Int} (hw : okV wl wb) (f : Fresh s) (h : AtP p s b) (v : Vv wl wb p r) (ho : okO oa oo) (hr : r.held = false) :
    ∃ w s' q, leapfrogref09x_Peer_Ask.v (PP b) (.int .i64 t) (QW 3 wl wb zR zR oa oo) s = some (.tuple ⟨[w, .int .i64 0]⟩, s') ∧ Told s' w t (ofC p r) ∧ AtP q s' b ∧ Vv wl wb q (lockd r oa oo) ∧ LikeP p q ∧ StB b s s' := by
  have z : Zv wl wb (lockd r oa oo) := v.z
  have ok := setV_ok hw z v.one
  obtain ⟨w, s', e, t', A, k⟩ := lock_p (t := t) f h hw ho v.get (.inl hr) ok.1 ok.2
  exact ⟨w, s', _, e, t', A, v.set hw z (fun g => by cases g), ⟨rfl, rfl, rfl, rfl, rfl, rfl⟩, k⟩
theorem gright {wl wb : Int} {p : Pr} {r : Rc} {s : St} {b : Nat} {t : Int} {x : Rf} (hw : okV wl wb) (f : Fresh s) (h : AtP p s b) (v : Vv wl wb p r) (hr : r.held = true) (hx : okRef x) (hl : lessK p.me.rk p.me.n x.rk x.n) :
    ∃ w s' q, leapfrogref09x_Peer_Ask.v (PP b) (.int .i64 t) (QW 5 wl wb x zR r.ha r.ho) s = some (.tuple ⟨[w, .int .i64 0]⟩, s') ∧ Told s' w t okA ∧ AtP q s' b ∧ Vv wl wb q { r with r := x } ∧ LikeP p q ∧ StB b s s' := by
  have z : Zv wl wb { r with r := x } := v.z
  have ok := setV_ok hw z v.one
  obtain ⟨w, s', e, t', A, k⟩ := right_p (t := t) f h hw hx v.get hr hl ok.1 ok.2
  exact ⟨w, s', _, e, t', A, v.set hw z (fun g => by rw [show ({ r with r := x } : Rc).held = r.held from rfl, hr] at g; cases g), ⟨rfl, rfl, rfl, rfl, rfl, rfl⟩, k⟩
theorem gleft {wl wb : Int} {p : Pr} {r : Rc} {s : St} {b : Nat} {t : Int} {x : Rf} (hw : okV wl wb) (f : Fresh s) (h : AtP p s b) (v : Vv wl wb p r) (hx : okRef x) (hl : lessK x.rk x.n p.me.rk p.me.n) :
    ∃ w s' q, leapfrogref09x_Peer_Ask.v (PP b) (.int .i64 t) (QW 6 wl wb x zR 0 0) s = some (.tuple ⟨[w, .int .i64 0]⟩, s') ∧ Told s' w t okA ∧ AtP q s' b ∧ Vv wl wb q { r with l := x } ∧ LikeP p q ∧ StB b s s' := by
  have z : Zv wl wb { r with l := x } := v.z
  have ok := setV_ok hw z v.one
  obtain ⟨w, s', e, t', A, k⟩ := left_p (t := t) f h hw hx v.get hl ok.1 ok.2
  exact ⟨w, s', _, e, t', A, v.set hw z v.h0, ⟨rfl, rfl, rfl, rfl, rfl, rfl⟩, k⟩
theorem gfree {wl wb : Int} {p : Pr} {r : Rc} {s : St} {b : Nat} {t : Int} (hw : okV wl wb) (f : Fresh s) (h : AtP p s b) (v : Vv wl wb p r) (ho : okO r.ha r.ho) (hr : r.held = true) :
    ∃ w s' q, leapfrogref09x_Peer_Ask.v (PP b) (.int .i64 t) (QW 4 wl wb zR zR r.ha r.ho) s = some (.tuple ⟨[w, .int .i64 0]⟩, s') ∧ Told s' w t okA ∧ AtP q s' b ∧ Vv wl wb q (freed r) ∧ LikeP p q ∧ StB b s s' := by
  have z : Zv wl wb (freed r) := v.z
  have ok := setV_ok hw z v.one
  obtain ⟨w, s', e, t', A, k⟩ := free_p (t := t) f h hw v.get ho hr ok.1 ok.2
  exact ⟨w, s', _, e, t', A, v.set hw z (fun _ => ⟨rfl, rfl⟩), ⟨rfl, rfl, rfl, rfl, rfl, rfl⟩, k⟩
theorem gread {wl wb : Int} {p : Pr} {r : Rc} {s : St} {b : Nat} {t : Int} (hw : okV wl wb) (f : Fresh s) (h : AtP p s b) (v : Vv wl wb p r) :
    ∃ w s', leapfrogref09x_Peer_Ask.v (PP b) (.int .i64 t) (QW 1 wl wb zR zR 0 0) s = some (.tuple ⟨[w, .int .i64 0]⟩, s') ∧ Told s' w t (ofC p r) ∧ More s s' ∧ Fresh s' := by
  obtain ⟨w, s', e, t', m, f'⟩ := read_p (t := t) f h hw
  rw [v.get] at t'
  exact ⟨w, s', e, t', m, f'⟩
theorem genter {wl wb : Int} {p : Pr} {s : St} {b : Nat} {t oa oo : Int} {x y : Rf} (hw : okV wl wb) (f : Fresh s) (h : AtP p s b) (he : p.en = false) (hL : p.L = []) (hc : hasC p wl wb) (ho : okO oa oo) (hx : okRef x) (hy : okRef y) (hl : lessK x.rk x.n p.me.rk p.me.n) (hl2 : lessK p.me.rk p.me.n y.rk y.n) :
    ∃ w s' q, leapfrogref09x_Peer_Ask.v (PP b) (.int .i64 t) (QW 7 wl wb x y oa oo) s = some (.tuple ⟨[w, .int .i64 0]⟩, s') ∧ Told s' w t okA ∧ AtP q s' b ∧ Vv wl wb q ⟨wl, wb, x, y, true, oa, oo⟩ ∧ LikeP p q ∧ StB b s s' := by
  have z : Zv wl wb (⟨wl, wb, x, y, true, oa, oo⟩ : Rc) := ⟨rfl, rfl⟩
  have ok := setV_ok hw z (.inl hL)
  obtain ⟨w, s', e, t', A, k⟩ := enter_p (t := t) f h hw hx hy ho (getV_none he hL) he hc hl hl2 ok.1 ok.2
  exact ⟨w, s', _, e, t', A, Vv.first hw he hL z hc (fun g => by cases g), ⟨rfl, rfl, rfl, rfl, rfl, rfl⟩, k⟩
end Go.Proofs.Yteiagjbjokldgaa
