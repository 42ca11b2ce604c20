/-
  Peers in motion, of any list.
-/
import Derived.Test.YteiagjbjokldgaaPesC
set_option linter.unusedSimpArgs false
set_option linter.unusedVariables false
set_option maxRecDepth 100000
set_option maxHeartbeats 2000000
namespace Go.Proofs.Yteiagjbjokldgaa
open Go.Sim Go.Sim.Bt

/-- What a peer shows of the list: a record, or that it is out. -/
def Sn (wl wb : Int) (p : Pr) : Option Rc → Prop
  | some r => Vv wl wb p r
  | none => p.L = [] ∧ p.en = false ∧ hasC p wl wb
structure Wn (wl wb : Int) (R : List Rf) (pv : Value) (ps : List (Pr × Nat)) (g : Nat → Option Rc) (s : St) : Prop where
  p : IsR s 1 pv (ps.map PB)
  w : WAt ps s
  l : ps.length = R.length
  v : ∀ (j : Nat) q, ps[j]? = some q → Sn wl wb q.1 (g j)
  m : ∀ (j : Nat) q, ps[j]? = some q → R[j]? = some q.1.me ∧ q.1.ma = false
theorem Wn.stp {ks : List Nat} {wl wb : Int} {R : List Rf} {pv : Value} {ps : List (Pr × Nat)} {g : Nat → Option Rc} {s s' : St} (W : Wn wl wb R pv ps g s) (k : StpK ks s s') (h2 : 1 ∉ ks) (h3 : 11 ∉ ks) (h4 : 16 ∉ ks) : Wn wl wb R pv ps g s' :=
  ⟨W.p.stp k h2, ⟨fun j q hq => (W.w.p j q hq).stp k h3 h4 h2, W.w.nd⟩, W.l, W.v, W.m⟩
theorem Wn.more {wl wb : Int} {R : List Rf} {pv : Value} {ps : List (Pr × Nat)} {g : Nat → Option Rc} {s s' : St} (W : Wn wl wb R pv ps g s) (k : More s s') (f : Fresh s) : Wn wl wb R pv ps g s' :=
  W.stp (ks := []) (.more k f) (by simp) (by simp) (by simp)
theorem Wn.adv {wl wb : Int} {R : List Rf} {pv : Value} {ps : List (Pr × Nat)} {g : Nat → Option Rc} {s s' : St} {i b : Nat} {p q : Pr} {x : Option Rc} (W : Wn wl wb R pv ps g s) (hq : ps[i]? = some (p, b)) (k : StB b s s') (A : AtP q s' b) (V : Sn wl wb q x) (L : LikeP p q) :
    Wn wl wb R pv (ps.set i (q, b)) (upd g i x) s' := by
  have kk := stb_k (W.w.p i _ hq) k
  have hl : i < ps.length := (List.getElem?_eq_some_iff.1 hq).1
  have old : ∀ (j : Nat) y, (ps.set i (q, b))[j]? = some y → (j = i ∧ y = (q, b)) ∨ (j ≠ i ∧ ps[j]? = some y) := by
    intro j y hy
    rw [List.getElem?_set] at hy
    by_cases e : i = j
    · rw [if_pos e, if_pos (by omega)] at hy
      cases hy
      exact .inl ⟨e.symm, rfl⟩
    · rw [if_neg e] at hy
      exact .inr ⟨fun g => e g.symm, hy⟩
  refine ⟨by rw [map_set_pb hq]; exact W.p.stp kk (by simp), W.w.set hq k A, by rw [List.length_set]; exact W.l, fun j y hy => ?_, fun j y hy => ?_⟩
  · rcases old j y hy with ⟨rfl, rfl⟩ | ⟨n, hy⟩
    · unfold upd; rw [if_pos rfl]; exact V
    · unfold upd; rw [if_neg n]; exact W.v j y hy
  · rcases old j y hy with ⟨rfl, rfl⟩ | ⟨n, hy⟩
    · obtain ⟨a, c⟩ := W.m _ _ hq
      exact ⟨by rw [L.1]; exact a, by rw [L.2.2.2.1]; exact c⟩
    · exact W.m j y hy
theorem Wn.cg {wl wb : Int} {R : List Rf} {pv : Value} {ps : List (Pr × Nat)} {g g' : Nat → Option Rc} {s : St} (W : Wn wl wb R pv ps g s) (h : ∀ j, j < R.length → g' j = g j) : Wn wl wb R pv ps g' s :=
  ⟨W.p, W.w, W.l, fun j q hq => by rw [h j (by rw [← W.l]; exact (List.getElem?_eq_some_iff.1 hq).1)]; exact W.v j q hq, W.m⟩
theorem Wn.at {wl wb : Int} {R : List Rf} {pv : Value} {ps : List (Pr × Nat)} {g : Nat → Option Rc} {s : St} {i : Nat} {t : Rf} {r : Rc} (W : Wn wl wb R pv ps g s) (ht : R[i]? = some t) (hg : g i = some r) :
    ∃ p b, ps[i]? = some (p, b) ∧ p.me = t ∧ Vv wl wb p r ∧ AtP p s b ∧ p.ma = false := by
  have hl : i < R.length := (List.getElem?_eq_some_iff.1 ht).1
  obtain ⟨⟨p, b⟩, hq⟩ := get_some (l := ps) (j := i) (by rw [W.l]; exact hl)
  obtain ⟨a1, a2⟩ := W.m i _ hq
  have v := W.v i _ hq
  rw [hg] at v
  rw [ht] at a1
  exact ⟨p, b, hq, (Option.some.inj a1).symm, v, W.w.p i _ hq, a2⟩
/-- Values stay where they are. -/
def SameV (ps ps' : List (Pr × Nat)) : Prop := ∀ (j : Nat) q, ps'[j]? = some q → ∃ q0, ps[j]? = some q0 ∧ q.1.vv = q0.1.vv
theorem SameV.refl (ps : List (Pr × Nat)) : SameV ps ps := fun j q h => ⟨q, h, rfl⟩
theorem SameV.trans {a b c : List (Pr × Nat)} (h : SameV a b) (k : SameV b c) : SameV a c := fun j q hq => by
  obtain ⟨q1, h1, e1⟩ := k j q hq
  obtain ⟨q0, h0, e0⟩ := h j q1 h1
  exact ⟨q0, h0, e1.trans e0⟩
theorem SameV.set {ps : List (Pr × Nat)} {i b : Nat} {p q : Pr} (hq : ps[i]? = some (p, b)) (L : LikeP p q) : SameV ps (ps.set i (q, b)) := fun j y hy => by
  rw [List.getElem?_set] at hy
  split at hy
  · rename_i e
    subst e
    split at hy
    · cases hy; exact ⟨_, hq, L.2.2.2.2.2⟩
    · cases hy
  · exact ⟨y, hy, rfl⟩
theorem SameV.sp {ps ps' : List (Pr × Nat)} {v : Value} (h : SameV ps ps') (hs : SpV ps v) : SpV ps' v := fun j q hq hn => by
  obtain ⟨q0, h0, e⟩ := h j q hq
  rw [e] at hn ⊢
  exact hs j q0 h0 hn
/-- What one ask does: of the peer at a place, told at once. -/
def Did (wl wb : Int) (R : List Rf) (pv : Value) (ps : List (Pr × Nat)) (g : Nat → Option Rc) (s : St) (i : Nat) (t : Int) (ak : AskP) (a : Ans) (x : Option Rc) : Prop :=
  ∃ p b w s' ps', ps[i]? = some (p, b) ∧ leapfrogref09x_Peer_Ask.v (PP b) (.int .i64 t) (.agg ⟨ak.cs⟩) s = some (.tuple ⟨[w, .int .i64 0]⟩, s') ∧ Told s' w t a ∧ StpK [11] s s' ∧ Fresh s' ∧ Wn wl wb R pv ps' (upd g i x) s' ∧ ps'.map PB = ps.map PB ∧ SameV ps ps'
section
variable {wl wb t : Int} {R : List Rf} {pv : Value} {ps : List (Pr × Nat)} {g : Nat → Option Rc} {s : St} {i : Nat} {x : Rf} {r : Rc}
theorem wlock {oa oo : Int} (hw : okV wl wb) (f : Fresh s) (W : Wn wl wb R pv ps g s) (hx : R[i]? = some x) (hg : g i = some r) (ho : okO oa oo) (hr : r.held = false) : Did wl wb R pv ps g s i t ⟨3, wl, wb, zR, zR, oa, oo⟩ (ansR r) (some (lockd r oa oo)) := by
  obtain ⟨p, b, hq, me, v, A, ma⟩ := W.at hx hg
  obtain ⟨w, s', q, e, told, A1, v1, L, k⟩ := glock (t := t) hw f A v ho hr
  rw [ofC_f ma] at told
  exact ⟨p, b, w, s', _, hq, e, told, stb_k A k, k.fr f, W.adv hq k A1 v1 L, map_set_pb hq, .set hq L⟩
theorem wright {y : Rf} (hw : okV wl wb) (f : Fresh s) (W : Wn wl wb R pv ps g s) (hx : R[i]? = some x) (hg : g i = some r) (hr : r.held = true) (oy : okRef y) (ly : ltF x y) : Did wl wb R pv ps g s i t ⟨5, wl, wb, y, zR, r.ha, r.ho⟩ okA (some { r with r := y }) := by
  obtain ⟨p, b, hq, me, v, A, ma⟩ := W.at hx hg
  obtain ⟨w, s', q, e, told, A1, v1, L, k⟩ := gright (t := t) hw f A v hr oy (by rw [me]; exact ly)
  exact ⟨p, b, w, s', _, hq, e, told, stb_k A k, k.fr f, W.adv hq k A1 v1 L, map_set_pb hq, .set hq L⟩
theorem wleft {y : Rf} (hw : okV wl wb) (f : Fresh s) (W : Wn wl wb R pv ps g s) (hx : R[i]? = some x) (hg : g i = some r) (oy : okRef y) (ly : ltF y x) : Did wl wb R pv ps g s i t ⟨6, wl, wb, y, zR, 0, 0⟩ okA (some { r with l := y }) := by
  obtain ⟨p, b, hq, me, v, A, ma⟩ := W.at hx hg
  obtain ⟨w, s', q, e, told, A1, v1, L, k⟩ := gleft (t := t) hw f A v oy (by rw [me]; exact ly)
  exact ⟨p, b, w, s', _, hq, e, told, stb_k A k, k.fr f, W.adv hq k A1 v1 L, map_set_pb hq, .set hq L⟩
theorem wfree (hw : okV wl wb) (f : Fresh s) (W : Wn wl wb R pv ps g s) (hx : R[i]? = some x) (hg : g i = some r) (ho : okO r.ha r.ho) (hr : r.held = true) : Did wl wb R pv ps g s i t ⟨4, wl, wb, zR, zR, r.ha, r.ho⟩ okA (some (freed r)) := by
  obtain ⟨p, b, hq, me, v, A, ma⟩ := W.at hx hg
  obtain ⟨w, s', q, e, told, A1, v1, L, k⟩ := gfree (t := t) hw f A v ho hr
  exact ⟨p, b, w, s', _, hq, e, told, stb_k A k, k.fr f, W.adv hq k A1 v1 L, map_set_pb hq, .set hq L⟩
theorem wread (hw : okV wl wb) (f : Fresh s) (W : Wn wl wb R pv ps g s) (hx : R[i]? = some x) (hg : g i = some r) : Did wl wb R pv ps g s i t ⟨1, wl, wb, zR, zR, 0, 0⟩ (ansR r) (some r) := by
  obtain ⟨p, b, hq, me, v, A, ma⟩ := W.at hx hg
  obtain ⟨w, s', e, told, m, f'⟩ := gread (t := t) hw f A v
  rw [ofC_f ma] at told
  refine ⟨p, b, w, s', ps, hq, e, told, .more m f, f', (W.more m f).cg fun j _ => ?_, rfl, .refl _⟩
  unfold upd
  split
  · rename_i e; rw [e, hg]
  · rfl
theorem wenter {y z : Rf} {oa oo : Int} (hw : okV wl wb) (f : Fresh s) (W : Wn wl wb R pv ps g s) (hx : R[i]? = some x) (hg : g i = none) (ho : okO oa oo) (oy : okRef y) (oz : okRef z) (ly : ltF y x) (lz : ltF x z) : Did wl wb R pv ps g s i t ⟨7, wl, wb, y, z, oa, oo⟩ okA (some ⟨wl, wb, y, z, true, oa, oo⟩) := by
  have hl : i < R.length := (List.getElem?_eq_some_iff.1 hx).1
  obtain ⟨⟨p, b⟩, hq⟩ := get_some (l := ps) (j := i) (by rw [W.l]; exact hl)
  obtain ⟨a1, a2⟩ := W.m i _ hq
  have v := W.v i _ hq
  rw [hg] at v
  rw [hx] at a1
  have me : p.me = x := (Option.some.inj a1).symm
  obtain ⟨w, s', q, e, told, A1, v1, L, k⟩ := genter (t := t) hw f (W.w.p i _ hq) v.2.1 v.1 v.2.2 ho oy oz (by rw [me]; exact ly) (by rw [me]; exact lz)
  exact ⟨p, b, w, s', _, hq, e, told, stb_k (W.w.p i _ hq) k, k.fr f, W.adv hq k A1 v1 L, map_set_pb hq, .set hq L⟩
/-- Who is out tells that it is gone. -/
theorem wgone (hw : okV wl wb) (f : Fresh s) (W : Wn wl wb R pv ps g s) (hx : R[i]? = some x) (hg : g i = none) : Did wl wb R pv ps g s i t ⟨1, wl, wb, zR, zR, 0, 0⟩ ⟨2, false, zR, zR, .slice none 0 0⟩ none := by
  have hl : i < R.length := (List.getElem?_eq_some_iff.1 hx).1
  obtain ⟨⟨p, b⟩, hq⟩ := get_some (l := ps) (j := i) (by rw [W.l]; exact hl)
  have v := W.v i _ hq
  rw [hg] at v
  obtain ⟨w, s', e, told, m, f'⟩ := read_p (t := t) f (W.w.p i _ hq) hw
  rw [getV_none v.2.1 v.1] at told
  refine ⟨p, b, w, s', ps, hq, e, told, .more m f, f', (W.more m f).cg fun j _ => ?_, rfl, .refl _⟩
  unfold upd
  split
  · rename_i e; rw [e, hg]
  · rfl
end
end Go.Proofs.Yteiagjbjokldgaa
