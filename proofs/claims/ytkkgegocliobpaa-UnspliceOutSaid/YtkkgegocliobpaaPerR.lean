/-
  Peers of one list in motion: what each shows, and a list without one of its places.
-/
import Derived.Test.YtkkgegocliobpaaPerQ
set_option linter.unusedSimpArgs false
set_option linter.unusedVariables false
set_option maxRecDepth 100000
set_option maxHeartbeats 2000000
namespace Go.Proofs.Ytkkgegocliobpaa
open Go.Sim Go.Sim.Bt
attribute [local congr] bdc cndc itec gdc gdSc gdUc

/-- What a peer shows: a record, or that it is out. -/
def Sh (p : Pr) : Option Rc → Prop
  | some r => Vw p r
  | none => p.L = [] ∧ p.en = false
/-- Peers in motion. -/
structure Wm (R : List Rf) (rv pv : Value) (ps : List (Pr × Nat)) (g : Nat → Option Rc) (s : St) : Prop where
  r : Ful 0 s 5 rv (R.map Rf.cs)
  p : Ful 0 s 1 pv (ps.map PB)
  w : WAt ps s
  l : ps.length = R.length
  v : ∀ (j : Nat) q, ps[j]? = some q → Sh q.1 (g j)
  m : ∀ (j : Nat) q, ps[j]? = some q → R[j]? = some q.1.me ∧ (q.1.en = true ↔ (j = 0 ∨ j + 1 = R.length)) ∧ q.1.ma = false
def upd (g : Nat → Option Rc) (i : Nat) (x : Option Rc) : Nat → Option Rc := fun j => if j = i then x else g j
theorem Wm.stp {ks : List Nat} {R : List Rf} {rv pv : Value} {ps : List (Pr × Nat)} {g : Nat → Option Rc} {s s' : St} (W : Wm R rv pv ps g s) (k : StpK ks s s') (h1 : 5 ∉ ks) (h2 : 1 ∉ ks) (h3 : 11 ∉ ks) (h4 : 16 ∉ ks) : Wm R rv pv ps g s' :=
  ⟨W.r.stp k h1, W.p.stp k h2, ⟨fun j q hq => (W.w.p j q hq).stp k h3 h4 h2, W.w.nd⟩, W.l, W.v, W.m⟩
theorem map_set_pb {ps : List (Pr × Nat)} {i b : Nat} {p q : Pr} (hq : ps[i]? = some (p, b)) : (ps.set i (q, b)).map PB = ps.map PB := by
  apply List.ext_getElem?
  intro j
  rw [List.getElem?_map, List.getElem?_map, List.getElem?_set]
  split
  · rename_i e
    subst e
    have hl : i < ps.length := (List.getElem?_eq_some_iff.1 hq).1
    rw [if_pos hl, hq]
    rfl
  · rfl
theorem Wm.adv {R : List Rf} {rv pv : Value} {ps : List (Pr × Nat)} {g : Nat → Option Rc} {s s' : St} {i b : Nat} {p q : Pr} {x : Option Rc} (W : Wm R rv pv ps g s) (hq : ps[i]? = some (p, b)) (k : StB b s s') (A : AtP q s' b) (V : Sh q x) (L : LikeP p q) :
    Wm R rv pv (ps.set i (q, b)) (upd g i x) s' := by
  have kk := stb_k (W.w.p i _ hq) k
  have hl : i < ps.length := (List.getElem?_eq_some_iff.1 hq).1
  have old : ∀ (j : Nat) y, (ps.set i (q, b))[j]? = some y → (j = i ∧ y = (q, b)) ∨ (j ≠ i ∧ ps[j]? = some y) := by
    intro j y hy
    rw [List.getElem?_set] at hy
    by_cases e : i = j
    · rw [if_pos e, if_pos (by omega)] at hy
      cases hy
      exact .inl ⟨e.symm, rfl⟩
    · rw [if_neg e] at hy
      exact .inr ⟨fun g => e g.symm, hy⟩
  refine ⟨W.r.stp kk (by simp), by rw [map_set_pb hq]; exact W.p.stp kk (by simp), W.w.set hq k A, by rw [List.length_set]; exact W.l, fun j y hy => ?_, fun j y hy => ?_⟩
  · rcases old j y hy with ⟨rfl, rfl⟩ | ⟨n, hy⟩
    · unfold upd; rw [if_pos rfl]; exact V
    · unfold upd; rw [if_neg n]; exact W.v j y hy
  · rcases old j y hy with ⟨rfl, rfl⟩ | ⟨n, hy⟩
    · obtain ⟨a, b, c⟩ := W.m _ _ hq
      exact ⟨by rw [L.1]; exact a, by rw [L.2.1]; exact b, by rw [L.2.2.2.1]; exact c⟩
    · exact W.m j y hy
/-- What it tells of a record, where it is not marked. -/
abbrev ansR (r : Rc) : Ans := ⟨1, false, r.l, r.r, .slice none 0 0⟩
theorem ofC_f {p : Pr} {r : Rc} (h : p.ma = false) : ofC p r = ansR r := by unfold ofC; rw [h]

theorem slc_from {s : St} {sz b len e lo : Nat} {rows : List (List Value)} (hg : s.get b = some (.row sz rows false)) (h2 : lo ≤ len) (he : e = 1 ∨ e = 2 * len) :
    slc s sz (.slice (some ⟨b, 0, some 0⟩) len e) (some (.int .i64 (lo : Int))) none none = some (.slice (some ⟨b, lo, some 0⟩) (len - lo) (if e = 1 then 1 else 2 * (e / 2 - lo))) := by
  have a2 : (0 : Int) ≤ lo := by omega
  simp only [Sim.slc, optN, isNat, if_pos a2, bds, Int.toNat_natCast, hg]
  rw [if_pos ⟨trivial, by omega⟩]
  rcases he with rfl | rfl
  · rw [if_pos rfl, if_pos (Nat.le_refl _), if_pos rfl, Nat.zero_add]
  · by_cases h1 : 2 * len = 1
    · omega
    · rw [if_neg h1, if_pos (by omega), if_neg h1, Nat.zero_add]
theorem slc_to {s : St} {sz b len e hi : Nat} {rows : List (List Value)} (hg : s.get b = some (.row sz rows false)) (h2 : hi ≤ len) (he : e = 1 ∨ e = 2 * len) :
    slc s sz (.slice (some ⟨b, 0, some 0⟩) len e) none (some (.int .i64 (hi : Int))) none = some (.slice (some ⟨b, 0, some 0⟩) hi e) := by
  have a2 : (0 : Int) ≤ hi := by omega
  simp only [Sim.slc, optN, isNat, if_pos a2, bds, Int.toNat_natCast, hg]
  rw [if_pos ⟨trivial, by omega⟩]
  rcases he with rfl | rfl
  · rw [if_pos rfl, if_pos h2]
    rfl
  · by_cases h1 : 2 * len = 1
    · omega
    · rw [if_neg h1, if_pos (by omega)]
      rw [show 2 * (2 * len / 2 - 0) = 2 * len by omega]
      rfl
/-- append(append([]T{}, l[:k]...), l[k+1:]...) -/
theorem without_r {n0 : Nat} {s : St} {sz by_ : Nat} {v : Value} {rows : List (List Value)} {k : Nat} (f : Fresh s) (h : Ful n0 s sz v rows) (h1 : 1 ≤ k) (h2 : k + 1 < rows.length) (hb : rows.length * by_ ≤ 140737488355328) (hl : rows.length ≤ 1000) :
    ∃ x y v3 s3 v4 s4, slc s sz v none (some (.int .i64 (k : Int))) none = some x ∧ slc s sz v (some (.int .i64 ((k + 1 : Nat) : Int))) none none = some y ∧ sameV y y = true ∧
      app (s.new (.row sz [] false)) sz by_ (.slice (some ⟨s.n, 0, some 0⟩) 0 0) x = some (v3, s3) ∧ slc s3 sz v (some (.int .i64 ((k + 1 : Nat) : Int))) none none = some y ∧ app s3 sz by_ v3 y = some (v4, s4) ∧ More s s4 ∧ Fresh s4 ∧ Ful s.n s4 sz v4 (rows.take k ++ rows.drop (k + 1)) := by
  rcases h with ⟨rfl, rfl⟩ | ⟨b, e, _, rfl, hg, he⟩
  · simp at h2
  · have bn := f.lt hg
    have g1 : (s.new (.row sz [] false)).get b = some (.row sz rows false) := by rw [get_new_ne (by omega)]; exact hg
    have g0 : (s.new (.row sz [] false)).get s.n = some (.row sz [] false) := get_new_same
    have hbk : k * by_ ≤ rows.length * by_ := Nat.mul_le_mul_right _ (by omega)
    have r1 : rowsOf (s.new (.row sz [] false)) sz k (.slice (some ⟨b, 0, some 0⟩) k e) = some (rows.take k) := by
      rw [rowsOf_row g1 (Nat.le_refl _) (by omega)]; rfl
    have a1 := app_full (s := s.new (.row sz [] false)) (by_ := by_) (n := k) (x := .slice (some ⟨b, 0, some 0⟩) k e) (b := s.n) (i := 0) (len := 0) (e := 0) rfl r1 g0 (by simp) (by omega) (by omega) (by rw [Nat.zero_add]; omega) (by omega)
    simp only [List.drop_zero, List.take_nil, List.nil_append, Nat.zero_add] at a1
    obtain ⟨s3, hs3⟩ : ∃ s3, s3 = (s.new (.row sz [] false)).new (.row sz (rows.take k) false) := ⟨_, rfl⟩
    rw [← hs3] at a1
    have m3 : More s s3 := by rw [hs3]; exact More.new.trans .new
    have f3 := m3.fresh f
    have g3 : s3.get b = some (.row sz rows false) := m3.get f hg
    have q3 : s3.get (s.new (.row sz [] false)).n = some (.row sz (rows.take k) false) := by rw [hs3]; exact get_new_same
    have l3 : (rows.take k).length = k := by rw [List.length_take]; omega
    have ld : (rows.drop (k + 1)).length = rows.length - (k + 1) := by rw [List.length_drop]
    have r3 : rowsOf s3 sz (rows.length - (k + 1)) (.slice (some ⟨b, k + 1, some 0⟩) (rows.length - (k + 1)) (if e = 1 then 1 else 2 * (e / 2 - (k + 1)))) = some (rows.drop (k + 1)) := by
      rw [rowsOf_row g3 (Nat.le_refl _) (by omega), List.take_of_length_le (by omega)]
    have hk1 : (k + (rows.length - (k + 1))) * by_ ≤ rows.length * by_ := Nat.mul_le_mul_right _ (by omega)
    have a2 := app_own (s := s3) (by_ := by_) (b := (s.new (.row sz [] false)).n) (len := k) (n := rows.length - (k + 1)) (x := .slice (some ⟨b, k + 1, some 0⟩) (rows.length - (k + 1)) (if e = 1 then 1 else 2 * (e / 2 - (k + 1)))) rfl r3 q3 (by omega) (by omega) (by omega) (by omega)
    rw [List.take_of_length_le (show (rows.take k).length ≤ k by omega)] at a2
    have sn : s.n ≤ (s.new (.row sz [] false)).n := Nat.le_succ _
    refine ⟨_, _, _, s3, _, _, slc_to hg (by omega) he, slc_from hg (by omega) he, ?_, a1, slc_from g3 (by omega) he, a2, (m3.del sn).trans .new, f3.del.new, .inr ⟨s3.n, 1, m3.n, ?_, ?_, .inl rfl⟩⟩
    · simp [sameV]
    · rw [List.length_append, l3, ld]
    · exact get_new_same (s := s3.del _)
end Go.Proofs.Ytkkgegocliobpaa
