/-
  Peers side by side in memory, of any list (cut from PerJ, PerM, PerN, PerO, PerQ, PerR: what speaks of no law).
-/
import Derived.Test.YteiagjbjokldgaaPesB
import Derived.Test.YteiagjbjokldgaaMachO
set_option linter.unusedSimpArgs false
set_option linter.unusedVariables false
set_option maxRecDepth 100000
set_option maxHeartbeats 2000000
namespace Go.Proofs.Yteiagjbjokldgaa
open Go.Sim Go.Sim.Bt
attribute [local congr] bdc cndc itec gdc gdSc gdUc

/-- Peers, each in a block of its own. -/
structure WAt (ps : List (Pr × Nat)) (s : St) : Prop where
  p : ∀ (j : Nat) q, ps[j]? = some q → AtP q.1 s q.2
  nd : ∀ (i j : Nat) q r, ps[i]? = some q → ps[j]? = some r → q.2 = r.2 → i = j
theorem WAt.nil {s : St} : WAt [] s := ⟨fun j q h => by simp at h, fun i j q r h => by simp at h⟩
theorem WAt.more {ps : List (Pr × Nat)} {s s' : St} (h : WAt ps s) (m : More s s') (f : Fresh s) : WAt ps s' := ⟨fun j q hq => (h.p j q hq).more m f, h.nd⟩
theorem AtP.lt {p : Pr} {s : St} {b : Nat} (h : AtP p s b) (f : Fresh s) : b < s.n := by
  obtain ⟨vv, lv, h1, _⟩ := h.ex
  exact f.lt h1
/-- One changes. -/
theorem WAt.set {ps : List (Pr × Nat)} {s s' : St} {j b : Nat} {p p' : Pr} (h : WAt ps s) (hj : ps[j]? = some (p, b)) (k : StB b s s') (hp : AtP p' s' b) : WAt (ps.set j (p', b)) s' := by
  have hjl : j < ps.length := (List.getElem?_eq_some_iff.1 hj).1
  obtain ⟨vv, lv, h1, _⟩ := (h.p j _ hj).ex
  have old : ∀ (i : Nat) q, (ps.set j (p', b))[i]? = some q → (i = j ∧ q = (p', b)) ∨ (i ≠ j ∧ ps[i]? = some q) := by
    intro i q hq
    rw [List.getElem?_set] at hq
    by_cases e : j = i
    · rw [if_pos e, if_pos (by omega)] at hq
      cases hq
      exact .inl ⟨e.symm, rfl⟩
    · rw [if_neg e] at hq
      exact .inr ⟨fun g => e g.symm, hq⟩
  refine ⟨fun i q hq => ?_, fun i l q r hq hr he => ?_⟩
  · rcases old i q hq with ⟨_, rfl⟩ | ⟨hne, hq⟩
    · exact hp
    · exact (h.p i q hq).stb k h1 fun e => hne (h.nd i j q _ hq hj e)
  · rcases old i q hq with ⟨e1, e2⟩ | ⟨n1, hq2⟩
    · rcases old l r hr with ⟨e3, e4⟩ | ⟨n2, hr2⟩
      · rw [e1, e3]
      · rw [e2] at he
        exact absurd (h.nd l j r _ hr2 hj he.symm) n2
    · rcases old l r hr with ⟨e3, e4⟩ | ⟨n2, hr2⟩
      · rw [e4] at he
        exact absurd (h.nd i j q _ hq2 hj he) n1
      · exact h.nd i l q r hq2 hr2 he
/-- One more. -/
theorem WAt.push {ps : List (Pr × Nat)} {s s' : St} {b : Nat} {p : Pr} (h : WAt ps s) (f : Fresh s) (hs : WAt ps s') (hb : s.n ≤ b) (hp : AtP p s' b) : WAt (ps ++ [(p, b)]) s' := by
  have old : ∀ (i : Nat) q, (ps ++ [(p, b)])[i]? = some q → (i = ps.length ∧ q = (p, b)) ∨ (i < ps.length ∧ ps[i]? = some q) := by
    intro i q hq
    by_cases hi : i < ps.length
    · rw [List.getElem?_append_left hi] at hq
      exact .inr ⟨hi, hq⟩
    · rw [List.getElem?_append_right (by omega)] at hq
      have h0 : i - ps.length = 0 := by
        have := (List.getElem?_eq_some_iff.1 hq).1
        simp at this; omega
      rw [h0] at hq
      simp only [List.getElem?_cons_zero, Option.some.injEq] at hq
      exact .inl ⟨by omega, hq.symm⟩
  have lt : ∀ (i : Nat) q, ps[i]? = some q → q.2 < b := fun i q hq => Nat.lt_of_lt_of_le ((h.p i q hq).lt f) hb
  refine ⟨fun i q hq => ?_, fun i l q r hq hr he => ?_⟩
  · rcases old i q hq with ⟨_, rfl⟩ | ⟨_, hq⟩
    · exact hp
    · exact hs.p i q hq
  · rcases old i q hq with ⟨rfl, rfl⟩ | ⟨n1, hq⟩
    · rcases old l r hr with ⟨rfl, rfl⟩ | ⟨n2, hr⟩
      · rfl
      · have := lt l r hr; simp only at he; omega
    · rcases old l r hr with ⟨rfl, rfl⟩ | ⟨n2, hr⟩
      · have := lt i q hq; simp only at he; omega
      · exact hs.nd i l q r hq hr he
theorem IsR.at2 {s : St} {sz : Nat} {v : Value} {rows : List (List Value)} (h : IsR s sz v rows) {j : Nat} {r : List Value} (hj : rows[j]? = some r) :
    ∃ all ro, idx s sz v (.int .i64 (j : Int)) = some (.pointer (some ⟨blkOf v, j, some 0⟩)) ∧ s.get (blkOf v) = some (.row sz all ro) ∧ all[j]? = some r := by
  obtain ⟨b, all, ro, a1, a2, a3⟩ := h.at hj
  have e := h.blk hj a1
  simp only [Value.pointer.injEq, Option.some.injEq, Addr.mk.injEq] at e
  obtain ⟨rfl, _⟩ := e
  exact ⟨all, ro, a1, a2, a3⟩
theorem rf_get {l : List Rf} {j : Nat} {x : Rf} (h : l[j]? = some x) : (l.map Rf.cs)[j]? = some x.cs := by rw [List.getElem?_map, h]; rfl
abbrev PB (q : Pr × Nat) : List Value := [PP q.2]
theorem byt_keep {s s' : St} {v : Value} {l : List (List Value)} (h : Byt s v l) (hk : v ≠ .slice none 0 0 → ∀ k, s.get (blkOf v) = some k → s'.get (blkOf v) = some k) : Byt s' v l := by
  refine ⟨h.sl, h.len, ?_, h.ok⟩
  obtain ⟨a, m, c, rfl⟩ := h.sl
  have hr := h.rows
  unfold rowsOf at hr ⊢
  split at hr
  · rename_i b i len e heq
    cases heq
    have hk := hk (by simp)
    simp only [blkOf] at hk
    split at hr
    · rename_i hg
      rw [hk _ hg]
      exact hr
    · cases hr
  · exact hr
  · rename_i e; cases e
  · cases hr
/-- A slice of somebody else's grows. -/
theorem AtP.sep {p : Pr} {s s' : St} {b n0 : Nat} {v v' : Value} {rows : List (List Value)} (h : AtP p s b) (hv : Ful n0 s 1 v rows) (k : StpI [] v v' s s') (hs : p.vv ≠ .slice none 0 0 → ¬ own v (blkOf p.vv)) : AtP p s' b := by
  obtain ⟨vv, lv, g1, g2, g3⟩ := h.ex
  have k1 : StpK [1] s s' := hv.toK k
  refine ⟨⟨vv, lv, k1.row g1 (by simp), g2.stp k1 (by simp), ⟨byt_keep g3.b fun hn x hx => ?_, g3.e⟩⟩, h.n, h.ok, h.hm, h.hv⟩
  have e := g3.e
  subst e
  exact k.old _ _ hx (by simp) (hs hn)
/-- No value lies in the block of a slice. -/
def SpV (ps : List (Pr × Nat)) (v : Value) : Prop := ∀ (j : Nat) q, ps[j]? = some q → q.1.vv ≠ .slice none 0 0 → ¬ own v (blkOf q.1.vv)
theorem vv_lt {p : Pr} {s : St} {b : Nat} (h : AtP p s b) (f : Fresh s) (hn : p.vv ≠ .slice none 0 0) : blkOf p.vv < s.n := by
  obtain ⟨vv, lv, g1, g2, g3⟩ := h.ex
  have e := g3.e
  subst e
  obtain ⟨a, m, c, e⟩ := g3.b.sl
  have hr := g3.b.rows
  rw [e] at hr hn ⊢
  unfold rowsOf at hr
  split at hr
  · rename_i b' i len e' heq
    cases heq
    split at hr
    · rename_i hg; exact f.lt hg
    · cases hr
  · rename_i heq; cases heq; exact absurd rfl hn
  · rename_i e; cases e
  · cases hr
theorem WAt.sep {ps : List (Pr × Nat)} {s s' : St} {n0 : Nat} {v v' : Value} {rows : List (List Value)} (h : WAt ps s) (hv : Ful n0 s 1 v rows) (k : StpI [] v v' s s') (hs : SpV ps v) : WAt ps s' := ⟨fun j q hq => (h.p j q hq).sep hv k (hs j q hq), h.nd⟩
theorem stb_k {p : Pr} {s s' : St} {b : Nat} (h : AtP p s b) (k : StB b s s') : StpK [11] s s' := by
  obtain ⟨vv, lv, g1, _⟩ := h.ex
  exact k.toK g1
theorem pb_get {ps : List (Pr × Nat)} {j : Nat} {q : Pr × Nat} (h : ps[j]? = some q) : (ps.map PB)[j]? = some [PP q.2] := by rw [List.getElem?_map, h]; rfl
theorem sameF_ne {a b : Rf} (h : a.id ≠ b.id) : sameF a b = false := by unfold sameF; simp [h]
def upd (g : Nat → Option Rc) (i : Nat) (x : Option Rc) : Nat → Option Rc := fun j => if j = i then x else g j
theorem map_set_pb {ps : List (Pr × Nat)} {i b : Nat} {p q : Pr} (hq : ps[i]? = some (p, b)) : (ps.set i (q, b)).map PB = ps.map PB := by
  apply List.ext_getElem?
  intro j
  rw [List.getElem?_map, List.getElem?_map, List.getElem?_set]
  split
  · rename_i e
    subst e
    have hl : i < ps.length := (List.getElem?_eq_some_iff.1 hq).1
    rw [if_pos hl, hq]
    rfl
  · rfl
/-- What it tells of a record, where it is not marked. -/
abbrev ansR (r : Rc) : Ans := ⟨1, false, r.l, r.r, .slice none 0 0⟩
theorem ofC_f {p : Pr} {r : Rc} (h : p.ma = false) : ofC p r = ansR r := by unfold ofC; rw [h]
theorem slc_from {s : St} {sz b len e lo : Nat} {rows : List (List Value)} (hg : s.get b = some (.row sz rows false)) (h2 : lo ≤ len) (he : e = 1 ∨ e = 2 * len) :
    slc s sz (.slice (some ⟨b, 0, some 0⟩) len e) (some (.int .i64 (lo : Int))) none none = some (.slice (some ⟨b, lo, some 0⟩) (len - lo) (if e = 1 then 1 else 2 * (e / 2 - lo))) := by
  have a2 : (0 : Int) ≤ lo := by omega
  simp only [Sim.slc, optN, isNat, if_pos a2, bds, Int.toNat_natCast, hg]
  rw [if_pos ⟨trivial, by omega⟩]
  rcases he with rfl | rfl
  · rw [if_pos rfl, if_pos (Nat.le_refl _), if_pos rfl, Nat.zero_add]
  · by_cases h1 : 2 * len = 1
    · omega
    · rw [if_neg h1, if_pos (by omega), if_neg h1, Nat.zero_add]
theorem slc_to {s : St} {sz b len e hi : Nat} {rows : List (List Value)} (hg : s.get b = some (.row sz rows false)) (h2 : hi ≤ len) (he : e = 1 ∨ e = 2 * len) :
    slc s sz (.slice (some ⟨b, 0, some 0⟩) len e) none (some (.int .i64 (hi : Int))) none = some (.slice (some ⟨b, 0, some 0⟩) hi e) := by
  have a2 : (0 : Int) ≤ hi := by omega
  simp only [Sim.slc, optN, isNat, if_pos a2, bds, Int.toNat_natCast, hg]
  rw [if_pos ⟨trivial, by omega⟩]
  rcases he with rfl | rfl
  · rw [if_pos rfl, if_pos h2]
    rfl
  · by_cases h1 : 2 * len = 1
    · omega
    · rw [if_neg h1, if_pos (by omega)]
      rw [show 2 * (2 * len / 2 - 0) = 2 * len by omega]
      rfl
/-- append(append([]T{}, l[:k]...), l[k+1:]...) -/
theorem without_r {n0 : Nat} {s : St} {sz by_ : Nat} {v : Value} {rows : List (List Value)} {k : Nat} (f : Fresh s) (h : Ful n0 s sz v rows) (h1 : 1 ≤ k) (h2 : k + 1 < rows.length) (hb : rows.length * by_ ≤ 140737488355328) (hl : rows.length ≤ 1000) :
    ∃ x y v3 s3 v4 s4, slc s sz v none (some (.int .i64 (k : Int))) none = some x ∧ slc s sz v (some (.int .i64 ((k + 1 : Nat) : Int))) none none = some y ∧ sameV y y = true ∧
      app (s.new (.row sz [] false)) sz by_ (.slice (some ⟨s.n, 0, some 0⟩) 0 0) x = some (v3, s3) ∧ slc s3 sz v (some (.int .i64 ((k + 1 : Nat) : Int))) none none = some y ∧ app s3 sz by_ v3 y = some (v4, s4) ∧ More s s4 ∧ Fresh s4 ∧ Ful s.n s4 sz v4 (rows.take k ++ rows.drop (k + 1)) := by
  rcases h with ⟨rfl, rfl⟩ | ⟨b, e, _, rfl, hg, he⟩
  · simp at h2
  · have bn := f.lt hg
    have g1 : (s.new (.row sz [] false)).get b = some (.row sz rows false) := by rw [get_new_ne (by omega)]; exact hg
    have g0 : (s.new (.row sz [] false)).get s.n = some (.row sz [] false) := get_new_same
    have hbk : k * by_ ≤ rows.length * by_ := Nat.mul_le_mul_right _ (by omega)
    have r1 : rowsOf (s.new (.row sz [] false)) sz k (.slice (some ⟨b, 0, some 0⟩) k e) = some (rows.take k) := by
      rw [rowsOf_row g1 (Nat.le_refl _) (by omega)]; rfl
    have a1 := app_full (s := s.new (.row sz [] false)) (by_ := by_) (n := k) (x := .slice (some ⟨b, 0, some 0⟩) k e) (b := s.n) (i := 0) (len := 0) (e := 0) rfl r1 g0 (by simp) (by omega) (by omega) (by rw [Nat.zero_add]; omega) (by omega)
    simp only [List.drop_zero, List.take_nil, List.nil_append, Nat.zero_add] at a1
    obtain ⟨s3, hs3⟩ : ∃ s3, s3 = (s.new (.row sz [] false)).new (.row sz (rows.take k) false) := ⟨_, rfl⟩
    rw [← hs3] at a1
    have m3 : More s s3 := by rw [hs3]; exact More.new.trans .new
    have f3 := m3.fresh f
    have g3 : s3.get b = some (.row sz rows false) := m3.get f hg
    have q3 : s3.get (s.new (.row sz [] false)).n = some (.row sz (rows.take k) false) := by rw [hs3]; exact get_new_same
    have l3 : (rows.take k).length = k := by rw [List.length_take]; omega
    have ld : (rows.drop (k + 1)).length = rows.length - (k + 1) := by rw [List.length_drop]
    have r3 : rowsOf s3 sz (rows.length - (k + 1)) (.slice (some ⟨b, k + 1, some 0⟩) (rows.length - (k + 1)) (if e = 1 then 1 else 2 * (e / 2 - (k + 1)))) = some (rows.drop (k + 1)) := by
      rw [rowsOf_row g3 (Nat.le_refl _) (by omega), List.take_of_length_le (by omega)]
    have hk1 : (k + (rows.length - (k + 1))) * by_ ≤ rows.length * by_ := Nat.mul_le_mul_right _ (by omega)
    have a2 := app_own (s := s3) (by_ := by_) (b := (s.new (.row sz [] false)).n) (len := k) (n := rows.length - (k + 1)) (x := .slice (some ⟨b, k + 1, some 0⟩) (rows.length - (k + 1)) (if e = 1 then 1 else 2 * (e / 2 - (k + 1)))) rfl r3 q3 (by omega) (by omega) (by omega) (by omega)
    rw [List.take_of_length_le (show (rows.take k).length ≤ k by omega)] at a2
    have sn : s.n ≤ (s.new (.row sz [] false)).n := Nat.le_succ _
    refine ⟨_, _, _, s3, _, _, slc_to hg (by omega) he, slc_from hg (by omega) he, ?_, a1, slc_from g3 (by omega) he, a2, (m3.del sn).trans .new, f3.del.new, .inr ⟨s3.n, 1, m3.n, ?_, ?_, .inl rfl⟩⟩
    · simp [sameV]
    · rw [List.length_append, l3, ld]
    · exact get_new_same (s := s3.del _)
end Go.Proofs.Yteiagjbjokldgaa
