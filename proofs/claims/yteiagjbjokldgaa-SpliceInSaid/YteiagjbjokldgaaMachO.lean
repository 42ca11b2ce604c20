/-
  Slices of one's own among others of the same kind; rows of items.
-/
import Derived.Test.YteiagjbjokldgaaMachF
import Derived.Test.YteiagjbjokldgaaMachV
set_option linter.unusedSimpArgs false
set_option linter.unusedVariables false
set_option maxRecDepth 100000
set_option maxHeartbeats 2000000
namespace Go.Proofs.Yteiagjbjokldgaa
open Go.Sim Go.Sim.Bt
attribute [local congr] bdc cndc itec gdc gdSc gdUc

/-- The block of a slice. -/
def own (v : Value) (x : Nat) : Prop := ∃ len e, v = .slice (some ⟨x, 0, some 0⟩) len e
/-- A step that changes blocks of some kinds, and that of one's own slice. -/
structure StpI (ks : List Nat) (v v' : Value) (s s' : St) : Prop where
  n : s.n ≤ s'.n
  old : ∀ x k, s.get x = some k → kd k ∉ ks → ¬ own v x → s'.get x = some k
  nw : ∀ x, own v' x → own v x ∨ s.n ≤ x
  fr : Fresh s → Fresh s'
theorem StpI.trans {ks : List Nat} {v v1 v2 : Value} {s s1 s2 : St} (f : Fresh s) (h : StpI ks v v1 s s1) (k : StpI ks v1 v2 s1 s2) : StpI ks v v2 s s2 := by
  refine ⟨Nat.le_trans h.n k.n, fun x y hx hy ho => ?_, fun x hx => ?_, fun f => k.fr (h.fr f)⟩
  · refine k.old x y (h.old x y hx hy ho) hy fun g => ?_
    rcases h.nw x g with g | g
    · exact ho g
    · have := f.lt hx; omega
  · rcases k.nw x hx with g | g
    · exact h.nw x g
    · have := h.n; exact .inr (by omega)
theorem StpI.of {ks : List Nat} {v : Value} {s s' : St} (k : StpK ks s s') : StpI ks v v s s' := ⟨k.1, fun x y hx hy _ => k.2.1 x y hx hy, fun x h => .inl h, k.2.2⟩
theorem StpI.mono {ks ls : List Nat} {v v' : Value} {s s' : St} (h : StpI ks v v' s s') (hs : ∀ n, n ∈ ks → n ∈ ls) : StpI ls v v' s s' :=
  ⟨h.n, fun x k hx hk => h.old x k hx fun g => hk (hs _ g), h.nw, h.fr⟩
theorem StpI.stp {ks : List Nat} {v v' : Value} {s s' : St} {sz : Nat} (h : StpI ks v v' s s') (hv : ∀ x k, own v x → s.get x = some k → kd k = sz) : StpK (sz :: ks) s s' :=
  ⟨h.n, fun x k hx hk => h.old x k hx (fun g => hk (by simp [g])) fun g => hk (by simp [hv x k g hx]), h.fr⟩
theorem own_nil {x : Nat} : ¬ own (.slice none 0 0) x := by rintro ⟨l, e, h⟩; cases h
theorem Ful.kind {n0 : Nat} {s : St} {sz : Nat} {v : Value} {rows : List (List Value)} (h : Ful n0 s sz v rows) : ∀ x k, own v x → s.get x = some k → kd k = sz := by
  rintro x k ⟨l, e, rfl⟩ hx
  rcases h with ⟨h1, _⟩ | ⟨b, e', _, h1, hg, _⟩
  · cases h1
  · cases h1; rw [hg] at hx; cases hx; rfl
theorem Ful.toK {ks : List Nat} {n0 : Nat} {s s' : St} {sz : Nat} {v v' : Value} {rows : List (List Value)} (h : Ful n0 s sz v rows) (k : StpI ks v v' s s') : StpK (sz :: ks) s s' := k.stp h.kind
theorem Ful.sep {ks : List Nat} {n0 : Nat} {s s' : St} {sz : Nat} {v w w' : Value} {rows : List (List Value)} (h : Ful n0 s sz v rows) (k : StpI ks w w' s s') (hn : sz ∉ ks) (hs : ∀ x, own v x → ¬ own w x) : Ful n0 s' sz v rows := by
  rcases h with h | ⟨b, e, h0, h1, hg, he⟩
  · exact .inl h
  · exact .inr ⟨b, e, h0, h1, k.old b _ hg hn (hs b ⟨_, _, h1⟩), he⟩
theorem IsR.sep {ks : List Nat} {s s' : St} {sz : Nat} {v w w' : Value} {rows : List (List Value)} (h : IsR s sz v rows) (k : StpI ks w w' s s') (hn : sz ∉ ks) (hs : ∀ x, own v x → ¬ own w x) : IsR s' sz v rows := by
  rcases h with h | ⟨b, e, all, ro, h1, hg, hr⟩
  · exact .inl h
  · exact .inr ⟨b, e, all, ro, h1, k.old b _ hg hn (hs b ⟨_, _, h1⟩), hr⟩
/-- Two slices that share nothing go on sharing nothing. -/
theorem sep_stp {ks : List Nat} {s s' : St} {v w w' : Value} (f : Fresh s) (hv : ∀ x, own v x → ∃ k, s.get x = some k) (k : StpI ks w w' s s') (hs : ∀ x, own v x → ¬ own w x) : ∀ x, own v x → ¬ own w' x := by
  intro x hx hw
  obtain ⟨y, hy⟩ := hv x hx
  rcases k.nw x hw with g | g
  · exact hs x hx g
  · have := f.lt hy; omega
theorem Ful.has {n0 : Nat} {s : St} {sz : Nat} {v : Value} {rows : List (List Value)} (h : Ful n0 s sz v rows) : ∀ x, own v x → ∃ k, s.get x = some k := by
  rintro x ⟨l, e, rfl⟩
  rcases h with ⟨h1, _⟩ | ⟨b, e', _, h1, hg, _⟩
  · cases h1
  · cases h1; exact ⟨_, hg⟩
theorem StpI.put {ks : List Nat} {v : Value} {s : St} {b : Nat} {k y : Blk} (h : s.get b = some k) (hk : kd k ∈ ks) : StpI ks v v s (s.put b y) := .of (.put h hk)
theorem StpI.more {ks : List Nat} {v : Value} {s s' : St} (h : More s s') (f : Fresh s) : StpI ks v v s s' := .of (.more h f)
/-- One row is appended: made, and then appended. -/
theorem pushI {n0 : Nat} {s : St} {sz by_ : Nat} {v : Value} {rows : List (List Value)} (f : Fresh s) (h : Ful n0 s sz v rows) (hn : n0 ≤ s.n) (r : List Value) (hb : (rows.length + 1) * by_ ≤ 140737488355328) (hl : rows.length + 1 ≤ 9223372036854775807) :
    ∃ v' s', app (s.new (.row sz [r] false)) sz by_ v (.slice (some ⟨s.n, 0, some 0⟩) 1 2) = some (v', s') ∧ Ful n0 s' sz v' (rows ++ [r]) ∧ Fresh s' ∧ StpI [] v v' s s' ∧ (∀ x, own v' x → s.n ≤ x) := by
  have f1 : Fresh (s.new (.row sz [r] false)) := f.new
  have m1 : More s (s.new (.row sz [r] false)) := .new
  have h1 := h.more m1 f
  have hr : rowsOf (s.new (.row sz [r] false)) sz 1 (.slice (some ⟨s.n, 0, some 0⟩) 1 2) = some [r] := rowsOf_one
  have nn : (s.new (.row sz [r] false)).n = s.n + 1 := rfl
  generalize s.new (.row sz [r] false) = s1 at *
  have ow : ∀ {l e x : Nat}, own (.slice (some ⟨s1.n, 0, some 0⟩) l e) x → s.n ≤ x := by
    rintro l e x ⟨l', e', h⟩; cases h; omega
  rcases h1 with ⟨rfl, rfl⟩ | ⟨b, e, h0, rfl, hg, he⟩
  · have m2 : More s (s1.new (.row sz [r] false)) := m1.trans .new
    exact ⟨_, _, app_nil rfl hr (by omega) (by rw [List.length_nil, Nat.zero_add] at hb; exact hb) (by omega), .inr ⟨s1.n, 1, by omega, rfl, get_new_same, .inl rfl⟩, f1.new, ⟨m2.n, fun x k hx _ _ => m2.get f hx, fun x hx => .inr (ow hx), fun _ => f1.new⟩, fun x hx => ow hx⟩
  · rcases he with rfl | rfl
    · refine ⟨_, _, app_own rfl hr hg (Nat.le_refl _) (by omega) hb hl, .inr ⟨s1.n, 1, by omega, by simp, ?_, .inl rfl⟩, f1.del.new, ⟨by rw [new_n, del_n]; omega, fun x k hx _ ho => ?_, fun x hx => .inr (ow hx), fun _ => f1.del.new⟩, fun x hx => ow hx⟩
      · rw [List.take_length]; exact get_new_same (s := s1.del b)
      · have hx1 := m1.get f hx
        have hlt := f1.lt hx1
        rw [get_new_ne (by rw [del_n]; omega), get_del_ne ?_]
        · exact hx1
        · rintro rfl; exact ho ⟨_, _, rfl⟩
    · have m2 : More s (s1.new (.row sz ((rows.drop 0).take rows.length ++ [r]) false)) := m1.trans .new
      refine ⟨_, _, app_full rfl hr hg (by omega) (by omega) (by omega) hb hl, .inr ⟨s1.n, 1, by omega, by simp, ?_, .inl rfl⟩, f1.new, ⟨m2.n, fun x k hx _ _ => m2.get f hx, fun x hx => .inr (ow hx), fun _ => f1.new⟩, fun x hx => ow hx⟩
      simp only [List.drop_zero, List.take_length]
      exact get_new_same

/-! ### Items -/

structure It where
  key : Int
  val : List (List Value)
def ItR (s : St) (rows : List (List Value)) (l : List It) : Prop := rows.length = l.length ∧ ∀ (j : Nat) r it, rows[j]? = some r → l[j]? = some it → ∃ w, r = [.int .u64 it.key, w] ∧ Byt s w it.val
theorem ItR.nil {s : St} : ItR s [] [] := ⟨rfl, fun j r it h => by simp at h⟩
theorem ItR.stp {ks : List Nat} {s s' : St} {rows : List (List Value)} {l : List It} (h : ItR s rows l) (k : StpK ks s s') (hn : 1 ∉ ks) : ItR s' rows l :=
  ⟨h.1, fun j r it hr hi => by obtain ⟨w, h1, h2⟩ := h.2 j r it hr hi; exact ⟨w, h1, h2.stp k hn⟩⟩
theorem ItR.push {s : St} {rows : List (List Value)} {l : List It} (h : ItR s rows l) {it : It} {w : Value} (hw : Byt s w it.val) : ItR s (rows ++ [[.int .u64 it.key, w]]) (l ++ [it]) := by
  refine ⟨by simp [h.1], fun j r it' hr hi => ?_⟩
  by_cases hj : j < rows.length
  · rw [List.getElem?_append_left hj] at hr
    rw [List.getElem?_append_left (by rw [← h.1]; exact hj)] at hi
    exact h.2 j r it' hr hi
  · rw [List.getElem?_append_right (by omega)] at hr
    rw [List.getElem?_append_right (by rw [← h.1]; omega), ← h.1] at hi
    have : j - rows.length = 0 := by
      have := (List.getElem?_eq_some_iff.1 hr).1
      simp at this; omega
    rw [this] at hr hi
    simp only [List.getElem?_cons_zero, Option.some.injEq] at hr hi
    subst hr hi
    exact ⟨w, rfl, hw⟩
theorem ItR.at {s : St} {rows : List (List Value)} {l : List It} (h : ItR s rows l) {j : Nat} {it : It} (hi : l[j]? = some it) : ∃ w, rows[j]? = some [.int .u64 it.key, w] ∧ Byt s w it.val := by
  have hlt : j < l.length := (List.getElem?_eq_some_iff.1 hi).1
  obtain ⟨r, hr⟩ := get_some (l := rows) (j := j) (by rw [h.1]; exact hlt)
  obtain ⟨w, rfl, h2⟩ := h.2 j r it hr hi
  exact ⟨w, hr, h2⟩
theorem ItR.get {s : St} {rows : List (List Value)} {l : List It} (h : ItR s rows l) {j : Nat} {r : List Value} (hr : rows[j]? = some r) : ∃ it w, l[j]? = some it ∧ r = [.int .u64 it.key, w] ∧ Byt s w it.val := by
  have hlt : j < rows.length := (List.getElem?_eq_some_iff.1 hr).1
  obtain ⟨it, hi⟩ := get_some (l := l) (j := j) (by rw [← h.1]; exact hlt)
  obtain ⟨w, h1, h2⟩ := h.2 j r it hr hi
  exact ⟨it, w, hi, h1, h2⟩
end Go.Proofs.Yteiagjbjokldgaa
