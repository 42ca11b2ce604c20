/-
  Steps that change blocks of some kinds alone; slices of rows: loads, and rows that grow by one.
-/
import Derived.Test.YteiagjbjokldgaaMachD
import Derived.Test.YteiagjbjokldgaaMachC
set_option linter.unusedSimpArgs false
set_option linter.unusedVariables false
set_option maxRecDepth 100000
set_option maxHeartbeats 2000000
namespace Go.Proofs.Yteiagjbjokldgaa
open Go.Sim Go.Sim.Bt
attribute [local congr] bdc cndc itec gdc gdSc gdUc

/-- A block's kind: how many cells its rows have; 1000: a map. -/
def kd : Blk → Nat
  | .row n _ _ => n
  | .map _ _ => 1000
def StpK (ks : List Nat) (s s' : St) : Prop := s.n ≤ s'.n ∧ (∀ x k, s.get x = some k → kd k ∉ ks → s'.get x = some k) ∧ (Fresh s → Fresh s')
theorem StpK.refl (ks : List Nat) (s : St) : StpK ks s s := ⟨Nat.le_refl _, fun _ _ h _ => h, id⟩
theorem StpK.trans {ks : List Nat} {s s1 s2 : St} (h : StpK ks s s1) (k : StpK ks s1 s2) : StpK ks s s2 :=
  ⟨Nat.le_trans h.1 k.1, fun x y hx hy => k.2.1 x y (h.2.1 x y hx hy) hy, fun f => k.2.2 (h.2.2 f)⟩
theorem StpK.mono {ks ls : List Nat} {s s' : St} (h : StpK ks s s') (hs : ∀ n, n ∈ ks → n ∈ ls) : StpK ls s s' :=
  ⟨h.1, fun x k hx hk => h.2.1 x k hx fun g => hk (hs _ g), h.2.2⟩
theorem StpK.put {ks : List Nat} {s : St} {b : Nat} {k y : Blk} (h : s.get b = some k) (hk : kd k ∈ ks) : StpK ks s (s.put b y) := by
  refine ⟨Nat.le_refl _, fun x z hx hz => ?_, fun f => f.put⟩
  by_cases e : x = b
  · subst e; rw [h] at hx; cases hx; exact absurd hk hz
  · rw [get_put_ne e]; exact hx
theorem StpK.del {ks : List Nat} {s : St} {b : Nat} {k : Blk} (h : s.get b = some k) (hk : kd k ∈ ks) : StpK ks s (s.del b) := by
  refine ⟨Nat.le_refl _, fun x z hx hz => ?_, fun f => f.del⟩
  by_cases e : x = b
  · subst e; rw [h] at hx; cases hx; exact absurd hk hz
  · rw [get_del_ne e]; exact hx
theorem StpK.more {ks : List Nat} {s s' : St} (h : More s s') (hf : Fresh s) : StpK ks s s' := ⟨h.n, fun x k hx _ => h.get hf hx, h.fresh⟩
theorem StpK.new {ks : List Nat} {s : St} {x : Blk} (hf : Fresh s) : StpK ks s (s.new x) := .more .new hf
theorem StpK.row {ks : List Nat} {s s' : St} (h : StpK ks s s') {x n : Nat} {rows : List (List Value)} {ro : Bool} (hx : s.get x = some (.row n rows ro)) (hn : n ∉ ks) : s'.get x = some (.row n rows ro) := h.2.1 x _ hx hn
theorem StpK.map {ks : List Nat} {s s' : St} (h : StpK ks s s') {x : Nat} {es : List (Value × Value)} {ro : Bool} (hx : s.get x = some (.map es ro)) (hn : 1000 ∉ ks) : s'.get x = some (.map es ro) := h.2.1 x _ hx hn
theorem IsO.stp {ks : List Nat} {s s' : St} {v : Value} {l : List OpA} (h : IsO s v l) (k : StpK ks s s') (hn : 14 ∉ ks) : IsO s' v l := (h.keep fun b rows ro hx => k.row hx hn).1
theorem IsA.stp {ks : List Nat} {s s' : St} {v : Value} {l : List Ans} (h : IsA s v l) (k : StpK ks s s') (hn : 13 ∉ ks) : IsA s' v l := by
  rcases h with ⟨rfl, rfl⟩ | ⟨b, i, e, rows, ro, rfl, hg, hr⟩
  · exact .inl ⟨rfl, rfl⟩
  · exact .inr ⟨b, i, e, rows, ro, rfl, k.row hg hn, hr⟩
theorem samePj {b i j : Nat} : sameV (.pointer (some ⟨b, i, some j⟩)) (.pointer (some ⟨b, i, some j⟩)) = true := by simp [sameV]
theorem sameB {b : Bool} : sameV (.bool b) (.bool b) = true := by simp [sameV]
theorem sameII {k : IntKind} {a : Int} : sameV (.int k a) (.int k a) = true := by simp [sameV]
theorem sameU : sameV undef undef = true := rfl
/-- A slice whose rows are these. -/
def IsR (s : St) (sz : Nat) (v : Value) (rows : List (List Value)) : Prop :=
  (v = .slice none 0 0 ∧ rows = []) ∨ ∃ b e all ro, v = .slice (some ⟨b, 0, some 0⟩) rows.length e ∧ s.get b = some (.row sz all ro) ∧ all.take rows.length = rows
theorem IsR.nil {s : St} {sz : Nat} : IsR s sz (.slice none 0 0) [] := .inl ⟨rfl, rfl⟩
theorem IsR.len {s : St} {sz : Nat} {v : Value} {rows : List (List Value)} (h : IsR s sz v rows) : lenL v = some (.int .i64 rows.length) := by
  rcases h with ⟨rfl, rfl⟩ | ⟨b, e, all, ro, rfl, _⟩ <;> rfl
theorem IsR.bx {s : St} {sz : Nat} {v : Value} {rows : List (List Value)} (h : IsR s sz v rows) : bx v = some [v] := by
  rcases h with ⟨rfl, rfl⟩ | ⟨b, e, all, ro, rfl, _⟩ <;> rfl
theorem IsR.same {s : St} {sz : Nat} {v : Value} {rows : List (List Value)} (h : IsR s sz v rows) : sameV v v = true := by
  rcases h with ⟨rfl, rfl⟩ | ⟨b, e, all, ro, rfl, _⟩ <;> simp [sameV]
theorem IsR.at {s : St} {sz : Nat} {v : Value} {rows : List (List Value)} (h : IsR s sz v rows) {j : Nat} {r : List Value} (hj : rows[j]? = some r) :
    ∃ b all ro, idx s sz v (.int .i64 (j : Int)) = some (.pointer (some ⟨b, j, some 0⟩)) ∧ s.get b = some (.row sz all ro) ∧ all[j]? = some r := by
  rcases h with ⟨rfl, rfl⟩ | ⟨b, e, all, ro, rfl, hg, hr⟩
  · simp at hj
  · have hlt : j < rows.length := (List.getElem?_eq_some_iff.1 hj).1
    refine ⟨b, all, ro, ?_, hg, ?_⟩
    · have := idx_row (k := .i64) (i := 0) (n := (j : Int)) (len := rows.length) (e := e) hg (by omega) (by omega)
      rwa [Int.toNat_natCast, Nat.zero_add] at this
    · rw [← hr, List.getElem?_take, if_pos hlt] at hj
      exact hj
theorem IsR.keep {s s' : St} {sz : Nat} {v : Value} {rows : List (List Value)} (h : IsR s sz v rows) (hk : ∀ b all ro, s.get b = some (.row sz all ro) → s'.get b = some (.row sz all ro)) : IsR s' sz v rows := by
  rcases h with h | ⟨b, e, all, ro, h1, hg, hr⟩
  · exact .inl h
  · exact .inr ⟨b, e, all, ro, h1, hk _ _ _ hg, hr⟩
theorem IsR.more {s s' : St} {sz : Nat} {v : Value} {rows : List (List Value)} (h : IsR s sz v rows) (m : More s s') (f : Fresh s) : IsR s' sz v rows := h.keep fun _ _ _ g => m.get f g
theorem IsR.stp {ks : List Nat} {s s' : St} {sz : Nat} {v : Value} {rows : List (List Value)} (h : IsR s sz v rows) (m : StpK ks s s') (hn : sz ∉ ks) : IsR s' sz v rows := h.keep fun _ _ _ g => m.row g hn
theorem IsR.frz {s : St} {sz : Nat} {v : Value} {rows : List (List Value)} (h : IsR s sz v rows) : IsR s.frz sz v rows := by
  rcases h with h | ⟨b, e, all, ro, h1, hg, hr⟩
  · exact .inl h
  · exact .inr ⟨b, e, all, true, h1, by rw [St.get_frz, hg]; rfl, hr⟩
/-- The block of a slice. -/
def blkOf : Value → Nat
  | .slice (some a) _ _ => a.block
  | _ => 0
theorem IsR.blk {s : St} {sz : Nat} {v : Value} {rows : List (List Value)} (h : IsR s sz v rows) {j : Nat} {r : List Value} (hj : rows[j]? = some r) {p : Value} (hp : idx s sz v (.int .i64 (j : Int)) = some p) : p = .pointer (some ⟨blkOf v, j, some 0⟩) := by
  rcases h with ⟨rfl, rfl⟩ | ⟨b, e, all, ro, rfl, hg, hr⟩
  · simp at hj
  · have hlt : j < rows.length := (List.getElem?_eq_some_iff.1 hj).1
    have := idx_row (k := .i64) (i := 0) (n := (j : Int)) (len := rows.length) (e := e) hg (by omega) (by omega)
    rw [this, Int.toNat_natCast, Nat.zero_add] at hp
    exact (Option.some.inj hp).symm
/-- Rows that nobody else has, of which the room is unknown or used up. -/
def Ful (n0 : Nat) (s : St) (sz : Nat) (v : Value) (rows : List (List Value)) : Prop :=
  (v = .slice none 0 0 ∧ rows = []) ∨ ∃ b e, n0 ≤ b ∧ v = .slice (some ⟨b, 0, some 0⟩) rows.length e ∧ s.get b = some (.row sz rows false) ∧ (e = 1 ∨ e = 2 * rows.length)
theorem Ful.nil {n0 : Nat} {s : St} {sz : Nat} : Ful n0 s sz (.slice none 0 0) [] := .inl ⟨rfl, rfl⟩
theorem Ful.isR {n0 : Nat} {s : St} {sz : Nat} {v : Value} {rows : List (List Value)} (h : Ful n0 s sz v rows) : IsR s sz v rows := by
  rcases h with h | ⟨b, e, _, h1, hg, _⟩
  · exact .inl h
  · exact .inr ⟨b, e, rows, false, h1, hg, by simp⟩
theorem Ful.more {n0 : Nat} {s s' : St} {sz : Nat} {v : Value} {rows : List (List Value)} (h : Ful n0 s sz v rows) (m : More s s') (f : Fresh s) : Ful n0 s' sz v rows := by
  rcases h with h | ⟨b, e, h0, h1, hg, he⟩
  · exact .inl h
  · exact .inr ⟨b, e, h0, h1, m.get f hg, he⟩
theorem Ful.stp {ks : List Nat} {n0 : Nat} {s s' : St} {sz : Nat} {v : Value} {rows : List (List Value)} (h : Ful n0 s sz v rows) (m : StpK ks s s') (hn : sz ∉ ks) : Ful n0 s' sz v rows := by
  rcases h with h | ⟨b, e, h0, h1, hg, he⟩
  · exact .inl h
  · exact .inr ⟨b, e, h0, h1, m.row hg hn, he⟩
theorem Ful.le {n0 n1 : Nat} {s : St} {sz : Nat} {v : Value} {rows : List (List Value)} (h : Ful n0 s sz v rows) (hn : n1 ≤ n0) : Ful n1 s sz v rows := by
  rcases h with h | ⟨b, e, h0, h1, hg, he⟩
  · exact .inl h
  · exact .inr ⟨b, e, by omega, h1, hg, he⟩
theorem ful_one {s : St} {sz : Nat} {r : List Value} {n0 : Nat} (hn : n0 ≤ s.n) : Ful n0 (s.new (.row sz [r] false)) sz (.slice (some ⟨s.n, 0, some 0⟩) 1 2) [r] :=
  .inr ⟨s.n, 2, hn, rfl, get_new_same, .inr rfl⟩
/-- One row is appended: made, and then appended. -/
theorem push {s0 s : St} {sz by_ : Nat} {v : Value} {rows : List (List Value)} (f : Fresh s) (h : Ful s0.n s sz v rows) (m : More s0 s) (r : List Value) (hb : (rows.length + 1) * by_ ≤ 140737488355328) (hl : rows.length + 1 ≤ 9223372036854775807) :
    ∃ v' s', app (s.new (.row sz [r] false)) sz by_ v (.slice (some ⟨s.n, 0, some 0⟩) 1 2) = some (v', s') ∧ More s0 s' ∧ Ful s0.n s' sz v' (rows ++ [r]) ∧ Fresh s' ∧ StpK [sz] s s' := by
  have f1 : Fresh (s.new (.row sz [r] false)) := f.new
  have m1 : More s0 (s.new (.row sz [r] false)) := m.trans .new
  have h1 := h.more .new f (s' := s.new (.row sz [r] false))
  have hr : rowsOf (s.new (.row sz [r] false)) sz 1 (.slice (some ⟨s.n, 0, some 0⟩) 1 2) = some [r] := rowsOf_one
  have k1 : StpK [sz] s (s.new (.row sz [r] false)) := .new f
  have n0 := m.n
  have nn : (s.new (.row sz [r] false)).n = s.n + 1 := rfl
  generalize s.new (.row sz [r] false) = s1 at *
  rcases h1 with ⟨rfl, rfl⟩ | ⟨b, e, h0, rfl, hg, he⟩
  · refine ⟨_, _, app_nil rfl hr (by omega) (by rw [List.length_nil, Nat.zero_add] at hb; exact hb) (by omega), m1.trans .new, .inr ⟨s1.n, 1, by omega, rfl, get_new_same, .inl rfl⟩, f1.new, k1.trans (.new f1)⟩
  · rcases he with rfl | rfl
    · refine ⟨_, _, app_own rfl hr hg (Nat.le_refl _) (by omega) hb hl, (m1.del h0).trans .new, .inr ⟨s1.n, 1, by omega, by simp, ?_, .inl rfl⟩, f1.del.new, (k1.trans (.del hg (by simp [kd]))).trans (.new f1.del)⟩
      rw [List.take_length]; exact get_new_same (s := s1.del b)
    · refine ⟨_, _, app_full rfl hr hg (by omega) (by omega) (by omega) hb hl, m1.trans .new, .inr ⟨s1.n, 1, by omega, by simp, ?_, .inl rfl⟩, f1.new, k1.trans (.new f1)⟩
      simp only [List.drop_zero, List.take_length]
      exact get_new_same
end Go.Proofs.Yteiagjbjokldgaa
